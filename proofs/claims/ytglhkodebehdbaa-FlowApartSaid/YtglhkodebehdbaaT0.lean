/-
  Rows: what a problem's argument holds.
-/
import Derived.Test.YtglhkodebehdbaaRows
import Derived.Test.YtglhkodebehdbaaS2
import Derived.Test.YtglhkodebehdbaaLiftS
namespace Go.Proofs.Ytglhkodebehdbaa.row
open Go Go.Lf Go.ChangeShapes Go.WideShapes Go.ChangeAt Go.RowKit

theorem own : ownKnob Try.prog.godebug = none := by kernel_rfl
theorem laidOut : laidOutB Try.prog = true := by kernel_rfl
theorem c25 : Try.prog.cellsOf 25 = 5 := by kernel_rfl
theorem c22 : Try.prog.cellsOf 22 = 1 := by kernel_rfl
theorem c23 : Try.prog.cellsOf 23 = 1 := by kernel_rfl
theorem c3 : Try.prog.cellsOf 3 = 1 := by kernel_rfl

theorem lists22 {h : Heap} {fuel : Nat} {cs : List Value} (hr : rd Try.prog h fuel 22 cs) : ∃ s ls, cs = [.slice s.a s.n s.c] ∧ ListsAt h s ls := by
  obtain ⟨s, rfl⟩ := rd_slice Try.underlying22 hr
  obtain ⟨ls, hl⟩ := rd_lists Try.underlying22 Try.underlying23 Try.underlying3 c23 c3 hr
  exact ⟨s, ls, rfl, hl⟩
theorem ints23 {h : Heap} {fuel : Nat} {cs : List Value} (hr : rd Try.prog h fuel 23 cs) : ∃ s xs, cs = [.slice s.a s.n s.c] ∧ IntsAt h s xs := by
  obtain ⟨s, rfl⟩ := rd_slice Try.underlying23 hr
  obtain ⟨xs, hl⟩ := rd_ints Try.underlying23 Try.underlying3 c3 hr
  exact ⟨s, xs, rfl, hl⟩
theorem prob_rd {h : Heap} {fuel : Nat} {cs : Array Value} (hr : rd Try.prog h fuel 25 (Value.agg cs).cells.toList) : ∃ a0 a1 a2 a3 a4 p, cs = pbC a0 a1 a2 a3 a4 ∧ PbAt h a0 a1 a2 a3 a4 p := by
  have hl := rd_len Try.underlying25 hr
  rw [c25] at hl
  obtain ⟨l⟩ := cs
  simp only [Value.cells] at hr hl
  match l, hl with
  | [u0, u1, u2, u3, u4], _ =>
    obtain ⟨_, r0⟩ := rd_field Try.underlying25 hr 0 rfl c22
    obtain ⟨_, r1⟩ := rd_field Try.underlying25 hr 1 rfl c3
    obtain ⟨_, r2⟩ := rd_field Try.underlying25 hr 2 rfl c22
    obtain ⟨_, r3⟩ := rd_field Try.underlying25 hr 3 rfl c22
    obtain ⟨_, r4⟩ := rd_field Try.underlying25 hr 4 rfl c23
    obtain ⟨s0, l0, e0, x0⟩ := lists22 r0
    obtain ⟨w, e1, _⟩ := rd_int Try.underlying3 r1
    obtain ⟨s2, l2, e2, x2⟩ := lists22 r2
    obtain ⟨s3, l3, e3, x3⟩ := lists22 r3
    obtain ⟨s4, l4, e4, x4⟩ := ints23 r4
    simp at e0 e1 e2 e3 e4
    subst e0 e1 e2 e3 e4
    exact ⟨s0, w, s2, s3, s4, ⟨l0, w, l2, l3, l4⟩, rfl, ⟨x0, rfl, x2, x3, x4⟩⟩
end Go.Proofs.Ytglhkodebehdbaa.row

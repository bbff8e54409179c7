/-
  Rows: what the arguments hold.
-/
import Derived.Test.YtgbmihnainbgiaaRows
import Derived.Test.YtgbmihnainbgiaaS9
namespace Go.Proofs.Ytgbmihnainbgiaa.row
open Go Go.Lf Go.ChangeShapes Go.WideShapes Go.ChangeAt Go.RowKit

theorem own : ownKnob Try.prog.godebug = none := by kernel_rfl
theorem laidOut : laidOutB Try.prog = true := by kernel_rfl
theorem c26 : Try.prog.cellsOf 26 = 3 := by kernel_rfl
theorem c37 : Try.prog.cellsOf 37 = 2 := by kernel_rfl
theorem c3 : Try.prog.cellsOf 3 = 1 := by kernel_rfl
theorem c4 : Try.prog.cellsOf 4 = 1 := by kernel_rfl

theorem ops22 {h : Heap} {fuel : Nat} {cs : List Value} (hr : rd Try.prog h fuel 22 cs) : ∃ s xs, cs = [.slice s.a s.n s.c] ∧ OpsAt h s xs := by
  obtain ⟨s, rfl⟩ := rd_slice Try.underlying22 hr
  obtain ⟨-, hall⟩ := rd_elems Try.underlying22 hr
  have key : ∀ i, i < s.n → ∃ o : Opn, ∃ p, s.a = some p ∧ cl h (p.add (i * 3)) = some (.bool o.1) ∧ cl h ((p.add (i * 3)).add 1) = some (.int .i64 o.2.1) ∧ cl h ((p.add (i * 3)).add 2) = some (.int .i64 o.2.2) := by
    intro i hi
    obtain ⟨a, ea, cs', hlen, hcl, fuel', hr'⟩ := hall i hi
    rw [c26] at hlen hcl
    obtain ⟨_, r0⟩ := rd_field Try.underlying26 hr' 0 rfl c4
    obtain ⟨_, r1⟩ := rd_field Try.underlying26 hr' 1 rfl c3
    obtain ⟨_, r2⟩ := rd_field Try.underlying26 hr' 2 rfl c3
    obtain ⟨x0, e0⟩ := rd_bool Try.underlying4 r0
    obtain ⟨x1, e1, _⟩ := rd_int Try.underlying3 r1
    obtain ⟨x2, e2, _⟩ := rd_int Try.underlying3 r2
    match cs', hlen with
    | [u0, u1, u2], _ =>
      simp at e0 e1 e2
      subst e0 e1 e2
      have h0 := hcl 0 (by omega)
      rw [add_zero] at h0
      exact ⟨(x0, x1, x2), a, ea, h0, hcl 1 (by omega), hcl 2 (by omega)⟩
  obtain ⟨f, hf⟩ := Go.Deep.choose_lt (α := Opn) key
  refine ⟨s, (List.range s.n).map f, rfl, by simp, rd_cap Try.underlying22 hr, fun i hi => ?_⟩
  have hi' : i < s.n := by simpa using hi
  obtain ⟨p, e1, e2, e3, e4⟩ := hf i hi'
  exact ⟨p, e1, by simpa [hi'] using e2, by simpa [hi'] using e3, by simpa [hi'] using e4⟩
theorem prs28 {h : Heap} {fuel : Nat} {cs : List Value} (hr : rd Try.prog h fuel 28 cs) : ∃ s xs, cs = [.slice s.a s.n s.c] ∧ PrsAt h s xs := by
  obtain ⟨s, rfl⟩ := rd_slice Try.underlying28 hr
  obtain ⟨-, hall⟩ := rd_elems Try.underlying28 hr
  have key : ∀ i, i < s.n → ∃ o : Int × Int, ∃ p, s.a = some p ∧ cl h (p.add (i * 2)) = some (.int .i64 o.1) ∧ cl h ((p.add (i * 2)).add 1) = some (.int .i64 o.2) := by
    intro i hi
    obtain ⟨a, ea, cs', hlen, hcl, fuel', hr'⟩ := hall i hi
    rw [c37] at hlen hcl
    obtain ⟨_, r0⟩ := rd_at Try.underlying37 hr' 0 (by omega) c3
    obtain ⟨_, r1⟩ := rd_at Try.underlying37 hr' 1 (by omega) c3
    obtain ⟨x0, e0, _⟩ := rd_int Try.underlying3 r0
    obtain ⟨x1, e1, _⟩ := rd_int Try.underlying3 r1
    match cs', hlen with
    | [u0, u1], _ =>
      simp at e0 e1
      subst e0 e1
      have h0 := hcl 0 (by omega)
      rw [add_zero] at h0
      exact ⟨(x0, x1), a, ea, h0, hcl 1 (by omega)⟩
  obtain ⟨f, hf⟩ := Go.Deep.choose_lt (α := Int × Int) key
  refine ⟨s, (List.range s.n).map f, rfl, by simp, fun i hi => ?_⟩
  have hi' : i < s.n := by simpa using hi
  obtain ⟨p, e1, e2, e3⟩ := hf i hi'
  exact ⟨p, e1, by simpa [hi'] using e2, by simpa [hi'] using e3⟩
end Go.Proofs.Ytgbmihnainbgiaa.row

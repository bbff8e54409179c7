/-
  Rows: what arguments hold.
-/
import Derived.Test.YtohlfkomjmjheaaRows
import Derived.Test.YtohlfkomjmjheaaTyH
import Derived.Test.YtohlfkomjmjheaaLiftV
namespace Go.Proofs.Ytohlfkomjmjheaa.row
open Go Go.Lf Go.ChangeShapes Go.WideShapes Go.ChangeAt Go.RowKit

theorem own : ownKnob Try.prog.godebug = none := by kernel_rfl
theorem laidOut : laidOutB Try.prog = true := by kernel_rfl
theorem cT : Try.prog.cellsOf 25 = 6 := by kernel_rfl
theorem cIs : Try.prog.cellsOf 22 = 1 := by kernel_rfl
theorem cTs : Try.prog.cellsOf 23 = 1 := by kernel_rfl
theorem cI : Try.prog.cellsOf 3 = 1 := by kernel_rfl
theorem cB : Try.prog.cellsOf 4 = 1 := by kernel_rfl
theorem cS : Try.prog.cellsOf 9 = 1 := by kernel_rfl
theorem cP : Try.prog.cellsOf 46 = 2 := by kernel_rfl
theorem ty25l {h : Heap} {fuel : Nat} {cs : List Value} (hr : rd Try.prog h fuel 25 cs) : ∃ (v : Tv) (y : Ty), cs = (tvs v).toList ∧ TyAt (fun b => b < h.size) h y v :=
  ty_rd Try.underlying25 cT ⟨_, rfl, rfl, rfl⟩ ⟨_, rfl, rfl, rfl⟩ ⟨_, rfl, rfl, rfl⟩ ⟨_, rfl, rfl, rfl⟩ ⟨_, rfl, rfl, rfl⟩ ⟨_, rfl, rfl, rfl⟩ Try.underlying3 Try.underlying9 Try.underlying4 Try.underlying22 Try.underlying23 cI cS cB cIs cTs fuel cs hr
theorem tyR {h : Heap} {fuel : Nat} {cs : Array Value} (hr : rd Try.prog h fuel 25 (Value.agg cs).cells.toList) : ∃ (v : Tv) (y : Ty), cs = tvs v ∧ TyAt (fun b => b < h.size) h y v := by
  obtain ⟨v, y, e, hy⟩ := ty25l hr
  exact ⟨v, y, by apply Array.ext'; simpa [Value.cells] using e, hy⟩
theorem inI_wf {x : Int} (hw : (Lit.int .i64 x).wf = true) : inI x := by
  simp only [Lit.wf, Bool.and_eq_true, decide_eq_true_eq] at hw
  have h1 : IntKind.i64.min = -9223372036854775808 := rfl
  have h2 : IntKind.i64.max = 9223372036854775807 := rfl
  unfold inI
  omega
theorem i64_rd {h : Heap} {fuel : Nat} {x : Int} (hr : rd Try.prog h fuel 3 (Value.int .i64 x).cells.toList) : inI x := by
  obtain ⟨y, e, hw⟩ := rd_int Try.underlying3 hr
  replace e : [Value.int .i64 x] = [.int .i64 y] := e
  simp at e
  subst e
  exact inI_wf hw
theorem pairsR {h : Heap} {fuel : Nat} {cs : List Value} (hr : rd Try.prog h fuel 26 cs) : ∃ (s : Sv) (l : List (Int × Int)), cs = [.slice s.a s.n s.c] ∧ PrQ (fun b => b < h.size) h s l ∧ ∀ p ∈ l, inI p.1 ∧ inI p.2 := by
  obtain ⟨s, rfl⟩ := rd_slice Try.underlying26 hr
  obtain ⟨-, hall⟩ := rd_elems Try.underlying26 hr
  have key : ∀ i, i < s.n → ∃ o : Int × Int, ∃ p, s.a = some p ∧ p.block < h.size ∧ cl h (p.add (i * 2)) = some (.int .i64 o.1) ∧ cl h ((p.add (i * 2)).add 1) = some (.int .i64 o.2) ∧ inI o.1 ∧ inI o.2 := by
    intro i hi
    obtain ⟨a, ea, cs', hlen, hcl, fuel', hr'⟩ := hall i hi
    rw [cP] at hlen hcl
    cases fuel' with
    | zero => exact hr'.elim
    | succ f =>
      unfold rd at hr'
      rw [Try.underlying46] at hr'
      obtain ⟨-, h2⟩ := hr'
      have r0 := h2 0 (by omega)
      have r1 := h2 1 (by omega)
      rw [cI] at r0 r1
      obtain ⟨x0, e0, w0⟩ := rd_int Try.underlying3 r0
      obtain ⟨x1, e1, w1⟩ := rd_int Try.underlying3 r1
      match cs', hlen with
      | [u0, u1], _ =>
        simp at e0 e1
        subst e0 e1
        have h0 := hcl 0 (by omega)
        have h1 := hcl 1 (by omega)
        rw [add_zero] at h0
        exact ⟨(x0, x1), a, ea, by rw [← add_block a (i * 2)]; exact cl_lt h0, h0, h1, inI_wf w0, inI_wf w1⟩
  obtain ⟨f, hf⟩ := Go.Deep.choose_lt (α := Int × Int) key
  refine ⟨s, (List.range s.n).map f, rfl, ⟨by simp, fun i hi => ?_⟩, fun p hp => ?_⟩
  · have hi' : i < s.n := by simpa using hi
    obtain ⟨p, e1, e2, e3, e4, -⟩ := hf i hi'
    exact ⟨p, e1, e2, by simpa [hi'] using e3, by simpa [hi'] using e4⟩
  · obtain ⟨i, hi, rfl⟩ := List.mem_map.1 hp
    obtain ⟨p, -, -, -, -, e5⟩ := hf i (by simpa using hi)
    exact e5
theorem intsR {h : Heap} {fuel : Nat} {cs : List Value} (hr : rd Try.prog h fuel 22 cs) : ∃ (s : Sv) (l : List Int), cs = [.slice s.a s.n s.c] ∧ IntsAt h s l := by
  obtain ⟨s, rfl⟩ := rd_slice Try.underlying22 hr
  obtain ⟨xs, hx⟩ := rd_ints Try.underlying22 Try.underlying3 cI hr
  exact ⟨s, xs, rfl, hx⟩
end Go.Proofs.Ytohlfkomjmjheaa.row

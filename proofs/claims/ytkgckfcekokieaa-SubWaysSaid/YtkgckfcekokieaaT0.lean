/-
  Rows: what a type as an argument holds.
-/
import Derived.Test.YtkgckfcekokieaaRows
import Derived.Test.YtkgckfcekokieaaG
import Derived.Test.YtkgckfcekokieaaLiftV
namespace Go.Proofs.Ytkgckfcekokieaa.row
open Go Go.Lf Go.ChangeShapes Go.WideShapes Go.ChangeAt Go.RowKit

theorem own : ownKnob Try.prog.godebug = none := by kernel_rfl
theorem laidOut : laidOutB Try.prog = true := by kernel_rfl
theorem c25 : Try.prog.cellsOf 25 = 6 := by kernel_rfl
theorem c22 : Try.prog.cellsOf 22 = 1 := by kernel_rfl
theorem c23 : Try.prog.cellsOf 23 = 1 := by kernel_rfl
theorem c3 : Try.prog.cellsOf 3 = 1 := by kernel_rfl
theorem c4 : Try.prog.cellsOf 4 = 1 := by kernel_rfl
theorem c9 : Try.prog.cellsOf 9 = 1 := by kernel_rfl
theorem u64_rd {h : Heap} {fuel : Nat} {x : Int} (hr : rd Try.prog h fuel 26 (Value.int .u64 x).cells.toList) : 0 ≤ x ∧ x ≤ 18446744073709551615 := by
  obtain ⟨y, e, hw⟩ := rd_int Try.underlying26 hr
  replace e : [Value.int .u64 x] = [.int .u64 y] := e
  simp at e
  subst e
  simp only [Lit.wf, Bool.and_eq_true, decide_eq_true_eq] at hw
  have h1 : IntKind.u64.min = 0 := rfl
  have h2 : IntKind.u64.max = 18446744073709551615 := rfl
  omega
theorem ty25l {h : Heap} {fuel : Nat} {cs : List Value} (hr : rd Try.prog h fuel 25 cs) : ∃ (v : Tv) (y : Ty), cs = (tvs v).toList ∧ TyAt (fun b => b < h.size) h y v :=
  ty_rd Try.underlying25 c25 ⟨_, rfl, rfl, rfl⟩ ⟨_, rfl, rfl, rfl⟩ ⟨_, rfl, rfl, rfl⟩ ⟨_, rfl, rfl, rfl⟩ ⟨_, rfl, rfl, rfl⟩ ⟨_, rfl, rfl, rfl⟩ Try.underlying3 Try.underlying9 Try.underlying4 Try.underlying22 Try.underlying23 c3 c9 c4 c22 c23 fuel cs hr
theorem ty25 {h : Heap} {fuel : Nat} {cs : Array Value} (hr : rd Try.prog h fuel 25 (Value.agg cs).cells.toList) : ∃ (v : Tv) (y : Ty), cs = tvs v ∧ TyAt (fun b => b < h.size) h y v := by
  obtain ⟨v, y, e, hy⟩ := ty25l hr
  exact ⟨v, y, by apply Array.ext'; simpa [Value.cells] using e, hy⟩
end Go.Proofs.Ytkgckfcekokieaa.row

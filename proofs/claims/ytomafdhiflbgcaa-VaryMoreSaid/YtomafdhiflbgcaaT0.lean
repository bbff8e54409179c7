/-
  Rows: what arguments hold.
-/
import Derived.Test.YtomafdhiflbgcaaRows
import Derived.Test.YtomafdhiflbgcaaV9
import Derived.Test.YtomafdhiflbgcaaLiftS
namespace Go.Proofs.Ytomafdhiflbgcaa.row
open Go Go.Lf Go.ChangeShapes Go.WideShapes Go.ChangeAt Go.RowKit

theorem own : ownKnob Try.prog.godebug = none := by kernel_rfl
theorem laidOut : laidOutB Try.prog = true := by kernel_rfl
theorem cI : Try.prog.cellsOf 3 = 1 := by kernel_rfl
theorem intsR {h : Heap} {fuel : Nat} {cs : List Value} (hr : rd Try.prog h fuel 26 cs) : ∃ (s : Sv) (l : List Int), cs = [.slice s.a s.n s.c] ∧ IntsAt h s l := by
  obtain ⟨s, rfl⟩ := rd_slice Try.underlying26 hr
  obtain ⟨xs, hx⟩ := rd_ints Try.underlying26 Try.underlying3 cI hr
  exact ⟨s, xs, rfl, hx⟩
end Go.Proofs.Ytomafdhiflbgcaa.row

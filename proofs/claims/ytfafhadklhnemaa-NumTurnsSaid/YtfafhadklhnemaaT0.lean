/-
  Rows: what the arguments hold.
-/
import Derived.Test.YtfafhadklhnemaaRows
import Derived.Test.YtfafhadklhnemaaS3
namespace Go.Proofs.Ytfafhadklhnemaa.row
open Go Go.Lf Go.ChangeShapes Go.WideShapes Go.ChangeAt Go.RowKit

theorem own : ownKnob Try.prog.godebug = none := by kernel_rfl
theorem laidOut : laidOutB Try.prog = true := by kernel_rfl
theorem i64_rd {h : Heap} {fuel : Nat} {x : Int} (hr : rd Try.prog h fuel 2 (Value.int .i64 x).cells.toList) : inI x := by
  obtain ⟨y, e, hw⟩ := rd_int Try.underlying2 hr
  replace e : [Value.int .i64 x] = [.int .i64 y] := e
  simp at e
  subst e
  simp only [Lit.wf, Bool.and_eq_true, decide_eq_true_eq] at hw
  have h1 : IntKind.i64.min = -9223372036854775808 := rfl
  have h2 : IntKind.i64.max = 9223372036854775807 := rfl
  unfold inI
  omega
theorem u64_rd {h : Heap} {fuel : Nat} {x : Int} (hr : rd Try.prog h fuel 22 (Value.int .u64 x).cells.toList) : 0 ≤ x ∧ x ≤ 18446744073709551615 := by
  obtain ⟨y, e, hw⟩ := rd_int Try.underlying22 hr
  replace e : [Value.int .u64 x] = [.int .u64 y] := e
  simp at e
  subst e
  simp only [Lit.wf, Bool.and_eq_true, decide_eq_true_eq] at hw
  have h1 : IntKind.u64.min = 0 := rfl
  have h2 : IntKind.u64.max = 18446744073709551615 := rfl
  omega
end Go.Proofs.Ytfafhadklhnemaa.row

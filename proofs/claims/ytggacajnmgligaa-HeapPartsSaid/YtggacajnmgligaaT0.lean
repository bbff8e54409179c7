/-
  Rows: what arguments hold.
-/
import Derived.Test.YtggacajnmgligaaRows
import Derived.Test.YtggacajnmgligaaLiftV
import Derived.Test.YtggacajnmgligaaLiftX
namespace Go.Proofs.Ytggacajnmgligaa.row
open Go Go.Lf Go.ChangeShapes Go.WideShapes Go.ChangeAt Go.RowKit

theorem own : ownKnob Try.prog.godebug = none := by kernel_rfl
theorem laidOut : laidOutB Try.prog = true := by kernel_rfl
end Go.Proofs.Ytggacajnmgligaa.row

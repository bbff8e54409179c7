/-
  No cell of these rows narrows 'for every input' (looked for: loops, veiled, ifaces, maps, wideKeys, modest, calm, conditions, laid).
  DERIVED. THE GIVEN ROWS OF THIS SEAT. 5 by the template 'for every input the law returns true; each argument reads behind the call as it read before'; 0 by the template 'total and deterministic' (their statements: YtkpahlkendlahaaTotals.lean).
  GIVEN WITH THE SEED: the statements are not yours to turn. If you find one false, say at which input.
  Laid BY PROGRAM, IN A SANDBOX (cutbox-rows.mjs): the forced cells as the released guide's own fill.sh prints them over the translation 06daf7cbadb21d03… (all of the seat's roots in one cut). By AI agents, Wed Nov 11 2026. No macro, syntax, notation, axiom, sorry.
-/
import Derived.Test.YtkpahlkendlahaaChecked
import GoSem.Claim
import GoSem.ClaimJoined
import GoSem.ClaimMapViews
import Derived.JoinedTies
import Derived.KernelRfl
namespace Go.Proofs.Ytkpahlkendlahaa
/- THE CELL 'sum', in the pinned program and in every row, IS THE sha256 OF THE DUMP (.gsa) THAT YtkpahlkendlahaaProg.lean LOADS. Nothing in Lean hashes anything: it is a label: what it is worth is what the hold of that sum in a sandbox is worth. -/
noncomputable def Try.pinned : Pinned := { name := "ytkpahlkendlahaa", sum := "06daf7cbadb21d03bef55eefda119bf6542035ca6ce5dc0db4339147455aa8b7", checked := Try.checked }
namespace Rows
def none {H : Type} : Left H := { results := [], args := [] }

/-- 'chattellaw21.LoansChecks': WHATEVER THE INPUT: true; the input reads as it did. -/
def loansChecksSpec : ChangeSpec := { name := "loansChecks", fn := fun _ => fun
  | [d1, d2] => { results := [.lit (.bool true)], args := [d1, d2] }
  | _ => none }
def loansChecksRow : OpenClaim := { program := "ytkpahlkendlahaa", sum := "06daf7cbadb21d03bef55eefda119bf6542035ca6ce5dc0db4339147455aa8b7", func := "chattel/chattellaw21.LoansChecks", spec := "loansChecks", unfollowed := true, recurses := true, apart := false }
def LoansChecksSaid : Prop := loansChecksRow.holds Try.pinned (OpenSpec.ofChange loansChecksSpec)

/-- ITS FALSE NEIGHBOUR: 'it returns false'. Refute it at one input. -/
def loansChecksWrong : ChangeSpec := { name := "loansChecks", fn := fun _ => fun
  | [d1, d2] => { results := [.lit (.bool false)], args := [d1, d2] }
  | _ => none }
def LoansChecksWrongFalsely : Prop := loansChecksRow.holds Try.pinned (OpenSpec.ofChange loansChecksWrong)

/-- 'chattellaw21.LoansScopes': WHATEVER THE INPUT: true; the input reads as it did. -/
def loansScopesSpec : ChangeSpec := { name := "loansScopes", fn := fun _ => fun
  | [d1, d2] => { results := [.lit (.bool true)], args := [d1, d2] }
  | _ => none }
def loansScopesRow : OpenClaim := { program := "ytkpahlkendlahaa", sum := "06daf7cbadb21d03bef55eefda119bf6542035ca6ce5dc0db4339147455aa8b7", func := "chattel/chattellaw21.LoansScopes", spec := "loansScopes", unfollowed := true, recurses := true, apart := false }
def LoansScopesSaid : Prop := loansScopesRow.holds Try.pinned (OpenSpec.ofChange loansScopesSpec)

/-- ITS FALSE NEIGHBOUR: 'it returns false'. Refute it at one input. -/
def loansScopesWrong : ChangeSpec := { name := "loansScopes", fn := fun _ => fun
  | [d1, d2] => { results := [.lit (.bool false)], args := [d1, d2] }
  | _ => none }
def LoansScopesWrongFalsely : Prop := loansScopesRow.holds Try.pinned (OpenSpec.ofChange loansScopesWrong)

/-- 'chattellaw21.LoansMore': WHATEVER THE INPUT: true; the input reads as it did. -/
def loansMoreSpec : ChangeSpec := { name := "loansMore", fn := fun _ => fun
  | [d] => { results := [.lit (.bool true)], args := [d] }
  | _ => none }
def loansMoreRow : OpenClaim := { program := "ytkpahlkendlahaa", sum := "06daf7cbadb21d03bef55eefda119bf6542035ca6ce5dc0db4339147455aa8b7", func := "chattel/chattellaw21.LoansMore", spec := "loansMore", unfollowed := true, recurses := true, apart := false }
def LoansMoreSaid : Prop := loansMoreRow.holds Try.pinned (OpenSpec.ofChange loansMoreSpec)

/-- ITS FALSE NEIGHBOUR: 'it returns false'. Refute it at one input. -/
def loansMoreWrong : ChangeSpec := { name := "loansMore", fn := fun _ => fun
  | [d] => { results := [.lit (.bool false)], args := [d] }
  | _ => none }
def LoansMoreWrongFalsely : Prop := loansMoreRow.holds Try.pinned (OpenSpec.ofChange loansMoreWrong)

/-- 'chattellaw21.LoansShared': WHATEVER THE INPUT: true; the input reads as it did. -/
def loansSharedSpec : ChangeSpec := { name := "loansShared", fn := fun _ => fun
  | [d1, d2] => { results := [.lit (.bool true)], args := [d1, d2] }
  | _ => none }
def loansSharedRow : OpenClaim := { program := "ytkpahlkendlahaa", sum := "06daf7cbadb21d03bef55eefda119bf6542035ca6ce5dc0db4339147455aa8b7", func := "chattel/chattellaw21.LoansShared", spec := "loansShared", unfollowed := true, recurses := true, apart := false }
def LoansSharedSaid : Prop := loansSharedRow.holds Try.pinned (OpenSpec.ofChange loansSharedSpec)

/-- ITS FALSE NEIGHBOUR: 'it returns false'. Refute it at one input. -/
def loansSharedWrong : ChangeSpec := { name := "loansShared", fn := fun _ => fun
  | [d1, d2] => { results := [.lit (.bool false)], args := [d1, d2] }
  | _ => none }
def LoansSharedWrongFalsely : Prop := loansSharedRow.holds Try.pinned (OpenSpec.ofChange loansSharedWrong)

/-- 'chattellaw21.LoansBad': WHATEVER THE INPUT: true; the input reads as it did. -/
def loansBadSpec : ChangeSpec := { name := "loansBad", fn := fun _ => fun
  | [d1, d2] => { results := [.lit (.bool true)], args := [d1, d2] }
  | _ => none }
def loansBadRow : OpenClaim := { program := "ytkpahlkendlahaa", sum := "06daf7cbadb21d03bef55eefda119bf6542035ca6ce5dc0db4339147455aa8b7", func := "chattel/chattellaw21.LoansBad", spec := "loansBad", unfollowed := true, recurses := true, apart := false }
def LoansBadSaid : Prop := loansBadRow.holds Try.pinned (OpenSpec.ofChange loansBadSpec)

/-- ITS FALSE NEIGHBOUR: 'it returns false'. Refute it at one input. -/
def loansBadWrong : ChangeSpec := { name := "loansBad", fn := fun _ => fun
  | [d1, d2] => { results := [.lit (.bool false)], args := [d1, d2] }
  | _ => none }
def LoansBadWrongFalsely : Prop := loansBadRow.holds Try.pinned (OpenSpec.ofChange loansBadWrong)

/- THE SECOND FORM. 'bulk': how many values and letters a reading holds, each counted each time it is reached (what is shared counts as often as it is met; a slice's spare places count too). A statement '..UptoSaid' is the law's where the arguments, and the package variables that the reading takes, are together of bulk at most 1048576: NARROWER than '..Said'. Prove '..Said' where nothing that the law and all that it calls make is longer than what came in: it says more and counts as full. Else prove '..UptoSaid'. A law counts once. -/
mutual
def uptoBulk {H : Type} : DataW H → Nat
  | .lit (.string bytes) => bytes.length + 1
  | .lit _ => 1
  | .nil => 1
  | .ptr d => uptoBulk d + 1
  | .slice elems spare => uptoBulkAll elems + uptoBulkAll spare + 1
  | .agg parts => uptoBulkAll parts + 1
  | .iface _ d => uptoBulk d + 1
  | .map entries => uptoBulkEntries entries + 1
  | .held _ => 1
def uptoBulkAll {H : Type} : List (DataW H) → Nat
  | [] => 0
  | d :: r => uptoBulk d + uptoBulkAll r
def uptoBulkEntries {H : Type} : List (Lit × DataW H) → Nat
  | [] => 0
  | x :: r => uptoBulkEntry x + uptoBulkEntries r
def uptoBulkEntry {H : Type} : Lit × DataW H → Nat
  | (.string bytes, d) => bytes.length + uptoBulk d + 1
  | (_, d) => uptoBulk d + 1
 end
def uptoSmall : (H : Type) → List (DataW H) → Bool := fun _ ds => decide (uptoBulkAll ds ≤ 1048576)
def OpenSpec.upto (s : _root_.Go.ChangeSpec) : _root_.Go.OpenSpec := { _root_.Go.OpenSpec.ofChange s with cond := some uptoSmall }

/-- 'chattellaw21.LoansChecks', WHERE WHAT IT READS IS OF BULK AT MOST 1048576: true; the input reads as it did. -/
def loansChecksUptoRow : OpenClaim := { program := "ytkpahlkendlahaa", sum := "06daf7cbadb21d03bef55eefda119bf6542035ca6ce5dc0db4339147455aa8b7", func := "chattel/chattellaw21.LoansChecks", spec := "loansChecks", unfollowed := true, recurses := true, apart := false, narrowed := true }
def LoansChecksUptoSaid : Prop := loansChecksUptoRow.holds Try.pinned (OpenSpec.upto loansChecksSpec)

/-- 'chattellaw21.LoansScopes', WHERE WHAT IT READS IS OF BULK AT MOST 1048576: true; the input reads as it did. -/
def loansScopesUptoRow : OpenClaim := { program := "ytkpahlkendlahaa", sum := "06daf7cbadb21d03bef55eefda119bf6542035ca6ce5dc0db4339147455aa8b7", func := "chattel/chattellaw21.LoansScopes", spec := "loansScopes", unfollowed := true, recurses := true, apart := false, narrowed := true }
def LoansScopesUptoSaid : Prop := loansScopesUptoRow.holds Try.pinned (OpenSpec.upto loansScopesSpec)

/-- 'chattellaw21.LoansMore', WHERE WHAT IT READS IS OF BULK AT MOST 1048576: true; the input reads as it did. -/
def loansMoreUptoRow : OpenClaim := { program := "ytkpahlkendlahaa", sum := "06daf7cbadb21d03bef55eefda119bf6542035ca6ce5dc0db4339147455aa8b7", func := "chattel/chattellaw21.LoansMore", spec := "loansMore", unfollowed := true, recurses := true, apart := false, narrowed := true }
def LoansMoreUptoSaid : Prop := loansMoreUptoRow.holds Try.pinned (OpenSpec.upto loansMoreSpec)

/-- 'chattellaw21.LoansShared', WHERE WHAT IT READS IS OF BULK AT MOST 1048576: true; the input reads as it did. -/
def loansSharedUptoRow : OpenClaim := { program := "ytkpahlkendlahaa", sum := "06daf7cbadb21d03bef55eefda119bf6542035ca6ce5dc0db4339147455aa8b7", func := "chattel/chattellaw21.LoansShared", spec := "loansShared", unfollowed := true, recurses := true, apart := false, narrowed := true }
def LoansSharedUptoSaid : Prop := loansSharedUptoRow.holds Try.pinned (OpenSpec.upto loansSharedSpec)

/-- 'chattellaw21.LoansBad', WHERE WHAT IT READS IS OF BULK AT MOST 1048576: true; the input reads as it did. -/
def loansBadUptoRow : OpenClaim := { program := "ytkpahlkendlahaa", sum := "06daf7cbadb21d03bef55eefda119bf6542035ca6ce5dc0db4339147455aa8b7", func := "chattel/chattellaw21.LoansBad", spec := "loansBad", unfollowed := true, recurses := true, apart := false, narrowed := true }
def LoansBadUptoSaid : Prop := loansBadUptoRow.holds Try.pinned (OpenSpec.upto loansBadSpec)

end Rows
end Go.Proofs.Ytkpahlkendlahaa

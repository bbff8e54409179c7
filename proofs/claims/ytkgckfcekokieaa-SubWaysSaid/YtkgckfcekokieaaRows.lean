/-
  NARROWER THAN 'FOR EVERY INPUT', by the rows' own cells (each row's printed sentence says how): SubSelf: loops · SubThrough: loops · SubWays: loops · SubBoth: loops.
  DERIVED. THE GIVEN ROWS OF THIS SEAT. 4 by the template 'for every input the law returns true; each argument reads behind the call as it read before'; 0 by the template 'total and deterministic' (their statements: YtkgckfcekokieaaTotals.lean).
  GIVEN WITH THE SEED: the statements are not yours to turn. If you find one false, say at which input.
  Laid BY PROGRAM, IN A SANDBOX (cutbox-rows.mjs): the forced cells as the released guide's own fill.sh prints them over the translation 8438f3ac18695cc3… (all of the seat's roots in one cut). By AI agents, Wed Nov 11 2026. No macro, syntax, notation, axiom, sorry.
-/
import Derived.Test.YtkgckfcekokieaaChecked
import GoSem.Claim
import GoSem.ClaimJoined
import GoSem.ClaimMapViews
import Derived.JoinedTies
import Derived.KernelRfl
namespace Go.Proofs.Ytkgckfcekokieaa
/- THE CELL 'sum', in the pinned program and in every row, IS THE sha256 OF THE DUMP (.gsa) THAT YtkgckfcekokieaaProg.lean LOADS. Nothing in Lean hashes anything: it is a label: what it is worth is what the hold of that sum in a sandbox is worth. -/
noncomputable def Try.pinned : Pinned := { name := "ytkgckfcekokieaa", sum := "8438f3ac18695cc3e89800205a60b7b36fa71cbd2f438feb4076a80b163b1b24", checked := Try.checked }
namespace Rows
def none {H : Type} : Left H := { results := [], args := [] }

/-- 'chattellaw10.SubSelf': WHATEVER THE INPUT: true; the input reads as it did. -/
def subSelfSpec : ChangeSpec := { name := "subSelf", fn := fun _ => fun
  | [d1, d2] => { results := [.lit (.bool true)], args := [d1, d2] }
  | _ => none }
def subSelfRow : OpenClaim := { program := "ytkgckfcekokieaa", sum := "8438f3ac18695cc3e89800205a60b7b36fa71cbd2f438feb4076a80b163b1b24", func := "chattel/chattellaw10.SubSelf", spec := "subSelf", unfollowed := true, recurses := true, loops := true, apart := false }
def SubSelfSaid : Prop := subSelfRow.holds Try.pinned (OpenSpec.ofChange subSelfSpec)

/-- ITS FALSE NEIGHBOUR: 'it returns false'. Refute it at one input. -/
def subSelfWrong : ChangeSpec := { name := "subSelf", fn := fun _ => fun
  | [d1, d2] => { results := [.lit (.bool false)], args := [d1, d2] }
  | _ => none }
def SubSelfWrongFalsely : Prop := subSelfRow.holds Try.pinned (OpenSpec.ofChange subSelfWrong)

/-- 'chattellaw10.SubThrough': WHATEVER THE INPUT: true; the input reads as it did. -/
def subThroughSpec : ChangeSpec := { name := "subThrough", fn := fun _ => fun
  | [d] => { results := [.lit (.bool true)], args := [d] }
  | _ => none }
def subThroughRow : OpenClaim := { program := "ytkgckfcekokieaa", sum := "8438f3ac18695cc3e89800205a60b7b36fa71cbd2f438feb4076a80b163b1b24", func := "chattel/chattellaw10.SubThrough", spec := "subThrough", unfollowed := true, recurses := true, loops := true, apart := false }
def SubThroughSaid : Prop := subThroughRow.holds Try.pinned (OpenSpec.ofChange subThroughSpec)

/-- ITS FALSE NEIGHBOUR: 'it returns false'. Refute it at one input. -/
def subThroughWrong : ChangeSpec := { name := "subThrough", fn := fun _ => fun
  | [d] => { results := [.lit (.bool false)], args := [d] }
  | _ => none }
def SubThroughWrongFalsely : Prop := subThroughRow.holds Try.pinned (OpenSpec.ofChange subThroughWrong)

/-- 'chattellaw10.SubWays': WHATEVER THE INPUT: true; the input reads as it did. -/
def subWaysSpec : ChangeSpec := { name := "subWays", fn := fun _ => fun
  | [d1, d2] => { results := [.lit (.bool true)], args := [d1, d2] }
  | _ => none }
def subWaysRow : OpenClaim := { program := "ytkgckfcekokieaa", sum := "8438f3ac18695cc3e89800205a60b7b36fa71cbd2f438feb4076a80b163b1b24", func := "chattel/chattellaw10.SubWays", spec := "subWays", unfollowed := true, recurses := true, loops := true, apart := false }
def SubWaysSaid : Prop := subWaysRow.holds Try.pinned (OpenSpec.ofChange subWaysSpec)

/-- ITS FALSE NEIGHBOUR: 'it returns false'. Refute it at one input. -/
def subWaysWrong : ChangeSpec := { name := "subWays", fn := fun _ => fun
  | [d1, d2] => { results := [.lit (.bool false)], args := [d1, d2] }
  | _ => none }
def SubWaysWrongFalsely : Prop := subWaysRow.holds Try.pinned (OpenSpec.ofChange subWaysWrong)

/-- 'chattellaw10.SubBoth': WHATEVER THE INPUT: true; the input reads as it did. -/
def subBothSpec : ChangeSpec := { name := "subBoth", fn := fun _ => fun
  | [d] => { results := [.lit (.bool true)], args := [d] }
  | _ => none }
def subBothRow : OpenClaim := { program := "ytkgckfcekokieaa", sum := "8438f3ac18695cc3e89800205a60b7b36fa71cbd2f438feb4076a80b163b1b24", func := "chattel/chattellaw10.SubBoth", spec := "subBoth", unfollowed := true, recurses := true, loops := true, apart := false }
def SubBothSaid : Prop := subBothRow.holds Try.pinned (OpenSpec.ofChange subBothSpec)

/-- ITS FALSE NEIGHBOUR: 'it returns false'. Refute it at one input. -/
def subBothWrong : ChangeSpec := { name := "subBoth", fn := fun _ => fun
  | [d] => { results := [.lit (.bool false)], args := [d] }
  | _ => none }
def SubBothWrongFalsely : Prop := subBothRow.holds Try.pinned (OpenSpec.ofChange subBothWrong)

/- THE SECOND FORM. 'bulk': how many values and letters a reading holds, each counted each time it is reached (what is shared counts as often as it is met; a slice's spare places count too). A statement '..UptoSaid' is the law's where the arguments, and the package variables that the reading takes, are together of bulk at most 1048576: NARROWER than '..Said'. Prove '..Said' where nothing that the law and all that it calls make is longer than what came in: it says more and counts as full. Else prove '..UptoSaid'. A law counts once. -/
mutual
def uptoBulk {H : Type} : DataW H → Nat
  | .lit (.string bytes) => bytes.length + 1
  | .lit _ => 1
  | .nil => 1
  | .ptr d => uptoBulk d + 1
  | .slice elems spare => uptoBulkAll elems + uptoBulkAll spare + 1
  | .agg parts => uptoBulkAll parts + 1
  | .iface _ d => uptoBulk d + 1
  | .map entries => uptoBulkEntries entries + 1
  | .held _ => 1
def uptoBulkAll {H : Type} : List (DataW H) → Nat
  | [] => 0
  | d :: r => uptoBulk d + uptoBulkAll r
def uptoBulkEntries {H : Type} : List (Lit × DataW H) → Nat
  | [] => 0
  | x :: r => uptoBulkEntry x + uptoBulkEntries r
def uptoBulkEntry {H : Type} : Lit × DataW H → Nat
  | (.string bytes, d) => bytes.length + uptoBulk d + 1
  | (_, d) => uptoBulk d + 1
 end
def uptoSmall : (H : Type) → List (DataW H) → Bool := fun _ ds => decide (uptoBulkAll ds ≤ 1048576)
def OpenSpec.upto (s : _root_.Go.ChangeSpec) : _root_.Go.OpenSpec := { _root_.Go.OpenSpec.ofChange s with cond := some uptoSmall }

/-- 'chattellaw10.SubSelf', WHERE WHAT IT READS IS OF BULK AT MOST 1048576: true; the input reads as it did. -/
def subSelfUptoRow : OpenClaim := { program := "ytkgckfcekokieaa", sum := "8438f3ac18695cc3e89800205a60b7b36fa71cbd2f438feb4076a80b163b1b24", func := "chattel/chattellaw10.SubSelf", spec := "subSelf", unfollowed := true, recurses := true, loops := true, apart := false, narrowed := true }
def SubSelfUptoSaid : Prop := subSelfUptoRow.holds Try.pinned (OpenSpec.upto subSelfSpec)

/-- 'chattellaw10.SubThrough', WHERE WHAT IT READS IS OF BULK AT MOST 1048576: true; the input reads as it did. -/
def subThroughUptoRow : OpenClaim := { program := "ytkgckfcekokieaa", sum := "8438f3ac18695cc3e89800205a60b7b36fa71cbd2f438feb4076a80b163b1b24", func := "chattel/chattellaw10.SubThrough", spec := "subThrough", unfollowed := true, recurses := true, loops := true, apart := false, narrowed := true }
def SubThroughUptoSaid : Prop := subThroughUptoRow.holds Try.pinned (OpenSpec.upto subThroughSpec)

/-- 'chattellaw10.SubWays', WHERE WHAT IT READS IS OF BULK AT MOST 1048576: true; the input reads as it did. -/
def subWaysUptoRow : OpenClaim := { program := "ytkgckfcekokieaa", sum := "8438f3ac18695cc3e89800205a60b7b36fa71cbd2f438feb4076a80b163b1b24", func := "chattel/chattellaw10.SubWays", spec := "subWays", unfollowed := true, recurses := true, loops := true, apart := false, narrowed := true }
def SubWaysUptoSaid : Prop := subWaysUptoRow.holds Try.pinned (OpenSpec.upto subWaysSpec)

/-- 'chattellaw10.SubBoth', WHERE WHAT IT READS IS OF BULK AT MOST 1048576: true; the input reads as it did. -/
def subBothUptoRow : OpenClaim := { program := "ytkgckfcekokieaa", sum := "8438f3ac18695cc3e89800205a60b7b36fa71cbd2f438feb4076a80b163b1b24", func := "chattel/chattellaw10.SubBoth", spec := "subBoth", unfollowed := true, recurses := true, loops := true, apart := false, narrowed := true }
def SubBothUptoSaid : Prop := subBothUptoRow.holds Try.pinned (OpenSpec.upto subBothSpec)

end Rows
end Go.Proofs.Ytkgckfcekokieaa

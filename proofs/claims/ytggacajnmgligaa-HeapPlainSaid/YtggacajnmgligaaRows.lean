/-
  NARROWER THAN 'FOR EVERY INPUT', by the rows' own cells (each row's printed sentence says how): HeapPlain: loops · HeapNils: loops.
  DERIVED. THE GIVEN ROWS OF THIS SEAT. 5 by the template 'for every input the law returns true; each argument reads behind the call as it read before'; 0 by the template 'total and deterministic' (their statements: YtggacajnmgligaaTotals.lean).
  GIVEN WITH THE SEED: the statements are not yours to turn. If you find one false, say at which input.
  Laid BY PROGRAM, IN A SANDBOX (cutbox-rows.mjs): the forced cells as the released guide's own fill.sh prints them over the translation 7b30f887dbc7c5d7… (all of the seat's roots in one cut). By AI agents, Wed Nov 11 2026. No macro, syntax, notation, axiom, sorry.
-/
import Derived.Test.YtggacajnmgligaaChecked
import GoSem.Claim
import GoSem.ClaimJoined
import GoSem.ClaimMapViews
import Derived.JoinedTies
import Derived.KernelRfl
namespace Go.Proofs.Ytggacajnmgligaa
/- THE CELL 'sum', in the pinned program and in every row, IS THE sha256 OF THE DUMP (.gsa) THAT YtggacajnmgligaaProg.lean LOADS. Nothing in Lean hashes anything: it is a label: what it is worth is what the hold of that sum in a sandbox is worth. -/
noncomputable def Try.pinned : Pinned := { name := "ytggacajnmgligaa", sum := "7b30f887dbc7c5d7d4ca938b35b71bffc2a55aba2dfc94153c210e71471362a3", checked := Try.checked }
namespace Rows
def none {H : Type} : Left H := { results := [], args := [] }

/-- 'chattellaw13.HeapFrees': WHATEVER THE INPUT: true; the input reads as it did. -/
def heapFreesSpec : ChangeSpec := { name := "heapFrees", fn := fun _ => fun
  | [d1, d2] => { results := [.lit (.bool true)], args := [d1, d2] }
  | _ => none }
def heapFreesRow : OpenClaim := { program := "ytggacajnmgligaa", sum := "7b30f887dbc7c5d7d4ca938b35b71bffc2a55aba2dfc94153c210e71471362a3", func := "chattel/chattellaw13.HeapFrees", spec := "heapFrees", unfollowed := true, recurses := true, apart := false }
def HeapFreesSaid : Prop := heapFreesRow.holds Try.pinned (OpenSpec.ofChange heapFreesSpec)

/-- ITS FALSE NEIGHBOUR: 'it returns false'. Refute it at one input. -/
def heapFreesWrong : ChangeSpec := { name := "heapFrees", fn := fun _ => fun
  | [d1, d2] => { results := [.lit (.bool false)], args := [d1, d2] }
  | _ => none }
def HeapFreesWrongFalsely : Prop := heapFreesRow.holds Try.pinned (OpenSpec.ofChange heapFreesWrong)

/-- 'chattellaw13.HeapRights': WHATEVER THE INPUT: true; the input reads as it did. -/
def heapRightsSpec : ChangeSpec := { name := "heapRights", fn := fun _ => fun
  | [d] => { results := [.lit (.bool true)], args := [d] }
  | _ => none }
def heapRightsRow : OpenClaim := { program := "ytggacajnmgligaa", sum := "7b30f887dbc7c5d7d4ca938b35b71bffc2a55aba2dfc94153c210e71471362a3", func := "chattel/chattellaw13.HeapRights", spec := "heapRights", unfollowed := true, recurses := true, apart := false }
def HeapRightsSaid : Prop := heapRightsRow.holds Try.pinned (OpenSpec.ofChange heapRightsSpec)

/-- ITS FALSE NEIGHBOUR: 'it returns false'. Refute it at one input. -/
def heapRightsWrong : ChangeSpec := { name := "heapRights", fn := fun _ => fun
  | [d] => { results := [.lit (.bool false)], args := [d] }
  | _ => none }
def HeapRightsWrongFalsely : Prop := heapRightsRow.holds Try.pinned (OpenSpec.ofChange heapRightsWrong)

/-- 'chattellaw13.HeapParts': WHATEVER THE INPUT: true; the input reads as it did. -/
def heapPartsSpec : ChangeSpec := { name := "heapParts", fn := fun _ => fun
  | [d] => { results := [.lit (.bool true)], args := [d] }
  | _ => none }
def heapPartsRow : OpenClaim := { program := "ytggacajnmgligaa", sum := "7b30f887dbc7c5d7d4ca938b35b71bffc2a55aba2dfc94153c210e71471362a3", func := "chattel/chattellaw13.HeapParts", spec := "heapParts", unfollowed := true, recurses := true, apart := false }
def HeapPartsSaid : Prop := heapPartsRow.holds Try.pinned (OpenSpec.ofChange heapPartsSpec)

/-- ITS FALSE NEIGHBOUR: 'it returns false'. Refute it at one input. -/
def heapPartsWrong : ChangeSpec := { name := "heapParts", fn := fun _ => fun
  | [d] => { results := [.lit (.bool false)], args := [d] }
  | _ => none }
def HeapPartsWrongFalsely : Prop := heapPartsRow.holds Try.pinned (OpenSpec.ofChange heapPartsWrong)

/-- 'chattellaw13.HeapPlain': WHATEVER THE INPUT: true; the input reads as it did. -/
def heapPlainSpec : ChangeSpec := { name := "heapPlain", fn := fun _ => fun
  | [d1, d2] => { results := [.lit (.bool true)], args := [d1, d2] }
  | _ => none }
def heapPlainRow : OpenClaim := { program := "ytggacajnmgligaa", sum := "7b30f887dbc7c5d7d4ca938b35b71bffc2a55aba2dfc94153c210e71471362a3", func := "chattel/chattellaw13.HeapPlain", spec := "heapPlain", unfollowed := true, recurses := true, loops := true, apart := false }
def HeapPlainSaid : Prop := heapPlainRow.holds Try.pinned (OpenSpec.ofChange heapPlainSpec)

/-- ITS FALSE NEIGHBOUR: 'it returns false'. Refute it at one input. -/
def heapPlainWrong : ChangeSpec := { name := "heapPlain", fn := fun _ => fun
  | [d1, d2] => { results := [.lit (.bool false)], args := [d1, d2] }
  | _ => none }
def HeapPlainWrongFalsely : Prop := heapPlainRow.holds Try.pinned (OpenSpec.ofChange heapPlainWrong)

/-- 'chattellaw13.HeapNils': WHATEVER THE INPUT: true; the input reads as it did. -/
def heapNilsSpec : ChangeSpec := { name := "heapNils", fn := fun _ => fun
  | [d1, d2] => { results := [.lit (.bool true)], args := [d1, d2] }
  | _ => none }
def heapNilsRow : OpenClaim := { program := "ytggacajnmgligaa", sum := "7b30f887dbc7c5d7d4ca938b35b71bffc2a55aba2dfc94153c210e71471362a3", func := "chattel/chattellaw13.HeapNils", spec := "heapNils", unfollowed := true, recurses := true, loops := true, apart := false }
def HeapNilsSaid : Prop := heapNilsRow.holds Try.pinned (OpenSpec.ofChange heapNilsSpec)

/-- ITS FALSE NEIGHBOUR: 'it returns false'. Refute it at one input. -/
def heapNilsWrong : ChangeSpec := { name := "heapNils", fn := fun _ => fun
  | [d1, d2] => { results := [.lit (.bool false)], args := [d1, d2] }
  | _ => none }
def HeapNilsWrongFalsely : Prop := heapNilsRow.holds Try.pinned (OpenSpec.ofChange heapNilsWrong)

/- THE SECOND FORM. 'bulk': how many values and letters a reading holds, each counted each time it is reached (what is shared counts as often as it is met; a slice's spare places count too). A statement '..UptoSaid' is the law's where the arguments, and the package variables that the reading takes, are together of bulk at most 1048576: NARROWER than '..Said'. Prove '..Said' where nothing that the law and all that it calls make is longer than what came in: it says more and counts as full. Else prove '..UptoSaid'. A law counts once. -/
mutual
def uptoBulk {H : Type} : DataW H → Nat
  | .lit (.string bytes) => bytes.length + 1
  | .lit _ => 1
  | .nil => 1
  | .ptr d => uptoBulk d + 1
  | .slice elems spare => uptoBulkAll elems + uptoBulkAll spare + 1
  | .agg parts => uptoBulkAll parts + 1
  | .iface _ d => uptoBulk d + 1
  | .map entries => uptoBulkEntries entries + 1
  | .held _ => 1
def uptoBulkAll {H : Type} : List (DataW H) → Nat
  | [] => 0
  | d :: r => uptoBulk d + uptoBulkAll r
def uptoBulkEntries {H : Type} : List (Lit × DataW H) → Nat
  | [] => 0
  | x :: r => uptoBulkEntry x + uptoBulkEntries r
def uptoBulkEntry {H : Type} : Lit × DataW H → Nat
  | (.string bytes, d) => bytes.length + uptoBulk d + 1
  | (_, d) => uptoBulk d + 1
 end
def uptoSmall : (H : Type) → List (DataW H) → Bool := fun _ ds => decide (uptoBulkAll ds ≤ 1048576)
def OpenSpec.upto (s : _root_.Go.ChangeSpec) : _root_.Go.OpenSpec := { _root_.Go.OpenSpec.ofChange s with cond := some uptoSmall }

/-- 'chattellaw13.HeapFrees', WHERE WHAT IT READS IS OF BULK AT MOST 1048576: true; the input reads as it did. -/
def heapFreesUptoRow : OpenClaim := { program := "ytggacajnmgligaa", sum := "7b30f887dbc7c5d7d4ca938b35b71bffc2a55aba2dfc94153c210e71471362a3", func := "chattel/chattellaw13.HeapFrees", spec := "heapFrees", unfollowed := true, recurses := true, apart := false, narrowed := true }
def HeapFreesUptoSaid : Prop := heapFreesUptoRow.holds Try.pinned (OpenSpec.upto heapFreesSpec)

/-- 'chattellaw13.HeapRights', WHERE WHAT IT READS IS OF BULK AT MOST 1048576: true; the input reads as it did. -/
def heapRightsUptoRow : OpenClaim := { program := "ytggacajnmgligaa", sum := "7b30f887dbc7c5d7d4ca938b35b71bffc2a55aba2dfc94153c210e71471362a3", func := "chattel/chattellaw13.HeapRights", spec := "heapRights", unfollowed := true, recurses := true, apart := false, narrowed := true }
def HeapRightsUptoSaid : Prop := heapRightsUptoRow.holds Try.pinned (OpenSpec.upto heapRightsSpec)

/-- 'chattellaw13.HeapParts', WHERE WHAT IT READS IS OF BULK AT MOST 1048576: true; the input reads as it did. -/
def heapPartsUptoRow : OpenClaim := { program := "ytggacajnmgligaa", sum := "7b30f887dbc7c5d7d4ca938b35b71bffc2a55aba2dfc94153c210e71471362a3", func := "chattel/chattellaw13.HeapParts", spec := "heapParts", unfollowed := true, recurses := true, apart := false, narrowed := true }
def HeapPartsUptoSaid : Prop := heapPartsUptoRow.holds Try.pinned (OpenSpec.upto heapPartsSpec)

/-- 'chattellaw13.HeapPlain', WHERE WHAT IT READS IS OF BULK AT MOST 1048576: true; the input reads as it did. -/
def heapPlainUptoRow : OpenClaim := { program := "ytggacajnmgligaa", sum := "7b30f887dbc7c5d7d4ca938b35b71bffc2a55aba2dfc94153c210e71471362a3", func := "chattel/chattellaw13.HeapPlain", spec := "heapPlain", unfollowed := true, recurses := true, loops := true, apart := false, narrowed := true }
def HeapPlainUptoSaid : Prop := heapPlainUptoRow.holds Try.pinned (OpenSpec.upto heapPlainSpec)

/-- 'chattellaw13.HeapNils', WHERE WHAT IT READS IS OF BULK AT MOST 1048576: true; the input reads as it did. -/
def heapNilsUptoRow : OpenClaim := { program := "ytggacajnmgligaa", sum := "7b30f887dbc7c5d7d4ca938b35b71bffc2a55aba2dfc94153c210e71471362a3", func := "chattel/chattellaw13.HeapNils", spec := "heapNils", unfollowed := true, recurses := true, loops := true, apart := false, narrowed := true }
def HeapNilsUptoSaid : Prop := heapNilsUptoRow.holds Try.pinned (OpenSpec.upto heapNilsSpec)

end Rows
end Go.Proofs.Ytggacajnmgligaa

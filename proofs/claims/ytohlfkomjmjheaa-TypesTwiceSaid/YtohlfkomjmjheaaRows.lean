/-
  NARROWER THAN 'FOR EVERY INPUT', by the rows' own cells (each row's printed sentence says how): TypesWf: loops · TypesMaps: loops · TypesInsts: loops · TypesTwice: loops · TypesSame: loops.
  DERIVED. THE GIVEN ROWS OF THIS SEAT. 5 by the template 'for every input the law returns true; each argument reads behind the call as it read before'; 0 by the template 'total and deterministic' (their statements: YtohlfkomjmjheaaTotals.lean).
  GIVEN WITH THE SEED: the statements are not yours to turn. If you find one false, say at which input.
  Laid BY PROGRAM, IN A SANDBOX (cutbox-rows.mjs): the forced cells as the released guide's own fill.sh prints them over the translation cc47bd74ba05131d… (all of the seat's roots in one cut). By AI agents, Wed Nov 11 2026. No macro, syntax, notation, axiom, sorry.
-/
import Derived.Test.YtohlfkomjmjheaaChecked
import GoSem.Claim
import GoSem.ClaimJoined
import GoSem.ClaimMapViews
import Derived.JoinedTies
import Derived.KernelRfl
namespace Go.Proofs.Ytohlfkomjmjheaa
/- THE CELL 'sum', in the pinned program and in every row, IS THE sha256 OF THE DUMP (.gsa) THAT YtohlfkomjmjheaaProg.lean LOADS. Nothing in Lean hashes anything: it is a label: what it is worth is what the hold of that sum in a sandbox is worth. -/
noncomputable def Try.pinned : Pinned := { name := "ytohlfkomjmjheaa", sum := "cc47bd74ba05131d28b584ccfa8e725576c8a2f4f400571763c554ecee3f6c68", checked := Try.checked }
namespace Rows
def none {H : Type} : Left H := { results := [], args := [] }

/-- 'chattellaw07.TypesWf': WHATEVER THE INPUT: true; the input reads as it did. -/
def typesWfSpec : ChangeSpec := { name := "typesWf", fn := fun _ => fun
  | [d1, d2] => { results := [.lit (.bool true)], args := [d1, d2] }
  | _ => none }
def typesWfRow : OpenClaim := { program := "ytohlfkomjmjheaa", sum := "cc47bd74ba05131d28b584ccfa8e725576c8a2f4f400571763c554ecee3f6c68", func := "chattel/chattellaw07.TypesWf", spec := "typesWf", recurses := true, loops := true, apart := false }
def TypesWfSaid : Prop := typesWfRow.holds Try.pinned (OpenSpec.ofChange typesWfSpec)

/-- ITS FALSE NEIGHBOUR: 'it returns false'. Refute it at one input. -/
def typesWfWrong : ChangeSpec := { name := "typesWf", fn := fun _ => fun
  | [d1, d2] => { results := [.lit (.bool false)], args := [d1, d2] }
  | _ => none }
def TypesWfWrongFalsely : Prop := typesWfRow.holds Try.pinned (OpenSpec.ofChange typesWfWrong)

/-- 'chattellaw07.TypesMaps': WHATEVER THE INPUT: true; the input reads as it did. -/
def typesMapsSpec : ChangeSpec := { name := "typesMaps", fn := fun _ => fun
  | [d1, d2] => { results := [.lit (.bool true)], args := [d1, d2] }
  | _ => none }
def typesMapsRow : OpenClaim := { program := "ytohlfkomjmjheaa", sum := "cc47bd74ba05131d28b584ccfa8e725576c8a2f4f400571763c554ecee3f6c68", func := "chattel/chattellaw07.TypesMaps", spec := "typesMaps", unfollowed := true, recurses := true, loops := true, apart := false }
def TypesMapsSaid : Prop := typesMapsRow.holds Try.pinned (OpenSpec.ofChange typesMapsSpec)

/-- ITS FALSE NEIGHBOUR: 'it returns false'. Refute it at one input. -/
def typesMapsWrong : ChangeSpec := { name := "typesMaps", fn := fun _ => fun
  | [d1, d2] => { results := [.lit (.bool false)], args := [d1, d2] }
  | _ => none }
def TypesMapsWrongFalsely : Prop := typesMapsRow.holds Try.pinned (OpenSpec.ofChange typesMapsWrong)

/-- 'chattellaw07.TypesInsts': WHATEVER THE INPUT: true; the input reads as it did. -/
def typesInstsSpec : ChangeSpec := { name := "typesInsts", fn := fun _ => fun
  | [d1, d2, d3] => { results := [.lit (.bool true)], args := [d1, d2, d3] }
  | _ => none }
def typesInstsRow : OpenClaim := { program := "ytohlfkomjmjheaa", sum := "cc47bd74ba05131d28b584ccfa8e725576c8a2f4f400571763c554ecee3f6c68", func := "chattel/chattellaw07.TypesInsts", spec := "typesInsts", unfollowed := true, recurses := true, loops := true, apart := false }
def TypesInstsSaid : Prop := typesInstsRow.holds Try.pinned (OpenSpec.ofChange typesInstsSpec)

/-- ITS FALSE NEIGHBOUR: 'it returns false'. Refute it at one input. -/
def typesInstsWrong : ChangeSpec := { name := "typesInsts", fn := fun _ => fun
  | [d1, d2, d3] => { results := [.lit (.bool false)], args := [d1, d2, d3] }
  | _ => none }
def TypesInstsWrongFalsely : Prop := typesInstsRow.holds Try.pinned (OpenSpec.ofChange typesInstsWrong)

/-- 'chattellaw07.TypesTwice': WHATEVER THE INPUT: true; the input reads as it did. -/
def typesTwiceSpec : ChangeSpec := { name := "typesTwice", fn := fun _ => fun
  | [d1, d2, d3] => { results := [.lit (.bool true)], args := [d1, d2, d3] }
  | _ => none }
def typesTwiceRow : OpenClaim := { program := "ytohlfkomjmjheaa", sum := "cc47bd74ba05131d28b584ccfa8e725576c8a2f4f400571763c554ecee3f6c68", func := "chattel/chattellaw07.TypesTwice", spec := "typesTwice", unfollowed := true, recurses := true, loops := true, apart := false }
def TypesTwiceSaid : Prop := typesTwiceRow.holds Try.pinned (OpenSpec.ofChange typesTwiceSpec)

/-- ITS FALSE NEIGHBOUR: 'it returns false'. Refute it at one input. -/
def typesTwiceWrong : ChangeSpec := { name := "typesTwice", fn := fun _ => fun
  | [d1, d2, d3] => { results := [.lit (.bool false)], args := [d1, d2, d3] }
  | _ => none }
def TypesTwiceWrongFalsely : Prop := typesTwiceRow.holds Try.pinned (OpenSpec.ofChange typesTwiceWrong)

/-- 'chattellaw07.TypesSame': WHATEVER THE INPUT: true; the input reads as it did. -/
def typesSameSpec : ChangeSpec := { name := "typesSame", fn := fun _ => fun
  | [d1, d2] => { results := [.lit (.bool true)], args := [d1, d2] }
  | _ => none }
def typesSameRow : OpenClaim := { program := "ytohlfkomjmjheaa", sum := "cc47bd74ba05131d28b584ccfa8e725576c8a2f4f400571763c554ecee3f6c68", func := "chattel/chattellaw07.TypesSame", spec := "typesSame", unfollowed := true, recurses := true, loops := true, apart := false }
def TypesSameSaid : Prop := typesSameRow.holds Try.pinned (OpenSpec.ofChange typesSameSpec)

/-- ITS FALSE NEIGHBOUR: 'it returns false'. Refute it at one input. -/
def typesSameWrong : ChangeSpec := { name := "typesSame", fn := fun _ => fun
  | [d1, d2] => { results := [.lit (.bool false)], args := [d1, d2] }
  | _ => none }
def TypesSameWrongFalsely : Prop := typesSameRow.holds Try.pinned (OpenSpec.ofChange typesSameWrong)

/- THE SECOND FORM. 'bulk': how many values and letters a reading holds, each counted each time it is reached (what is shared counts as often as it is met; a slice's spare places count too). A statement '..UptoSaid' is the law's where the arguments, and the package variables that the reading takes, are together of bulk at most 1048576: NARROWER than '..Said'. Prove '..Said' where nothing that the law and all that it calls make is longer than what came in: it says more and counts as full. Else prove '..UptoSaid'. A law counts once. -/
mutual
def uptoBulk {H : Type} : DataW H → Nat
  | .lit (.string bytes) => bytes.length + 1
  | .lit _ => 1
  | .nil => 1
  | .ptr d => uptoBulk d + 1
  | .slice elems spare => uptoBulkAll elems + uptoBulkAll spare + 1
  | .agg parts => uptoBulkAll parts + 1
  | .iface _ d => uptoBulk d + 1
  | .map entries => uptoBulkEntries entries + 1
  | .held _ => 1
def uptoBulkAll {H : Type} : List (DataW H) → Nat
  | [] => 0
  | d :: r => uptoBulk d + uptoBulkAll r
def uptoBulkEntries {H : Type} : List (Lit × DataW H) → Nat
  | [] => 0
  | x :: r => uptoBulkEntry x + uptoBulkEntries r
def uptoBulkEntry {H : Type} : Lit × DataW H → Nat
  | (.string bytes, d) => bytes.length + uptoBulk d + 1
  | (_, d) => uptoBulk d + 1
 end
def uptoSmall : (H : Type) → List (DataW H) → Bool := fun _ ds => decide (uptoBulkAll ds ≤ 1048576)
def OpenSpec.upto (s : _root_.Go.ChangeSpec) : _root_.Go.OpenSpec := { _root_.Go.OpenSpec.ofChange s with cond := some uptoSmall }

/-- 'chattellaw07.TypesWf', WHERE WHAT IT READS IS OF BULK AT MOST 1048576: true; the input reads as it did. -/
def typesWfUptoRow : OpenClaim := { program := "ytohlfkomjmjheaa", sum := "cc47bd74ba05131d28b584ccfa8e725576c8a2f4f400571763c554ecee3f6c68", func := "chattel/chattellaw07.TypesWf", spec := "typesWf", recurses := true, loops := true, apart := false, narrowed := true }
def TypesWfUptoSaid : Prop := typesWfUptoRow.holds Try.pinned (OpenSpec.upto typesWfSpec)

/-- 'chattellaw07.TypesMaps', WHERE WHAT IT READS IS OF BULK AT MOST 1048576: true; the input reads as it did. -/
def typesMapsUptoRow : OpenClaim := { program := "ytohlfkomjmjheaa", sum := "cc47bd74ba05131d28b584ccfa8e725576c8a2f4f400571763c554ecee3f6c68", func := "chattel/chattellaw07.TypesMaps", spec := "typesMaps", unfollowed := true, recurses := true, loops := true, apart := false, narrowed := true }
def TypesMapsUptoSaid : Prop := typesMapsUptoRow.holds Try.pinned (OpenSpec.upto typesMapsSpec)

/-- 'chattellaw07.TypesInsts', WHERE WHAT IT READS IS OF BULK AT MOST 1048576: true; the input reads as it did. -/
def typesInstsUptoRow : OpenClaim := { program := "ytohlfkomjmjheaa", sum := "cc47bd74ba05131d28b584ccfa8e725576c8a2f4f400571763c554ecee3f6c68", func := "chattel/chattellaw07.TypesInsts", spec := "typesInsts", unfollowed := true, recurses := true, loops := true, apart := false, narrowed := true }
def TypesInstsUptoSaid : Prop := typesInstsUptoRow.holds Try.pinned (OpenSpec.upto typesInstsSpec)

/-- 'chattellaw07.TypesTwice', WHERE WHAT IT READS IS OF BULK AT MOST 1048576: true; the input reads as it did. -/
def typesTwiceUptoRow : OpenClaim := { program := "ytohlfkomjmjheaa", sum := "cc47bd74ba05131d28b584ccfa8e725576c8a2f4f400571763c554ecee3f6c68", func := "chattel/chattellaw07.TypesTwice", spec := "typesTwice", unfollowed := true, recurses := true, loops := true, apart := false, narrowed := true }
def TypesTwiceUptoSaid : Prop := typesTwiceUptoRow.holds Try.pinned (OpenSpec.upto typesTwiceSpec)

/-- 'chattellaw07.TypesSame', WHERE WHAT IT READS IS OF BULK AT MOST 1048576: true; the input reads as it did. -/
def typesSameUptoRow : OpenClaim := { program := "ytohlfkomjmjheaa", sum := "cc47bd74ba05131d28b584ccfa8e725576c8a2f4f400571763c554ecee3f6c68", func := "chattel/chattellaw07.TypesSame", spec := "typesSame", unfollowed := true, recurses := true, loops := true, apart := false, narrowed := true }
def TypesSameUptoSaid : Prop := typesSameUptoRow.holds Try.pinned (OpenSpec.upto typesSameSpec)

end Rows
end Go.Proofs.Ytohlfkomjmjheaa

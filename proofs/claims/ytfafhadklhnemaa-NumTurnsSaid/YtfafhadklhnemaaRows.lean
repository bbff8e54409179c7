/-
  No cell of these rows narrows 'for every input' (looked for: loops, veiled, ifaces, maps, wideKeys, modest, calm, conditions, laid).
  DERIVED. THE GIVEN ROWS OF THIS SEAT. 7 by the template 'for every input the law returns true; each argument reads behind the call as it read before'; 0 by the template 'total and deterministic' (their statements: YtfafhadklhnemaaTotals.lean).
  GIVEN WITH THE SEED: the statements are not yours to turn. If you find one false, say at which input.
  Laid BY PROGRAM, IN A SANDBOX (cutbox-rows.mjs): the forced cells as the released guide's own fill.sh prints them over the translation 386d7c91ed5e672a… (all of the seat's roots in one cut). By AI agents, Wed Nov 11 2026. No macro, syntax, notation, axiom, sorry.
-/
import Derived.Test.YtfafhadklhnemaaChecked
import GoSem.Claim
import GoSem.ClaimJoined
import GoSem.ClaimMapViews
import Derived.JoinedTies
import Derived.KernelRfl
namespace Go.Proofs.Ytfafhadklhnemaa
/- THE CELL 'sum', in the pinned program and in every row, IS THE sha256 OF THE DUMP (.gsa) THAT YtfafhadklhnemaaProg.lean LOADS. Nothing in Lean hashes anything: it is a label: what it is worth is what the hold of that sum in a sandbox is worth. -/
noncomputable def Try.pinned : Pinned := { name := "ytfafhadklhnemaa", sum := "386d7c91ed5e672aa1f11bc836ba1a8fab1af7cd8ea3b551c0c3fcd41382347f", checked := Try.checked }
namespace Rows
def none {H : Type} : Left H := { results := [], args := [] }

/-- 'chattellaw02.NumOrders': WHATEVER THE INPUT: true; the input reads as it did. -/
def numOrdersSpec : ChangeSpec := { name := "numOrders", fn := fun _ => fun
  | [d1, d2] => { results := [.lit (.bool true)], args := [d1, d2] }
  | _ => none }
def numOrdersRow : OpenClaim := { program := "ytfafhadklhnemaa", sum := "386d7c91ed5e672aa1f11bc836ba1a8fab1af7cd8ea3b551c0c3fcd41382347f", func := "chattel/chattellaw02.NumOrders", spec := "numOrders", inPlace := ["math.Float64frombits", "math.Float64bits"], apart := false }
def NumOrdersSaid : Prop := numOrdersRow.holds Try.pinned (OpenSpec.ofChange numOrdersSpec)

/-- ITS FALSE NEIGHBOUR: 'it returns false'. Refute it at one input. -/
def numOrdersWrong : ChangeSpec := { name := "numOrders", fn := fun _ => fun
  | [d1, d2] => { results := [.lit (.bool false)], args := [d1, d2] }
  | _ => none }
def NumOrdersWrongFalsely : Prop := numOrdersRow.holds Try.pinned (OpenSpec.ofChange numOrdersWrong)

/-- 'chattellaw02.NumWholes': WHATEVER THE INPUT: true; the input reads as it did. -/
def numWholesSpec : ChangeSpec := { name := "numWholes", fn := fun _ => fun
  | [d1, d2] => { results := [.lit (.bool true)], args := [d1, d2] }
  | _ => none }
def numWholesRow : OpenClaim := { program := "ytfafhadklhnemaa", sum := "386d7c91ed5e672aa1f11bc836ba1a8fab1af7cd8ea3b551c0c3fcd41382347f", func := "chattel/chattellaw02.NumWholes", spec := "numWholes", inPlace := ["math.Float64frombits", "math.Float64bits"], apart := false }
def NumWholesSaid : Prop := numWholesRow.holds Try.pinned (OpenSpec.ofChange numWholesSpec)

/-- ITS FALSE NEIGHBOUR: 'it returns false'. Refute it at one input. -/
def numWholesWrong : ChangeSpec := { name := "numWholes", fn := fun _ => fun
  | [d1, d2] => { results := [.lit (.bool false)], args := [d1, d2] }
  | _ => none }
def NumWholesWrongFalsely : Prop := numWholesRow.holds Try.pinned (OpenSpec.ofChange numWholesWrong)

/-- 'chattellaw02.NumFloats': WHATEVER THE INPUT: true; the input reads as it did. -/
def numFloatsSpec : ChangeSpec := { name := "numFloats", fn := fun _ => fun
  | [d1, d2] => { results := [.lit (.bool true)], args := [d1, d2] }
  | _ => none }
def numFloatsRow : OpenClaim := { program := "ytfafhadklhnemaa", sum := "386d7c91ed5e672aa1f11bc836ba1a8fab1af7cd8ea3b551c0c3fcd41382347f", func := "chattel/chattellaw02.NumFloats", spec := "numFloats", inPlace := ["math.Float64frombits", "math.Float64bits"], apart := false }
def NumFloatsSaid : Prop := numFloatsRow.holds Try.pinned (OpenSpec.ofChange numFloatsSpec)

/-- ITS FALSE NEIGHBOUR: 'it returns false'. Refute it at one input. -/
def numFloatsWrong : ChangeSpec := { name := "numFloats", fn := fun _ => fun
  | [d1, d2] => { results := [.lit (.bool false)], args := [d1, d2] }
  | _ => none }
def NumFloatsWrongFalsely : Prop := numFloatsRow.holds Try.pinned (OpenSpec.ofChange numFloatsWrong)

/-- 'chattellaw02.NumTurns': WHATEVER THE INPUT: true; the input reads as it did. -/
def numTurnsSpec : ChangeSpec := { name := "numTurns", fn := fun _ => fun
  | [d1, d2] => { results := [.lit (.bool true)], args := [d1, d2] }
  | _ => none }
def numTurnsRow : OpenClaim := { program := "ytfafhadklhnemaa", sum := "386d7c91ed5e672aa1f11bc836ba1a8fab1af7cd8ea3b551c0c3fcd41382347f", func := "chattel/chattellaw02.NumTurns", spec := "numTurns", inPlace := ["math.Float64frombits", "math.Float64bits"], apart := false }
def NumTurnsSaid : Prop := numTurnsRow.holds Try.pinned (OpenSpec.ofChange numTurnsSpec)

/-- ITS FALSE NEIGHBOUR: 'it returns false'. Refute it at one input. -/
def numTurnsWrong : ChangeSpec := { name := "numTurns", fn := fun _ => fun
  | [d1, d2] => { results := [.lit (.bool false)], args := [d1, d2] }
  | _ => none }
def NumTurnsWrongFalsely : Prop := numTurnsRow.holds Try.pinned (OpenSpec.ofChange numTurnsWrong)

/-- 'chattellaw02.NumParts': WHATEVER THE INPUT: true; the input reads as it did. -/
def numPartsSpec : ChangeSpec := { name := "numParts", fn := fun _ => fun
  | [d1, d2] => { results := [.lit (.bool true)], args := [d1, d2] }
  | _ => none }
def numPartsRow : OpenClaim := { program := "ytfafhadklhnemaa", sum := "386d7c91ed5e672aa1f11bc836ba1a8fab1af7cd8ea3b551c0c3fcd41382347f", func := "chattel/chattellaw02.NumParts", spec := "numParts", inPlace := ["math.Float64frombits", "math.Float64bits"], apart := false }
def NumPartsSaid : Prop := numPartsRow.holds Try.pinned (OpenSpec.ofChange numPartsSpec)

/-- ITS FALSE NEIGHBOUR: 'it returns false'. Refute it at one input. -/
def numPartsWrong : ChangeSpec := { name := "numParts", fn := fun _ => fun
  | [d1, d2] => { results := [.lit (.bool false)], args := [d1, d2] }
  | _ => none }
def NumPartsWrongFalsely : Prop := numPartsRow.holds Try.pinned (OpenSpec.ofChange numPartsWrong)

/-- 'chattellaw02.NumTexts': WHATEVER THE INPUT: true; the input reads as it did. -/
def numTextsSpec : ChangeSpec := { name := "numTexts", fn := fun _ => fun
  | [d1, d2] => { results := [.lit (.bool true)], args := [d1, d2] }
  | _ => none }
def numTextsRow : OpenClaim := { program := "ytfafhadklhnemaa", sum := "386d7c91ed5e672aa1f11bc836ba1a8fab1af7cd8ea3b551c0c3fcd41382347f", func := "chattel/chattellaw02.NumTexts", spec := "numTexts", inPlace := ["math.Float64frombits", "math.Float64bits"], apart := false }
def NumTextsSaid : Prop := numTextsRow.holds Try.pinned (OpenSpec.ofChange numTextsSpec)

/-- ITS FALSE NEIGHBOUR: 'it returns false'. Refute it at one input. -/
def numTextsWrong : ChangeSpec := { name := "numTexts", fn := fun _ => fun
  | [d1, d2] => { results := [.lit (.bool false)], args := [d1, d2] }
  | _ => none }
def NumTextsWrongFalsely : Prop := numTextsRow.holds Try.pinned (OpenSpec.ofChange numTextsWrong)

/-- 'chattellaw02.NumBack': WHATEVER THE INPUT: true; the input reads as it did. -/
def numBackSpec : ChangeSpec := { name := "numBack", fn := fun _ => fun
  | [d1, d2] => { results := [.lit (.bool true)], args := [d1, d2] }
  | _ => none }
def numBackRow : OpenClaim := { program := "ytfafhadklhnemaa", sum := "386d7c91ed5e672aa1f11bc836ba1a8fab1af7cd8ea3b551c0c3fcd41382347f", func := "chattel/chattellaw02.NumBack", spec := "numBack", inPlace := ["math.Float64frombits", "math.Float64bits"], apart := false }
def NumBackSaid : Prop := numBackRow.holds Try.pinned (OpenSpec.ofChange numBackSpec)

/-- ITS FALSE NEIGHBOUR: 'it returns false'. Refute it at one input. -/
def numBackWrong : ChangeSpec := { name := "numBack", fn := fun _ => fun
  | [d1, d2] => { results := [.lit (.bool false)], args := [d1, d2] }
  | _ => none }
def NumBackWrongFalsely : Prop := numBackRow.holds Try.pinned (OpenSpec.ofChange numBackWrong)

/- THE SECOND FORM. 'bulk': how many values and letters a reading holds, each counted each time it is reached (what is shared counts as often as it is met; a slice's spare places count too). A statement '..UptoSaid' is the law's where the arguments, and the package variables that the reading takes, are together of bulk at most 1048576: NARROWER than '..Said'. Prove '..Said' where nothing that the law and all that it calls make is longer than what came in: it says more and counts as full. Else prove '..UptoSaid'. A law counts once. -/
mutual
def uptoBulk {H : Type} : DataW H → Nat
  | .lit (.string bytes) => bytes.length + 1
  | .lit _ => 1
  | .nil => 1
  | .ptr d => uptoBulk d + 1
  | .slice elems spare => uptoBulkAll elems + uptoBulkAll spare + 1
  | .agg parts => uptoBulkAll parts + 1
  | .iface _ d => uptoBulk d + 1
  | .map entries => uptoBulkEntries entries + 1
  | .held _ => 1
def uptoBulkAll {H : Type} : List (DataW H) → Nat
  | [] => 0
  | d :: r => uptoBulk d + uptoBulkAll r
def uptoBulkEntries {H : Type} : List (Lit × DataW H) → Nat
  | [] => 0
  | x :: r => uptoBulkEntry x + uptoBulkEntries r
def uptoBulkEntry {H : Type} : Lit × DataW H → Nat
  | (.string bytes, d) => bytes.length + uptoBulk d + 1
  | (_, d) => uptoBulk d + 1
 end
def uptoSmall : (H : Type) → List (DataW H) → Bool := fun _ ds => decide (uptoBulkAll ds ≤ 1048576)
def OpenSpec.upto (s : _root_.Go.ChangeSpec) : _root_.Go.OpenSpec := { _root_.Go.OpenSpec.ofChange s with cond := some uptoSmall }

/-- 'chattellaw02.NumOrders', WHERE WHAT IT READS IS OF BULK AT MOST 1048576: true; the input reads as it did. -/
def numOrdersUptoRow : OpenClaim := { program := "ytfafhadklhnemaa", sum := "386d7c91ed5e672aa1f11bc836ba1a8fab1af7cd8ea3b551c0c3fcd41382347f", func := "chattel/chattellaw02.NumOrders", spec := "numOrders", inPlace := ["math.Float64frombits", "math.Float64bits"], apart := false, narrowed := true }
def NumOrdersUptoSaid : Prop := numOrdersUptoRow.holds Try.pinned (OpenSpec.upto numOrdersSpec)

/-- 'chattellaw02.NumWholes', WHERE WHAT IT READS IS OF BULK AT MOST 1048576: true; the input reads as it did. -/
def numWholesUptoRow : OpenClaim := { program := "ytfafhadklhnemaa", sum := "386d7c91ed5e672aa1f11bc836ba1a8fab1af7cd8ea3b551c0c3fcd41382347f", func := "chattel/chattellaw02.NumWholes", spec := "numWholes", inPlace := ["math.Float64frombits", "math.Float64bits"], apart := false, narrowed := true }
def NumWholesUptoSaid : Prop := numWholesUptoRow.holds Try.pinned (OpenSpec.upto numWholesSpec)

/-- 'chattellaw02.NumFloats', WHERE WHAT IT READS IS OF BULK AT MOST 1048576: true; the input reads as it did. -/
def numFloatsUptoRow : OpenClaim := { program := "ytfafhadklhnemaa", sum := "386d7c91ed5e672aa1f11bc836ba1a8fab1af7cd8ea3b551c0c3fcd41382347f", func := "chattel/chattellaw02.NumFloats", spec := "numFloats", inPlace := ["math.Float64frombits", "math.Float64bits"], apart := false, narrowed := true }
def NumFloatsUptoSaid : Prop := numFloatsUptoRow.holds Try.pinned (OpenSpec.upto numFloatsSpec)

/-- 'chattellaw02.NumTurns', WHERE WHAT IT READS IS OF BULK AT MOST 1048576: true; the input reads as it did. -/
def numTurnsUptoRow : OpenClaim := { program := "ytfafhadklhnemaa", sum := "386d7c91ed5e672aa1f11bc836ba1a8fab1af7cd8ea3b551c0c3fcd41382347f", func := "chattel/chattellaw02.NumTurns", spec := "numTurns", inPlace := ["math.Float64frombits", "math.Float64bits"], apart := false, narrowed := true }
def NumTurnsUptoSaid : Prop := numTurnsUptoRow.holds Try.pinned (OpenSpec.upto numTurnsSpec)

/-- 'chattellaw02.NumParts', WHERE WHAT IT READS IS OF BULK AT MOST 1048576: true; the input reads as it did. -/
def numPartsUptoRow : OpenClaim := { program := "ytfafhadklhnemaa", sum := "386d7c91ed5e672aa1f11bc836ba1a8fab1af7cd8ea3b551c0c3fcd41382347f", func := "chattel/chattellaw02.NumParts", spec := "numParts", inPlace := ["math.Float64frombits", "math.Float64bits"], apart := false, narrowed := true }
def NumPartsUptoSaid : Prop := numPartsUptoRow.holds Try.pinned (OpenSpec.upto numPartsSpec)

/-- 'chattellaw02.NumTexts', WHERE WHAT IT READS IS OF BULK AT MOST 1048576: true; the input reads as it did. -/
def numTextsUptoRow : OpenClaim := { program := "ytfafhadklhnemaa", sum := "386d7c91ed5e672aa1f11bc836ba1a8fab1af7cd8ea3b551c0c3fcd41382347f", func := "chattel/chattellaw02.NumTexts", spec := "numTexts", inPlace := ["math.Float64frombits", "math.Float64bits"], apart := false, narrowed := true }
def NumTextsUptoSaid : Prop := numTextsUptoRow.holds Try.pinned (OpenSpec.upto numTextsSpec)

/-- 'chattellaw02.NumBack', WHERE WHAT IT READS IS OF BULK AT MOST 1048576: true; the input reads as it did. -/
def numBackUptoRow : OpenClaim := { program := "ytfafhadklhnemaa", sum := "386d7c91ed5e672aa1f11bc836ba1a8fab1af7cd8ea3b551c0c3fcd41382347f", func := "chattel/chattellaw02.NumBack", spec := "numBack", inPlace := ["math.Float64frombits", "math.Float64bits"], apart := false, narrowed := true }
def NumBackUptoSaid : Prop := numBackUptoRow.holds Try.pinned (OpenSpec.upto numBackSpec)

end Rows
end Go.Proofs.Ytfafhadklhnemaa

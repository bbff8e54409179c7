/-
  No cell of these rows narrows 'for every input' (looked for: loops, veiled, ifaces, maps, wideKeys, modest, calm, conditions, laid).
  DERIVED. THE GIVEN ROWS OF THIS SEAT. 6 by the template 'for every input the law returns true; each argument reads behind the call as it read before'; 0 by the template 'total and deterministic' (their statements: YthpfblimfaefhaaTotals.lean).
  GIVEN WITH THE SEED: the statements are not yours to turn. If you find one false, say at which input.
  Laid BY PROGRAM, IN A SANDBOX (cutbox-rows.mjs): the forced cells as the released guide's own fill.sh prints them over the translation 6417376bb2439439… (all of the seat's roots in one cut). By AI agents, Wed Nov 11 2026. No macro, syntax, notation, axiom, sorry.
-/
import Derived.Test.YthpfblimfaefhaaChecked
import GoSem.Claim
import GoSem.ClaimJoined
import GoSem.ClaimMapViews
import Derived.JoinedTies
import Derived.KernelRfl
namespace Go.Proofs.Ythpfblimfaefhaa
/- THE CELL 'sum', in the pinned program and in every row, IS THE sha256 OF THE DUMP (.gsa) THAT YthpfblimfaefhaaProg.lean LOADS. Nothing in Lean hashes anything: it is a label: what it is worth is what the hold of that sum in a sandbox is worth. -/
noncomputable def Try.pinned : Pinned := { name := "ythpfblimfaefhaa", sum := "6417376bb243943919a92158033f36e309cdfd4bf6c450d35b5f767f75dfc8b1", checked := Try.checked }
namespace Rows
def none {H : Type} : Left H := { results := [], args := [] }

/-- 'chattellaw06.LifeKnows': WHATEVER THE INPUT: true; the input reads as it did. -/
def lifeKnowsSpec : ChangeSpec := { name := "lifeKnows", fn := fun _ => fun
  | [d1, d2] => { results := [.lit (.bool true)], args := [d1, d2] }
  | _ => none }
def lifeKnowsRow : OpenClaim := { program := "ythpfblimfaefhaa", sum := "6417376bb243943919a92158033f36e309cdfd4bf6c450d35b5f767f75dfc8b1", func := "chattel/chattellaw06.LifeKnows", spec := "lifeKnows", apart := false }
def LifeKnowsSaid : Prop := lifeKnowsRow.holds Try.pinned (OpenSpec.ofChange lifeKnowsSpec)

/-- ITS FALSE NEIGHBOUR: 'it returns false'. Refute it at one input. -/
def lifeKnowsWrong : ChangeSpec := { name := "lifeKnows", fn := fun _ => fun
  | [d1, d2] => { results := [.lit (.bool false)], args := [d1, d2] }
  | _ => none }
def LifeKnowsWrongFalsely : Prop := lifeKnowsRow.holds Try.pinned (OpenSpec.ofChange lifeKnowsWrong)

/-- 'chattellaw06.LifeOrders': WHATEVER THE INPUT: true; the input reads as it did. -/
def lifeOrdersSpec : ChangeSpec := { name := "lifeOrders", fn := fun _ => fun
  | [d1, d2, d3] => { results := [.lit (.bool true)], args := [d1, d2, d3] }
  | _ => none }
def lifeOrdersRow : OpenClaim := { program := "ythpfblimfaefhaa", sum := "6417376bb243943919a92158033f36e309cdfd4bf6c450d35b5f767f75dfc8b1", func := "chattel/chattellaw06.LifeOrders", spec := "lifeOrders", apart := false }
def LifeOrdersSaid : Prop := lifeOrdersRow.holds Try.pinned (OpenSpec.ofChange lifeOrdersSpec)

/-- ITS FALSE NEIGHBOUR: 'it returns false'. Refute it at one input. -/
def lifeOrdersWrong : ChangeSpec := { name := "lifeOrders", fn := fun _ => fun
  | [d1, d2, d3] => { results := [.lit (.bool false)], args := [d1, d2, d3] }
  | _ => none }
def LifeOrdersWrongFalsely : Prop := lifeOrdersRow.holds Try.pinned (OpenSpec.ofChange lifeOrdersWrong)

/-- 'chattellaw06.LifeMore': WHATEVER THE INPUT: true; the input reads as it did. -/
def lifeMoreSpec : ChangeSpec := { name := "lifeMore", fn := fun _ => fun
  | [d1, d2, d3] => { results := [.lit (.bool true)], args := [d1, d2, d3] }
  | _ => none }
def lifeMoreRow : OpenClaim := { program := "ythpfblimfaefhaa", sum := "6417376bb243943919a92158033f36e309cdfd4bf6c450d35b5f767f75dfc8b1", func := "chattel/chattellaw06.LifeMore", spec := "lifeMore", apart := false }
def LifeMoreSaid : Prop := lifeMoreRow.holds Try.pinned (OpenSpec.ofChange lifeMoreSpec)

/-- ITS FALSE NEIGHBOUR: 'it returns false'. Refute it at one input. -/
def lifeMoreWrong : ChangeSpec := { name := "lifeMore", fn := fun _ => fun
  | [d1, d2, d3] => { results := [.lit (.bool false)], args := [d1, d2, d3] }
  | _ => none }
def LifeMoreWrongFalsely : Prop := lifeMoreRow.holds Try.pinned (OpenSpec.ofChange lifeMoreWrong)

/-- 'chattellaw06.LifeTells': WHATEVER THE INPUT: true; the input reads as it did. -/
def lifeTellsSpec : ChangeSpec := { name := "lifeTells", fn := fun _ => fun
  | [d1, d2, d3] => { results := [.lit (.bool true)], args := [d1, d2, d3] }
  | _ => none }
def lifeTellsRow : OpenClaim := { program := "ythpfblimfaefhaa", sum := "6417376bb243943919a92158033f36e309cdfd4bf6c450d35b5f767f75dfc8b1", func := "chattel/chattellaw06.LifeTells", spec := "lifeTells", apart := false }
def LifeTellsSaid : Prop := lifeTellsRow.holds Try.pinned (OpenSpec.ofChange lifeTellsSpec)

/-- ITS FALSE NEIGHBOUR: 'it returns false'. Refute it at one input. -/
def lifeTellsWrong : ChangeSpec := { name := "lifeTells", fn := fun _ => fun
  | [d1, d2, d3] => { results := [.lit (.bool false)], args := [d1, d2, d3] }
  | _ => none }
def LifeTellsWrongFalsely : Prop := lifeTellsRow.holds Try.pinned (OpenSpec.ofChange lifeTellsWrong)

/-- 'chattellaw06.LifeTurns': WHATEVER THE INPUT: true; the input reads as it did. -/
def lifeTurnsSpec : ChangeSpec := { name := "lifeTurns", fn := fun _ => fun
  | [d1, d2, d3] => { results := [.lit (.bool true)], args := [d1, d2, d3] }
  | _ => none }
def lifeTurnsRow : OpenClaim := { program := "ythpfblimfaefhaa", sum := "6417376bb243943919a92158033f36e309cdfd4bf6c450d35b5f767f75dfc8b1", func := "chattel/chattellaw06.LifeTurns", spec := "lifeTurns", apart := false }
def LifeTurnsSaid : Prop := lifeTurnsRow.holds Try.pinned (OpenSpec.ofChange lifeTurnsSpec)

/-- ITS FALSE NEIGHBOUR: 'it returns false'. Refute it at one input. -/
def lifeTurnsWrong : ChangeSpec := { name := "lifeTurns", fn := fun _ => fun
  | [d1, d2, d3] => { results := [.lit (.bool false)], args := [d1, d2, d3] }
  | _ => none }
def LifeTurnsWrongFalsely : Prop := lifeTurnsRow.holds Try.pinned (OpenSpec.ofChange lifeTurnsWrong)

/-- 'chattellaw06.LifeNils': WHATEVER THE INPUT: true; the input reads as it did. -/
def lifeNilsSpec : ChangeSpec := { name := "lifeNils", fn := fun _ => fun
  | [d1, d2, d3] => { results := [.lit (.bool true)], args := [d1, d2, d3] }
  | _ => none }
def lifeNilsRow : OpenClaim := { program := "ythpfblimfaefhaa", sum := "6417376bb243943919a92158033f36e309cdfd4bf6c450d35b5f767f75dfc8b1", func := "chattel/chattellaw06.LifeNils", spec := "lifeNils", apart := false }
def LifeNilsSaid : Prop := lifeNilsRow.holds Try.pinned (OpenSpec.ofChange lifeNilsSpec)

/-- ITS FALSE NEIGHBOUR: 'it returns false'. Refute it at one input. -/
def lifeNilsWrong : ChangeSpec := { name := "lifeNils", fn := fun _ => fun
  | [d1, d2, d3] => { results := [.lit (.bool false)], args := [d1, d2, d3] }
  | _ => none }
def LifeNilsWrongFalsely : Prop := lifeNilsRow.holds Try.pinned (OpenSpec.ofChange lifeNilsWrong)

/- THE SECOND FORM. 'bulk': how many values and letters a reading holds, each counted each time it is reached (what is shared counts as often as it is met; a slice's spare places count too). A statement '..UptoSaid' is the law's where the arguments, and the package variables that the reading takes, are together of bulk at most 1048576: NARROWER than '..Said'. Prove '..Said' where nothing that the law and all that it calls make is longer than what came in: it says more and counts as full. Else prove '..UptoSaid'. A law counts once. -/
mutual
def uptoBulk {H : Type} : DataW H → Nat
  | .lit (.string bytes) => bytes.length + 1
  | .lit _ => 1
  | .nil => 1
  | .ptr d => uptoBulk d + 1
  | .slice elems spare => uptoBulkAll elems + uptoBulkAll spare + 1
  | .agg parts => uptoBulkAll parts + 1
  | .iface _ d => uptoBulk d + 1
  | .map entries => uptoBulkEntries entries + 1
  | .held _ => 1
def uptoBulkAll {H : Type} : List (DataW H) → Nat
  | [] => 0
  | d :: r => uptoBulk d + uptoBulkAll r
def uptoBulkEntries {H : Type} : List (Lit × DataW H) → Nat
  | [] => 0
  | x :: r => uptoBulkEntry x + uptoBulkEntries r
def uptoBulkEntry {H : Type} : Lit × DataW H → Nat
  | (.string bytes, d) => bytes.length + uptoBulk d + 1
  | (_, d) => uptoBulk d + 1
 end
def uptoSmall : (H : Type) → List (DataW H) → Bool := fun _ ds => decide (uptoBulkAll ds ≤ 1048576)
def OpenSpec.upto (s : _root_.Go.ChangeSpec) : _root_.Go.OpenSpec := { _root_.Go.OpenSpec.ofChange s with cond := some uptoSmall }

/-- 'chattellaw06.LifeKnows', WHERE WHAT IT READS IS OF BULK AT MOST 1048576: true; the input reads as it did. -/
def lifeKnowsUptoRow : OpenClaim := { program := "ythpfblimfaefhaa", sum := "6417376bb243943919a92158033f36e309cdfd4bf6c450d35b5f767f75dfc8b1", func := "chattel/chattellaw06.LifeKnows", spec := "lifeKnows", apart := false, narrowed := true }
def LifeKnowsUptoSaid : Prop := lifeKnowsUptoRow.holds Try.pinned (OpenSpec.upto lifeKnowsSpec)

/-- 'chattellaw06.LifeOrders', WHERE WHAT IT READS IS OF BULK AT MOST 1048576: true; the input reads as it did. -/
def lifeOrdersUptoRow : OpenClaim := { program := "ythpfblimfaefhaa", sum := "6417376bb243943919a92158033f36e309cdfd4bf6c450d35b5f767f75dfc8b1", func := "chattel/chattellaw06.LifeOrders", spec := "lifeOrders", apart := false, narrowed := true }
def LifeOrdersUptoSaid : Prop := lifeOrdersUptoRow.holds Try.pinned (OpenSpec.upto lifeOrdersSpec)

/-- 'chattellaw06.LifeMore', WHERE WHAT IT READS IS OF BULK AT MOST 1048576: true; the input reads as it did. -/
def lifeMoreUptoRow : OpenClaim := { program := "ythpfblimfaefhaa", sum := "6417376bb243943919a92158033f36e309cdfd4bf6c450d35b5f767f75dfc8b1", func := "chattel/chattellaw06.LifeMore", spec := "lifeMore", apart := false, narrowed := true }
def LifeMoreUptoSaid : Prop := lifeMoreUptoRow.holds Try.pinned (OpenSpec.upto lifeMoreSpec)

/-- 'chattellaw06.LifeTells', WHERE WHAT IT READS IS OF BULK AT MOST 1048576: true; the input reads as it did. -/
def lifeTellsUptoRow : OpenClaim := { program := "ythpfblimfaefhaa", sum := "6417376bb243943919a92158033f36e309cdfd4bf6c450d35b5f767f75dfc8b1", func := "chattel/chattellaw06.LifeTells", spec := "lifeTells", apart := false, narrowed := true }
def LifeTellsUptoSaid : Prop := lifeTellsUptoRow.holds Try.pinned (OpenSpec.upto lifeTellsSpec)

/-- 'chattellaw06.LifeTurns', WHERE WHAT IT READS IS OF BULK AT MOST 1048576: true; the input reads as it did. -/
def lifeTurnsUptoRow : OpenClaim := { program := "ythpfblimfaefhaa", sum := "6417376bb243943919a92158033f36e309cdfd4bf6c450d35b5f767f75dfc8b1", func := "chattel/chattellaw06.LifeTurns", spec := "lifeTurns", apart := false, narrowed := true }
def LifeTurnsUptoSaid : Prop := lifeTurnsUptoRow.holds Try.pinned (OpenSpec.upto lifeTurnsSpec)

/-- 'chattellaw06.LifeNils', WHERE WHAT IT READS IS OF BULK AT MOST 1048576: true; the input reads as it did. -/
def lifeNilsUptoRow : OpenClaim := { program := "ythpfblimfaefhaa", sum := "6417376bb243943919a92158033f36e309cdfd4bf6c450d35b5f767f75dfc8b1", func := "chattel/chattellaw06.LifeNils", spec := "lifeNils", apart := false, narrowed := true }
def LifeNilsUptoSaid : Prop := lifeNilsUptoRow.holds Try.pinned (OpenSpec.upto lifeNilsSpec)

end Rows
end Go.Proofs.Ythpfblimfaefhaa

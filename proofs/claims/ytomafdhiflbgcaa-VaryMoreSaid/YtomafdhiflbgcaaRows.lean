/-
  NARROWER THAN 'FOR EVERY INPUT', by the rows' own cells (each row's printed sentence says how): VaryMore: loops.
  DERIVED. THE GIVEN ROWS OF THIS SEAT. 3 by the template 'for every input the law returns true; each argument reads behind the call as it read before'; 0 by the template 'total and deterministic' (their statements: YtomafdhiflbgcaaTotals.lean).
  GIVEN WITH THE SEED: the statements are not yours to turn. If you find one false, say at which input.
  Laid BY PROGRAM, IN A SANDBOX (cutbox-rows.mjs): the forced cells as the released guide's own fill.sh prints them over the translation 560ab761a24e887d… (all of the seat's roots in one cut). By AI agents, Wed Nov 11 2026. No macro, syntax, notation, axiom, sorry.
-/
import Derived.Test.YtomafdhiflbgcaaChecked
import GoSem.Claim
import GoSem.ClaimJoined
import GoSem.ClaimMapViews
import Derived.JoinedTies
import Derived.KernelRfl
namespace Go.Proofs.Ytomafdhiflbgcaa
/- THE CELL 'sum', in the pinned program and in every row, IS THE sha256 OF THE DUMP (.gsa) THAT YtomafdhiflbgcaaProg.lean LOADS. Nothing in Lean hashes anything: it is a label: what it is worth is what the hold of that sum in a sandbox is worth. -/
noncomputable def Try.pinned : Pinned := { name := "ytomafdhiflbgcaa", sum := "560ab761a24e887dc3ce07f9ed8e97945ecfde4f8458286bba372ece34c56756", checked := Try.checked }
namespace Rows
def none {H : Type} : Left H := { results := [], args := [] }

/-- 'chattellaw08.VaryThrough': WHATEVER THE INPUT: true; the input reads as it did. -/
def varyThroughSpec : ChangeSpec := { name := "varyThrough", fn := fun _ => fun
  | [d1, d2, d3] => { results := [.lit (.bool true)], args := [d1, d2, d3] }
  | _ => none }
def varyThroughRow : OpenClaim := { program := "ytomafdhiflbgcaa", sum := "560ab761a24e887dc3ce07f9ed8e97945ecfde4f8458286bba372ece34c56756", func := "chattel/chattellaw08.VaryThrough", spec := "varyThrough", unfollowed := true, recurses := true, apart := false }
def VaryThroughSaid : Prop := varyThroughRow.holds Try.pinned (OpenSpec.ofChange varyThroughSpec)

/-- ITS FALSE NEIGHBOUR: 'it returns false'. Refute it at one input. -/
def varyThroughWrong : ChangeSpec := { name := "varyThrough", fn := fun _ => fun
  | [d1, d2, d3] => { results := [.lit (.bool false)], args := [d1, d2, d3] }
  | _ => none }
def VaryThroughWrongFalsely : Prop := varyThroughRow.holds Try.pinned (OpenSpec.ofChange varyThroughWrong)

/-- 'chattellaw08.VaryOf': WHATEVER THE INPUT: true; the input reads as it did. -/
def varyOfSpec : ChangeSpec := { name := "varyOf", fn := fun _ => fun
  | [d1, d2, d3] => { results := [.lit (.bool true)], args := [d1, d2, d3] }
  | _ => none }
def varyOfRow : OpenClaim := { program := "ytomafdhiflbgcaa", sum := "560ab761a24e887dc3ce07f9ed8e97945ecfde4f8458286bba372ece34c56756", func := "chattel/chattellaw08.VaryOf", spec := "varyOf", unfollowed := true, recurses := true, apart := false }
def VaryOfSaid : Prop := varyOfRow.holds Try.pinned (OpenSpec.ofChange varyOfSpec)

/-- ITS FALSE NEIGHBOUR: 'it returns false'. Refute it at one input. -/
def varyOfWrong : ChangeSpec := { name := "varyOf", fn := fun _ => fun
  | [d1, d2, d3] => { results := [.lit (.bool false)], args := [d1, d2, d3] }
  | _ => none }
def VaryOfWrongFalsely : Prop := varyOfRow.holds Try.pinned (OpenSpec.ofChange varyOfWrong)

/-- 'chattellaw08.VaryMore': WHATEVER THE INPUT: true; the input reads as it did. -/
def varyMoreSpec : ChangeSpec := { name := "varyMore", fn := fun _ => fun
  | [d1, d2, d3] => { results := [.lit (.bool true)], args := [d1, d2, d3] }
  | _ => none }
def varyMoreRow : OpenClaim := { program := "ytomafdhiflbgcaa", sum := "560ab761a24e887dc3ce07f9ed8e97945ecfde4f8458286bba372ece34c56756", func := "chattel/chattellaw08.VaryMore", spec := "varyMore", unfollowed := true, recurses := true, loops := true, apart := false }
def VaryMoreSaid : Prop := varyMoreRow.holds Try.pinned (OpenSpec.ofChange varyMoreSpec)

/-- ITS FALSE NEIGHBOUR: 'it returns false'. Refute it at one input. -/
def varyMoreWrong : ChangeSpec := { name := "varyMore", fn := fun _ => fun
  | [d1, d2, d3] => { results := [.lit (.bool false)], args := [d1, d2, d3] }
  | _ => none }
def VaryMoreWrongFalsely : Prop := varyMoreRow.holds Try.pinned (OpenSpec.ofChange varyMoreWrong)

/- THE SECOND FORM. 'bulk': how many values and letters a reading holds, each counted each time it is reached (what is shared counts as often as it is met; a slice's spare places count too). A statement '..UptoSaid' is the law's where the arguments, and the package variables that the reading takes, are together of bulk at most 1048576: NARROWER than '..Said'. Prove '..Said' where nothing that the law and all that it calls make is longer than what came in: it says more and counts as full. Else prove '..UptoSaid'. A law counts once. -/
mutual
def uptoBulk {H : Type} : DataW H → Nat
  | .lit (.string bytes) => bytes.length + 1
  | .lit _ => 1
  | .nil => 1
  | .ptr d => uptoBulk d + 1
  | .slice elems spare => uptoBulkAll elems + uptoBulkAll spare + 1
  | .agg parts => uptoBulkAll parts + 1
  | .iface _ d => uptoBulk d + 1
  | .map entries => uptoBulkEntries entries + 1
  | .held _ => 1
def uptoBulkAll {H : Type} : List (DataW H) → Nat
  | [] => 0
  | d :: r => uptoBulk d + uptoBulkAll r
def uptoBulkEntries {H : Type} : List (Lit × DataW H) → Nat
  | [] => 0
  | x :: r => uptoBulkEntry x + uptoBulkEntries r
def uptoBulkEntry {H : Type} : Lit × DataW H → Nat
  | (.string bytes, d) => bytes.length + uptoBulk d + 1
  | (_, d) => uptoBulk d + 1
 end
def uptoSmall : (H : Type) → List (DataW H) → Bool := fun _ ds => decide (uptoBulkAll ds ≤ 1048576)
def OpenSpec.upto (s : _root_.Go.ChangeSpec) : _root_.Go.OpenSpec := { _root_.Go.OpenSpec.ofChange s with cond := some uptoSmall }

/-- 'chattellaw08.VaryThrough', WHERE WHAT IT READS IS OF BULK AT MOST 1048576: true; the input reads as it did. -/
def varyThroughUptoRow : OpenClaim := { program := "ytomafdhiflbgcaa", sum := "560ab761a24e887dc3ce07f9ed8e97945ecfde4f8458286bba372ece34c56756", func := "chattel/chattellaw08.VaryThrough", spec := "varyThrough", unfollowed := true, recurses := true, apart := false, narrowed := true }
def VaryThroughUptoSaid : Prop := varyThroughUptoRow.holds Try.pinned (OpenSpec.upto varyThroughSpec)

/-- 'chattellaw08.VaryOf', WHERE WHAT IT READS IS OF BULK AT MOST 1048576: true; the input reads as it did. -/
def varyOfUptoRow : OpenClaim := { program := "ytomafdhiflbgcaa", sum := "560ab761a24e887dc3ce07f9ed8e97945ecfde4f8458286bba372ece34c56756", func := "chattel/chattellaw08.VaryOf", spec := "varyOf", unfollowed := true, recurses := true, apart := false, narrowed := true }
def VaryOfUptoSaid : Prop := varyOfUptoRow.holds Try.pinned (OpenSpec.upto varyOfSpec)

/-- 'chattellaw08.VaryMore', WHERE WHAT IT READS IS OF BULK AT MOST 1048576: true; the input reads as it did. -/
def varyMoreUptoRow : OpenClaim := { program := "ytomafdhiflbgcaa", sum := "560ab761a24e887dc3ce07f9ed8e97945ecfde4f8458286bba372ece34c56756", func := "chattel/chattellaw08.VaryMore", spec := "varyMore", unfollowed := true, recurses := true, loops := true, apart := false, narrowed := true }
def VaryMoreUptoSaid : Prop := varyMoreUptoRow.holds Try.pinned (OpenSpec.upto varyMoreSpec)

end Rows
end Go.Proofs.Ytomafdhiflbgcaa

/-
  No cell of these rows narrows 'for every input' (looked for: loops, veiled, ifaces, maps, wideKeys, modest, calm, conditions, laid).
  DERIVED. THE GIVEN ROWS OF THIS SEAT. 6 by the template 'for every input the law returns true; each argument reads behind the call as it read before'; 0 by the template 'total and deterministic' (their statements: YtglhkodebehdbaaTotals.lean).
  GIVEN WITH THE SEED: the statements are not yours to turn. If you find one false, say at which input.
  Laid BY PROGRAM, IN A SANDBOX (cutbox-rows.mjs): the forced cells as the released guide's own fill.sh prints them over the translation c748e19a8aa49877… (all of the seat's roots in one cut). By AI agents, Wed Nov 11 2026. No macro, syntax, notation, axiom, sorry.
-/
import Derived.Test.YtglhkodebehdbaaChecked
import GoSem.Claim
import GoSem.ClaimJoined
import GoSem.ClaimMapViews
import Derived.JoinedTies
import Derived.KernelRfl
namespace Go.Proofs.Ytglhkodebehdbaa
/- THE CELL 'sum', in the pinned program and in every row, IS THE sha256 OF THE DUMP (.gsa) THAT YtglhkodebehdbaaProg.lean LOADS. Nothing in Lean hashes anything: it is a label: what it is worth is what the hold of that sum in a sandbox is worth. -/
noncomputable def Try.pinned : Pinned := { name := "ytglhkodebehdbaa", sum := "c748e19a8aa4987721a12fd043ce5d14060b6195f78ce30bb42ac6dbc6c174d0", checked := Try.checked }
namespace Rows
def none {H : Type} : Left H := { results := [], args := [] }

/-- 'chattellaw15.FlowWays': WHATEVER THE INPUT: true; the input reads as it did. -/
def flowWaysSpec : ChangeSpec := { name := "flowWays", fn := fun _ => fun
  | [d1, d2] => { results := [.lit (.bool true)], args := [d1, d2] }
  | _ => none }
def flowWaysRow : OpenClaim := { program := "ytglhkodebehdbaa", sum := "c748e19a8aa4987721a12fd043ce5d14060b6195f78ce30bb42ac6dbc6c174d0", func := "chattel/chattellaw15.FlowWays", spec := "flowWays", recurses := true, apart := false }
def FlowWaysSaid : Prop := flowWaysRow.holds Try.pinned (OpenSpec.ofChange flowWaysSpec)

/-- ITS FALSE NEIGHBOUR: 'it returns false'. Refute it at one input. -/
def flowWaysWrong : ChangeSpec := { name := "flowWays", fn := fun _ => fun
  | [d1, d2] => { results := [.lit (.bool false)], args := [d1, d2] }
  | _ => none }
def FlowWaysWrongFalsely : Prop := flowWaysRow.holds Try.pinned (OpenSpec.ofChange flowWaysWrong)

/-- 'chattellaw15.FlowMore': WHATEVER THE INPUT: true; the input reads as it did. -/
def flowMoreSpec : ChangeSpec := { name := "flowMore", fn := fun _ => fun
  | [d1, d2] => { results := [.lit (.bool true)], args := [d1, d2] }
  | _ => none }
def flowMoreRow : OpenClaim := { program := "ytglhkodebehdbaa", sum := "c748e19a8aa4987721a12fd043ce5d14060b6195f78ce30bb42ac6dbc6c174d0", func := "chattel/chattellaw15.FlowMore", spec := "flowMore", apart := false }
def FlowMoreSaid : Prop := flowMoreRow.holds Try.pinned (OpenSpec.ofChange flowMoreSpec)

/-- ITS FALSE NEIGHBOUR: 'it returns false'. Refute it at one input. -/
def flowMoreWrong : ChangeSpec := { name := "flowMore", fn := fun _ => fun
  | [d1, d2] => { results := [.lit (.bool false)], args := [d1, d2] }
  | _ => none }
def FlowMoreWrongFalsely : Prop := flowMoreRow.holds Try.pinned (OpenSpec.ofChange flowMoreWrong)

/-- 'chattellaw15.FlowForward': WHATEVER THE INPUT: true; the input reads as it did. -/
def flowForwardSpec : ChangeSpec := { name := "flowForward", fn := fun _ => fun
  | [d] => { results := [.lit (.bool true)], args := [d] }
  | _ => none }
def flowForwardRow : OpenClaim := { program := "ytglhkodebehdbaa", sum := "c748e19a8aa4987721a12fd043ce5d14060b6195f78ce30bb42ac6dbc6c174d0", func := "chattel/chattellaw15.FlowForward", spec := "flowForward", unfollowed := true, recurses := true, apart := false }
def FlowForwardSaid : Prop := flowForwardRow.holds Try.pinned (OpenSpec.ofChange flowForwardSpec)

/-- ITS FALSE NEIGHBOUR: 'it returns false'. Refute it at one input. -/
def flowForwardWrong : ChangeSpec := { name := "flowForward", fn := fun _ => fun
  | [d] => { results := [.lit (.bool false)], args := [d] }
  | _ => none }
def FlowForwardWrongFalsely : Prop := flowForwardRow.holds Try.pinned (OpenSpec.ofChange flowForwardWrong)

/-- 'chattellaw15.FlowApart': WHATEVER THE INPUT: true; the input reads as it did. -/
def flowApartSpec : ChangeSpec := { name := "flowApart", fn := fun _ => fun
  | [d1, d2] => { results := [.lit (.bool true)], args := [d1, d2] }
  | _ => none }
def flowApartRow : OpenClaim := { program := "ytglhkodebehdbaa", sum := "c748e19a8aa4987721a12fd043ce5d14060b6195f78ce30bb42ac6dbc6c174d0", func := "chattel/chattellaw15.FlowApart", spec := "flowApart", unfollowed := true, recurses := true, apart := false }
def FlowApartSaid : Prop := flowApartRow.holds Try.pinned (OpenSpec.ofChange flowApartSpec)

/-- ITS FALSE NEIGHBOUR: 'it returns false'. Refute it at one input. -/
def flowApartWrong : ChangeSpec := { name := "flowApart", fn := fun _ => fun
  | [d1, d2] => { results := [.lit (.bool false)], args := [d1, d2] }
  | _ => none }
def FlowApartWrongFalsely : Prop := flowApartRow.holds Try.pinned (OpenSpec.ofChange flowApartWrong)

/-- 'chattellaw15.FlowBackward': WHATEVER THE INPUT: true; the input reads as it did. -/
def flowBackwardSpec : ChangeSpec := { name := "flowBackward", fn := fun _ => fun
  | [d] => { results := [.lit (.bool true)], args := [d] }
  | _ => none }
def flowBackwardRow : OpenClaim := { program := "ytglhkodebehdbaa", sum := "c748e19a8aa4987721a12fd043ce5d14060b6195f78ce30bb42ac6dbc6c174d0", func := "chattel/chattellaw15.FlowBackward", spec := "flowBackward", unfollowed := true, recurses := true, apart := false }
def FlowBackwardSaid : Prop := flowBackwardRow.holds Try.pinned (OpenSpec.ofChange flowBackwardSpec)

/-- ITS FALSE NEIGHBOUR: 'it returns false'. Refute it at one input. -/
def flowBackwardWrong : ChangeSpec := { name := "flowBackward", fn := fun _ => fun
  | [d] => { results := [.lit (.bool false)], args := [d] }
  | _ => none }
def FlowBackwardWrongFalsely : Prop := flowBackwardRow.holds Try.pinned (OpenSpec.ofChange flowBackwardWrong)

/-- 'chattellaw15.FlowNils': WHATEVER THE INPUT: true; the input reads as it did. -/
def flowNilsSpec : ChangeSpec := { name := "flowNils", fn := fun _ => fun
  | [d1, d2, d3] => { results := [.lit (.bool true)], args := [d1, d2, d3] }
  | _ => none }
def flowNilsRow : OpenClaim := { program := "ytglhkodebehdbaa", sum := "c748e19a8aa4987721a12fd043ce5d14060b6195f78ce30bb42ac6dbc6c174d0", func := "chattel/chattellaw15.FlowNils", spec := "flowNils", apart := false }
def FlowNilsSaid : Prop := flowNilsRow.holds Try.pinned (OpenSpec.ofChange flowNilsSpec)

/-- ITS FALSE NEIGHBOUR: 'it returns false'. Refute it at one input. -/
def flowNilsWrong : ChangeSpec := { name := "flowNils", fn := fun _ => fun
  | [d1, d2, d3] => { results := [.lit (.bool false)], args := [d1, d2, d3] }
  | _ => none }
def FlowNilsWrongFalsely : Prop := flowNilsRow.holds Try.pinned (OpenSpec.ofChange flowNilsWrong)

/- THE SECOND FORM. 'bulk': how many values and letters a reading holds, each counted each time it is reached (what is shared counts as often as it is met; a slice's spare places count too). A statement '..UptoSaid' is the law's where the arguments, and the package variables that the reading takes, are together of bulk at most 1048576: NARROWER than '..Said'. Prove '..Said' where nothing that the law and all that it calls make is longer than what came in: it says more and counts as full. Else prove '..UptoSaid'. A law counts once. -/
mutual
def uptoBulk {H : Type} : DataW H → Nat
  | .lit (.string bytes) => bytes.length + 1
  | .lit _ => 1
  | .nil => 1
  | .ptr d => uptoBulk d + 1
  | .slice elems spare => uptoBulkAll elems + uptoBulkAll spare + 1
  | .agg parts => uptoBulkAll parts + 1
  | .iface _ d => uptoBulk d + 1
  | .map entries => uptoBulkEntries entries + 1
  | .held _ => 1
def uptoBulkAll {H : Type} : List (DataW H) → Nat
  | [] => 0
  | d :: r => uptoBulk d + uptoBulkAll r
def uptoBulkEntries {H : Type} : List (Lit × DataW H) → Nat
  | [] => 0
  | x :: r => uptoBulkEntry x + uptoBulkEntries r
def uptoBulkEntry {H : Type} : Lit × DataW H → Nat
  | (.string bytes, d) => bytes.length + uptoBulk d + 1
  | (_, d) => uptoBulk d + 1
 end
def uptoSmall : (H : Type) → List (DataW H) → Bool := fun _ ds => decide (uptoBulkAll ds ≤ 1048576)
def OpenSpec.upto (s : _root_.Go.ChangeSpec) : _root_.Go.OpenSpec := { _root_.Go.OpenSpec.ofChange s with cond := some uptoSmall }

/-- 'chattellaw15.FlowWays', WHERE WHAT IT READS IS OF BULK AT MOST 1048576: true; the input reads as it did. -/
def flowWaysUptoRow : OpenClaim := { program := "ytglhkodebehdbaa", sum := "c748e19a8aa4987721a12fd043ce5d14060b6195f78ce30bb42ac6dbc6c174d0", func := "chattel/chattellaw15.FlowWays", spec := "flowWays", recurses := true, apart := false, narrowed := true }
def FlowWaysUptoSaid : Prop := flowWaysUptoRow.holds Try.pinned (OpenSpec.upto flowWaysSpec)

/-- 'chattellaw15.FlowMore', WHERE WHAT IT READS IS OF BULK AT MOST 1048576: true; the input reads as it did. -/
def flowMoreUptoRow : OpenClaim := { program := "ytglhkodebehdbaa", sum := "c748e19a8aa4987721a12fd043ce5d14060b6195f78ce30bb42ac6dbc6c174d0", func := "chattel/chattellaw15.FlowMore", spec := "flowMore", apart := false, narrowed := true }
def FlowMoreUptoSaid : Prop := flowMoreUptoRow.holds Try.pinned (OpenSpec.upto flowMoreSpec)

/-- 'chattellaw15.FlowForward', WHERE WHAT IT READS IS OF BULK AT MOST 1048576: true; the input reads as it did. -/
def flowForwardUptoRow : OpenClaim := { program := "ytglhkodebehdbaa", sum := "c748e19a8aa4987721a12fd043ce5d14060b6195f78ce30bb42ac6dbc6c174d0", func := "chattel/chattellaw15.FlowForward", spec := "flowForward", unfollowed := true, recurses := true, apart := false, narrowed := true }
def FlowForwardUptoSaid : Prop := flowForwardUptoRow.holds Try.pinned (OpenSpec.upto flowForwardSpec)

/-- 'chattellaw15.FlowApart', WHERE WHAT IT READS IS OF BULK AT MOST 1048576: true; the input reads as it did. -/
def flowApartUptoRow : OpenClaim := { program := "ytglhkodebehdbaa", sum := "c748e19a8aa4987721a12fd043ce5d14060b6195f78ce30bb42ac6dbc6c174d0", func := "chattel/chattellaw15.FlowApart", spec := "flowApart", unfollowed := true, recurses := true, apart := false, narrowed := true }
def FlowApartUptoSaid : Prop := flowApartUptoRow.holds Try.pinned (OpenSpec.upto flowApartSpec)

/-- 'chattellaw15.FlowBackward', WHERE WHAT IT READS IS OF BULK AT MOST 1048576: true; the input reads as it did. -/
def flowBackwardUptoRow : OpenClaim := { program := "ytglhkodebehdbaa", sum := "c748e19a8aa4987721a12fd043ce5d14060b6195f78ce30bb42ac6dbc6c174d0", func := "chattel/chattellaw15.FlowBackward", spec := "flowBackward", unfollowed := true, recurses := true, apart := false, narrowed := true }
def FlowBackwardUptoSaid : Prop := flowBackwardUptoRow.holds Try.pinned (OpenSpec.upto flowBackwardSpec)

/-- 'chattellaw15.FlowNils', WHERE WHAT IT READS IS OF BULK AT MOST 1048576: true; the input reads as it did. -/
def flowNilsUptoRow : OpenClaim := { program := "ytglhkodebehdbaa", sum := "c748e19a8aa4987721a12fd043ce5d14060b6195f78ce30bb42ac6dbc6c174d0", func := "chattel/chattellaw15.FlowNils", spec := "flowNils", apart := false, narrowed := true }
def FlowNilsUptoSaid : Prop := flowNilsUptoRow.holds Try.pinned (OpenSpec.upto flowNilsSpec)

end Rows
end Go.Proofs.Ytglhkodebehdbaa

/-
  NARROWER THAN 'FOR EVERY INPUT', by the rows' own cells (each row's printed sentence says how): HighTests: loops · HighHolds: loops · HighNoMore: loops · HighSelf: loops · HighThrough: loops.
  DERIVED. THE GIVEN ROWS OF THIS SEAT. 5 by the template 'for every input the law returns true; each argument reads behind the call as it read before'; 0 by the template 'total and deterministic' (their statements: YteofligmdngdgaaTotals.lean).
  GIVEN WITH THE SEED: the statements are not yours to turn. If you find one false, say at which input.
  Laid BY PROGRAM, IN A SANDBOX (cutbox-rows.mjs): the forced cells as the released guide's own fill.sh prints them over the translation b1223774494b354d… (all of the seat's roots in one cut). By AI agents, Wed Nov 11 2026. No macro, syntax, notation, axiom, sorry.
-/
import Derived.Test.YteofligmdngdgaaChecked
import GoSem.Claim
import GoSem.ClaimJoined
import GoSem.ClaimMapViews
import Derived.JoinedTies
import Derived.KernelRfl
namespace Go.Proofs.Yteofligmdngdgaa
/- THE CELL 'sum', in the pinned program and in every row, IS THE sha256 OF THE DUMP (.gsa) THAT YteofligmdngdgaaProg.lean LOADS. Nothing in Lean hashes anything: it is a label: what it is worth is what the hold of that sum in a sandbox is worth. -/
noncomputable def Try.pinned : Pinned := { name := "yteofligmdngdgaa", sum := "b1223774494b354d1c258ba21100d4f9b911dd06a78152a1b94f774eddd5a9c3", checked := Try.checked }
namespace Rows
def none {H : Type} : Left H := { results := [], args := [] }

/-- 'chattellaw11.HighTests': WHATEVER THE INPUT: true; the input reads as it did. -/
def highTestsSpec : ChangeSpec := { name := "highTests", fn := fun _ => fun
  | [d] => { results := [.lit (.bool true)], args := [d] }
  | _ => none }
def highTestsRow : OpenClaim := { program := "yteofligmdngdgaa", sum := "b1223774494b354d1c258ba21100d4f9b911dd06a78152a1b94f774eddd5a9c3", func := "chattel/chattellaw11.HighTests", spec := "highTests", unfollowed := true, recurses := true, loops := true, apart := false }
def HighTestsSaid : Prop := highTestsRow.holds Try.pinned (OpenSpec.ofChange highTestsSpec)

/-- ITS FALSE NEIGHBOUR: 'it returns false'. Refute it at one input. -/
def highTestsWrong : ChangeSpec := { name := "highTests", fn := fun _ => fun
  | [d] => { results := [.lit (.bool false)], args := [d] }
  | _ => none }
def HighTestsWrongFalsely : Prop := highTestsRow.holds Try.pinned (OpenSpec.ofChange highTestsWrong)

/-- 'chattellaw11.HighHolds': WHATEVER THE INPUT: true; the input reads as it did. -/
def highHoldsSpec : ChangeSpec := { name := "highHolds", fn := fun _ => fun
  | [d1, d2] => { results := [.lit (.bool true)], args := [d1, d2] }
  | _ => none }
def highHoldsRow : OpenClaim := { program := "yteofligmdngdgaa", sum := "b1223774494b354d1c258ba21100d4f9b911dd06a78152a1b94f774eddd5a9c3", func := "chattel/chattellaw11.HighHolds", spec := "highHolds", unfollowed := true, recurses := true, loops := true, apart := false }
def HighHoldsSaid : Prop := highHoldsRow.holds Try.pinned (OpenSpec.ofChange highHoldsSpec)

/-- ITS FALSE NEIGHBOUR: 'it returns false'. Refute it at one input. -/
def highHoldsWrong : ChangeSpec := { name := "highHolds", fn := fun _ => fun
  | [d1, d2] => { results := [.lit (.bool false)], args := [d1, d2] }
  | _ => none }
def HighHoldsWrongFalsely : Prop := highHoldsRow.holds Try.pinned (OpenSpec.ofChange highHoldsWrong)

/-- 'chattellaw11.HighNoMore': WHATEVER THE INPUT: true; the input reads as it did. -/
def highNoMoreSpec : ChangeSpec := { name := "highNoMore", fn := fun _ => fun
  | [d] => { results := [.lit (.bool true)], args := [d] }
  | _ => none }
def highNoMoreRow : OpenClaim := { program := "yteofligmdngdgaa", sum := "b1223774494b354d1c258ba21100d4f9b911dd06a78152a1b94f774eddd5a9c3", func := "chattel/chattellaw11.HighNoMore", spec := "highNoMore", unfollowed := true, recurses := true, loops := true, apart := false }
def HighNoMoreSaid : Prop := highNoMoreRow.holds Try.pinned (OpenSpec.ofChange highNoMoreSpec)

/-- ITS FALSE NEIGHBOUR: 'it returns false'. Refute it at one input. -/
def highNoMoreWrong : ChangeSpec := { name := "highNoMore", fn := fun _ => fun
  | [d] => { results := [.lit (.bool false)], args := [d] }
  | _ => none }
def HighNoMoreWrongFalsely : Prop := highNoMoreRow.holds Try.pinned (OpenSpec.ofChange highNoMoreWrong)

/-- 'chattellaw11.HighSelf': WHATEVER THE INPUT: true; the input reads as it did. -/
def highSelfSpec : ChangeSpec := { name := "highSelf", fn := fun _ => fun
  | [d] => { results := [.lit (.bool true)], args := [d] }
  | _ => none }
def highSelfRow : OpenClaim := { program := "yteofligmdngdgaa", sum := "b1223774494b354d1c258ba21100d4f9b911dd06a78152a1b94f774eddd5a9c3", func := "chattel/chattellaw11.HighSelf", spec := "highSelf", unfollowed := true, recurses := true, loops := true, apart := false }
def HighSelfSaid : Prop := highSelfRow.holds Try.pinned (OpenSpec.ofChange highSelfSpec)

/-- ITS FALSE NEIGHBOUR: 'it returns false'. Refute it at one input. -/
def highSelfWrong : ChangeSpec := { name := "highSelf", fn := fun _ => fun
  | [d] => { results := [.lit (.bool false)], args := [d] }
  | _ => none }
def HighSelfWrongFalsely : Prop := highSelfRow.holds Try.pinned (OpenSpec.ofChange highSelfWrong)

/-- 'chattellaw11.HighThrough': WHATEVER THE INPUT: true; the input reads as it did. -/
def highThroughSpec : ChangeSpec := { name := "highThrough", fn := fun _ => fun
  | [d1, d2, d3] => { results := [.lit (.bool true)], args := [d1, d2, d3] }
  | _ => none }
def highThroughRow : OpenClaim := { program := "yteofligmdngdgaa", sum := "b1223774494b354d1c258ba21100d4f9b911dd06a78152a1b94f774eddd5a9c3", func := "chattel/chattellaw11.HighThrough", spec := "highThrough", unfollowed := true, recurses := true, loops := true, apart := false }
def HighThroughSaid : Prop := highThroughRow.holds Try.pinned (OpenSpec.ofChange highThroughSpec)

/-- ITS FALSE NEIGHBOUR: 'it returns false'. Refute it at one input. -/
def highThroughWrong : ChangeSpec := { name := "highThrough", fn := fun _ => fun
  | [d1, d2, d3] => { results := [.lit (.bool false)], args := [d1, d2, d3] }
  | _ => none }
def HighThroughWrongFalsely : Prop := highThroughRow.holds Try.pinned (OpenSpec.ofChange highThroughWrong)

/- THE SECOND FORM. 'bulk': how many values and letters a reading holds, each counted each time it is reached (what is shared counts as often as it is met; a slice's spare places count too). A statement '..UptoSaid' is the law's where the arguments, and the package variables that the reading takes, are together of bulk at most 1048576: NARROWER than '..Said'. Prove '..Said' where nothing that the law and all that it calls make is longer than what came in: it says more and counts as full. Else prove '..UptoSaid'. A law counts once. -/
mutual
def uptoBulk {H : Type} : DataW H → Nat
  | .lit (.string bytes) => bytes.length + 1
  | .lit _ => 1
  | .nil => 1
  | .ptr d => uptoBulk d + 1
  | .slice elems spare => uptoBulkAll elems + uptoBulkAll spare + 1
  | .agg parts => uptoBulkAll parts + 1
  | .iface _ d => uptoBulk d + 1
  | .map entries => uptoBulkEntries entries + 1
  | .held _ => 1
def uptoBulkAll {H : Type} : List (DataW H) → Nat
  | [] => 0
  | d :: r => uptoBulk d + uptoBulkAll r
def uptoBulkEntries {H : Type} : List (Lit × DataW H) → Nat
  | [] => 0
  | x :: r => uptoBulkEntry x + uptoBulkEntries r
def uptoBulkEntry {H : Type} : Lit × DataW H → Nat
  | (.string bytes, d) => bytes.length + uptoBulk d + 1
  | (_, d) => uptoBulk d + 1
 end
def uptoSmall : (H : Type) → List (DataW H) → Bool := fun _ ds => decide (uptoBulkAll ds ≤ 1048576)
def OpenSpec.upto (s : _root_.Go.ChangeSpec) : _root_.Go.OpenSpec := { _root_.Go.OpenSpec.ofChange s with cond := some uptoSmall }

/-- 'chattellaw11.HighTests', WHERE WHAT IT READS IS OF BULK AT MOST 1048576: true; the input reads as it did. -/
def highTestsUptoRow : OpenClaim := { program := "yteofligmdngdgaa", sum := "b1223774494b354d1c258ba21100d4f9b911dd06a78152a1b94f774eddd5a9c3", func := "chattel/chattellaw11.HighTests", spec := "highTests", unfollowed := true, recurses := true, loops := true, apart := false, narrowed := true }
def HighTestsUptoSaid : Prop := highTestsUptoRow.holds Try.pinned (OpenSpec.upto highTestsSpec)

/-- 'chattellaw11.HighHolds', WHERE WHAT IT READS IS OF BULK AT MOST 1048576: true; the input reads as it did. -/
def highHoldsUptoRow : OpenClaim := { program := "yteofligmdngdgaa", sum := "b1223774494b354d1c258ba21100d4f9b911dd06a78152a1b94f774eddd5a9c3", func := "chattel/chattellaw11.HighHolds", spec := "highHolds", unfollowed := true, recurses := true, loops := true, apart := false, narrowed := true }
def HighHoldsUptoSaid : Prop := highHoldsUptoRow.holds Try.pinned (OpenSpec.upto highHoldsSpec)

/-- 'chattellaw11.HighNoMore', WHERE WHAT IT READS IS OF BULK AT MOST 1048576: true; the input reads as it did. -/
def highNoMoreUptoRow : OpenClaim := { program := "yteofligmdngdgaa", sum := "b1223774494b354d1c258ba21100d4f9b911dd06a78152a1b94f774eddd5a9c3", func := "chattel/chattellaw11.HighNoMore", spec := "highNoMore", unfollowed := true, recurses := true, loops := true, apart := false, narrowed := true }
def HighNoMoreUptoSaid : Prop := highNoMoreUptoRow.holds Try.pinned (OpenSpec.upto highNoMoreSpec)

/-- 'chattellaw11.HighSelf', WHERE WHAT IT READS IS OF BULK AT MOST 1048576: true; the input reads as it did. -/
def highSelfUptoRow : OpenClaim := { program := "yteofligmdngdgaa", sum := "b1223774494b354d1c258ba21100d4f9b911dd06a78152a1b94f774eddd5a9c3", func := "chattel/chattellaw11.HighSelf", spec := "highSelf", unfollowed := true, recurses := true, loops := true, apart := false, narrowed := true }
def HighSelfUptoSaid : Prop := highSelfUptoRow.holds Try.pinned (OpenSpec.upto highSelfSpec)

/-- 'chattellaw11.HighThrough', WHERE WHAT IT READS IS OF BULK AT MOST 1048576: true; the input reads as it did. -/
def highThroughUptoRow : OpenClaim := { program := "yteofligmdngdgaa", sum := "b1223774494b354d1c258ba21100d4f9b911dd06a78152a1b94f774eddd5a9c3", func := "chattel/chattellaw11.HighThrough", spec := "highThrough", unfollowed := true, recurses := true, loops := true, apart := false, narrowed := true }
def HighThroughUptoSaid : Prop := highThroughUptoRow.holds Try.pinned (OpenSpec.upto highThroughSpec)

end Rows
end Go.Proofs.Yteofligmdngdgaa

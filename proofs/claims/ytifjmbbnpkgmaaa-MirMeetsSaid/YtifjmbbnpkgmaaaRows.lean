/-
  NARROWER THAN 'FOR EVERY INPUT', by the rows' own cells (each row's printed sentence says how): MirReaches: loops.
  DERIVED. THE GIVEN ROWS OF THIS SEAT. 4 by the template 'for every input the law returns true; each argument reads behind the call as it read before'; 0 by the template 'total and deterministic' (their statements: YtifjmbbnpkgmaaaTotals.lean).
  GIVEN WITH THE SEED: the statements are not yours to turn. If you find one false, say at which input.
  Laid BY PROGRAM, IN A SANDBOX (cutbox-rows.mjs): the forced cells as the released guide's own fill.sh prints them over the translation d6a3473c4251ac81… (all of the seat's roots in one cut). By AI agents, Wed Nov 11 2026. No macro, syntax, notation, axiom, sorry.
-/
import Derived.Test.YtifjmbbnpkgmaaaChecked
import GoSem.Claim
import GoSem.ClaimJoined
import GoSem.ClaimMapViews
import Derived.JoinedTies
import Derived.KernelRfl
namespace Go.Proofs.Ytifjmbbnpkgmaaa
/- THE CELL 'sum', in the pinned program and in every row, IS THE sha256 OF THE DUMP (.gsa) THAT YtifjmbbnpkgmaaaProg.lean LOADS. Nothing in Lean hashes anything: it is a label: what it is worth is what the hold of that sum in a sandbox is worth. -/
noncomputable def Try.pinned : Pinned := { name := "ytifjmbbnpkgmaaa", sum := "d6a3473c4251ac8176e51481fd849f5c3d2492c94c2f07082998347e107076ae", checked := Try.checked }
namespace Rows
def none {H : Type} : Left H := { results := [], args := [] }

/-- 'chattellaw14.MirMeets': WHATEVER THE INPUT: true; the input reads as it did. -/
def mirMeetsSpec : ChangeSpec := { name := "mirMeets", fn := fun _ => fun
  | [d] => { results := [.lit (.bool true)], args := [d] }
  | _ => none }
def mirMeetsRow : OpenClaim := { program := "ytifjmbbnpkgmaaa", sum := "d6a3473c4251ac8176e51481fd849f5c3d2492c94c2f07082998347e107076ae", func := "chattel/chattellaw14.MirMeets", spec := "mirMeets", unfollowed := true, recurses := true, apart := false }
def MirMeetsSaid : Prop := mirMeetsRow.holds Try.pinned (OpenSpec.ofChange mirMeetsSpec)

/-- ITS FALSE NEIGHBOUR: 'it returns false'. Refute it at one input. -/
def mirMeetsWrong : ChangeSpec := { name := "mirMeets", fn := fun _ => fun
  | [d] => { results := [.lit (.bool false)], args := [d] }
  | _ => none }
def MirMeetsWrongFalsely : Prop := mirMeetsRow.holds Try.pinned (OpenSpec.ofChange mirMeetsWrong)

/-- 'chattellaw14.MirReaches': WHATEVER THE INPUT: true; the input reads as it did. -/
def mirReachesSpec : ChangeSpec := { name := "mirReaches", fn := fun _ => fun
  | [d] => { results := [.lit (.bool true)], args := [d] }
  | _ => none }
def mirReachesRow : OpenClaim := { program := "ytifjmbbnpkgmaaa", sum := "d6a3473c4251ac8176e51481fd849f5c3d2492c94c2f07082998347e107076ae", func := "chattel/chattellaw14.MirReaches", spec := "mirReaches", unfollowed := true, recurses := true, loops := true, apart := false }
def MirReachesSaid : Prop := mirReachesRow.holds Try.pinned (OpenSpec.ofChange mirReachesSpec)

/-- ITS FALSE NEIGHBOUR: 'it returns false'. Refute it at one input. -/
def mirReachesWrong : ChangeSpec := { name := "mirReaches", fn := fun _ => fun
  | [d] => { results := [.lit (.bool false)], args := [d] }
  | _ => none }
def MirReachesWrongFalsely : Prop := mirReachesRow.holds Try.pinned (OpenSpec.ofChange mirReachesWrong)

/-- 'chattellaw14.MirNils': WHATEVER THE INPUT: true; the input reads as it did. -/
def mirNilsSpec : ChangeSpec := { name := "mirNils", fn := fun _ => fun
  | [d] => { results := [.lit (.bool true)], args := [d] }
  | _ => none }
def mirNilsRow : OpenClaim := { program := "ytifjmbbnpkgmaaa", sum := "d6a3473c4251ac8176e51481fd849f5c3d2492c94c2f07082998347e107076ae", func := "chattel/chattellaw14.MirNils", spec := "mirNils", unfollowed := true, recurses := true, apart := false }
def MirNilsSaid : Prop := mirNilsRow.holds Try.pinned (OpenSpec.ofChange mirNilsSpec)

/-- ITS FALSE NEIGHBOUR: 'it returns false'. Refute it at one input. -/
def mirNilsWrong : ChangeSpec := { name := "mirNils", fn := fun _ => fun
  | [d] => { results := [.lit (.bool false)], args := [d] }
  | _ => none }
def MirNilsWrongFalsely : Prop := mirNilsRow.holds Try.pinned (OpenSpec.ofChange mirNilsWrong)

/-- 'chattellaw14.MirPlaces': WHATEVER THE INPUT: true; the input reads as it did. -/
def mirPlacesSpec : ChangeSpec := { name := "mirPlaces", fn := fun _ => fun
  | [d1, d2] => { results := [.lit (.bool true)], args := [d1, d2] }
  | _ => none }
def mirPlacesRow : OpenClaim := { program := "ytifjmbbnpkgmaaa", sum := "d6a3473c4251ac8176e51481fd849f5c3d2492c94c2f07082998347e107076ae", func := "chattel/chattellaw14.MirPlaces", spec := "mirPlaces", unfollowed := true, recurses := true, apart := false }
def MirPlacesSaid : Prop := mirPlacesRow.holds Try.pinned (OpenSpec.ofChange mirPlacesSpec)

/-- ITS FALSE NEIGHBOUR: 'it returns false'. Refute it at one input. -/
def mirPlacesWrong : ChangeSpec := { name := "mirPlaces", fn := fun _ => fun
  | [d1, d2] => { results := [.lit (.bool false)], args := [d1, d2] }
  | _ => none }
def MirPlacesWrongFalsely : Prop := mirPlacesRow.holds Try.pinned (OpenSpec.ofChange mirPlacesWrong)

/- THE SECOND FORM. 'bulk': how many values and letters a reading holds, each counted each time it is reached (what is shared counts as often as it is met; a slice's spare places count too). A statement '..UptoSaid' is the law's where the arguments, and the package variables that the reading takes, are together of bulk at most 1048576: NARROWER than '..Said'. Prove '..Said' where nothing that the law and all that it calls make is longer than what came in: it says more and counts as full. Else prove '..UptoSaid'. A law counts once. -/
mutual
def uptoBulk {H : Type} : DataW H → Nat
  | .lit (.string bytes) => bytes.length + 1
  | .lit _ => 1
  | .nil => 1
  | .ptr d => uptoBulk d + 1
  | .slice elems spare => uptoBulkAll elems + uptoBulkAll spare + 1
  | .agg parts => uptoBulkAll parts + 1
  | .iface _ d => uptoBulk d + 1
  | .map entries => uptoBulkEntries entries + 1
  | .held _ => 1
def uptoBulkAll {H : Type} : List (DataW H) → Nat
  | [] => 0
  | d :: r => uptoBulk d + uptoBulkAll r
def uptoBulkEntries {H : Type} : List (Lit × DataW H) → Nat
  | [] => 0
  | x :: r => uptoBulkEntry x + uptoBulkEntries r
def uptoBulkEntry {H : Type} : Lit × DataW H → Nat
  | (.string bytes, d) => bytes.length + uptoBulk d + 1
  | (_, d) => uptoBulk d + 1
 end
def uptoSmall : (H : Type) → List (DataW H) → Bool := fun _ ds => decide (uptoBulkAll ds ≤ 1048576)
def OpenSpec.upto (s : _root_.Go.ChangeSpec) : _root_.Go.OpenSpec := { _root_.Go.OpenSpec.ofChange s with cond := some uptoSmall }

/-- 'chattellaw14.MirMeets', WHERE WHAT IT READS IS OF BULK AT MOST 1048576: true; the input reads as it did. -/
def mirMeetsUptoRow : OpenClaim := { program := "ytifjmbbnpkgmaaa", sum := "d6a3473c4251ac8176e51481fd849f5c3d2492c94c2f07082998347e107076ae", func := "chattel/chattellaw14.MirMeets", spec := "mirMeets", unfollowed := true, recurses := true, apart := false, narrowed := true }
def MirMeetsUptoSaid : Prop := mirMeetsUptoRow.holds Try.pinned (OpenSpec.upto mirMeetsSpec)

/-- 'chattellaw14.MirReaches', WHERE WHAT IT READS IS OF BULK AT MOST 1048576: true; the input reads as it did. -/
def mirReachesUptoRow : OpenClaim := { program := "ytifjmbbnpkgmaaa", sum := "d6a3473c4251ac8176e51481fd849f5c3d2492c94c2f07082998347e107076ae", func := "chattel/chattellaw14.MirReaches", spec := "mirReaches", unfollowed := true, recurses := true, loops := true, apart := false, narrowed := true }
def MirReachesUptoSaid : Prop := mirReachesUptoRow.holds Try.pinned (OpenSpec.upto mirReachesSpec)

/-- 'chattellaw14.MirNils', WHERE WHAT IT READS IS OF BULK AT MOST 1048576: true; the input reads as it did. -/
def mirNilsUptoRow : OpenClaim := { program := "ytifjmbbnpkgmaaa", sum := "d6a3473c4251ac8176e51481fd849f5c3d2492c94c2f07082998347e107076ae", func := "chattel/chattellaw14.MirNils", spec := "mirNils", unfollowed := true, recurses := true, apart := false, narrowed := true }
def MirNilsUptoSaid : Prop := mirNilsUptoRow.holds Try.pinned (OpenSpec.upto mirNilsSpec)

/-- 'chattellaw14.MirPlaces', WHERE WHAT IT READS IS OF BULK AT MOST 1048576: true; the input reads as it did. -/
def mirPlacesUptoRow : OpenClaim := { program := "ytifjmbbnpkgmaaa", sum := "d6a3473c4251ac8176e51481fd849f5c3d2492c94c2f07082998347e107076ae", func := "chattel/chattellaw14.MirPlaces", spec := "mirPlaces", unfollowed := true, recurses := true, apart := false, narrowed := true }
def MirPlacesUptoSaid : Prop := mirPlacesUptoRow.holds Try.pinned (OpenSpec.upto mirPlacesSpec)

end Rows
end Go.Proofs.Ytifjmbbnpkgmaaa

/-
  A small struct's ways.
-/
import Derived.Test.YtomafdhiflbgcaaV7
namespace Go.Proofs.Ytomafdhiflbgcaa
open Go Go.Lf
set_option linter.unusedVariables false

def tV3 : Ty := .mk 1 ⟨#[]⟩ false 0 [] []
def tV2 : Ty := .mk 7 ⟨#[]⟩ false 2 [] [tV3]
def tV : Ty := .mk 7 ⟨#[]⟩ true 1 [] [tV2]
abbrev nS : ByteArray := ⟨#[83]⟩
def dsV : List Df := [⟨nS, 2, [], [tV]⟩]
theorem or01 : bitsI .or .i64 0 1 = 1 := by decide
theorem or03 : bitsI .or .i64 0 3 = 3 := by decide
theorem and33 : bitsI .and .i64 3 3 = 3 := by decide
theorem seeV (W : List (ByteArray × List Int)) : seeW 2 [] W tV 1 [0, 0] = [1, 3] := by
  have e1 : headW 2 [] W 7 ⟨#[]⟩ 1 [] 1 [0, 0] = [1, 0] := by simp [headW, lifeW, orAt, or01]
  have e2 : innerW W 7 ⟨#[]⟩ true 0 1 0 = 3 := by simp [innerW, throughF, and33]
  have e3 : headW 2 [] W 7 ⟨#[]⟩ 2 [] 3 [1, 0] = [1, 3] := by simp [headW, lifeW, orAt, or03]
  have e4 : ∀ w out, seeW 2 [] W tV3 w out = out := by
    intro w out
    unfold tV3
    rw [seeW_mk]
    simp [argsW, headW]
  have e5 : seeW 2 [] W tV2 3 [1, 0] = [1, 3] := by
    unfold tV2
    rw [seeW_mk, e3]
    simp only [argsW, e4]
  unfold tV
  rw [seeW_mk, e1]
  show seeW 2 [] W tV2 (innerW W 7 ⟨#[]⟩ true 0 1 0) [1, 0] = _
  rw [e2, e5]
theorem onceV (W : List (ByteArray × List Int)) : onceW W dsV = [(nS, [1, 3])] := by
  show [(nS, onceD W ⟨nS, 2, [], [tV]⟩)] = _
  have : onceD W ⟨nS, 2, [], [tV]⟩ = [1, 3] := seeV W
  rw [this]
theorem zeroV : zeroW dsV = [(nS, [0, 0])] := rfl
theorem it1 : itW dsV 1 = [(nS, [1, 3])] := onceV _
theorem it2 : itW dsV 2 = [(nS, [1, 3])] := onceV _
theorem eqV1 : eqW (itW dsV 2) (itW dsV 1) = true := by rw [it1, it2]; decide
theorem eqV0 : ∀ k, k < 1 → eqW (itW dsV (k + 1)) (itW dsV k) = false := by
  intro k hk
  obtain rfl : k = 0 := by omega
  rw [it1]
  show eqW _ (zeroW dsV) = false
  rw [zeroV]
  decide
theorem varied_spec (h : Heap) : CallsH Try.prog 6 #[] h (fun x h' => Grow h h' ∧ x = .bool true) := by
  apply F6
  unfold L6
  rintro s3 h1 rfl rfl
  have k1 := blk.new h (tvs ⟨1, ⟨#[]⟩, false, 0, ⟨none, 0, 0⟩, ⟨none, 0, 0⟩⟩) 34
  have f1 : Grow h (h.push (.cells (tvs ⟨1, ⟨#[]⟩, false, 0, ⟨none, 0, 0⟩, ⟨none, 0, 0⟩⟩) 34)) := Fr.push _ _ _
  have z1 : (h.push (.cells (tvs ⟨1, ⟨#[]⟩, false, 0, ⟨none, 0, 0⟩, ⟨none, 0, 0⟩⟩) 34)).size = h.size + 1 := by simp
  generalize h.push (.cells (tvs ⟨1, ⟨#[]⟩, false, 0, ⟨none, 0, 0⟩, ⟨none, 0, 0⟩⟩) 34) = h1 at *
  rintro s5 h2 rfl rfl
  have k2 := blk.new h1 (tvs ⟨7, ⟨#[]⟩, false, 2, ⟨none, 0, 0⟩, ⟨some ⟨h.size, 0, none⟩, 1, 1⟩⟩) 34
  have f2 : Grow h1 (h1.push (.cells (tvs ⟨7, ⟨#[]⟩, false, 2, ⟨none, 0, 0⟩, ⟨some ⟨h.size, 0, none⟩, 1, 1⟩⟩) 34)) := Fr.push _ _ _
  have z2 : (h1.push (.cells (tvs ⟨7, ⟨#[]⟩, false, 2, ⟨none, 0, 0⟩, ⟨some ⟨h.size, 0, none⟩, 1, 1⟩⟩) 34)).size = h1.size + 1 := by simp
  generalize h1.push (.cells (tvs ⟨7, ⟨#[]⟩, false, 2, ⟨none, 0, 0⟩, ⟨some ⟨h.size, 0, none⟩, 1, 1⟩⟩) 34) = h2 at *
  refine newz fun h3 b3 f3 z3 => sto6 (v := ⟨7, ⟨#[]⟩, true, 1, ⟨none, 0, 0⟩, ⟨some ⟨h1.size, 0, none⟩, 1, 1⟩⟩) b3 rfl fun h4 b4 f4 => rd6 (Tv6.blk b4) ?_
  rintro s8 h5 rfl rfl
  have k5 := blk.new h4 (tvs ⟨7, ⟨#[]⟩, true, 1, ⟨none, 0, 0⟩, ⟨some ⟨h1.size, 0, none⟩, 1, 1⟩⟩) 34
  have f5 : Grow h4 (h4.push (.cells (tvs ⟨7, ⟨#[]⟩, true, 1, ⟨none, 0, 0⟩, ⟨some ⟨h1.size, 0, none⟩, 1, 1⟩⟩) 34)) := Fr.push _ _ _
  have z5 : (h4.push (.cells (tvs ⟨7, ⟨#[]⟩, true, 1, ⟨none, 0, 0⟩, ⟨some ⟨h1.size, 0, none⟩, 1, 1⟩⟩) 34)).size = h4.size + 1 := by simp
  generalize h4.push (.cells (tvs ⟨7, ⟨#[]⟩, true, 1, ⟨none, 0, 0⟩, ⟨some ⟨h1.size, 0, none⟩, 1, 1⟩⟩) 34) = h5 at *
  rintro s10 h6 rfl rfl
  have k6 := blk.new h5 (dvs ⟨nS, 2, ⟨none, 0, 0⟩, ⟨some ⟨h4.size, 0, none⟩, 1, 1⟩⟩) 39
  have f6 : Grow h5 (h5.push (.cells (dvs ⟨nS, 2, ⟨none, 0, 0⟩, ⟨some ⟨h4.size, 0, none⟩, 1, 1⟩⟩) 39)) := Fr.push _ _ _
  have z6' : (h5.push (.cells (dvs ⟨nS, 2, ⟨none, 0, 0⟩, ⟨some ⟨h4.size, 0, none⟩, 1, 1⟩⟩) 39)).size = h5.size + 1 := by simp
  generalize h5.push (.cells (dvs ⟨nS, 2, ⟨none, 0, 0⟩, ⟨some ⟨h4.size, 0, none⟩, 1, 1⟩⟩) 39) = h6 at *
  have g24 : Grow h2 h4 := f3.trans' f4 fun i hi e => by omega
  have g26 : Grow h2 h6 := g24.trans (f5.trans f6)
  have s26 := g26.size
  have s34 := f4.size
  have K1 := (f2.trans g26).blk k1 fun h => h
  have K2 := g26.blk k2 fun h => h
  have K5 := f6.blk k5 fun h => h
  have g6 : Grow h h6 := f1.trans (f2.trans g26)
  let Q : Nat → Prop := fun b => b < h6.size
  have t3 : TyAt Q h6 tV3 ⟨1, ⟨#[]⟩, false, 0, ⟨none, 0, 0⟩, ⟨none, 0, 0⟩⟩ := tyAt_iff.2 ⟨rfl, rfl, rfl, rfl, IntsC.nil _ _, rfl, fun j hj => by simp at hj⟩
  have t2 : TyAt Q h6 tV2 ⟨7, ⟨#[]⟩, false, 2, ⟨none, 0, 0⟩, ⟨some ⟨h.size, 0, none⟩, 1, 1⟩⟩ := tyAt_iff.2 ⟨rfl, rfl, rfl, rfl, IntsC.nil _ _, rfl, fun j hj => by
    obtain rfl : j = 0 := by simp at hj; omega
    refine ⟨_, _, rfl, by show h.size < h6.size; omega, ?_, t3⟩
    rw [Nat.zero_mul, add_zero]
    exact Tv6.blk K1⟩
  have t1 : TyAt Q h6 tV ⟨7, ⟨#[]⟩, true, 1, ⟨none, 0, 0⟩, ⟨some ⟨h1.size, 0, none⟩, 1, 1⟩⟩ := tyAt_iff.2 ⟨rfl, rfl, rfl, rfl, IntsC.nil _ _, rfl, fun j hj => by
    obtain rfl : j = 0 := by simp at hj; omega
    refine ⟨_, _, rfl, by show h1.size < h6.size; omega, ?_, t2⟩
    rw [Nat.zero_mul, add_zero]
    exact Tv6.blk K2⟩
  have tF : TyAt Q h6 (tNil [tV]) ⟨0, ⟨#[]⟩, false, 0, ⟨none, 0, 0⟩, ⟨some ⟨h4.size, 0, none⟩, 1, 1⟩⟩ := tyAt_iff.2 ⟨rfl, rfl, rfl, rfl, IntsC.nil _ _, rfl, fun j hj => by
    obtain rfl : j = 0 := by simp at hj; omega
    refine ⟨_, _, rfl, by show h4.size < h6.size; omega, ?_, t1⟩
    rw [Nat.zero_mul, add_zero]
    exact Tv6.blk K5⟩
  have hds : DsAt Q h6 ⟨some ⟨h5.size, 0, none⟩, 1, 1⟩ dsV := by
    refine ⟨rfl, fun i hi => ?_⟩
    obtain rfl : i = 0 := by simp [dsV] at hi; omega
    refine ⟨_, ⟨nS, 2, ⟨none, 0, 0⟩, ⟨some ⟨h4.size, 0, none⟩, 1, 1⟩⟩, rfl, by show h5.size < h6.size; omega, ?_, ⟨rfl, rfl, ⟨rfl, fun i hi => by simp [dsV] at hi⟩, tF⟩⟩
    rw [Nat.zero_mul, add_zero]
    exact Dv4.blk k6
  have hsmall : ∀ d ∈ dsV, SmD d := by
    intro d hd
    obtain rfl : d = ⟨nS, 2, [], [tV]⟩ := by simpa [dsV] using hd
    refine ⟨by decide, by decide, by simp, by simp, fun t ht => ?_⟩
    obtain rfl : t = tV := by simpa using ht
    have : small 3 tV = true := by decide
    exact small_ups 3 97 tV this
  refine cal_of (find_spec (K := 1) (fun b hb => hb) hds hsmall (by simp [dsV]) eqV1 eqV0) ?_
  rintro _ h7 ⟨f7, m, rfl, x7⟩
  refine ⟨some m, rfl, ?_⟩
  refine ways_lk x7.at_ nS fun s hs hb => ?_
  have hlk : lkW nS (itW dsV 1) = [1, 3] := by rw [it1]; rfl
  rw [hlk] at hs
  rintro s13 h8 rfl rfl
  have f8 : Grow h7 (h7.push (.cells #[Value.int .i64 1, Value.int .i64 3] 3)) := Fr.push _ _ _
  have k8 := blk.new h7 #[Value.int .i64 1, Value.int .i64 3] 3
  generalize h7.push (.cells #[Value.int .i64 1, Value.int .i64 3] 3) = h8 at *
  have i8 : IntsAt h8 ⟨some ⟨h7.size, 0, none⟩, 2, 2⟩ [1, 3] := by
    refine ⟨rfl, fun i hi => ⟨_, rfl, ?_⟩⟩
    rw [add_plain, k8.cl]
    match i, hi with
    | 0, _ => rfl
    | 1, _ => rfl
  refine cal_of (Ints_spec (b := ⟨some ⟨h7.size, 0, none⟩, 2, 2⟩) (hs.fr f8 fun _ _ h => h).ints i8 (by simp)) ?_
  rintro _ _ ⟨rfl, rfl⟩
  exact ⟨_, rfl, g6.trans (f7.trans f8), by simp⟩
end Go.Proofs.Ytomafdhiflbgcaa

/-
  SubWays walked.
-/
import Derived.Test.YtkgckfcekokieaaS10
import Derived.Test.YtkgckfcekokieaaLiftL
namespace Go.Proofs.Ytkgckfcekokieaa
open Go Go.Lf
set_option linter.unusedVariables false

section
theorem or_cast {f m : Nat} (hf : f < 2 ^ 64) (hm : m < 2 ^ 64) : bitsI .or .u64 (f : Int) (m : Int) = ((f ||| m : Nat) : Int) := by
  have h := bitsI_or (BitVec.ofNat 64 f) (BitVec.ofNat 64 m)
  have e1 : (BitVec.ofNat 64 f).toNat = f := by simp; omega
  have e2 : (BitVec.ofNat 64 m).toNat = m := by simp; omega
  rw [e1, e2] at h
  rw [h, BitVec.toNat_or, e1, e2]
theorem more_walk (v : Tv) (t : Ty) (sx sy sz : Sv) (xs ys : List Int) (b0 b1 b2 b3 b4 b5 b6 b7 fi mi : Int) (h : Heap) (hv : TyAt (fun b => b < h.size) h t v) (hx : IntsAt h sx xs) (hy : IntsAt h sy ys)
    (hf : 0 ≤ fi ∧ fi ≤ 18446744073709551615) (hm : 0 ≤ mi ∧ mi ≤ 18446744073709551615) :
    CallsH Try.prog 5 #[.agg (caseC v sx sy sz b0 b1 b2 b3 b4 b5 b6 b7 fi), .int .u64 mi] h (fun x h' => x = .bool true ∧ Grow h h') := by
  obtain ⟨f, rfl⟩ := Int.eq_ofNat_of_zero_le hf.1
  obtain ⟨m, rfl⟩ := Int.eq_ofNat_of_zero_le hm.1
  apply F5
  unfold L5
  rintro p1 h1 rfl rfl
  have f1 : Grow h (h.push (.cells (caseC v sx sy sz b0 b1 b2 b3 b4 b5 b6 b7 f) 39)) := Fr.push _ _ _
  have k1 := blk.new h (caseC v sx sy sz b0 b1 b2 b3 b4 b5 b6 b7 f) 39
  have z1 : (h.push (.cells (caseC v sx sy sz b0 b1 b2 b3 b4 b5 b6 b7 f) 39)).size = h.size + 1 := by simp
  generalize h.push (.cells (caseC v sx sy sz b0 b1 b2 b3 b4 b5 b6 b7 f) 39) = h1 at *
  refine cal_of (does_spec h1) ?_
  rintro _ h2 ⟨f2, rfl⟩
  refine ⟨_, rfl, ?_⟩
  have hQ : ∀ {h' : Heap}, Grow h h' → ∀ b, b < h.size → b < h.size → b < h'.size := fun f b _ _ => by have := f.size; omega
  refine ⟨fun x h' => x = (!small 6 t) ∧ Grow h2 h', ⟨fun e => (by cases e), fun _ => ?_⟩, ?_⟩
  · refine rd6 (case_ty (f2.blk k1 fun h => h)) ?_
    refine cal_of (small_spec 6 (by omega) t v h2 (hv.grow (f1.trans f2))) ?_
    rintro _ h3 ⟨f3, rfl⟩
    exact ⟨_, rfl, rfl, f3⟩
  rintro _ h3 ⟨rfl, f3⟩
  have g3 := f1.trans (f2.trans f3)
  have K3 := (f2.trans f3).blk k1 (fun h => h)
  refine ⟨fun x => x = true ∨ small 6 t = true, ⟨fun _ => .inl rfl, fun e => ?_⟩, ?_⟩
  · refine ⟨sx, by rw [add_plain, K3.cl]; rfl, sy, by rw [add_plain, K3.cl]; rfl  , .inr (by simpa using e)⟩
  rintro x34 hx34
  refine ⟨fun e => ?_, fun e => ?_⟩
  · refine cal_of (does_spec h3) ?_
    rintro _ h4 ⟨f4, rfl⟩
    exact ⟨_, rfl, rfl, g3.trans f4⟩
  have hsm : small 6 t = true := hx34.resolve_left (by rw [e]; simp)
  have g6 := g3
  have K6 := K3
  have hv6 : TyAt (fun b => b < h3.size) h3 t v := (hv.weak (hQ g6)).grow g6
  have Th : ∀ h', Grow h3 h' → blk h' h.size (caseC v sx sy sz b0 b1 b2 b3 b4 b5 b6 b7 f) := fun h' g => g.blk K6 (fun h => h)
  refine ⟨fun a b => Grow a b, Pre.grow, ?_⟩
  refine hd6 (fun h' hs => case_ty (Th h' hs)) ⟨sx, fun h' hs => by rw [add_plain, (Th h' hs).cl]; rfl, ?_⟩
  refine hd6 (fun h' hs => case_ty (Th h' hs)) ⟨sy, fun h' hs => by rw [add_plain, (Th h' hs).cl]; rfl, ?_⟩
  let FT : List Int → Int → ByteArray → Bool → Int → Sv → Sv → Nat → Nat → Heap → Prop := fun ls k nm mu r rs az lo hi h' => TyAt (fun b => b < h3.size ∨ (lo ≤ b ∧ b < hi)) h' (regT t ls) ⟨k, nm, mu, r, rs, az⟩
  let FN : Addr → Nat → Nat → Heap → Prop := fun p lo hi h' => p = ⟨lo, 0, none⟩ ∧ hi = lo + 1 ∧ blk h' lo z6
  have sT : ∀ ls k nm mu r rs az lo hi h h', Grow h h' → FT ls k nm mu r rs az lo hi h → FT ls k nm mu r rs az lo hi h' := fun ls k nm mu r rs az lo hi h h' g y => y.grow g
  have sN : ∀ p lo hi h h', Grow h h' → FN p lo hi h → FN p lo hi h' := fun p lo hi h h' g y => ⟨y.1, y.2.1, g.blk y.2.2 fun h => h⟩
  refine ⟨FT xs, sT xs, FT ys, sT ys, FN, sN, FN, sN, ?_, ?_, ?_, ?_, ?_⟩
  · intro h7 g7
    refine cal_of (reg_call hv6 (hx.keep g6 fun _ _ h => h) hsm g7) ?_
    rintro _ h8 ⟨f8, u, rfl, y⟩
    exact ⟨_, _, _, _, _, _, rfl, f8, y⟩
  · intro _ _ _ _ _ _ _ _ h7 g7 _
    refine cal_of (reg_call hv6 (hy.keep g6 fun _ _ h => h) hsm g7) ?_
    rintro _ h8 ⟨f8, u, rfl, y⟩
    exact ⟨_, _, _, _, _, _, rfl, f8, y⟩
  · intro h7 _
    exact newz fun h8 b8 f8 z8 => ⟨f8, rfl, z8, b8⟩
  · intro h7 _
    exact newz fun h8 b8 f8 z8 => ⟨f8, rfl, z8, b8⟩
  intro k1 n1 m1 r1 l1 a1 lo4 hi4 k2 n2 m2 r2 l2 a2 lo9 hi9 p4 lo15 hi15 p5 lo16 hi16 h31 g31 hD y1 y2 n4 n5
  obtain ⟨rfl, rfl, B4⟩ := n4
  obtain ⟨rfl, rfl, B5⟩ := n5
  obtain ⟨⟨d11, d12, d13, d14, d15, d16, -⟩, ⟨d21, d22, d23, d24, d25, -⟩, ⟨d31, d32, d33, d34, -⟩, ⟨d41, d42, d43, -⟩, -⟩ := hD
  dsimp only at *
  refine sto6 (v := ⟨k1, n1, m1, r1, l1, a1⟩) B4 rfl fun h32 c4 f32 => ?_
  refine sto6 (v := ⟨k2, n2, m2, r2, l2, a2⟩) (f32.blk B5 (by omega)) rfl fun h34 c5 f34 => ?_
  have s32 := f32.size
  have s34 := f34.size
  have s31 := g31.size
  have C4 := f34.blk c4 (by omega)
  have hh3 := g6.size
  have G34 : Grow h3 h34 := (g31.trans' f32 fun i hi e => by omega).trans' f34 fun i hi e => by omega
  replace y1 : TyAt (fun b => b < h3.size ∨ (lo4 ≤ b ∧ b < hi4)) h31 (regT t xs) ⟨k1, n1, m1, r1, l1, a1⟩ := y1
  replace y2 : TyAt (fun b => b < h3.size ∨ (lo9 ≤ b ∧ b < hi9)) h31 (regT t ys) ⟨k2, n2, m2, r2, l2, a2⟩ := y2
  have Y1 := ty_box (ty_box y1 f32 (by omega)) f34 (by omega)
  have Y2 := ty_box (ty_box y2 f32 (by omega)) f34 (by omega)
  have hg34 := G34.size
  have Z1 : TyAt (fun b => b < h34.size) h34 (regT t xs) ⟨k1, n1, m1, r1, l1, a1⟩ := Y1.weak fun b _ hl => hl
  have Z2 : TyAt (fun b => b < h34.size) h34 (regT t ys) ⟨k2, n2, m2, r2, l2, a2⟩ := Y2.weak fun b _ hl => hl
  have f24 := G34
  have K34 : blk h34 h.size (caseC v sx sy sz b0 b1 b2 b3 b4 b5 b6 b7 f) := Th h34 G34
  have C5 := c5
  let FW : Nat → Option Nat → Nat → Nat → Heap → Prop := fun q x lo hi h' => WaysAt (fun b => b < hi) h' x [(⟨#[83]⟩, digs q 8)]
  have sW : ∀ q x lo hi h h', Grow h h' → FW q x lo hi h → FW q x lo hi h' := fun q x lo hi h h' g y => WaysAt.fr y g fun _ _ h => h
  refine ⟨_, by rw [add_plain, K34.cl]; rfl, fun a b => Grow a b, Pre.grow, ?_⟩
  refine hd6 (fun h' hs => Tv6.blk (hs.blk C4 fun h => h)) (hd6 (fun h' hs => Tv6.blk (hs.blk C5 fun h => h)) ?_)
  refine ⟨FW f, sW f, ?_, ?_⟩
  · intro h7 g7
    refine cal_of (ways_spec f (by omega) h7) ?_
    rintro _ h8 ⟨f8, w, rfl, hw⟩
    exact ⟨w, rfl, f8, hw⟩
  intro w lo hi h29 g29 hD2 hw
  obtain ⟨⟨-, e2, e3, -⟩, -⟩ := hD2
  dsimp only at e2 e3
  replace hw : WaysAt (fun b => b < hi) h29 w [(⟨#[83]⟩, digs f 8)] := hw
  have up : ∀ {h' : Heap}, Grow h34 h' → ∀ b, b < h34.size → b < h34.size → b < h'.size := fun f b _ _ => by have := f.size; omega
  refine cal_of (pairs_reg hsm xs ys _ _ h29 ((Z1.weak (up g29)).grow g29) ((Z2.weak (up g29)).grow g29) (hw.weak fun b hb _ => by omega)) ?_
  rintro _ h30 ⟨f30, s1, rfl, o1⟩
  refine ⟨s1, true, rfl, ?_⟩
  have g30 := g29.trans f30
  have K30 : blk h30 h.size (caseC v sx sy sz b0 b1 b2 b3 b4 b5 b6 b7 f) := g30.blk K34 fun h => h
  refine ⟨_, by rw [add_plain, K30.cl]; rfl, fun a b => Grow a b, Pre.grow, ?_⟩
  refine hd6 (fun h' hs => Tv6.blk (hs.blk (g30.blk C4 fun h => h) fun h => h)) (hd6 (fun h' hs => Tv6.blk (hs.blk (g30.blk C5 fun h => h) fun h => h)) ?_)
  refine ⟨FW (f ||| m), sW (f ||| m), ?_, ?_⟩
  · intro h7 g7
    have hor := Nat.or_lt_two_pow (n := 64) (x := f) (y := m) (by omega) (by omega)
    refine (show cal Try.prog 10 #[Value.int .u64 (bitsI .or .u64 (f : Int) (m : Int))] h7 _ from ?_)
    rw [or_cast (by omega) (by omega)]
    refine cal_of (ways_spec (f ||| m) (by omega) h7) ?_
    rintro _ h8 ⟨f8, w, rfl, hw⟩
    exact ⟨w, rfl, f8, hw⟩
  intro w2 lo2 hi2 h35 g35 hD3 hw2
  obtain ⟨⟨-, e4, e5, -⟩, -⟩ := hD3
  dsimp only at e4 e5
  replace hw2 : WaysAt (fun b => b < hi2) h35 w2 [(⟨#[83]⟩, digs (f ||| m) 8)] := hw2
  have G35 := g30.trans g35
  refine cal_of (pairs_reg hsm xs ys _ _ h35 ((Z1.weak (up G35)).grow G35) ((Z2.weak (up G35)).grow G35) (hw2.weak fun b hb _ => by omega)) ?_
  rintro _ h36 ⟨f36, s2, rfl, o2⟩
  refine ⟨s2, true, rfl, ?_⟩
  have K36 : blk h36 h.size (caseC v sx sy sz b0 b1 b2 b3 b4 b5 b6 b7 f) := (g35.trans f36).blk K30 fun h => h
  have O1 := o1.frame (g35.trans f36) fun _ _ h => h
  have fin : Grow h h36 := (g6.trans G34).trans (G35.trans f36)
  have hl := ways_law [b0, b1, b2, b3, b4, b5, b6, b7] f m t xs ys
  unfold waysOk at hl
  dsimp only at hl
  have hA := outl hsm O1 K36
  have hB := outl hsm o2 K36
  generalize allB [b0, b1, b2, b3, b4, b5, b6, b7] (zipL (waysT (ofN f) t 1) (rgs xs (allT t).length) (rgs ys (allT t).length)) = A at hl hA
  generalize allB [b0, b1, b2, b3, b4, b5, b6, b7] (zipL (waysT (ofN (f ||| m)) t 1) (rgs xs (allT t).length) (rgs ys (allT t).length)) = B at hl hB
  refine ⟨fun x h' => h36 = h' ∧ x = true, ⟨fun _ => ?_, fun e => (by cases e)⟩, ?_⟩
  · refine cal_of hB ?_
    rintro _ _ ⟨rfl, rfl⟩
    refine ⟨_, rfl, ?_⟩
    refine ⟨fun x h' => h36 = h' ∧ x = true, ⟨fun e => ⟨rfl, e ▸ rfl⟩, fun e => ?_⟩, ?_⟩
    · refine cal_of hA ?_
      rintro _ _ ⟨rfl, rfl⟩
      exact ⟨_, rfl, rfl, hl (by simpa using e)⟩
    · rintro _ _ ⟨rfl, rfl⟩
      exact ⟨rfl, rfl⟩
  rintro _ _ ⟨rfl, rfl⟩
  exact ⟨rfl, fin⟩
end
end Go.Proofs.Ytkgckfcekokieaa

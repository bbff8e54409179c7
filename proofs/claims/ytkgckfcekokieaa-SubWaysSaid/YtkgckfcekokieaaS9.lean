/-
  SubThrough walked.
-/
import Derived.Test.YtkgckfcekokieaaS8
namespace Go.Proofs.Ytkgckfcekokieaa
open Go Go.Lf
set_option linter.unusedVariables false

section
variable {v : Tv} {t : Ty} {sx sy sz : Sv} {xs ys zs : List Int} {b0 b1 b2 b3 b4 b5 b6 b7 : Int} {h : Heap}
theorem through_walk (v : Tv) (t : Ty) (sx sy sz : Sv) (xs ys zs : List Int) (b0 b1 b2 b3 b4 b5 b6 b7 fi : Int) (h : Heap) (hv : TyAt (fun b => b < h.size) h t v) (hx : IntsAt h sx xs) (hy : IntsAt h sy ys) (hz : IntsAt h sz zs)
    (hf : 0 ≤ fi ∧ fi ≤ 18446744073709551615) (law : ∀ f : Nat, throughOk [b0, b1, b2, b3, b4, b5, b6, b7] f t xs ys zs) :
    CallsH Try.prog 4 #[.agg (caseC v sx sy sz b0 b1 b2 b3 b4 b5 b6 b7 fi)] h (fun x h' => x = .bool true ∧ Grow h h') := by
  obtain ⟨f, rfl⟩ := Int.eq_ofNat_of_zero_le hf.1
  apply F4
  unfold L4
  rintro p1 h1 rfl rfl
  have f1 : Grow h (h.push (.cells (caseC v sx sy sz b0 b1 b2 b3 b4 b5 b6 b7 f) 39)) := Fr.push _ _ _
  have k1 := blk.new h (caseC v sx sy sz b0 b1 b2 b3 b4 b5 b6 b7 f) 39
  have z1 : (h.push (.cells (caseC v sx sy sz b0 b1 b2 b3 b4 b5 b6 b7 f) 39)).size = h.size + 1 := by simp
  generalize h.push (.cells (caseC v sx sy sz b0 b1 b2 b3 b4 b5 b6 b7 f) 39) = h1 at *
  refine cal_of (does_spec h1) ?_
  rintro _ h2 ⟨f2, rfl⟩
  refine ⟨_, rfl, ?_⟩
  have hQ : ∀ {h' : Heap}, Grow h h' → ∀ b, b < h.size → b < h.size → b < h'.size := fun f b _ _ => by have := f.size; omega
  refine ⟨fun x h' => x = (!small 6 t) ∧ Grow h2 h', ⟨fun e => (by cases e), fun _ => ?_⟩, ?_⟩
  · refine rd6 (case_ty (f2.blk k1 fun h => h)) ?_
    refine cal_of (small_spec 6 (by omega) t v h2 (hv.grow (f1.trans f2))) ?_
    rintro _ h3 ⟨f3, rfl⟩
    exact ⟨_, rfl, rfl, f3⟩
  rintro _ h3 ⟨rfl, f3⟩
  have g3 := f1.trans (f2.trans f3)
  have K3 := (f2.trans f3).blk k1 (fun h => h)
  refine ⟨fun x => x = true ∨ small 6 t = true, ⟨fun _ => .inl rfl, fun e => ?_⟩, ?_⟩
  · refine ⟨sx, by rw [add_plain, K3.cl]; rfl, sy, by rw [add_plain, K3.cl]; rfl, sz, by rw [add_plain, K3.cl]; rfl, .inr (by simpa using e)⟩
  rintro x34 hx34
  refine ⟨fun e => ?_, fun e => ?_⟩
  · refine cal_of (does_spec h3) ?_
    rintro _ h4 ⟨f4, rfl⟩
    exact ⟨_, rfl, rfl, g3.trans f4⟩
  have hsm : small 6 t = true := hx34.resolve_left (by rw [e]; simp)
  refine ⟨_, by rw [add_plain, K3.cl]; rfl, ?_⟩
  refine cal_of (ways_spec f (by omega) h3) ?_
  rintro _ h6 ⟨f6, w, rfl, hw⟩
  refine ⟨w, rfl, ?_⟩
  have g6 := g3.trans f6
  have K6 := f6.blk K3 (fun h => h)
  have hv6 : TyAt (fun b => b < h6.size) h6 t v := (hv.weak (hQ g6)).grow g6
  have Th : ∀ h', Grow h6 h' → blk h' h.size (caseC v sx sy sz b0 b1 b2 b3 b4 b5 b6 b7 f) := fun h' g => g.blk K6 (fun h => h)
  refine ⟨fun a b => Grow a b, Pre.grow, ?_⟩
  refine hd6 (fun h' hs => case_ty (Th h' hs)) ⟨sx, fun h' hs => by rw [add_plain, (Th h' hs).cl]; rfl, ?_⟩
  refine hd6 (fun h' hs => case_ty (Th h' hs)) ⟨sy, fun h' hs => by rw [add_plain, (Th h' hs).cl]; rfl, ?_⟩
  refine hd6 (fun h' hs => case_ty (Th h' hs)) ⟨sz, fun h' hs => by rw [add_plain, (Th h' hs).cl]; rfl, ?_⟩
  let FT : List Int → Int → ByteArray → Bool → Int → Sv → Sv → Nat → Nat → Heap → Prop := fun ls k nm mu r rs az lo hi h' => TyAt (fun b => b < h6.size ∨ (lo ≤ b ∧ b < hi)) h' (regT t ls) ⟨k, nm, mu, r, rs, az⟩
  let FN : Addr → Nat → Nat → Heap → Prop := fun p lo hi h' => p = ⟨lo, 0, none⟩ ∧ hi = lo + 1 ∧ blk h' lo z6
  have sT : ∀ ls k nm mu r rs az lo hi h h', Grow h h' → FT ls k nm mu r rs az lo hi h → FT ls k nm mu r rs az lo hi h' := fun ls k nm mu r rs az lo hi h h' g y => y.grow g
  have sN : ∀ p lo hi h h', Grow h h' → FN p lo hi h → FN p lo hi h' := fun p lo hi h h' g y => ⟨y.1, y.2.1, g.blk y.2.2 fun h => h⟩
  refine ⟨FT xs, sT xs, FT ys, sT ys, FT zs, sT zs, FN, sN, FN, sN, FN, sN, ?_, ?_, ?_, ?_, ?_, ?_, ?_⟩
  · intro h7 g7
    refine cal_of (reg_call hv6 (hx.keep g6 fun _ _ h => h) hsm g7) ?_
    rintro _ h8 ⟨f8, u, rfl, y⟩
    exact ⟨_, _, _, _, _, _, rfl, f8, y⟩
  · intro _ _ _ _ _ _ _ _ h7 g7 _
    refine cal_of (reg_call hv6 (hy.keep g6 fun _ _ h => h) hsm g7) ?_
    rintro _ h8 ⟨f8, u, rfl, y⟩
    exact ⟨_, _, _, _, _, _, rfl, f8, y⟩
  · intro _ _ _ _ _ _ _ _ _ _ _ _ _ _ _ _ h7 g7 _ _
    refine cal_of (reg_call hv6 (hz.keep g6 fun _ _ h => h) hsm g7) ?_
    rintro _ h8 ⟨f8, u, rfl, y⟩
    exact ⟨_, _, _, _, _, _, rfl, f8, y⟩
  · intro h7 _
    exact newz fun h8 b8 f8 z8 => ⟨f8, rfl, z8, b8⟩
  · intro h7 _
    exact newz fun h8 b8 f8 z8 => ⟨f8, rfl, z8, b8⟩
  · intro h7 _
    exact newz fun h8 b8 f8 z8 => ⟨f8, rfl, z8, b8⟩
  intro k1 n1 m1 r1 l1 a1 lo4 hi4 k2 n2 m2 r2 l2 a2 lo9 hi9 k3 n3 m3 r3 l3 a3 lo14 hi14 p4 lo15 hi15 p5 lo16 hi16 p6 lo17 hi17 h31 g31 hD y1 y2 y3 n4 n5 n6
  obtain ⟨rfl, rfl, B4⟩ := n4
  obtain ⟨rfl, rfl, B5⟩ := n5
  obtain ⟨rfl, rfl, B6⟩ := n6
  obtain ⟨⟨d11, d12, d13, d14, d15, d16, d17, d18, -⟩, ⟨d21, d22, d23, d24, d25, d26, d27, -⟩, ⟨d31, d32, d33, d34, d35, d36, -⟩, ⟨d41, d42, d43, d44, d45, -⟩, ⟨d51, d52, d53, d54, -⟩, ⟨d61, d62, d63, -⟩, -⟩ := hD
  dsimp only at *
  refine sto6 (v := ⟨k1, n1, m1, r1, l1, a1⟩) B4 rfl fun h32 c4 f32 => ?_
  refine sto6 (v := ⟨k2, n2, m2, r2, l2, a2⟩) (f32.blk B5 (by omega)) rfl fun h33 c5 f33 => ?_
  refine sto6 (v := ⟨k3, n3, m3, r3, l3, a3⟩) (f33.blk (f32.blk B6 (by omega)) (by omega)) rfl fun h34 c6 f34 => ?_
  have s32 := f32.size
  have s33 := f33.size
  have s34 := f34.size
  have s31 := g31.size
  have C4 := f34.blk (f33.blk c4 (by omega)) (by omega)
  have C5 := f34.blk c5 (by omega)
  have hh6 := g6.size
  have G34 : Grow h6 h34 := ((g31.trans' f32 fun i hi e => by omega).trans' f33 fun i hi e => by omega).trans' f34 fun i hi e => by omega
  replace y1 : TyAt (fun b => b < h6.size ∨ (lo4 ≤ b ∧ b < hi4)) h31 (regT t xs) ⟨k1, n1, m1, r1, l1, a1⟩ := y1
  replace y2 : TyAt (fun b => b < h6.size ∨ (lo9 ≤ b ∧ b < hi9)) h31 (regT t ys) ⟨k2, n2, m2, r2, l2, a2⟩ := y2
  replace y3 : TyAt (fun b => b < h6.size ∨ (lo14 ≤ b ∧ b < hi14)) h31 (regT t zs) ⟨k3, n3, m3, r3, l3, a3⟩ := y3
  have Y1 := ty_box (ty_box (ty_box y1 f32 (by omega)) f33 (by omega)) f34 (by omega)
  have Y2 := ty_box (ty_box (ty_box y2 f32 (by omega)) f33 (by omega)) f34 (by omega)
  have Y3 := ty_box (ty_box (ty_box y3 f32 (by omega)) f33 (by omega)) f34 (by omega)
  have hg34 := G34.size
  have Z1 : TyAt (fun b => b < h34.size) h34 (regT t xs) ⟨k1, n1, m1, r1, l1, a1⟩ := Y1.weak fun b _ hl => hl
  have Z2 : TyAt (fun b => b < h34.size) h34 (regT t ys) ⟨k2, n2, m2, r2, l2, a2⟩ := Y2.weak fun b _ hl => hl
  have Z3 : TyAt (fun b => b < h34.size) h34 (regT t zs) ⟨k3, n3, m3, r3, l3, a3⟩ := Y3.weak fun b _ hl => hl
  have W34 : WaysAt (fun b => b < h34.size) h34 w [(⟨#[83]⟩, digs f 8)] := (hw.fr G34 fun _ _ h => h).weak fun b _ hl => hl
  have up : ∀ {h' : Heap}, Grow h34 h' → ∀ b, b < h34.size → b < h34.size → b < h'.size := fun f b _ _ => by have := f.size; omega
  refine rd6 (Tv6.blk C4) (rd6 (Tv6.blk C5) ?_)
  refine cal_of (pairs_reg hsm xs ys _ _ h34 Z1 Z2 W34) ?_
  rintro _ h35 ⟨f35, s1, rfl, o1⟩
  refine ⟨s1, true, rfl, ?_⟩
  refine rd6 (Tv6.blk (f35.blk C5 fun h => h)) (rd6 (Tv6.blk (f35.blk c6 fun h => h)) ?_)
  refine cal_of (pairs_reg hsm ys zs _ _ h35 ((Z2.weak (up f35)).grow f35) ((Z3.weak (up f35)).grow f35) ((W34.weak (up f35)).fr f35 fun _ _ h => h)) ?_
  rintro _ h36 ⟨f36, s2, rfl, o2⟩
  refine ⟨s2, true, rfl, ?_⟩
  have f36' := f35.trans f36
  refine rd6 (Tv6.blk (f36'.blk C4 fun h => h)) (rd6 (Tv6.blk (f36'.blk c6 fun h => h)) ?_)
  refine cal_of (pairs_reg hsm xs zs _ _ h36 ((Z1.weak (up f36')).grow f36') ((Z3.weak (up f36')).grow f36') ((W34.weak (up f36')).fr f36' fun _ _ h => h)) ?_
  rintro _ h37 ⟨f37, s3, rfl, o3⟩
  refine ⟨s3, true, rfl, fun e => (by cases e), fun _ => ?_⟩
  have K37 : blk h37 h.size (caseC v sx sy sz b0 b1 b2 b3 b4 b5 b6 b7 f) := Th h37 (G34.trans (f36'.trans f37))
  have O1 := o1.frame (f36.trans f37) fun _ _ h => h
  have O2 := o2.frame f37 fun _ _ h => h
  have fin : Grow h h37 := (g6.trans G34).trans (f36'.trans f37)
  refine cal_of (outl hsm O1 K37) ?_
  rintro _ _ ⟨rfl, rfl⟩
  refine ⟨_, rfl, ?_⟩
  have hl := law f
  unfold throughOk at hl
  dsimp only at hl
  generalize hA : allB [b0, b1, b2, b3, b4, b5, b6, b7] (zipL (waysT (ofN f) t 1) (rgs xs (allT t).length) (rgs ys (allT t).length)) = A at hl
  generalize hB : allB [b0, b1, b2, b3, b4, b5, b6, b7] (zipL (waysT (ofN f) t 1) (rgs ys (allT t).length) (rgs zs (allT t).length)) = B at hl
  generalize hC : allB [b0, b1, b2, b3, b4, b5, b6, b7] (zipL (waysT (ofN f) t 1) (rgs xs (allT t).length) (rgs zs (allT t).length)) = C at hl
  refine ⟨fun x h' => h37 = h' ∧ x = (!A || !B), ⟨fun e => ⟨rfl, by rw [show A = false by simpa using e]; rfl⟩, fun e => ?_⟩, ?_⟩
  · refine cal_of (outl hsm O2 K37) ?_
    rintro _ _ ⟨rfl, rfl⟩
    refine ⟨_, rfl, rfl, ?_⟩
    rw [show A = true by simpa using e]
    exact congrArg (fun b => !b) hB
  rintro _ _ ⟨rfl, rfl⟩
  refine ⟨fun x h' => h37 = h' ∧ x = true, ⟨fun _ => ⟨rfl, rfl⟩, fun e => ?_⟩, ?_⟩
  · refine cal_of (outl hsm o3 K37) ?_
    rintro _ _ ⟨rfl, rfl⟩
    refine ⟨_, rfl, rfl, ?_⟩
    simp only [Bool.or_eq_false_iff, Bool.not_eq_false'] at e
    exact hC.trans (hl e.1 e.2)
  rintro _ _ ⟨rfl, rfl⟩
  exact ⟨rfl, fin⟩
end
end Go.Proofs.Ytkgckfcekokieaa

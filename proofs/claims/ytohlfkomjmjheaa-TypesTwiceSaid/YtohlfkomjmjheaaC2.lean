/-
  TypesSame walked.
-/
import Derived.Test.YtohlfkomjmjheaaC1
import Derived.Test.YtohlfkomjmjheaaTyL
namespace Go.Proofs.Ytohlfkomjmjheaa
open Go Go.Lf
set_option linter.unusedVariables false

/-- the first part of each law on a type: is it small? -/
theorem typed_small {h h1 : Heap} {v : Tv} {t : Ty} {b : Nat} (hv : TyAt (fun b => b < h.size) h t v) (g : Grow h h1) (k : blk h1 b (tvs v)) {K : Bool → Heap → Prop} (kk : ∀ h', Grow h1 h' → K (!small 6 t) h') :
    cal Try.prog 8 #[] h1 fun u h2 => asB u fun x6 => ∃ J : Bool → Heap → Prop, (orj (!x6) (fun k => ∃ (y : Int) (y1 : ByteArray) (y2 : Bool) (y3 : Int) (y4 : Sv) (y5 : Sv), cl h2 ⟨b, 0, none⟩ = some (.int .i64 y) ∧ cl h2 ((⟨b, 0, none⟩ : Addr).add 1) = some (.string y1) ∧ cl h2 ((⟨b, 0, none⟩ : Addr).add 2) = some (.bool y2) ∧ cl h2 ((⟨b, 0, none⟩ : Addr).add 3) = some (.int .i64 y3) ∧ cl h2 ((⟨b, 0, none⟩ : Addr).add 4) = some (.slice y4.a y4.n y4.c) ∧ cl h2 ((⟨b, 0, none⟩ : Addr).add 5) = some (.slice y5.a y5.n y5.c) ∧
      cal Try.prog 9 #[.agg #[.int .i64 y, .string y1, .bool y2, .int .i64 y3, .slice y4.a y4.n y4.c, .slice y5.a y5.n y5.c], .int .i64 6] h2 fun u_1 h4 => asB u_1 fun x10 => k (!x10) h4) h2 J) ∧ ∀ x12 h3, J x12 h3 → K x12 h3 := by
  refine cal_of (typed_spec h1) ?_
  rintro _ h2 ⟨f2, rfl⟩
  refine ⟨_, rfl, fun x h' => x = (!small 6 t) ∧ Grow h2 h', ⟨fun e => (by cases e), fun _ => ?_⟩, ?_⟩
  · refine rd6 (Tv6.blk (f2.blk k fun h => h)) ?_
    refine cal_of (small_spec 6 (by omega) t v h2 (hv.grow (g.trans f2))) ?_
    rintro _ h3 ⟨f3, rfl⟩
    exact ⟨_, rfl, rfl, f3⟩
  · rintro _ h3 ⟨rfl, f3⟩
    exact kk h3 (f2.trans f3)
theorem same_walk (v : Tv) (t : Ty) (v' : Tv) (t' : Ty) (h : Heap) (hv : TyAt (fun b => b < h.size) h t v) (hv' : TyAt (fun b => b < h.size) h t' v') :
    CallsH Try.prog 7 #[.agg (tvs v), .agg (tvs v')] h (fun x h' => x = .bool true ∧ Grow h h') := by
  apply F7
  unfold L7
  refine new6 (v := v) fun h1 b1 f1 z1 => new6 (v := v') fun h2 b2 f2 z2 => ?_
  have g2 := f1.trans f2
  have B1 := f2.blk b1 fun h => h
  refine typed_small hv g2 B1 fun h4 f4 => ?_
  have g4 := g2.trans f4
  refine ⟨fun x h' => x = (!small 6 t || !small 6 t') ∧ Grow h4 h', ⟨fun e => ⟨by rw [e]; rfl, Fr.refl _ _⟩, fun e => ?_⟩, ?_⟩
  · refine rd6 (Tv6.blk (f4.blk b2 fun h => h)) ?_
    refine cal_of (small_spec 6 (by omega) t' v' h4 (hv'.grow g4)) ?_
    rintro _ h5 ⟨f5, rfl⟩
    exact ⟨_, rfl, by rw [e]; rfl, f5⟩
  rintro _ h6 ⟨rfl, f6⟩
  have g6 := g4.trans f6
  refine ⟨fun e => ?_, fun e => ?_⟩
  · refine cal_of (typed_spec h6) ?_
    rintro _ h7 ⟨f7, rfl⟩
    exact ⟨_, rfl, rfl, g6.trans f7⟩
  simp only [Bool.or_eq_false_iff, Bool.not_eq_false'] at e
  obtain ⟨hs, hs'⟩ := e
  have C1 := (f4.trans f6).blk B1 fun h => h
  have C2 := (f4.trans f6).blk b2 fun h => h
  have T1 := Tv6.blk C1
  have hcop : copies t = ((decide (1 ≤ v.k) && decide (v.k ≤ 4)) || (v.k == 7 && !v.mu)) := by
    obtain ⟨k, nm, mu, r, rs, az⟩ := t
    obtain ⟨e1, e2, e3, -⟩ := tyAt_iff.1 hv
    rw [e1, e3]; rfl
  refine ⟨_, T1.1, fun x => x = (decide (1 ≤ v.k) && decide (v.k ≤ 4)), ⟨fun e => ⟨_, T1.1, by rw [e]; rfl⟩, fun e => by rw [e]; rfl⟩, ?_⟩
  rintro _ rfl
  refine ⟨fun x => x = copies t, ⟨fun e => by rw [hcop, e]; rfl, fun e => ⟨_, T1.1, fun x => x = (v.k == 7 && !v.mu), ⟨fun e' => ⟨_, T1.2.2.1, by rw [e']; rfl⟩, fun e' => by rw [e']; rfl⟩, ?_⟩⟩, ?_⟩
  · rintro _ rfl
    rw [hcop, e]; rfl
  rintro _ rfl
  have G : ∀ {h' : Heap}, Grow h6 h' → Grow h h' := fun f => g6.trans f
  have P1 : ∀ {h' : Heap}, Grow h6 h' → Tv6 h' ⟨h.size, 0, none⟩ v := fun f => Tv6.blk (f.blk C1 fun h => h)
  have P2 : ∀ {h' : Heap}, Grow h6 h' → Tv6 h' ⟨h1.size, 0, none⟩ v' := fun f => Tv6.blk (f.blk C2 fun h => h)
  refine ⟨fun x h' => x = true ∧ Grow h6 h', ?_, ?_⟩
  · have r6 := Fr.refl (fun _ => False) h6
    refine ⟨fun h' => Grow h6 h', r6, rd6 (P1 r6) (rd6 (P2 r6) (hd6 (fun h' hs => P1 hs) (hd6 (fun h' hs => P2 hs) ?_)))⟩
    refine cal_of (same_spec t t' 6 (by omega) hs v v' h6 (hv.grow g6) (hv'.grow g6)) ?_
    rintro _ h9 ⟨f9, rfl⟩
    refine ⟨_, rfl, f9, ?_⟩
    refine cal_of (sameR_spec t t' 6 (by omega) hs v v' h9 (hv.grow (G f9)) (hv'.grow (G f9))) ?_
    rintro _ h10 ⟨f10, rfl⟩
    have F10 := f9.trans f10
    refine ⟨_, rfl, F10, fun _ => ?_, fun e => by simp at e⟩
    refine rd6 (P1 F10) (rd6 (P2 F10) ⟨fun h' => Grow h10 h', fun h' H => F10.trans H, Fr.refl _ _, hd6 (fun h' hs => P1 (F10.trans hs)) (hd6 (fun h' hs => P2 (F10.trans hs)) ?_)⟩)
    refine cal_of (equalP_spec t t' 6 (by omega) hs hs' v v' h10 (hv.grow (G F10)) (hv'.grow (G F10))) ?_
    rintro _ h11 ⟨f11, rfl⟩
    refine ⟨_, rfl, f11, ?_⟩
    refine cal_of (equalR_spec t t' 6 (by omega) hs hs' v v' h11 (hv.grow (G (F10.trans f11))) (hv'.grow (G (F10.trans f11)))) ?_
    rintro _ h12 ⟨f12, rfl⟩
    have F12 := F10.trans (f11.trans f12)
    refine ⟨_, rfl, f11.trans f12, fun _ => ?_, fun e => by simp at e⟩
    refine rd6 (P1 F12) ⟨fun h' => Grow h12 h', fun h' H => (f11.trans f12).trans H, Fr.refl _ _, hd6 (fun h' hs => P1 (F12.trans hs)) ?_⟩
    refine cal_of (erase_spec (n := 6) (by omega) hs (fun b hb => by have := (G F12).size; omega) (hv.grow (G F12))) ?_
    rintro _ h13 ⟨f13, u, rfl, tu⟩
    refine ⟨_, _, _, _, _, _, rfl, f13, ?_⟩
    refine cal_of (same_spec t (eraT t) 6 (by omega) hs v u h13 ((hv.grow (G (F12.trans f13))).weak (Q' := fun b => b < h.size ∨ h12.size ≤ b) fun b hb _ => .inl hb) tu) ?_
    rintro _ h14 ⟨f14, rfl⟩
    have F14 := F12.trans (f13.trans f14)
    have hse : same t (eraT t) = true := same_wT t _ (by rw [outs_len]; exact Nat.le_refl _)
    refine ⟨_, rfl, fun _ => ?_, fun e => by rw [hse] at e; cases e⟩
    refine rd6 (P1 F14) ?_
    refine cal_of (copies_spec (hv.grow (G F14))) ?_
    rintro _ h15 ⟨f15, rfl⟩
    exact ⟨_, rfl, by simp, F14.trans f15⟩
  · rintro _ h16 ⟨rfl, f16⟩
    exact ⟨rfl, G f16⟩
end Go.Proofs.Ytohlfkomjmjheaa

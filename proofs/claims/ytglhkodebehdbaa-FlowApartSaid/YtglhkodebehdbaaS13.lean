/-
  Whether an answer is the document's, walked.
-/
import Derived.Test.YtglhkodebehdbaaS12
namespace Go.Proofs.Ytglhkodebehdbaa
open Go Go.Lf

section
variable {h : Heap} {a0 : Sv} {a1 : Int} {a2 a3 a4 : Sv} {p : Pb} {ba : Nat} {tb : Sv} {rb : Nat → Nat} {S : Nat → Nat → Bool}
theorem same_spec (x : PbAt h a0 a1 a2 a3 a4 p) {W : Nat} (ok : p.Ok W) (A : AnsOk ba tb rb p.s.length ((W + 63) / 64) W S h) {fno : Nat} (hf : IsFn Try.prog fno)
    (ref : ∀ {h' : Heap}, Grow h h' → ∀ e : Nat, e < W → CallsH Try.prog fno #[pbV a0 a1 a2 a3 a4, .int .i64 e] h' (fun v h'' => ∃ g C, v = .slice (some ⟨g, 0, none⟩) p.s.length p.s.length ∧ BoolsAt h'' g p.s.length C ∧ (∀ i, i < p.s.length → C i = S i e) ∧ Grow h' h'')) :
    CallsH Try.prog 16 #[.pointer (some ⟨ba, 0, none⟩), pbV a0 a1 a2 a3 a4, .func (.func fno) #[] #[]] h (fun v h' => v = .bool true ∧ Grow h h') := by
  apply F16
  unfold L16
  rintro p4 h1 rfl rfl
  have f1 : Grow h (h.push (.cells (pbC a0 a1 a2 a3 a4) 25)) := Fr.push _ _ _
  have kb := blk.new h (pbC a0 a1 a2 a3 a4) 25
  have e1 : h.push (.cells #[.slice a0.a a0.n a0.c, .int .i64 a1, .slice a2.a a2.n a2.c, .slice a3.a a3.n a3.c, .slice a4.a a4.n a4.c] 25) = h.push (.cells (pbC a0 a1 a2 a3 a4) 25) := rfl
  rw [e1]
  have hs1 : (h.push (.cells (pbC a0 a1 a2 a3 a4) 25)).size = h.size + 1 := by simp
  generalize h.push (.cells (pbC a0 a1 a2 a3 a4) 25) = h1 at *
  have hw : a1 = (W : Int) := by rw [x.w, ok.w]
  have hwl := ok.wl
  have hn := ok.n
  have hn0 := x.s.len
  have hhas : ∀ {h' : Heap}, Grow h h' → ∀ i e : Int, CallsH Try.prog 14 #[.pointer (some ⟨ba, 0, none⟩), .int .i64 i, .int .i64 e] h' (fun v h'' => h' = h'' ∧ v = .bool (hasS p.s.length W S i e)) :=
    fun g i e => ansHas_spec (A.grow g) (by omega) (by omega) i e
  have hin : ∀ i e : Nat, i < p.s.length → e < W → hasS p.s.length W S i e = S i e := by
    intro i e hi he
    have : (0 ≤ (i : Int) ∧ (i : Int) < p.s.length ∧ 0 ≤ (e : Int) ∧ (e : Int) < (W : Int)) := by omega
    simp [hasS, hi, he]
  have hout : ∀ i e : Int, ¬ (0 ≤ i ∧ i < p.s.length ∧ 0 ≤ e ∧ e < (W : Int)) → hasS p.s.length W S i e = false := by
    intro i e hne
    simp [hasS, hne]
  refine ⟨fun y h2 => ∃ e : Nat, y = e ∧ e ≤ W ∧ Grow h1 h2, fun y _ => (W - y).toNat, ⟨0, rfl, by omega, Fr.refl _ _⟩, ?_⟩
  rintro y h2 ⟨e, rfl, he, g2⟩
  have kb2 := g2.blk kb (fun h => h)
  have g02 := f1.trans g2
  refine ldI_i (x := (W : Int)) (by rw [add_plain, kb2.cl, ← hw]; rfl) ?_
  refine ifb_dec (fun hlt => ?_) (fun hge => ?_)
  · have hel : e < W := by omega
    have hwe : IntKind.i64.wrap ((e : Int) + 1) = ((e + 1 : Nat) : Int) := by rw [wrap64_id (by omega) (by omega)]; omega
    refine ⟨a0, a1, a2, a3, a4, by rw [kb2.cl]; rfl, by rw [add_plain, kb2.cl]; rfl, by rw [add_plain, kb2.cl]; rfl, by rw [add_plain, kb2.cl]; rfl, by rw [add_plain, kb2.cl]; rfl, ?_⟩
    refine ⟨fno, #[], rfl, hf, ?_⟩
    rw [Array.append_empty]
    refine cal_of (ref g02 e hel) ?_
    rintro _ h3 ⟨g, C, rfl, Bs, hC, g3⟩
    refine ⟨⟨some ⟨g, 0, none⟩, p.s.length, p.s.length⟩, rfl, ?_⟩
    refine ⟨fun y h4 => ∃ i : Nat, y = i ∧ i ≤ p.s.length ∧ Grow h3 h4, fun y _ => (p.s.length - y).toNat, ⟨0, rfl, by omega, Fr.refl _ _⟩, ?_⟩
    rintro y h4 ⟨i, rfl, hi, g4⟩
    refine ifb_dec (fun hlt => ?_) (fun hge => ?_)
    · have hil : i < p.s.length := by have : (i : Int) < ((p.s.length : Nat) : Int) := hlt; omega
      have hwi : IntKind.i64.wrap ((i : Int) + 1) = ((i + 1 : Nat) : Int) := by rw [wrap64_id (by omega) (by omega)]; omega
      refine ⟨Grow h4, Fr.refl _ _, ixS_i rfl (by omega) hlt ?_⟩
      refine ⟨C i, fun h' g' => by rw [Int.toNat_natCast, Nat.mul_one, add_plain, Nat.zero_add]; exact g'.clk (g4.clk (Bs.cell hil) (fun h => h)) (fun h => h), ?_⟩
      refine cal_of (hhas ((g02.trans g3).trans g4) i e) ?_
      rintro _ _ ⟨rfl, rfl⟩
      refine ⟨_, rfl, Fr.refl _ _, ?_⟩
      rw [hin i e hil hel, ← hC i hil]
      exact ⟨fun hb => (by simp at hb), fun _ => ⟨⟨i + 1, hwi, by omega, g4⟩, by rw [hwi]; (try dsimp only); omega⟩⟩
    · exact ⟨⟨e + 1, hwe, by omega, (g2.trans g3).trans g4⟩, by rw [hwe]; (try dsimp only); omega⟩
  refine ⟨fun y h6 => ∃ i : Nat, y = i ∧ i ≤ p.s.length ∧ Grow h2 h6, fun y _ => (p.s.length - y).toNat, ⟨0, rfl, by omega, Fr.refl _ _⟩, ?_⟩
  rintro y h6 ⟨i, rfl, hi, g6⟩
  have kb6 := g6.blk kb2 (fun h => h)
  have g06 := g02.trans g6
  refine ldS_i (s := a0) (by rw [kb6.cl]; rfl) ?_
  refine ifb_dec (fun hlt => ?_) (fun hge => ?_)
  · have hil : i < p.s.length := by omega
    have hwi : IntKind.i64.wrap ((i : Int) + 1) = ((i + 1 : Nat) : Int) := by rw [wrap64_id (by omega) (by omega)]; omega
    refine ⟨fun l y h7 => ∃ k : Nat, y = k ∧ k ≤ W ∧ Own h7 h6.size 1 l (ints (sel (fun e => hasS p.s.length W S i e) k)) ∧ Grow h6 h7, fun _ y _ => (W - y).toNat, ⟨0, rfl, by omega, Own.nil _ _ _, Fr.refl _ _⟩, ?_⟩
    rintro l y h7 ⟨k, rfl, hk, o7, g7⟩
    have kb7 := g7.blk kb6 (fun h => h)
    refine ldI_i (x := (W : Int)) (by rw [add_plain, kb7.cl, ← hw]; rfl) ?_
    refine ifb_dec (fun hlt => ?_) (fun hge => ?_)
    · have hwk : IntKind.i64.wrap ((k : Int) + 1) = ((k + 1 : Nat) : Int) := by rw [wrap64_id (by omega) (by omega)]; omega
      refine ⟨fun l' h5 => Own h5 h6.size 1 l' (ints (sel (fun e => hasS p.s.length W S i e) (k + 1))) ∧ Grow h6 h5, ?_, fun l' h5 ⟨q1, q2⟩ => ⟨⟨k + 1, hwk, by omega, q1, q2⟩, by rw [hwk]; (try dsimp only); omega⟩⟩
      refine cal_of (hhas (g06.trans g7) i k) ?_
      rintro _ _ ⟨rfl, rfl⟩
      refine ⟨_, rfl, fun hb => ?_, fun hb => ?_⟩
      · rintro s57 h9 rfl rfl
        have hln : l.n ≤ W := by
          have h1 := o7.len
          have h2 := sel_len (fun e => hasS p.s.length W S i e) k
          simp [ints] at h1
          omega
        have f9 : Grow h7 (h7.push (.cells #[.int .i64 k] 3)) := Fr.push _ _ _
        refine app1 (E := 3) (vs := #[.int .i64 k]) (h := h7) (B := h6.size) (sz := 1) rfl o7 rfl (by simp [Value.oneCell']) g7.size (by omega) (by omega) ?_ _ _ rfl rfl
        intro s' h6 _ o6 f6 _
        refine ⟨?_, own_grown o7 g7 f6⟩
        rw [sel_succ, hb]
        simpa [ints] using o6
      · rw [sel_succ, hb]
        exact ⟨by simpa using o7, g7⟩
    · have : k = W := by omega
      subst this
      refine cal_of (ansList_spec (A.grow (g06.trans g7)) (by omega) (by omega) i) ?_
      rintro _ h12 ⟨l2, rfl, o12, g12⟩
      refine ⟨l2, rfl, ?_⟩
      have hsl := sel_len (fun e => hasS p.s.length k S i e) k
      refine cal_of (ints_spec (own_ints o12) ((own_ints o7).keep g12 fun _ _ h => h) (by omega)) ?_
      rintro _ _ ⟨rfl, rfl⟩
      refine ⟨_, rfl, ?_⟩
      simp only [decide_true]
      exact ⟨fun hb => (by cases hb), fun _ => ⟨⟨i + 1, hwi, by omega, (g6.trans g7).trans g12⟩, by rw [hwi]; (try dsimp only); omega⟩⟩
  · refine ldS_i (s := a0) (by rw [kb6.cl]; rfl) ?_
    refine cal_of (hhas g06 _ 0) ?_
    rintro _ _ ⟨rfl, rfl⟩
    refine ⟨_, rfl, ?_⟩
    rw [hout _ _ (by omega)]
    refine ⟨fun b h9 => b = true ∧ h6 = h9, ⟨fun _ => ?_, fun e => (by cases e)⟩, ?_⟩
    · refine cal_of (hhas g06 _ _) ?_
      rintro _ _ ⟨rfl, rfl⟩
      exact ⟨_, rfl, by rw [hout _ _ (by omega)]; rfl, rfl⟩
    rintro _ _ ⟨rfl, rfl⟩
    refine ⟨fun b h9 => b = true ∧ h6 = h9, ⟨fun _ => ?_, fun e => (by cases e)⟩, ?_⟩
    · refine ldI_i (x := (W : Int)) (by rw [add_plain, kb6.cl, ← hw]; rfl) ?_
      refine cal_of (hhas g06 _ _) ?_
      rintro _ _ ⟨rfl, rfl⟩
      exact ⟨_, rfl, by rw [hout _ _ (by omega)]; rfl, rfl⟩
    rintro _ _ ⟨rfl, rfl⟩
    refine ⟨fun b h9 => b = true ∧ h6 = h9, ⟨fun _ => ?_, fun e => (by cases e)⟩, ?_⟩
    · refine cal_of (hhas g06 _ _) ?_
      rintro _ _ ⟨rfl, rfl⟩
      exact ⟨_, rfl, by rw [hout _ _ (by omega)]; rfl, rfl⟩
    rintro _ _ ⟨rfl, rfl⟩
    exact ⟨rfl, g06⟩
end
end Go.Proofs.Ytglhkodebehdbaa

/-
  What an answer has, and lists.
-/
import Derived.Test.YtglhkodebehdbaaS5
namespace Go.Proofs.Ytglhkodebehdbaa
open Go Go.Lf

/-- what Has tells -/
def hasS (n : Nat) (W : Int) (S : Nat → Nat → Bool) (i e : Int) : Bool := decide (0 ≤ i ∧ i < n ∧ 0 ≤ e ∧ e < W) && S i.toNat e.toNat
section
variable {ba : Nat} {tb : Sv} {rb : Nat → Nat} {n nw : Nat} {W : Int} {S : Nat → Nat → Bool} {h : Heap}
theorem ansHas_nil (i e : Int) : CallsH Try.prog 14 #[.pointer none, .int .i64 i, .int .i64 e] h (fun v h' => h = h' ∧ v = .bool false) := by
  apply F14
  unfold L14
  refine ⟨fun b => b = false, ⟨fun e => (by cases e), fun _ => rfl⟩, ?_⟩
  rintro _ rfl
  refine ⟨fun b => b = false, ⟨fun e => (by cases e), fun _ => rfl⟩, ?_⟩
  rintro _ rfl
  refine ⟨fun b => b = false, ⟨fun e => (by cases e), fun _ => rfl⟩, ?_⟩
  rintro _ rfl
  exact ⟨rfl, rfl⟩
theorem ansHas_spec (x : AnsOk ba tb rb n nw W S h) (hW : W ≤ ((64 * nw : Nat) : Int)) (hnw : nw ≤ 1000000) (i e : Int) :
    CallsH Try.prog 14 #[.pointer (some ⟨ba, 0, none⟩), .int .i64 i, .int .i64 e] h (fun v h' => h = h' ∧ v = .bool (hasS n W S i e)) := by
  apply F14
  unfold L14
  have hl := x.len
  refine ⟨fun b => b = decide (0 ≤ i ∧ i < n), ⟨fun e => ?_, fun e => ?_⟩, ?_⟩
  · refine nn_i (ldS_i (s := tb) (by rw [add_plain]; exact x.ct) ?_)
    have : 0 ≤ i := by simpa using e
    simp [this, hl]
  · have : ¬ 0 ≤ i := by simpa using e
    simp [this]
  rintro _ rfl
  refine ⟨fun b => b = decide (0 ≤ i ∧ i < n ∧ 0 ≤ e ∧ e < W), ⟨fun e' => ?_, fun e' => ?_⟩, ?_⟩
  · refine nn_i (ldI_i x.cw ?_)
    have h1 : (0 ≤ i ∧ i < n) ∧ 0 ≤ e := by simpa using e'
    simp [h1.1.1, h1.1.2, h1.2]
  · have h1 : ¬ (0 ≤ i ∧ i < n ∧ 0 ≤ e ∧ e < W) := by simp at e'; omega
    simp [h1]
  rintro _ rfl
  refine ⟨fun b => b = hasS n W S i e, ⟨fun e' => ?_, fun e' => by simp only [hasS, e', Bool.false_and]⟩, ?_⟩
  · have h1 := of_decide_eq_true e'
    obtain ⟨i, rfl⟩ := Int.eq_ofNat_of_zero_le h1.1
    obtain ⟨e, rfl⟩ := Int.eq_ofNat_of_zero_le h1.2.2.1
    refine nn_i (ldS_i (s := tb) (by rw [add_plain]; exact x.ct) (x.get (by omega) ?_))
    rw [div_word (by omega), mod_word]
    obtain ⟨w, cw, hw⟩ := (x.row i (by omega)).2.2.cell (k := e / 64) (by omega)
    refine ixS_i rfl (by omega) (by show ((e / 64 : Nat) : Int) < (nw : Int); omega) (ldI_i (x := (w.toNat : Int)) (by simpa only [add_plain, Int.toNat_natCast, Nat.zero_add, Nat.mul_one] using cw) ⟨by omega, ?_⟩)
    have hb : e % 64 < 64 := by omega
    rw [Int.toNat_natCast, bit_of w hb, hw _ hb]
    have e2 : 64 * (e / 64) + e % 64 = e := by omega
    rw [e2]
    simp only [hasS, e', Bool.true_and, Int.toNat_natCast]
  rintro _ rfl
  exact ⟨rfl, rfl⟩

def sel (f : Nat → Bool) (k : Nat) : List Int := ((List.range k).filter f).map fun i : Nat => (i : Int)
theorem sel_succ (f : Nat → Bool) (k : Nat) : sel f (k + 1) = sel f k ++ (if f k then [(k : Int)] else []) := by
  unfold sel
  rw [List.range_succ, List.filter_append, List.map_append]
  congr 1
  simp only [List.filter_cons, List.filter_nil]
  split <;> rfl
theorem sel_len (f : Nat → Bool) (k : Nat) : (sel f k).length ≤ k := by
  unfold sel; rw [List.length_map]; exact Nat.le_trans (List.length_filter_le _ _) (by simp)

theorem ansList_nil (i : Int) : CallsH Try.prog 21 #[.pointer none, .int .i64 i] h (fun v h' => h = h' ∧ v = .slice none 0 0) := by
  apply F21
  unfold L21
  exact ⟨fun _ => ⟨rfl, rfl⟩, fun e => (by cases e)⟩
theorem ansList_spec {W : Nat} (x : AnsOk ba tb rb n nw W S h) (hW : W ≤ 64 * nw) (hnw : nw ≤ 100) (i : Nat) :
    CallsH Try.prog 21 #[.pointer (some ⟨ba, 0, none⟩), .int .i64 i] h (fun v h' => ∃ l : Sv, v = l.v ∧ Own h' h.size 1 l (ints (sel (fun e => hasS n W S i e) W)) ∧ Grow h h') := by
  apply F21
  unfold L21
  refine ⟨fun e => (by cases e), fun _ => nn_i (ldI_i x.cw ?_)⟩
  refine ⟨fun l y h1 => ∃ k : Nat, y = k ∧ k ≤ W ∧ Own h1 h.size 1 l (ints (sel (fun e => hasS n W S i e) k)) ∧ Grow h h1, fun _ y _ => (W - y).toNat, ⟨0, rfl, by omega, Own.nil _ _ _, Fr.refl _ _⟩, ?_⟩
  rintro l y h1 ⟨k, rfl, hk, o1, f1⟩
  refine ifb_dec (fun hlt => ?_) (fun hge => ?_)
  · have hwk : IntKind.i64.wrap ((k : Int) + 1) = ((k + 1 : Nat) : Int) := by rw [wrap64_id (by omega) (by omega)]; omega
    refine ⟨fun l' h5 => Own h5 h.size 1 l' (ints (sel (fun e => hasS n W S i e) (k + 1))) ∧ Grow h h5, ?_, fun l' h5 ⟨q1, q2⟩ => ⟨⟨k + 1, hwk, by omega, q1, q2⟩, by rw [hwk]; (try dsimp only); omega⟩⟩
    refine cal_of (ansHas_spec (x.grow f1) (by omega) (by omega) i k) ?_
    rintro _ _ ⟨rfl, rfl⟩
    refine ⟨_, rfl, fun hb => ?_, fun hb => ?_⟩
    · have hln : l.n ≤ W := by
        have h1 := o1.len
        have h2 := sel_len (fun e => hasS n W S i e) k
        simp [ints] at h1
        omega
      refine app1 (B := h.size) (sz := 1) rfl o1 rfl (by simp [Value.oneCell']) f1.size (by omega) (by omega) ?_
      intro s' h6 _ o6 f6 _
      refine ⟨?_, own_grown o1 f1 f6⟩
      rw [sel_succ, hb]
      simpa [ints] using o6
    · rw [sel_succ, hb]
      exact ⟨by simpa using o1, f1⟩
  · have : k = W := by omega
    subst this
    exact ⟨l, rfl, o1, f1⟩
end

theorem ints_spec {h : Heap} {a b : Sv} {xs ys : List Int} (x : IntsAt h a xs) (y : IntsAt h b ys) (hl : xs.length ≤ 1000000) :
    CallsH Try.prog 29 #[.slice a.a a.n a.c, .slice b.a b.n b.c] h (fun v h' => h = h' ∧ v = .bool (decide (xs = ys))) := by
  apply F29
  unfold L29
  have e1 := x.len
  have e2 := y.len
  refine ifb_iff (q := xs.length ≠ ys.length) (by rw [e1, e2]; simp; omega) (fun hne => ⟨rfl, ?_⟩) (fun heq => ?_)
  · have : xs ≠ ys := fun e => hne (by rw [e])
    simp [this]
  have heq : xs.length = ys.length := by omega
  refine ⟨fun i => ∃ k : Nat, i = k ∧ k ≤ xs.length ∧ ∀ j (h1 : j < xs.length) (h2 : j < ys.length), j < k → xs[j] = ys[j], fun i => (xs.length - i).toNat, ⟨0, rfl, by omega, fun j _ _ h => by omega⟩, ?_⟩
  rintro i ⟨k, rfl, hk, hall⟩
  refine ifb_dec (fun hlt => ?_) (fun hge => ?_)
  · have hkl : k < xs.length := by rw [e1] at hlt; omega
    have hwk : IntKind.i64.wrap ((k : Int) + 1) = ((k + 1 : Nat) : Int) := by rw [wrap64_id (by omega) (by omega)]; omega
    refine x.get hkl (y.get (by omega) ?_)
    refine ⟨fun e => ⟨rfl, ?_⟩, fun e => ⟨⟨k + 1, hwk, by omega, fun j h1 h2 hj => ?_⟩, by rw [hwk]; (try dsimp only); omega⟩⟩
    · have hne : xs[k] ≠ ys[k]'(by omega) := by simpa using e
      have : xs ≠ ys := fun e => hne (by subst e; rfl)
      simp [this]
    · have he : xs[k] = ys[k]'(by omega) := by simpa using e
      by_cases ej : j = k
      · subst ej; exact he
      · exact hall j h1 h2 (by omega)
  · have : xs = ys := List.ext_getElem heq fun j h1 h2 => hall j h1 h2 (by rw [e1] at hge; omega)
    exact ⟨rfl, by simp [this]⟩
end Go.Proofs.Ytglhkodebehdbaa

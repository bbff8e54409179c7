/-
  The plain law: what the document's rounds reach is what the program knows.
-/
import Derived.Test.YthpfblimfaefhaaS4
namespace Go.Proofs.Ythpfblimfaefhaa
open Go Go.Lf

def stepC (C : Nat → Bool) (p : Nat × Nat) : Nat → Bool := if C p.1 then fun k => decide (k = p.2) || C k else C
def roundC (qs : List (Nat × Nat)) (C : Nat → Bool) : Nat → Bool := qs.foldl stepC C
def iterC (qs : List (Nat × Nat)) (a : Nat) : Nat → Nat → Bool
  | 0 => fun k => decide (k = a)
  | r + 1 => roundC qs (iterC qs a r)

theorem stepC_le (C : Nat → Bool) (p : Nat × Nat) {k : Nat} (h : C k = true) : stepC C p k = true := by
  unfold stepC; split <;> simp [h]
theorem fold_le : ∀ (qs : List (Nat × Nat)) (C : Nat → Bool) {k : Nat}, C k = true → qs.foldl stepC C k = true
  | [], _, _, h => h
  | p :: qs, C, _, h => fold_le qs (stepC C p) (stepC_le C p h)
/-- a set that a round leaves is closed -/
theorem closed_of_round : ∀ (qs : List (Nat × Nat)) (C : Nat → Bool), (∀ k, qs.foldl stepC C k = true → C k = true) → ∀ p ∈ qs, C p.1 = true → C p.2 = true
  | [], _, _, p, hp, _ => by cases hp
  | q :: qs, C, h, p, hp, h1 => by
    have hq : ∀ k, stepC C q k = true → C k = true := fun k hk => h k (fold_le qs _ hk)
    rcases List.mem_cons.1 hp with rfl | hp
    · refine hq p.2 ?_
      unfold stepC
      rw [if_pos h1]
      simp
    · refine closed_of_round qs C (fun k hk => h k ?_) p hp h1
      have : stepC C q = C := by
        funext k
        cases hc : C k with
        | true => exact stepC_le C q hc
        | false => cases hs : stepC C q k with
          | true => rw [hq k hs] at hc; cases hc
          | false => rfl
      simp only [List.foldl_cons, this]
      exact hk

def cnt (C : Nat → Bool) : Nat → Nat
  | 0 => 0
  | n + 1 => cnt C n + (if C n then 1 else 0)
theorem cnt_le (C : Nat → Bool) : ∀ n, cnt C n ≤ n
  | 0 => Nat.le_refl _
  | n + 1 => by have := cnt_le C n; simp only [cnt]; split <;> omega
theorem cnt_mono {C D : Nat → Bool} (h : ∀ k, C k = true → D k = true) : ∀ n, cnt C n ≤ cnt D n
  | 0 => Nat.le_refl _
  | n + 1 => by
    have := cnt_mono h n
    simp only [cnt]
    cases hc : C n with
    | true => simp [h n hc]; exact this
    | false => simp; split <;> omega
theorem cnt_lt {C D : Nat → Bool} (h : ∀ k, C k = true → D k = true) {k : Nat} (h1 : C k = false) (h2 : D k = true) : ∀ n, k < n → cnt C n < cnt D n
  | 0, hk => by omega
  | n + 1, hk => by
    simp only [cnt]
    by_cases e : k = n
    · subst e
      have := cnt_mono h k
      simp [h1, h2]; omega
    · have := cnt_lt h h1 h2 n (by omega)
      cases hc : C n with
      | true => simp [h n hc]; exact this
      | false => simp; split <;> omega

section
variable {n : Nat} {qs : List (Nat × Nat)} {a : Nat}
theorem iter_in (ha : a ≤ n) (hq : ∀ p ∈ qs, p.1 ≤ n ∧ p.2 ≤ n) : ∀ r k, iterC qs a r k = true → k ≤ n := by
  have hf : ∀ (l : List (Nat × Nat)) (C : Nat → Bool), (∀ p ∈ l, p.2 ≤ n) → (∀ k, C k = true → k ≤ n) → ∀ k, l.foldl stepC C k = true → k ≤ n := by
    intro l
    induction l with
    | nil => intro C _ hC k hk; exact hC k hk
    | cons p l ih =>
      intro C hl hC k hk
      refine ih (stepC C p) (fun q hq => hl q (List.mem_cons_of_mem _ hq)) (fun k hk => ?_) k hk
      unfold stepC at hk
      split at hk
      · simp at hk
        rcases hk with rfl | hk
        · exact hl p (by simp)
        · exact hC k hk
      · exact hC k hk
  intro r
  induction r with
  | zero => intro k hk; simp [iterC] at hk; omega
  | succ r ih => exact fun k hk => hf qs _ (fun p hp => (hq p hp).2) ih k hk

/-- a round that adds nothing comes before the last -/
theorem iter_fix (ha : a ≤ n) (hq : ∀ p ∈ qs, p.1 ≤ n ∧ p.2 ≤ n) : ∀ k, iterC qs a (n + 2) k = true → iterC qs a (n + 1) k = true := by
  have grow : ∀ r, (∃ s, s ≤ r ∧ iterC qs a (s + 1) = iterC qs a s) ∨ r + 1 ≤ cnt (iterC qs a r) (n + 1) := by
    intro r
    induction r with
    | zero =>
      right
      have h1 : cnt (fun _ => false) (n + 1) < cnt (iterC qs a 0) (n + 1) := cnt_lt (k := a) (fun k h => by simp at h) rfl (by simp [iterC]) (n + 1) (by omega)
      omega
    | succ r ih =>
      rcases ih with ⟨s, hs, e⟩ | ih
      · exact .inl ⟨s, by omega, e⟩
      · by_cases e : iterC qs a (r + 1) = iterC qs a r
        · exact .inl ⟨r, by omega, e⟩
        · right
          have hm : ∀ k, iterC qs a r k = true → iterC qs a (r + 1) k = true := fun k hk => fold_le qs _ hk
          have : ∃ k, iterC qs a r k = false ∧ iterC qs a (r + 1) k = true := by
            refine Classical.byContradiction fun hne => e ?_
            funext k
            cases h1 : iterC qs a r k with
            | true => exact hm k h1
            | false => cases h2 : iterC qs a (r + 1) k with
              | true => exact absurd ⟨k, h1, h2⟩ hne
              | false => rfl
          obtain ⟨k, h1, h2⟩ := this
          have := cnt_lt hm h1 h2 (n + 1) (by have := iter_in ha hq (r + 1) k h2; omega)
          omega
  have fixed : ∀ s d, iterC qs a (s + 1) = iterC qs a s → iterC qs a (s + d + 1) = iterC qs a (s + d) := by
    intro s d e
    induction d with
    | zero => exact e
    | succ d ih => show roundC qs (iterC qs a (s + d + 1)) = roundC qs (iterC qs a (s + d)); rw [ih]
  rcases grow (n + 1) with ⟨s, hs, e⟩ | h
  · have := fixed s (n + 1 - s) e
    rw [show s + (n + 1 - s) = n + 1 by omega] at this
    intro k hk
    rw [← this]
    exact hk
  · have := cnt_le (iterC qs a (n + 1)) (n + 1)
    omega
end

/-- the pairs as numbers -/
def natP (ps : List (Int × Int)) : List (Nat × Nat) := ps.map fun p => (p.1.toNat, p.2.toNat)

section
variable {n : Nat} {ps : List (Int × Int)}
theorem fold_keep : ∀ (ps : List (Int × Int)) (m : Nat → Nat → Bool) {i j : Nat}, m i j = true → ps.foldl (stepP n) m i j = true
  | [], _, _, _, h => h
  | p :: ps, m, i, j, h => fold_keep ps _ (by unfold stepP; split <;> simp [addM, h])
theorem mOf_mem {p : Int × Int} (hp : p ∈ okP n ps) : mOf n ps p.1.toNat p.2.toNat = true := by
  have key : ∀ (l : List (Int × Int)) (m : Nat → Nat → Bool), Clo n m → p ∈ l → (inR n p.1 && inR n p.2) = true → l.foldl (stepP n) m p.1.toNat p.2.toNat = true := by
    intro l
    induction l with
    | nil => intro _ _ h; cases h
    | cons q l ih =>
      intro m C h hr
      rcases List.mem_cons.1 h with rfl | h
      · refine fold_keep l _ ?_
        have hr' : inR n p.1 = true ∧ inR n p.2 = true := by simpa using hr
        simp [inR] at hr'
        simp only [stepP, hr, if_true, addM]
        rw [C.refl _ (by omega), C.refl _ (by omega)]
        simp
      · exact ih _ (C.step q) h hr
  have := List.mem_filter.1 hp
  exact key ps m0 (Clo.m0 n) this.1 this.2
theorem okP_in {p : Nat × Nat} (hp : p ∈ natP (okP n ps)) : p.1 ≤ n ∧ p.2 ≤ n := by
  obtain ⟨q, hq, rfl⟩ := List.mem_map.1 hp
  have := (List.mem_filter.1 hq).2
  simp [inR] at this
  dsimp only
  omega
theorem iter_sound {a : Nat} (ha : a ≤ n) : ∀ r k, iterC (natP (okP n ps)) a r k = true → mOf n ps a k = true := by
  have C := Clo.mOf n ps
  have hf : ∀ (l : List (Nat × Nat)) (D : Nat → Bool), (∀ p ∈ l, p ∈ natP (okP n ps)) → (∀ k, D k = true → mOf n ps a k = true) → ∀ k, l.foldl stepC D k = true → mOf n ps a k = true := by
    intro l
    induction l with
    | nil => intro D _ hD k hk; exact hD k hk
    | cons p l ih =>
      intro D hl hD k hk
      refine ih (stepC D p) (fun q hq => hl q (List.mem_cons_of_mem _ hq)) (fun k hk => ?_) k hk
      unfold stepC at hk
      split at hk
      · rename_i h1
        simp at hk
        rcases hk with rfl | hk
        · have hp := hl p (by simp)
          have hin := okP_in hp
          obtain ⟨q, hq, rfl⟩ := List.mem_map.1 hp
          exact C.trans a _ _ ha hin.1 hin.2 (hD _ h1) (mOf_mem hq)
        · exact hD k hk
      · exact hD k hk
  intro r
  induction r with
  | zero => intro k hk; simp [iterC] at hk; subst hk; exact C.refl k ha
  | succ r ih => exact fun k hk => hf _ _ (fun p hp => hp) ih k hk
/-- what is known is the least that is closed -/
theorem mOf_least {D : Nat → Bool} (h0 : D 0 = false) (hc : ∀ p ∈ natP (okP n ps), D p.1 = true → D p.2 = true) : ∀ i j, mOf n ps i j = true → D i = true → D j = true := by
  have key : ∀ (l : List (Int × Int)) (m : Nat → Nat → Bool), (∀ p ∈ l, p ∈ ps) → (∀ i j, m i j = true → D i = true → D j = true) → ∀ i j, l.foldl (stepP n) m i j = true → D i = true → D j = true := by
    intro l
    induction l with
    | nil => intro m _ hm i j h hi; exact hm i j h hi
    | cons p l ih =>
      intro m hl hm i j h hi
      refine ih (stepP n m p) (fun q hq => hl q (List.mem_cons_of_mem _ hq)) (fun i j h hi => ?_) i j h hi
      unfold stepP at h
      split at h
      · rename_i hr
        simp only [addM, Bool.or_eq_true, Bool.and_eq_true] at h
        rcases h with h | ⟨h1, h2⟩
        · exact hm i j h hi
        · exact hm _ _ h2 (hc (p.1.toNat, p.2.toNat) (List.mem_map.2 ⟨p, List.mem_filter.2 ⟨hl p (by simp), hr⟩, rfl⟩) (hm _ _ h1 hi))
      · exact hm i j h hi
  refine key ps m0 (fun p hp => hp) fun i j h hi => ?_
  simp [m0] at h
  rcases h with rfl | rfl
  · exact hi
  · rw [h0] at hi; cases hi
/-- THE LAW -/
theorem ref_law {a b : Nat} (ha : a ≤ n) (hb : b ≤ n) : (∀ r, iterC (natP (okP n ps)) a r 0 = true → mOf n ps a b = true) ∧
    (iterC (natP (okP n ps)) a (n + 1) 0 = false → iterC (natP (okP n ps)) a (n + 1) b = mOf n ps a b) := by
  have C := Clo.mOf n ps
  refine ⟨fun r h => C.trans a 0 b ha (by omega) hb (iter_sound ha r 0 h) (C.zero b hb), fun h0 => ?_⟩
  cases hm : mOf n ps a b with
  | false => cases hi : iterC (natP (okP n ps)) a (n + 1) b with
    | true => rw [iter_sound ha _ _ hi] at hm; cases hm
    | false => rfl
  | true =>
    refine mOf_least h0 (closed_of_round _ _ (iter_fix ha fun p hp => okP_in hp)) a b hm ?_
    have : ∀ r, iterC (natP (okP n ps)) a r a = true := by
      intro r
      induction r with
      | zero => simp [iterC]
      | succ r ih => exact fold_le _ _ ih
    exact this _
end
end Go.Proofs.Ythpfblimfaefhaa

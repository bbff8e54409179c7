/-
  Rounds over edges: what they come to; a row of ints that are 0 or 1.
-/
import Derived.Test.YtifjmbbnpkgmaaaLiftM
import Derived.Test.YtifjmbbnpkgmaaaLiftN
namespace Go.Lf.Rd
open Go Go.Lf

def stepC (C : Nat → Bool) (p : Nat × Nat) : Nat → Bool := if C p.1 then fun k => decide (k = p.2) || C k else C
def roundC (qs : List (Nat × Nat)) (C : Nat → Bool) : Nat → Bool := qs.foldl stepC C
def iterC (qs : List (Nat × Nat)) (a : Nat) : Nat → Nat → Bool
  | 0 => fun k => decide (k = a)
  | r + 1 => roundC qs (iterC qs a r)

theorem stepC_le (C : Nat → Bool) (p : Nat × Nat) {k : Nat} (h : C k = true) : stepC C p k = true := by
  unfold stepC; split <;> simp [h]
theorem fold_le : ∀ (qs : List (Nat × Nat)) (C : Nat → Bool) {k : Nat}, C k = true → qs.foldl stepC C k = true
  | [], _, _, h => h
  | p :: qs, C, _, h => fold_le qs (stepC C p) (stepC_le C p h)
/-- a set that a round leaves is closed -/
theorem closed_of_round : ∀ (qs : List (Nat × Nat)) (C : Nat → Bool), (∀ k, qs.foldl stepC C k = true → C k = true) → ∀ p ∈ qs, C p.1 = true → C p.2 = true
  | [], _, _, p, hp, _ => by cases hp
  | q :: qs, C, h, p, hp, h1 => by
    have hq : ∀ k, stepC C q k = true → C k = true := fun k hk => h k (fold_le qs _ hk)
    rcases List.mem_cons.1 hp with rfl | hp
    · refine hq p.2 ?_
      unfold stepC
      rw [if_pos h1]
      simp
    · refine closed_of_round qs C (fun k hk => h k ?_) p hp h1
      have : stepC C q = C := by
        funext k
        cases hc : C k with
        | true => exact stepC_le C q hc
        | false => cases hs : stepC C q k with
          | true => rw [hq k hs] at hc; cases hc
          | false => rfl
      simp only [List.foldl_cons, this]
      exact hk

def cnt (C : Nat → Bool) : Nat → Nat
  | 0 => 0
  | n + 1 => cnt C n + (if C n then 1 else 0)
theorem cnt_le (C : Nat → Bool) : ∀ n, cnt C n ≤ n
  | 0 => Nat.le_refl _
  | n + 1 => by have := cnt_le C n; simp only [cnt]; split <;> omega
theorem cnt_mono {C D : Nat → Bool} (h : ∀ k, C k = true → D k = true) : ∀ n, cnt C n ≤ cnt D n
  | 0 => Nat.le_refl _
  | n + 1 => by
    have := cnt_mono h n
    simp only [cnt]
    cases hc : C n with
    | true => simp [h n hc]; exact this
    | false => simp; split <;> omega
theorem cnt_lt {C D : Nat → Bool} (h : ∀ k, C k = true → D k = true) {k : Nat} (h1 : C k = false) (h2 : D k = true) : ∀ n, k < n → cnt C n < cnt D n
  | 0, hk => by omega
  | n + 1, hk => by
    simp only [cnt]
    by_cases e : k = n
    · subst e
      have := cnt_mono h k
      simp [h1, h2]; omega
    · have := cnt_lt h h1 h2 n (by omega)
      cases hc : C n with
      | true => simp [h n hc]; exact this
      | false => simp; split <;> omega

section
variable {n : Nat} {qs : List (Nat × Nat)} {a : Nat}
theorem iter_in (ha : a ≤ n) (hq : ∀ p ∈ qs, p.1 ≤ n ∧ p.2 ≤ n) : ∀ r k, iterC qs a r k = true → k ≤ n := by
  have hf : ∀ (l : List (Nat × Nat)) (C : Nat → Bool), (∀ p ∈ l, p.2 ≤ n) → (∀ k, C k = true → k ≤ n) → ∀ k, l.foldl stepC C k = true → k ≤ n := by
    intro l
    induction l with
    | nil => intro C _ hC k hk; exact hC k hk
    | cons p l ih =>
      intro C hl hC k hk
      refine ih (stepC C p) (fun q hq => hl q (List.mem_cons_of_mem _ hq)) (fun k hk => ?_) k hk
      unfold stepC at hk
      split at hk
      · simp at hk
        rcases hk with rfl | hk
        · exact hl p (by simp)
        · exact hC k hk
      · exact hC k hk
  intro r
  induction r with
  | zero => intro k hk; simp [iterC] at hk; omega
  | succ r ih => exact fun k hk => hf qs _ (fun p hp => (hq p hp).2) ih k hk

/-- a round that adds nothing comes before the last -/
theorem iter_fix (ha : a ≤ n) (hq : ∀ p ∈ qs, p.1 ≤ n ∧ p.2 ≤ n) : ∀ k, iterC qs a (n + 2) k = true → iterC qs a (n + 1) k = true := by
  have grow : ∀ r, (∃ s, s ≤ r ∧ iterC qs a (s + 1) = iterC qs a s) ∨ r + 1 ≤ cnt (iterC qs a r) (n + 1) := by
    intro r
    induction r with
    | zero =>
      right
      have h1 : cnt (fun _ => false) (n + 1) < cnt (iterC qs a 0) (n + 1) := cnt_lt (k := a) (fun k h => by simp at h) rfl (by simp [iterC]) (n + 1) (by omega)
      omega
    | succ r ih =>
      rcases ih with ⟨s, hs, e⟩ | ih
      · exact .inl ⟨s, by omega, e⟩
      · by_cases e : iterC qs a (r + 1) = iterC qs a r
        · exact .inl ⟨r, by omega, e⟩
        · right
          have hm : ∀ k, iterC qs a r k = true → iterC qs a (r + 1) k = true := fun k hk => fold_le qs _ hk
          have : ∃ k, iterC qs a r k = false ∧ iterC qs a (r + 1) k = true := by
            refine Classical.byContradiction fun hne => e ?_
            funext k
            cases h1 : iterC qs a r k with
            | true => exact hm k h1
            | false => cases h2 : iterC qs a (r + 1) k with
              | true => exact absurd ⟨k, h1, h2⟩ hne
              | false => rfl
          obtain ⟨k, h1, h2⟩ := this
          have := cnt_lt hm h1 h2 (n + 1) (by have := iter_in ha hq (r + 1) k h2; omega)
          omega
  have fixed : ∀ s d, iterC qs a (s + 1) = iterC qs a s → iterC qs a (s + d + 1) = iterC qs a (s + d) := by
    intro s d e
    induction d with
    | zero => exact e
    | succ d ih => show roundC qs (iterC qs a (s + d + 1)) = roundC qs (iterC qs a (s + d)); rw [ih]
  rcases grow (n + 1) with ⟨s, hs, e⟩ | h
  · have := fixed s (n + 1 - s) e
    rw [show s + (n + 1 - s) = n + 1 by omega] at this
    intro k hk
    rw [← this]
    exact hk
  · have := cnt_le (iterC qs a (n + 1)) (n + 1)
    omega
end



theorem iter_least {qs : List (Nat × Nat)} {C : Nat → Bool} (hC : ∀ p ∈ qs, C p.1 = true → C p.2 = true) {a : Nat} (ha : C a = true) : ∀ r k, iterC qs a r k = true → C k = true := by
  have hf : ∀ (l : List (Nat × Nat)) (D : Nat → Bool), (∀ p ∈ l, p ∈ qs) → (∀ k, D k = true → C k = true) → ∀ k, l.foldl stepC D k = true → C k = true := by
    intro l
    induction l with
    | nil => intro D _ hD k hk; exact hD k hk
    | cons p l ih =>
      intro D hl hD k hk
      refine ih (stepC D p) (fun q hq => hl q (List.mem_cons_of_mem _ hq)) (fun k hk => ?_) k hk
      unfold stepC at hk
      split at hk
      · rename_i h1
        simp at hk
        rcases hk with rfl | hk
        · exact hC p (hl p (by simp)) (hD _ h1)
        · exact hD k hk
      · exact hD k hk
  intro r
  induction r with
  | zero => intro k hk; simp [iterC] at hk; subst hk; exact ha
  | succ r ih => exact fun k hk => hf _ _ (fun p hp => hp) ih k hk
theorem iter_self {qs : List (Nat × Nat)} {a : Nat} : ∀ r, iterC qs a r a = true
  | 0 => by simp [iterC]
  | r + 1 => fold_le qs _ (iter_self r)
theorem iter_closed {qs : List (Nat × Nat)} {n a : Nat} (ha : a < n) (hq : ∀ p ∈ qs, p.1 < n ∧ p.2 < n) : ∀ p ∈ qs, iterC qs a n p.1 = true → iterC qs a n p.2 = true := by
  obtain ⟨m, rfl⟩ : ∃ m, n = m + 1 := ⟨n - 1, by omega⟩
  exact closed_of_round qs _ (fun k hk => iter_fix (n := m) (by omega) (fun p hp => by have := hq p hp; omega) k hk)

section
variable {h : Heap}
def SetAt (h : Heap) (g n : Nat) (C : Nat → Bool) : Prop := ∃ cs : Array Value, blk h g cs ∧ ∀ k, k < n → cs[k]? = some (.int .i64 (if C k then 1 else 0))
theorem SetAt.get {g n : Nat} {C : Nat → Bool} (x : SetAt h g n C) (k : Nat) (hk : k < n) : cl h ⟨g, k, none⟩ = some (.int .i64 (if C k then 1 else 0)) := by
  obtain ⟨cs, kb, e⟩ := x; rw [kb.cl, e k hk]
theorem SetAt.put {g n : Nat} {C : Nat → Bool} (x : SetAt h g n C) (k : Nat) (hk : k < n) {K : Heap → Prop} (hK : ∀ h', SetAt h' g n (fun j => decide (j = k) || C j) → Fr (fun b => b = g) h h' → K h') : sto h ⟨g, k, none⟩ (.int .i64 1) K := by
  obtain ⟨cs, kb, e⟩ := x
  have hlt := (Array.getElem?_eq_some_iff.1 (e k hk)).1
  refine sto_i kb hlt (hK _ ⟨_, kb.sc k _, fun j hj => ?_⟩ (Fr.scb _ _ _ _))
  rw [Array.getElem?_setIfInBounds]
  by_cases q : k = j
  · subst q; simp [hlt]
  · have q' : ¬ j = k := fun h => q h.symm
    simp [q, q', e j hj]
end
end Go.Lf.Rd

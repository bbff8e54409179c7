/-
  Plain laws of bits: numbers as rows of bytes, how many digits are 1, the lowest that is.
-/
import Derived.Test.YtgbmihnainbgiaaDoorLiftU
namespace Go.Bits
open Go

theorem land_split (k a m r s : Nat) (ha : a < 2 ^ k) (hm : m < 2 ^ k) : (2 ^ k * r + a) &&& (2 ^ k * s + m) = 2 ^ k * (r &&& s) + (a &&& m) := by
  have hlt : a &&& m < 2 ^ k := Nat.lt_of_le_of_lt Nat.and_le_left ha
  apply Nat.eq_of_testBit_eq
  intro j
  rw [Nat.testBit_and, Nat.testBit_two_pow_mul_add _ ha, Nat.testBit_two_pow_mul_add _ hm, Nat.testBit_two_pow_mul_add _ hlt]
  split
  · rw [Nat.testBit_and]
  · rw [Nat.testBit_and]

/-! ### bytes -/
def ofB : List Nat → Nat
  | [] => 0
  | b :: bs => 256 * ofB bs + b
theorem ofB_cons (b : Nat) (bs : List Nat) : ofB (b :: bs) = 256 * ofB bs + b := rfl
def rep (m : Nat) : Nat → Nat
  | 0 => 0
  | n + 1 => 256 * rep m n + m
def f1 (b : Nat) : Nat := ((b / 2) &&& 85) + (b &&& 85)
def f2 (b : Nat) : Nat := ((b / 4) &&& 51) + (b &&& 51)
def f3 (b : Nat) : Nat := (b / 16 + b % 16)
theorem f1_lt : ∀ b, b < 256 → f1 b < 256 := by decide +kernel
theorem f2_ok : ∀ b, b < 256 → f2 b < 256 ∧ f2 b % 16 ≤ 4 + 11 := by decide +kernel
theorem k1 : ∀ b, b < 256 → ∀ e, e < 2 → (b / 2 + 128 * e) &&& 85 = (b / 2) &&& 85 := by decide +kernel
theorem k2 : ∀ b, b < 256 → ∀ e, e < 4 → (b / 4 + 64 * e) &&& 51 = (b / 4) &&& 51 := by decide +kernel
theorem nib : ∀ b, b < 256 → f2 (f1 b) / 16 ≤ 4 ∧ f2 (f1 b) % 16 ≤ 4 := by decide +kernel
theorem k3 : ∀ u, u < 5 → ∀ v, v < 5 → ∀ e, e < 5 → ((16 * u + v) / 16 + 16 * e + (16 * u + v)) &&& 15 = u + v := by decide +kernel
theorem s1 : ∀ (bs : List Nat), (∀ b ∈ bs, b < 256) → ((ofB bs / 2) &&& rep 85 bs.length) + (ofB bs &&& rep 85 bs.length) = ofB (bs.map f1)
  | [], _ => rfl
  | b :: bs, h => by
    have hb := h b (by simp)
    have ih := s1 bs fun x hx => h x (by simp [hx])
    have e1 : ofB (b :: bs) / 2 = 2 ^ 8 * (ofB bs / 2) + (b / 2 + 128 * (ofB bs % 2)) := by rw [ofB_cons]; omega
    have e2 : ofB (b :: bs) = 2 ^ 8 * ofB bs + b := rfl
    have e3 : rep 85 (b :: bs).length = 2 ^ 8 * rep 85 bs.length + 85 := rfl
    rw [e1, e3, land_split _ _ _ _ _ (by omega) (by decide), k1 b hb _ (by omega), e2, land_split _ _ _ _ _ (by omega) (by decide), List.map_cons]
    show _ = 256 * ofB (bs.map f1) + f1 b
    rw [← ih]
    unfold f1
    omega
theorem s2 : ∀ (bs : List Nat), (∀ b ∈ bs, b < 256) → ((ofB bs / 4) &&& rep 51 bs.length) + (ofB bs &&& rep 51 bs.length) = ofB (bs.map f2)
  | [], _ => rfl
  | b :: bs, h => by
    have hb := h b (by simp)
    have ih := s2 bs fun x hx => h x (by simp [hx])
    have e1 : ofB (b :: bs) / 4 = 2 ^ 8 * (ofB bs / 4) + (b / 4 + 64 * (ofB bs % 4)) := by rw [ofB_cons]; omega
    have e2 : ofB (b :: bs) = 2 ^ 8 * ofB bs + b := rfl
    have e3 : rep 51 (b :: bs).length = 2 ^ 8 * rep 51 bs.length + 51 := rfl
    rw [e1, e3, land_split _ _ _ _ _ (by omega) (by decide), k2 b hb _ (by omega), e2, land_split _ _ _ _ _ (by omega) (by decide), List.map_cons]
    show _ = 256 * ofB (bs.map f2) + f2 b
    rw [← ih]
    unfold f2
    omega
theorem ofB_mod (bs : List Nat) (h : ∀ b ∈ bs, b / 16 ≤ 4 ∧ b % 16 ≤ 4) : ofB bs % 16 ≤ 4 := by
  cases bs with
  | nil => decide
  | cons b bs =>
    have := (h b (by simp)).2
    rw [ofB_cons]; omega
theorem s3 : ∀ (bs : List Nat), (∀ b ∈ bs, b / 16 ≤ 4 ∧ b % 16 ≤ 4) → (ofB bs / 16 + ofB bs) &&& rep 15 bs.length = ofB (bs.map f3)
  | [], _ => rfl
  | b :: bs, h => by
    obtain ⟨h1, h2⟩ := h b (by simp)
    have ih := s3 bs fun x hx => h x (by simp [hx])
    have hm := ofB_mod bs fun x hx => h x (by simp [hx])
    have e1 : ofB (b :: bs) / 16 + ofB (b :: bs) = 2 ^ 8 * (ofB bs / 16 + ofB bs) + (b / 16 + 16 * (ofB bs % 16) + b) := by rw [ofB_cons]; omega
    have e3 : rep 15 (b :: bs).length = 2 ^ 8 * rep 15 bs.length + 15 := rfl
    have e4 : b = 16 * (b / 16) + b % 16 := by omega
    have e5 : (b / 16 + 16 * (ofB bs % 16) + b) &&& 15 = f3 b := by
      have := k3 (b / 16) (by omega) (b % 16) (by omega) (ofB bs % 16) (by omega)
      rw [← e4] at this
      exact this
    rw [e1, e3, land_split _ _ _ _ _ (by omega) (by decide), e5, ih]
    rfl
def bytes (x : Nat) : Nat → List Nat
  | 0 => []
  | n + 1 => (x % 256) :: bytes (x / 256) n
theorem bytes_lt : ∀ (n x : Nat), ∀ b ∈ bytes x n, b < 256
  | 0, _, b, h => by cases h
  | n + 1, x, b, h => by
    rcases List.mem_cons.1 h with rfl | h
    · exact Nat.mod_lt _ (by decide)
    · exact bytes_lt n _ b h
theorem bytes_len : ∀ (n x : Nat), (bytes x n).length = n
  | 0, _ => rfl
  | n + 1, x => by simp [bytes, bytes_len n]
theorem ofB_bytes : ∀ (n x : Nat), x < 256 ^ n → ofB (bytes x n) = x
  | 0, x, h => by simp at h; subst h; rfl
  | n + 1, x, h => by
    have : x / 256 < 256 ^ n := by rw [Nat.pow_succ] at h; omega
    unfold bytes ofB
    rw [ofB_bytes n _ this]
    omega
/-- how many digits are 1 -/
def ones (n x : Nat) : Nat := ((List.range n).filter fun i => x.testBit i).length
theorem ones_zero (x : Nat) : ones 0 x = 0 := rfl
theorem range_split (n m : Nat) : List.range (n + m) = List.range n ++ (List.range m).map (n + ·) := by
  rw [List.range_add]
theorem ones_split (k m a r : Nat) (ha : a < 2 ^ k) : ones (k + m) (2 ^ k * r + a) = ones k a + ones m r := by
  unfold ones
  rw [range_split, List.filter_append, List.length_append]
  congr 1
  · congr 1
    apply List.filter_congr
    intro i hi
    rw [Nat.testBit_two_pow_mul_add _ ha, if_pos (List.mem_range.1 hi)]
  · rw [List.filter_map, List.length_map]
    congr 1
    apply List.filter_congr
    intro i _
    simp only [Function.comp_apply]
    rw [Nat.testBit_two_pow_mul_add _ ha, if_neg (by omega)]
    congr 1
    omega
theorem ones8 : ∀ b, b < 256 → f3 (f2 (f1 b)) = ones 8 b := by decide +kernel
theorem ones_bytes : ∀ (n x : Nat), x < 256 ^ n → ones (8 * n) x = ((bytes x n).map (ones 8)).sum
  | 0, _, _ => rfl
  | n + 1, x, h => by
    have h1 : x / 256 < 256 ^ n := by rw [Nat.pow_succ] at h; omega
    have e : x = 2 ^ 8 * (x / 256) + x % 256 := by omega
    have h2 := ones_split 8 (8 * n) (x % 256) (x / 256) (Nat.mod_lt _ (by decide))
    rw [← e] at h2
    rw [show 8 * (n + 1) = 8 + 8 * n by omega, h2, ones_bytes n _ h1]
    rfl
theorem ones8_le : ∀ b, b < 256 → ones 8 b ≤ 8 := by decide +kernel
/-- the library's way -/
def count64 (x : Nat) : Nat :=
  let x1 := ((x / 2) &&& 0x5555555555555555) + (x &&& 0x5555555555555555)
  let x2 := ((x1 / 4) &&& 0x3333333333333333) + (x1 &&& 0x3333333333333333)
  let x3 := (x2 / 16 + x2) &&& 0x0f0f0f0f0f0f0f0f
  let x4 := x3 + x3 / 256
  let x5 := x4 + x4 / 65536
  let x6 := x5 + x5 / 4294967296
  x6 % 128
theorem sum8 {a b c d e f g h : Nat} (ha : a ≤ 8) (hb : b ≤ 8) (hc : c ≤ 8) (hd : d ≤ 8) (he : e ≤ 8) (hf : f ≤ 8) (hg : g ≤ 8) (hh : h ≤ 8) :
    (let x3 := ofB [a, b, c, d, e, f, g, h]
     let x4 := x3 + x3 / 256
     let x5 := x4 + x4 / 65536
     let x6 := x5 + x5 / 4294967296
     x6 % 128) = a + b + c + d + e + f + g + h := by
  have e3 : ofB [a, b, c, d, e, f, g, h] = a + 256 * b + 65536 * c + 16777216 * d + 4294967296 * e + 1099511627776 * f + 281474976710656 * g + 72057594037927936 * h := by simp only [ofB]; omega
  have e4 : (a + 256 * b + 65536 * c + 16777216 * d + 4294967296 * e + 1099511627776 * f + 281474976710656 * g + 72057594037927936 * h) / 256 = b + 256 * c + 65536 * d + 16777216 * e + 4294967296 * f + 1099511627776 * g + 281474976710656 * h := by omega
  have e5 : (a + 256 * b + 65536 * c + 16777216 * d + 4294967296 * e + 1099511627776 * f + 281474976710656 * g + 72057594037927936 * h) + (b + 256 * c + 65536 * d + 16777216 * e + 4294967296 * f + 1099511627776 * g + 281474976710656 * h) =
      (a + b) + 256 * (b + c) + 65536 * (c + d) + 16777216 * (d + e) + 4294967296 * (e + f) + 1099511627776 * (f + g) + 281474976710656 * (g + h) + 72057594037927936 * h := by omega
  simp only [e3, e4, e5]
  obtain ⟨s0, h0⟩ : ∃ s, s = a + b := ⟨_, rfl⟩
  obtain ⟨s1, h1⟩ : ∃ s, s = b + c := ⟨_, rfl⟩
  obtain ⟨s2, h2⟩ : ∃ s, s = c + d := ⟨_, rfl⟩
  obtain ⟨s3, h3⟩ : ∃ s, s = d + e := ⟨_, rfl⟩
  obtain ⟨s4, h4⟩ : ∃ s, s = e + f := ⟨_, rfl⟩
  obtain ⟨s5, h5⟩ : ∃ s, s = f + g := ⟨_, rfl⟩
  obtain ⟨s6, h6⟩ : ∃ s, s = g + h := ⟨_, rfl⟩
  have eg : a + b + c + d + e + f + g + h = s0 + s2 + s4 + s6 := by omega
  rw [← h0, ← h1, ← h2, ← h3, ← h4, ← h5, ← h6] 
  rw [show s0 + c + d + e + f + g + h = s0 + s2 + s4 + s6 by omega]
  have q0 : s0 ≤ 16 := by omega
  have q1 : s1 ≤ 16 := by omega
  have q2 : s2 ≤ 16 := by omega
  have q3 : s3 ≤ 16 := by omega
  have q4 : s4 ≤ 16 := by omega
  have q5 : s5 ≤ 16 := by omega
  have q6 : s6 ≤ 16 := by omega
  clear h0 h1 h2 h3 h4 h5 h6 e3 e4 e5 eg ha hb hc hd he hf hg
  have e6 : (s0 + 256 * s1 + 65536 * s2 + 16777216 * s3 + 4294967296 * s4 + 1099511627776 * s5 + 281474976710656 * s6 + 72057594037927936 * h) / 65536 = s2 + 256 * s3 + 65536 * s4 + 16777216 * s5 + 4294967296 * s6 + 1099511627776 * h := by omega
  have e7 : (s0 + 256 * s1 + 65536 * s2 + 16777216 * s3 + 4294967296 * s4 + 1099511627776 * s5 + 281474976710656 * s6 + 72057594037927936 * h) + (s2 + 256 * s3 + 65536 * s4 + 16777216 * s5 + 4294967296 * s6 + 1099511627776 * h) =
      (s0 + s2) + 256 * (s1 + s3) + 65536 * (s2 + s4) + 16777216 * (s3 + s5) + 4294967296 * ((s4 + s6) + 256 * (s5 + h) + 65536 * s6 + 16777216 * h) := by omega
  have e8 : ((s0 + s2) + 256 * (s1 + s3) + 65536 * (s2 + s4) + 16777216 * (s3 + s5) + 4294967296 * ((s4 + s6) + 256 * (s5 + h) + 65536 * s6 + 16777216 * h)) / 4294967296 = (s4 + s6) + 256 * (s5 + h) + 65536 * s6 + 16777216 * h := by omega
  simp only [e6, e7, e8]
  omega
theorem count64_ones (x : Nat) (hx : x < 18446744073709551616) : count64 x = ones 64 x := by
  have hx' : x < 256 ^ 8 := hx
  have hb := bytes_lt 8 x
  have hl := bytes_len 8 x
  have e0 := ofB_bytes 8 x hx'
  have r1 : (0x5555555555555555 : Nat) = rep 85 8 := by decide
  have r2 : (0x3333333333333333 : Nat) = rep 51 8 := by decide
  have r3 : (0x0f0f0f0f0f0f0f0f : Nat) = rep 15 8 := by decide
  have h1 := s1 (bytes x 8) hb
  rw [hl, e0] at h1
  have hb1 : ∀ b ∈ (bytes x 8).map f1, b < 256 := fun b hb' => by
    obtain ⟨c, hc, rfl⟩ := List.mem_map.1 hb'
    exact f1_lt c (hb c hc)
  have h2 := s2 ((bytes x 8).map f1) hb1
  rw [List.length_map, hl] at h2
  have hb2 : ∀ b ∈ ((bytes x 8).map f1).map f2, b / 16 ≤ 4 ∧ b % 16 ≤ 4 := fun b hb' => by
    obtain ⟨c, hc, rfl⟩ := List.mem_map.1 hb'
    obtain ⟨d, hd, rfl⟩ := List.mem_map.1 hc
    exact nib d (hb d hd)
  have h3 := s3 (((bytes x 8).map f1).map f2) hb2
  rw [List.length_map, List.length_map, hl] at h3
  have e4 : (((bytes x 8).map f1).map f2).map f3 = (bytes x 8).map (ones 8) := by
    rw [List.map_map, List.map_map]
    exact List.map_congr_left fun b hb' => ones8 b (hb b hb')
  rw [e4] at h3
  have h5 := ones_bytes 8 x hx'
  have h6 : ∀ b ∈ bytes x 8, ones 8 b ≤ 8 := fun b hb' => ones8_le b (hb b hb')
  unfold count64
  rw [r1, r2, r3]
  simp only [h1, h2, h3]
  rw [show (64 : Nat) = 8 * 8 from rfl, h5]
  have e8 : bytes x 8 = [x % 256, x / 256 % 256, x / 256 / 256 % 256, x / 256 / 256 / 256 % 256, x / 256 / 256 / 256 / 256 % 256, x / 256 / 256 / 256 / 256 / 256 % 256, x / 256 / 256 / 256 / 256 / 256 / 256 % 256, x / 256 / 256 / 256 / 256 / 256 / 256 / 256 % 256] := rfl
  rw [e8] at h6 ⊢
  simp only [List.map_cons, List.map_nil, List.mem_cons, List.not_mem_nil, or_false, forall_eq_or_imp, forall_eq] at h6 ⊢
  obtain ⟨q0, q1, q2, q3, q4, q5, q6, q7⟩ := h6
  have := sum8 q0 q1 q2 q3 q4 q5 q6 q7
  simp only [List.sum_cons, List.sum_nil]
  rw [show ∀ a b c d e f g h : Nat, a + (b + (c + (d + (e + (f + (g + (h + 0))))))) = a + b + c + d + e + f + g + h from fun a b c d e f g h => by omega]
  exact this

/-! ### the lowest digit that is 1 -/
theorem odd_part : ∀ (x : Nat), 0 < x → ∃ k q, x = 2 ^ (k + 1) * q + 2 ^ k
  | x, h => by
    induction x using Nat.strongRecOn with
    | ind x ih =>
      rcases Nat.mod_two_eq_zero_or_one x with e | e
      · obtain ⟨k, q, hk⟩ := ih (x / 2) (by omega) (by omega)
        refine ⟨k + 1, q, ?_⟩
        have : x = 2 * (x / 2) := by omega
        rw [this, hk, Nat.pow_succ 2 (k + 1), Nat.pow_succ 2 k]
        rw [Nat.mul_add, Nat.mul_comm 2 (2 ^ k), ← Nat.mul_assoc, Nat.mul_comm 2 (2 ^ k * 2)]
      · exact ⟨0, x / 2, by omega⟩
theorem low_and_pred (k q : Nat) : (2 ^ (k + 1) * q + 2 ^ k) &&& (2 ^ (k + 1) * q + 2 ^ k - 1) = 2 ^ (k + 1) * q := by
  have h0 : 0 < 2 ^ k := Nat.two_pow_pos k
  have h1 : 2 ^ k < 2 ^ (k + 1) := by rw [Nat.pow_succ]; omega
  have e : 2 ^ (k + 1) * q + 2 ^ k - 1 = 2 ^ (k + 1) * q + (2 ^ k - 1) := by omega
  rw [e, land_split _ _ _ _ _ h1 (by omega), Nat.and_self]
  have : 2 ^ k &&& (2 ^ k - 1) = 0 := by
    apply Nat.eq_of_testBit_eq
    intro j
    rw [Nat.testBit_and, Nat.testBit_two_pow, Nat.testBit_two_pow_sub_one, Nat.zero_testBit]
    by_cases h : k = j
    · subst h; simp
    · simp [h]
  rw [this, Nat.add_zero]
theorem and_compl (n q : Nat) (h : q < 2 ^ n) : q &&& (2 ^ n - (q + 1)) = 0 := by
  apply Nat.eq_of_testBit_eq
  intro j
  rw [Nat.testBit_and, Nat.testBit_two_pow_sub_succ h, Nat.zero_testBit]
  cases q.testBit j <;> simp
theorem low_and_neg (k q : Nat) (hk : k < 64) (h : 2 ^ (k + 1) * q + 2 ^ k < 2 ^ 64) : (2 ^ (k + 1) * q + 2 ^ k) &&& (2 ^ 64 - (2 ^ (k + 1) * q + 2 ^ k)) = 2 ^ k := by
  have h0 : 0 < 2 ^ k := Nat.two_pow_pos k
  have h1 : 2 ^ k < 2 ^ (k + 1) := by rw [Nat.pow_succ]; omega
  have e64 : 2 ^ 64 = 2 ^ (k + 1) * 2 ^ (63 - k) := by rw [← Nat.pow_add]; congr 1; omega
  have hq : q < 2 ^ (63 - k) := by
    rw [e64] at h
    have : 2 ^ (k + 1) * q < 2 ^ (k + 1) * 2 ^ (63 - k) := by omega
    exact Nat.lt_of_mul_lt_mul_left this
  have e : 2 ^ 64 - (2 ^ (k + 1) * q + 2 ^ k) = 2 ^ (k + 1) * (2 ^ (63 - k) - (q + 1)) + 2 ^ k := by
    rw [e64, Nat.mul_sub, Nat.mul_add, Nat.mul_one]
    have : 2 ^ (k + 1) * (q + 1) ≤ 2 ^ (k + 1) * 2 ^ (63 - k) := Nat.mul_le_mul_left _ hq
    rw [Nat.mul_add, Nat.mul_one] at this
    have h2 : 2 ^ (k + 1) = 2 ^ k + 2 ^ k := by rw [Nat.pow_succ]; omega
    omega
  rw [e, land_split _ _ _ _ _ h1 h1, and_compl _ _ hq, Nat.and_self, Nat.mul_zero, Nat.zero_add]
theorem low_bit (k q j : Nat) : (2 ^ (k + 1) * q + 2 ^ k).testBit j = (decide (j = k) || (2 ^ (k + 1) * q).testBit j) := by
  have h1 : 2 ^ k < 2 ^ (k + 1) := by rw [Nat.pow_succ]; have := Nat.two_pow_pos k; omega
  have e := Nat.testBit_two_pow_mul_add q (Nat.two_pow_pos (k + 1)) j
  rw [Nat.add_zero] at e
  rw [Nat.testBit_two_pow_mul_add _ h1, e]
  by_cases hj : j < k + 1
  · rw [if_pos hj, if_pos hj, Nat.testBit_two_pow, Nat.zero_testBit, Bool.or_false]
    by_cases h : k = j
    · subst h; simp
    · have : ¬ j = k := fun e => h e.symm
      simp [h, this]
  · rw [if_neg hj, if_neg hj]
    have : ¬ j = k := by omega
    simp [this]
theorem low_none (k q j : Nat) (h : j ≤ k) : (2 ^ (k + 1) * q).testBit j = false := by
  have e := Nat.testBit_two_pow_mul_add q (Nat.two_pow_pos (k + 1)) j
  rw [Nat.add_zero] at e
  rw [e, if_pos (by omega), Nat.zero_testBit]
end Go.Bits

/-
  Kinds of floats, rows; NumOrders walked.
-/
import Derived.Test.YtfafhadklhnemaaS5
namespace Go.Proofs.Ytfafhadklhnemaa
open Go Go.Lf Ieee

def kd (a : Nat) : Int := if infR < rung a then 0 else if rung a = infR then (if sgnB a then 1 else 6) else if rung a = 0 then (if sgnB a then 3 else 4) else if sgnB a then 2 else 5
theorem rung_rd (a : Nat) (ha : a < 18446744073709551616) : a = (if sgnB a then 9223372036854775808 else 0) + rung a := by
  unfold sgnB rung
  by_cases h : a / 9223372036854775808 % 2 = 1
  · simp [h]; omega
  · simp [h]; omega
theorem sgn_div63 (a : Nat) (ha : a < 18446744073709551616) : a / 9223372036854775808 = (if sgnB a then 1 else 0) := by
  unfold sgnB
  by_cases h : a / 9223372036854775808 % 2 = 1
  · simp [h]; omega
  · simp [h]; omega
theorem bits_and (a m k : Nat) (ha : a < 18446744073709551616) (hm : m = 2 ^ k - 1) (hm2 : m < 18446744073709551616) : bitsI .and .u64 (a : Int) (m : Int) = ((a % 2 ^ k : Nat) : Int) := by
  have e1 : (BitVec.ofNat 64 a).toNat = a := by rw [BitVec.toNat_ofNat]; exact Nat.mod_eq_of_lt ha
  have e2 : (BitVec.ofNat 64 m).toNat = m := by rw [BitVec.toNat_ofNat]; exact Nat.mod_eq_of_lt hm2
  have := bitsI_and (BitVec.ofNat 64 a) (BitVec.ofNat 64 m)
  rw [e1, e2, BitVec.toNat_and, e1, e2] at this
  rw [this, hm, Nat.and_two_pow_sub_one_eq_mod]
theorem shr_nat (a s : Nat) (hs : s ≤ 64) : (a : Int).fdiv (2 ^ (min (s : Int).toNat IntKind.u64.bits)) = ((a / 2 ^ s : Nat) : Int) := by
  have e1 : min ((s : Int)).toNat IntKind.u64.bits = s := by
    rw [Int.toNat_natCast]; show min s 64 = s; omega
  rw [e1]
  have : (2 : Int) ^ s = ((2 ^ s : Nat) : Int) := by rw [Int.natCast_pow]; rfl
  rw [this, Int.fdiv_eq_ediv_of_nonneg _ (Int.natCast_nonneg (2 ^ s))]
  rfl
theorem negF (a : Nat) (ha : a < 18446744073709551616) : rung (Op.negFloat .f64 a) = rung a ∧ sgnB (Op.negFloat .f64 a) = !sgnB a ∧ Op.negFloat .f64 a < 18446744073709551616 := by
  have e : Op.negFloat .f64 a = a ^^^ 2 ^ 63 := rfl
  have e2 : a ^^^ 2 ^ 63 = if sgnB a then a - 9223372036854775808 else a + 9223372036854775808 := by
    have hd := sgn_div63 a ha
    apply Nat.eq_of_testBit_eq
    intro i
    rw [Nat.testBit_xor, Nat.testBit_two_pow]
    by_cases hs : sgnB a = true
    · rw [hs] at hd ⊢
      simp only [if_true] at hd ⊢
      have h1 : a = 2 ^ 63 * 1 + (a - 9223372036854775808) := by omega
      have h2 : a - 9223372036854775808 < 2 ^ 63 := by omega
      generalize a - 9223372036854775808 = r at *
      rw [h1, Nat.testBit_two_pow_mul_add _ h2]
      by_cases hi : i < 63
      · rw [if_pos hi]
        have : ¬ 63 = i := by omega
        simp [this]
      · rw [if_neg hi, Nat.testBit_lt_two_pow (Nat.lt_of_lt_of_le h2 (Nat.pow_le_pow_right (by omega) (by omega)))]
        by_cases hi2 : i = 63
        · subst hi2; simp
        · have h3 : ¬ 63 = i := fun h => hi2 h.symm
          have h4 : i - 63 = (i - 64) + 1 := by omega
          rw [h4]
          simp [h3, Nat.testBit_succ]
    · have hs : sgnB a = false := by simpa using hs
      rw [hs] at hd ⊢
      simp only [Bool.false_eq_true, if_false] at hd ⊢
      have h2 : a < 2 ^ 63 := by omega
      have h1 : a + 9223372036854775808 = 2 ^ 63 * 1 + a := by omega
      rw [h1, Nat.testBit_two_pow_mul_add _ h2]
      by_cases hi : i < 63
      · rw [if_pos hi]
        have : ¬ 63 = i := by omega
        simp [this]
      · rw [if_neg hi, Nat.testBit_lt_two_pow (Nat.lt_of_lt_of_le h2 (Nat.pow_le_pow_right (by omega) (by omega)))]
        by_cases hi2 : i = 63
        · subst hi2; simp
        · have h3 : ¬ 63 = i := fun h => hi2 h.symm
          have h4 : i - 63 = (i - 64) + 1 := by omega
          rw [h4]
          simp [h3, Nat.testBit_succ]
  rw [e, e2]
  have hd := sgn_div63 a ha
  by_cases hs : sgnB a = true
  · rw [hs] at hd ⊢
    simp only [if_true] at hd ⊢
    refine ⟨by unfold rung; omega, ?_, by omega⟩
    unfold sgnB
    have : (a - 9223372036854775808) / 9223372036854775808 % 2 = 0 := by omega
    rw [this]; rfl
  · have hs : sgnB a = false := by simpa using hs
    rw [hs] at hd ⊢
    simp only [Bool.false_eq_true, if_false] at hd ⊢
    refine ⟨by unfold rung; omega, ?_, by omega⟩
    unfold sgnB
    have : (a + 9223372036854775808) / 9223372036854775808 % 2 = 1 := by omega
    rw [this]; rfl
theorem rowv_neg (a : Nat) (ha : a < 18446744073709551616) : rowv (Op.negFloat .f64 a) = - rowv a := by
  obtain ⟨h1, h2, _⟩ := negF a ha
  unfold rowv
  rw [h1, h2]
  cases sgnB a <;> simp

section
variable {h : Heap}
theorem parts_spec (a : Nat) (ha : a < 18446744073709551616) : CallsH Try.prog 47 #[.int .u64 a] h (fun v h' => h = h' ∧ v = .tuple #[.int .u64 ((a / 9223372036854775808 : Nat) : Int), .int .u64 ((a / 4503599627370496 % 2048 : Nat) : Int), .int .u64 ((a % 4503599627370496 : Nat) : Int)]) := by
  apply F47
  unfold L47
  have e1 := shr_nat a 63 (by omega)
  have e2 := shr_nat a 52 (by omega)
  have e3 : bitsI .and .u64 ((a / 2 ^ 52 : Nat) : Int) 2047 = ((a / 2 ^ 52 % 2 ^ 11 : Nat) : Int) := bits_and (a / 2 ^ 52) 2047 11 (by omega) rfl (by omega)
  have e4 : bitsI .and .u64 (a : Int) 4503599627370495 = ((a % 2 ^ 52 : Nat) : Int) := bits_and a 4503599627370495 52 ha rfl (by omega)
  have c63 : ((63 : Nat) : Int) = 63 := rfl
  have c52 : ((52 : Nat) : Int) = 52 := rfl
  rw [c63] at e1
  rw [c52] at e2
  rw [e1, e2, e3, e4]
  exact ⟨rfl, rfl⟩
theorem kindR_spec (a : Nat) (ha : a < 18446744073709551616) : CallsH Try.prog 16 #[.int .u64 a] h (fun v h' => h = h' ∧ v = .int .i64 (kd a)) := by
  apply F16
  unfold L16
  refine cal_of (parts_spec a ha) ?_
  rintro _ _ ⟨rfl, rfl⟩
  refine ⟨_, rfl, _, rfl, _, rfl, _, rfl, _, rfl, _, rfl, _, rfl, ?_⟩
  have hs : (0 : Int) < ((a / 9223372036854775808 : Nat) : Int) ↔ sgnB a = true := by
    rw [sgn_div63 a ha]
    cases sgnB a <;> simp
  have hr : rung a = a % 9223372036854775808 := rfl
  have hi : infR = 9218868437227405312 := rfl
  refine ifb_iff (q := infR < rung a) (by simp; omega) (fun h1 => ⟨rfl, by unfold kd; rw [if_pos h1]⟩) (fun h1 => ?_)
  refine ifb_iff (q := rung a = infR) (by simp; omega) (fun h2 => ?_) (fun h2 => ?_)
  · refine ifb_iff (q := sgnB a = true) (by rw [decide_eq_true_iff]; exact hs) (fun h3 => ⟨rfl, by unfold kd; rw [if_neg h1, if_pos h2, if_pos h3]⟩) (fun h3 => ⟨rfl, by unfold kd; rw [if_neg h1, if_pos h2, if_neg h3]⟩)
  · refine ifb_iff (q := rung a = 0) (by simp; omega) (fun h4 => ?_) (fun h4 => ?_)
    · refine ifb_iff (q := sgnB a = true) (by rw [decide_eq_true_iff]; exact hs) (fun h3 => ⟨rfl, by unfold kd; rw [if_neg h1, if_neg h2, if_pos h4, if_pos h3]⟩) (fun h3 => ⟨rfl, by unfold kd; rw [if_neg h1, if_neg h2, if_pos h4, if_neg h3]⟩)
    · refine ifb_iff (q := sgnB a = true) (by rw [decide_eq_true_iff]; exact hs) (fun h3 => ⟨rfl, by unfold kd; rw [if_neg h1, if_neg h2, if_neg h4, if_pos h3]⟩) (fun h3 => ⟨rfl, by unfold kd; rw [if_neg h1, if_neg h2, if_neg h4, if_neg h3]⟩)
theorem maxF : rung 9218868437227405311 = 9218868437227405311 ∧ rowv 9218868437227405311 = 9218868437227405311 := ⟨rfl, rfl⟩
theorem fO_gt {a b : Nat} (ha : rung a ≤ infR) (hb : rung b ≤ infR) : (fO a b == some .gt) = decide (rowv b < rowv a) := by
  rw [fO_row ha hb]
  rcases Int.lt_trichotomy (rowv a) (rowv b) with h | h | h
  · rw [Int.compare_eq_lt.2 h]; have : ¬ rowv b < rowv a := by omega
    simp [this]
  · rw [Int.compare_eq_eq.2 h]; have : ¬ rowv b < rowv a := by omega
    simp [this]
  · rw [Int.compare_eq_gt.2 h]; simp [h]
theorem fO_lt {a b : Nat} (ha : rung a ≤ infR) (hb : rung b ≤ infR) : (fO a b == some .lt) = decide (rowv a < rowv b) := by
  rw [fO_row ha hb]
  rcases Int.lt_trichotomy (rowv a) (rowv b) with h | h | h
  · rw [Int.compare_eq_lt.2 h]; simp [h]
  · rw [Int.compare_eq_eq.2 h]; have : ¬ rowv a < rowv b := by omega
    simp [this]
  · rw [Int.compare_eq_gt.2 h]; have : ¬ rowv a < rowv b := by omega
    simp [this]
theorem fO_eq {a b : Nat} (ha : rung a ≤ infR) (hb : rung b ≤ infR) : (fO a b == some .eq) = decide (rowv a = rowv b) := by
  rw [fO_row ha hb]
  rcases Int.lt_trichotomy (rowv a) (rowv b) with h | h | h
  · rw [Int.compare_eq_lt.2 h]; have : ¬ rowv a = rowv b := by omega
    simp [this]
  · rw [Int.compare_eq_eq.2 h]; simp [h]
  · rw [Int.compare_eq_gt.2 h]; have : ¬ rowv a = rowv b := by omega
    simp [this]
theorem isinf_spec (a : Nat) (ha : a < 18446744073709551616) (hn : rung a ≤ infR) (s : Int) (hs : s = 1 ∨ s = -1) : CallsH Try.prog 45 #[.float .f64 a, .int .i64 s] h (fun v h' => h = h' ∧ v = .bool (decide (rung a = infR) && (sgnB a == decide (s = -1)))) := by
  apply F45
  unfold L45
  have hi : infR = 9218868437227405312 := rfl
  refine ⟨fun r h' => ((s = 1 ∧ r = a) ∨ (s = -1 ∧ r = Op.negFloat .f64 a)) ∧ h = h', ⟨fun e => ?_, fun _ => ifb_dec (fun h0 => ⟨.inr ⟨by omega, rfl⟩, rfl⟩) (fun h0 => ⟨.inl ⟨by omega, rfl⟩, rfl⟩)⟩, ?_⟩
  · rcases hs with rfl | rfl <;> simp at e
  · have hm : rung 9218868437227405311 ≤ infR := by decide
    rintro r _ ⟨⟨rfl, rfl⟩ | ⟨rfl, rfl⟩, rfl⟩
    · refine ⟨rfl, ?_⟩
      rw [fO_gt hn hm, maxF.2]
      congr 1
      unfold rowv
      cases sgnB r
      · simp; omega
      · simp
    · obtain ⟨n1, n2, n3⟩ := negF a ha
      refine ⟨rfl, ?_⟩
      rw [fO_gt (by rw [n1]; exact hn) hm, maxF.2, rowv_neg a ha]
      congr 1
      unfold rowv
      cases sgnB a
      · simp
      · simp; omega
theorem signbit_spec (a : Nat) (ha : a < 18446744073709551616) : CallsH Try.prog 46 #[.float .f64 a] h (fun v h' => h = h' ∧ v = .bool (sgnB a)) := by
  apply F46
  unfold L46
  refine ⟨rfl, ?_⟩
  congr 1
  have hd := sgn_div63 a ha
  rw [IntKind.wrap_i64, Bool.eq_iff_iff, decide_eq_true_iff]
  cases hs : sgnB a <;> rw [hs] at hd <;> simp at hd ⊢ <;> omega
theorem kind_spec (a : Nat) (ha : a < 18446744073709551616) : CallsH Try.prog 15 #[.int .u64 a] h (fun v h' => h = h' ∧ v = .int .i64 (kd a)) := by
  apply F15
  unfold L15
  rw [Int.toNat_natCast]
  by_cases hn : infR < rung a
  · rw [fO_none (.inl hn)]
    exact ⟨fun _ => ⟨rfl, by unfold kd; rw [if_pos hn]⟩, fun e => (by cases e)⟩
  · have hn' : rung a ≤ infR := by omega
    have e0 : fO a a = some .eq := by rw [fO_row hn' hn', Int.compare_eq_eq.2 rfl]
    rw [e0]
    refine ⟨fun e => (by cases e), fun _ => ?_⟩
    refine cal_of (isinf_spec a ha hn' (-1) (.inr rfl)) ?_
    rintro _ _ ⟨rfl, rfl⟩
    refine ⟨_, rfl, ifb_iff (q := rung a = infR ∧ sgnB a = true) (by simp) (fun h1 => ⟨rfl, by unfold kd; rw [if_neg hn, if_pos h1.1, if_pos h1.2]⟩) (fun h1 => ?_)⟩
    refine cal_of (isinf_spec a ha hn' 1 (.inl rfl)) ?_
    rintro _ _ ⟨rfl, rfl⟩
    refine ⟨_, rfl, ifb_iff (q := rung a = infR) (by simp; intro hq; exact (by cases hs : sgnB a with | false => rfl | true => exact absurd ⟨hq, hs⟩ h1)) (fun h2 => ⟨rfl, ?_⟩) (fun h2 => ?_)⟩
    · have hs : ¬ sgnB a = true := fun h => h1 ⟨h2, h⟩
      unfold kd; rw [if_neg hn, if_pos h2, if_neg hs]
    have z0 : rung 0 ≤ infR := by decide
    have zr : rowv 0 = 0 := rfl
    rw [fO_lt hn' z0, fO_gt hn' z0, zr]
    refine ifb_dec (fun h3 => ⟨rfl, ?_⟩) (fun h3 => ifb_dec (fun h4 => ⟨rfl, ?_⟩) (fun h4 => ?_))
    · unfold rowv at h3
      cases hs : sgnB a with
      | false => rw [hs] at h3; simp at h3; omega
      | true =>
        rw [hs] at h3; simp at h3
        have : ¬ rung a = 0 := by omega
        simp [kd, hn, h2, this, hs]
    · unfold rowv at h4
      cases hs : sgnB a with
      | true => rw [hs] at h4; simp at h4; omega
      | false =>
        rw [hs] at h4; simp at h4
        have : ¬ rung a = 0 := by omega
        simp [kd, hn, h2, this, hs]
    · have hz : rung a = 0 := by
        unfold rowv at h3 h4
        cases hs : sgnB a <;> rw [hs] at h3 h4 <;> simp at h3 h4 <;> omega
      refine cal_of (signbit_spec a ha) ?_
      rintro _ _ ⟨rfl, rfl⟩
      refine ⟨_, rfl, fun h5 => ⟨rfl, ?_⟩, fun h5 => ⟨rfl, ?_⟩⟩
      · unfold kd; rw [if_neg hn, if_neg h2, if_pos hz, if_pos h5]
      · unfold kd; rw [if_neg hn, if_neg h2, if_pos hz, if_neg (by rw [h5]; simp)]
theorem zero_spec (a : Nat) (ha : a < 18446744073709551616) : CallsH Try.prog 52 #[.int .u64 a] h (fun v h' => h = h' ∧ v = .bool (decide (rung a = 0))) := by
  apply F52
  unfold L52
  refine cal_of (kindR_spec a ha) ?_
  rintro _ _ ⟨rfl, rfl⟩
  have key : (kd a = 3 ∨ kd a = 4) ↔ rung a = 0 := by
    have hi : infR = 9218868437227405312 := rfl
    unfold kd
    repeat' split
    all_goals omega
  refine ⟨_, rfl, fun b h' => b = decide (rung a = 0) ∧ h = h', ⟨fun e => ?_, fun e => ?_⟩, ?_⟩
  · have : kd a = 3 := by simpa using e
    exact ⟨(decide_eq_true (key.1 (.inl this))).symm, rfl⟩
  · have h3 : ¬ kd a = 3 := by simpa using e
    refine cal_of (kindR_spec a ha) ?_
    rintro _ _ ⟨rfl, rfl⟩
    refine ⟨_, rfl, ?_, rfl⟩
    rw [Bool.eq_iff_iff, decide_eq_true_iff, ← key]
    simp [h3]
  rintro _ _ ⟨rfl, rfl⟩
  exact ⟨rfl, rfl⟩
theorem row_spec (a : Nat) (ha : a < 18446744073709551616) (hn : rung a ≤ infR) : CallsH Try.prog 44 #[.int .u64 a] h (fun v h' => h = h' ∧ v = .int .i64 (rowv a)) := by
  apply F44
  unfold L44
  have hi : infR = 9218868437227405312 := rfl
  refine cal_of (zero_spec a ha) ?_
  rintro _ _ ⟨rfl, rfl⟩
  refine ⟨_, rfl, ifb_dec (fun h0 => ⟨rfl, ?_⟩) (fun h0 => ?_)⟩
  · unfold rowv; rw [h0]; cases sgnB a <;> rfl
  have e1 := shr_nat a 63 (by omega)
  have c63 : ((63 : Nat) : Int) = 63 := rfl
  rw [c63] at e1
  have hd := sgn_div63 a ha
  have hrd := rung_rd a ha
  have e63 : (2 : Nat) ^ 63 = 9223372036854775808 := rfl
  rw [e1, e63, hd]
  refine ifb_iff (q := sgnB a = true) (by cases sgnB a <;> simp) (fun hs => ⟨rfl, ?_⟩) (fun hs => ⟨rfl, ?_⟩)
  · have e2 : bitsI .and .u64 (a : Int) 9223372036854775807 = ((a % 2 ^ 63 : Nat) : Int) := bits_and a 9223372036854775807 63 ha rfl (by omega)
    have e3 : ((a % 2 ^ 63 : Nat) : Int) = (rung a : Int) := rfl
    rw [e2, e3, wrap64_id (x := (rung a : Int)) (by omega) (by omega), wrap64_id (by omega) (by omega)]
    unfold rowv
    rw [if_pos hs]
    congr 1
    omega
  · have hs : sgnB a = false := by simpa using hs
    rw [hs] at hrd
    simp at hrd
    rw [wrap64_id (by omega) (by omega)]
    unfold rowv
    rw [hs]
    simp
    omega
theorem kd_pos (a : Nat) : 0 < kd a ↔ rung a ≤ infR := by
  unfold kd
  by_cases h : infR < rung a
  · rw [if_pos h]; omega
  · rw [if_neg h]
    have : rung a ≤ infR := by omega
    simp only [this, iff_true]
    repeat' split
    all_goals omega
theorem lessR_spec (a b : Nat) (ha : a < 18446744073709551616) (hb : b < 18446744073709551616) : CallsH Try.prog 12 #[.int .u64 a, .int .u64 b] h (fun v h' => h = h' ∧ v = .bool (fO a b == some .lt)) := by
  apply F12
  unfold L12
  refine cal_of (kindR_spec a ha) ?_
  rintro _ _ ⟨rfl, rfl⟩
  refine ⟨_, rfl, fun c h' => c = decide (rung a ≤ infR ∧ rung b ≤ infR) ∧ h = h', ⟨fun e => ?_, fun e => ?_⟩, ?_⟩
  · have h1 := (kd_pos a).1 (of_decide_eq_true e)
    refine cal_of (kindR_spec b hb) ?_
    rintro _ _ ⟨rfl, rfl⟩
    exact ⟨_, rfl, by simp [h1, kd_pos b], rfl⟩
  · have h1 : ¬ rung a ≤ infR := fun h => (of_decide_eq_false e) ((kd_pos a).2 h)
    exact ⟨by simp [h1], rfl⟩
  rintro _ _ ⟨rfl, rfl⟩
  refine ⟨fun c h' => c = (fO a b == some .lt) ∧ h = h', ⟨fun e => ?_, fun e => ?_⟩, ?_⟩
  · obtain ⟨h1, h2⟩ := of_decide_eq_true e
    refine cal_of (row_spec a ha h1) ?_
    rintro _ _ ⟨rfl, rfl⟩
    refine ⟨_, rfl, cal_of (row_spec b hb h2) ?_⟩
    rintro _ _ ⟨rfl, rfl⟩
    exact ⟨_, rfl, (fO_lt h1 h2).symm, rfl⟩
  · have h1 := of_decide_eq_false e
    rw [fO_none (by omega)]
    exact ⟨rfl, rfl⟩
  rintro _ _ ⟨rfl, rfl⟩
  exact ⟨rfl, rfl⟩
theorem sameR_spec (a b : Nat) (ha : a < 18446744073709551616) (hb : b < 18446744073709551616) : CallsH Try.prog 14 #[.int .u64 a, .int .u64 b] h (fun v h' => h = h' ∧ v = .bool (fO a b == some .eq)) := by
  apply F14
  unfold L14
  refine cal_of (kindR_spec a ha) ?_
  rintro _ _ ⟨rfl, rfl⟩
  refine ⟨_, rfl, fun c h' => c = decide (rung a ≤ infR ∧ rung b ≤ infR) ∧ h = h', ⟨fun e => ?_, fun e => ?_⟩, ?_⟩
  · have h1 := (kd_pos a).1 (of_decide_eq_true e)
    refine cal_of (kindR_spec b hb) ?_
    rintro _ _ ⟨rfl, rfl⟩
    exact ⟨_, rfl, by simp [h1, kd_pos b], rfl⟩
  · have h1 : ¬ rung a ≤ infR := fun h => (of_decide_eq_false e) ((kd_pos a).2 h)
    exact ⟨by simp [h1], rfl⟩
  rintro _ _ ⟨rfl, rfl⟩
  refine ⟨fun c h' => c = (fO a b == some .eq) ∧ h = h', ⟨fun e => ?_, fun e => ?_⟩, ?_⟩
  · obtain ⟨h1, h2⟩ := of_decide_eq_true e
    refine cal_of (row_spec a ha h1) ?_
    rintro _ _ ⟨rfl, rfl⟩
    refine ⟨_, rfl, cal_of (row_spec b hb h2) ?_⟩
    rintro _ _ ⟨rfl, rfl⟩
    exact ⟨_, rfl, by rw [fO_eq h1 h2]; rfl, rfl⟩
  · have h1 := of_decide_eq_false e
    rw [fO_none (by omega)]
    exact ⟨rfl, rfl⟩
  rintro _ _ ⟨rfl, rfl⟩
  exact ⟨rfl, rfl⟩
theorem less_spec (a b : Nat) : CallsH Try.prog 11 #[.int .u64 a, .int .u64 b] h (fun v h' => h = h' ∧ v = .bool (fO a b == some .lt)) := by
  apply F11
  unfold L11
  exact ⟨rfl, rfl⟩
theorem same_spec (a b : Nat) : CallsH Try.prog 13 #[.int .u64 a, .int .u64 b] h (fun v h' => h = h' ∧ v = .bool (fO a b == some .eq)) := by
  apply F13
  unfold L13
  exact ⟨rfl, rfl⟩
theorem orders_walk (a b : Int) (h : Heap) (ha : 0 ≤ a ∧ a ≤ 18446744073709551615) (hb : 0 ≤ b ∧ b ≤ 18446744073709551615) : CallsH Try.prog 3 #[.int .u64 a, .int .u64 b] h (fun v h' => v = .bool true ∧ Grow h h') := by
  apply F3
  unfold L3
  obtain ⟨a, rfl⟩ := Int.eq_ofNat_of_zero_le ha.1
  obtain ⟨b, rfl⟩ := Int.eq_ofNat_of_zero_le hb.1
  refine cal_of reckoned_spec ?_
  rintro _ h1 ⟨rfl, g1⟩
  refine ⟨_, rfl, ?_⟩
  refine ⟨fun c h' => c = true ∧ h1 = h', ⟨fun _ => ?_, fun e => (by cases e)⟩, ?_⟩
  · refine cal_of (less_spec a b) ?_
    rintro _ _ ⟨rfl, rfl⟩
    refine ⟨_, rfl, cal_of (lessR_spec a b (by omega) (by omega)) ?_⟩
    rintro _ _ ⟨rfl, rfl⟩
    exact ⟨_, rfl, by simp, rfl⟩
  rintro _ _ ⟨rfl, rfl⟩
  refine ⟨fun c h' => c = true ∧ h1 = h', ⟨fun _ => ?_, fun e => (by cases e)⟩, ?_⟩
  · refine cal_of (same_spec a b) ?_
    rintro _ _ ⟨rfl, rfl⟩
    refine ⟨_, rfl, cal_of (sameR_spec a b (by omega) (by omega)) ?_⟩
    rintro _ _ ⟨rfl, rfl⟩
    exact ⟨_, rfl, by simp, rfl⟩
  rintro _ _ ⟨rfl, rfl⟩
  refine ⟨fun c h' => c = true ∧ h1 = h', ⟨fun _ => ?_, fun e => (by cases e)⟩, ?_⟩
  · refine cal_of (kind_spec a (by omega)) ?_
    rintro _ _ ⟨rfl, rfl⟩
    refine ⟨_, rfl, cal_of (kindR_spec a (by omega)) ?_⟩
    rintro _ _ ⟨rfl, rfl⟩
    exact ⟨_, rfl, by simp, rfl⟩
  rintro _ _ ⟨rfl, rfl⟩
  exact ⟨rfl, g1⟩
end
end Go.Proofs.Ytfafhadklhnemaa

/-
  How floats stand to each other: by their rungs.
-/
import Derived.Test.YtfafhadklhnemaaS4
namespace Go.Proofs.Ytfafhadklhnemaa
open Go Go.Lf Ieee

def rung (a : Nat) : Nat := a % 9223372036854775808
def sgnB (a : Nat) : Bool := a / 9223372036854775808 % 2 == 1
def infR : Nat := 9218868437227405312
/-- where a number stands among all -/
def rowv (a : Nat) : Int := if sgnB a then -(rung a : Int) else rung a
/-- what a rung is worth, in the least units -/
def val (r : Nat) : Nat := if r < 4503599627370496 then r else (4503599627370496 + r % 4503599627370496) <<< (r / 4503599627370496 - 1)
theorem read_fin {a : Nat} (h : rung a < infR) : ∃ m k : Nat, double.read a = .number (sgnB a) m (double.leastPlace + (k : Int)) ∧ val (rung a) = m <<< k := by
  have e1 : double.signWeight = 9223372036854775808 := rfl
  have e2 : double.binade = 4503599627370496 := rfl
  have e3 : double.infRung = 9218868437227405312 := rfl
  unfold Format.read
  rw [e1, e2, e3]
  dsimp only
  unfold rung infR at h
  by_cases h1 : a % 9223372036854775808 < 4503599627370496
  · rw [if_pos h1]
    refine ⟨a % 9223372036854775808, 0, ?_, ?_⟩
    · rw [Int.natCast_zero, Int.add_zero]; rfl
    · unfold val rung; rw [if_pos h1]; simp
  · rw [if_neg h1, if_pos h]
    refine ⟨_, a % 9223372036854775808 / 4503599627370496 - 1, rfl, ?_⟩
    unfold val rung
    rw [if_neg h1]
theorem read_inf {a : Nat} (h : rung a = infR) : double.read a = .infinity (sgnB a) := by
  have e1 : double.signWeight = 9223372036854775808 := rfl
  have e2 : double.binade = 4503599627370496 := rfl
  have e3 : double.infRung = 9218868437227405312 := rfl
  unfold Format.read
  rw [e1, e2, e3]
  dsimp only
  unfold rung infR at h
  rw [h]
  rfl
theorem val_mono {r s : Nat} (h : r < s) : val r < val s := by
  unfold val
  by_cases hs : s < 4503599627370496
  · rw [if_pos hs, if_pos (by omega)]; exact h
  · rw [if_neg hs, Nat.shiftLeft_eq]
    have hp : 0 < 2 ^ (s / 4503599627370496 - 1) := Nat.two_pow_pos _
    by_cases hr : r < 4503599627370496
    · rw [if_pos hr, Nat.shiftLeft_eq]
      calc r < 4503599627370496 := hr
        _ ≤ (4503599627370496 + s % 4503599627370496) * 1 := by omega
        _ ≤ _ := Nat.mul_le_mul_left _ hp
    · rw [if_neg hr, Nat.shiftLeft_eq]
      have hd : r / 4503599627370496 ≤ s / 4503599627370496 := Nat.div_le_div_right (by omega)
      rcases Nat.eq_or_lt_of_le hd with e | e
      · rw [e]
        exact Nat.mul_lt_mul_of_pos_right (by omega) hp
      · obtain ⟨k, hk⟩ : ∃ k, s / 4503599627370496 - 1 = r / 4503599627370496 - 1 + (k + 1) := ⟨s / 4503599627370496 - r / 4503599627370496 - 1, by omega⟩
        rw [hk, Nat.pow_add, Nat.pow_succ]
        have hk0 : 0 < 2 ^ k := Nat.two_pow_pos _
        have hq : 0 < 2 ^ (r / 4503599627370496 - 1) := Nat.two_pow_pos _
        calc (4503599627370496 + r % 4503599627370496) * 2 ^ (r / 4503599627370496 - 1) < 9007199254740992 * 2 ^ (r / 4503599627370496 - 1) := Nat.mul_lt_mul_of_pos_right (by omega) hq
          _ = 4503599627370496 * (2 ^ (r / 4503599627370496 - 1) * (1 * 2)) := by rw [Nat.mul_comm (2 ^ _) (1 * 2), ← Nat.mul_assoc]
          _ ≤ (4503599627370496 + s % 4503599627370496) * (2 ^ (r / 4503599627370496 - 1) * (2 ^ k * 2)) := Nat.mul_le_mul (by omega) (Nat.mul_le_mul_left _ (Nat.mul_le_mul_right _ hk0))
theorem val_inj {r s : Nat} (h : val r = val s) : r = s := by
  rcases Nat.lt_trichotomy r s with e | e | e
  · have := val_mono e; omega
  · exact e
  · have := val_mono e; omega
theorem val_zero : val 0 = 0 := rfl
/-- a number with its sign, in the least units -/
def sval (s : Bool) (v : Nat) : Int := if s then -(v : Int) else v
theorem cmp_scale {x y : Int} {k : Nat} : compare x y = compare (x * 2 ^ k) (y * 2 ^ k) := by
  have hp : (0 : Int) < 2 ^ k := by
    have := Nat.two_pow_pos k
    have e : (2 : Int) ^ k = ((2 ^ k : Nat) : Int) := by rw [Int.natCast_pow]; rfl
    rw [e]
    exact Int.natCast_pos.2 this
  rcases Int.lt_trichotomy x y with h | h | h
  · rw [Int.compare_eq_lt.2 h, Int.compare_eq_lt.2 (Int.mul_lt_mul_of_pos_right h hp)]
  · subst h; rw [Int.compare_eq_eq.2 rfl, Int.compare_eq_eq.2 rfl]
  · rw [Int.compare_eq_gt.2 h, Int.compare_eq_gt.2 (Int.mul_lt_mul_of_pos_right h hp)]
theorem signed_scale (s : Bool) (m i k : Nat) : signed s m i * 2 ^ k = sval s (m <<< (i + k)) := by
  unfold signed sval
  have e : ((m <<< (i + k) : Nat) : Int) = ((m <<< i : Nat) : Int) * 2 ^ k := by
    rw [Nat.shiftLeft_add, Nat.shiftLeft_eq (m <<< i) k, Int.natCast_mul, Int.natCast_pow]
    rfl
  rw [e]
  cases s <;> simp [Int.neg_mul]
theorem sval_cmp (s t : Bool) (r q : Nat) : compare (sval s (val r)) (sval t (val q)) = compare (sval s r) (sval t q) := by
  have hpos : ∀ {r : Nat}, 0 < r → 0 < val r := fun h => by have := val_mono h; rw [val_zero] at this; exact this
  have key : (sval s (val r) < sval t (val q) ↔ sval s r < sval t q) ∧ (sval s (val r) = sval t (val q) ↔ sval s r = sval t q) := by
    have h1 : val r < val q ↔ r < q := ⟨fun h => by
      rcases Nat.lt_trichotomy r q with e | e | e
      · exact e
      · subst e; omega
      · have := val_mono e; omega, val_mono⟩
    have h2 : val q < val r ↔ q < r := ⟨fun h => by
      rcases Nat.lt_trichotomy r q with e | e | e
      · have := val_mono e; omega
      · subst e; omega
      · exact e, val_mono⟩
    have h3 : val r = 0 ↔ r = 0 := ⟨fun h => by
      rcases Nat.eq_zero_or_pos r with e | e
      · exact e
      · have := hpos e; omega, fun h => by rw [h]; rfl⟩
    have h4 : val q = 0 ↔ q = 0 := ⟨fun h => by
      rcases Nat.eq_zero_or_pos q with e | e
      · exact e
      · have := hpos e; omega, fun h => by rw [h]; rfl⟩
    unfold sval
    cases s <;> cases t <;> simp only [if_true, if_false, Bool.false_eq_true] <;> omega
  rcases Int.lt_trichotomy (sval s r) (sval t q) with h | h | h
  · rw [Int.compare_eq_lt.2 h, Int.compare_eq_lt.2 (key.1.2 h)]
  · rw [Int.compare_eq_eq.2 h, Int.compare_eq_eq.2 (key.2.2 h)]
  · have : sval t (val q) < sval s (val r) := by
      have h1 : ¬ sval s (val r) < sval t (val q) := fun e => by have := key.1.1 e; omega
      have h2 : ¬ sval s (val r) = sval t (val q) := fun e => by have := key.2.1 e; omega
      omega
    rw [Int.compare_eq_gt.2 h, Int.compare_eq_gt.2 this]
theorem rowv_sval (a : Nat) : rowv a = sval (sgnB a) (rung a) := rfl
/-- THE ORDER -/
theorem fO_row {a b : Nat} (ha : rung a ≤ infR) (hb : rung b ≤ infR) : fO a b = some (compare (rowv a) (rowv b)) := by
  unfold fO Format.order
  rcases Nat.eq_or_lt_of_le ha with ea | ea
  · rcases Nat.eq_or_lt_of_le hb with eb | eb
    · rw [read_inf ea, read_inf eb]
      unfold Datum.order rowv
      rw [ea, eb]
      cases sgnB a <;> cases sgnB b <;> rfl
    · obtain ⟨m, k, e1, e2⟩ := read_fin eb
      rw [read_inf ea, e1]
      unfold Datum.order rowv
      rw [ea]
      dsimp only
      cases sgnB a
      · have : (if sgnB b = true then -(rung b : Int) else (rung b : Int)) < ((infR : Nat) : Int) := by split <;> omega
        simp only [Bool.false_eq_true, if_false]
        rw [Int.compare_eq_gt.2 this]
      · have : -((infR : Nat) : Int) < (if sgnB b = true then -(rung b : Int) else (rung b : Int)) := by split <;> omega
        simp only [if_true]
        rw [Int.compare_eq_lt.2 this]
  · obtain ⟨m, k, e1, e2⟩ := read_fin ea
    rcases Nat.eq_or_lt_of_le hb with eb | eb
    · rw [read_inf eb, e1]
      unfold Datum.order rowv
      rw [eb]
      dsimp only
      cases sgnB b
      · have : (if sgnB a = true then -(rung a : Int) else (rung a : Int)) < ((infR : Nat) : Int) := by split <;> omega
        simp only [Bool.false_eq_true, if_false]
        rw [Int.compare_eq_lt.2 this]
      · have : -((infR : Nat) : Int) < (if sgnB a = true then -(rung a : Int) else (rung a : Int)) := by split <;> omega
        simp only [if_true]
        rw [Int.compare_eq_gt.2 this]
    · obtain ⟨n, j, e3, e4⟩ := read_fin eb
      rw [e1, e3]
      unfold Datum.order
      dsimp only
      congr 1
      rw [rowv_sval, rowv_sval, ← sval_cmp, e2, e4, cmp_scale (k := min k j), signed_scale, signed_scale]
      have h1 : (double.leastPlace + (k : Int) - min (double.leastPlace + (k : Int)) (double.leastPlace + (j : Int))).toNat + min k j = k := by omega
      have h2 : (double.leastPlace + (j : Int) - min (double.leastPlace + (k : Int)) (double.leastPlace + (j : Int))).toNat + min k j = j := by omega
      rw [h1, h2]
theorem fO_none {a b : Nat} (h : infR < rung a ∨ infR < rung b) : fO a b = none := by
  rcases h with h | h
  · exact fO_nan h b
  · obtain ⟨s, f, e⟩ := read_nan h
    unfold fO Format.order
    rw [e]
    cases double.read a <;> rfl
end Go.Proofs.Ytfafhadklhnemaa

/-
  Digits of numbers (num/S2).
-/
import Derived.Test.YtifjmbbnpkgmaaaLiftS
import Derived.Test.YtifjmbbnpkgmaaaLiftP
import Derived.Test.YtifjmbbnpkgmaaaG
namespace Go.Proofs.Ytifjmbbnpkgmaaa
open Go Go.Lf
set_option linter.unusedVariables false

def inI (x : Int) : Prop := -9223372036854775808 ≤ x ∧ x ≤ 9223372036854775807
def digB (n : Nat) : List UInt8 := if n < 10 then [UInt8.ofNat (48 + n)] else digB (n / 10) ++ [UInt8.ofNat (48 + n % 10)]
termination_by n
theorem digB_lt {n : Nat} (h : n < 10) : digB n = [UInt8.ofNat (48 + n)] := by rw [digB, if_pos h]
theorem digB_ge {n : Nat} (h : ¬ n < 10) : digB n = digB (n / 10) ++ [UInt8.ofNat (48 + n % 10)] := by rw [digB, if_neg h]
theorem digB_len : ∀ (k n : Nat), n < 10 ^ (k + 1) → (digB n).length ≤ k + 1
  | 0, n, h => by rw [digB_lt (by simpa using h)]; simp
  | k + 1, n, h => by
    by_cases h10 : n < 10
    · rw [digB_lt h10]; simp
    · have := digB_len k (n / 10) (Nat.div_lt_of_lt_mul (by rw [Nat.pow_succ, Nat.mul_comm] at h; exact h))
      rw [digB_ge h10]
      simp
      omega
theorem digB_20 {n : Nat} (h : n < 18446744073709551616) : (digB n).length ≤ 20 := digB_len 19 n (by omega)
theorem byte_of {m : Nat} (h : m < 256) : byteV (UInt8.ofNat m) = .int .u8 (m : Int) := by
  unfold byteV
  rw [UInt8.toNat_ofNat']
  congr 2
  omega
theorem bytes_cat (a b : List UInt8) : (⟨a.toArray⟩ : ByteArray) ++ ⟨b.toArray⟩ = ⟨(a ++ b).toArray⟩ := by
  apply ByteArray.ext
  rw [ByteArray.data_append]
  simp
theorem bytes_size (a : List UInt8) : (⟨a.toArray⟩ : ByteArray).size = a.length := by simp [ByteArray.size]

section
variable {h : Heap}
theorem dec_spec (n : Nat) (hn : n < 18446744073709551616) : CallsH Try.prog 46 #[.int .u64 n] h (fun v h' => v = .string ⟨(digB n).toArray⟩ ∧ Grow h h') := by
  apply F46
  unfold L46
  rintro p3 h1 rfl rfl
  have f1 : Grow h (h.push (.cells #[.int .u8 0, .int .u8 0, .int .u8 0, .int .u8 0, .int .u8 0, .int .u8 0, .int .u8 0, .int .u8 0, .int .u8 0, .int .u8 0, .int .u8 0, .int .u8 0, .int .u8 0, .int .u8 0, .int .u8 0, .int .u8 0, .int .u8 0, .int .u8 0, .int .u8 0, .int .u8 0] 89)) := Fr.push _ _ _
  have k1 := blk.new h #[.int .u8 0, .int .u8 0, .int .u8 0, .int .u8 0, .int .u8 0, .int .u8 0, .int .u8 0, .int .u8 0, .int .u8 0, .int .u8 0, .int .u8 0, .int .u8 0, .int .u8 0, .int .u8 0, .int .u8 0, .int .u8 0, .int .u8 0, .int .u8 0, .int .u8 0, .int .u8 0] 89
  generalize h.push (.cells #[.int .u8 0, .int .u8 0, .int .u8 0, .int .u8 0, .int .u8 0, .int .u8 0, .int .u8 0, .int .u8 0, .int .u8 0, .int .u8 0, .int .u8 0, .int .u8 0, .int .u8 0, .int .u8 0, .int .u8 0, .int .u8 0, .int .u8 0, .int .u8 0, .int .u8 0, .int .u8 0] 89) = h1 at *
  refine ⟨fun y z h2 => ∃ (m i : Nat) (tail : List UInt8) (cs : Array Value), y = m ∧ z = i ∧ i ≤ 20 ∧ m < 10 ^ i ∧ m < 18446744073709551616 ∧ (i = 20 ∨ 0 < m) ∧ digB n = digB m ++ tail ∧ tail.length = 20 - i ∧ blk h2 h.size cs ∧ cs.size = 20 ∧ (∀ k (hk : k < tail.length), cs[i + k]? = some (byteV tail[k])) ∧ Grow h h2,
    fun y _ _ => y.toNat, ⟨n, 20, [], _, rfl, rfl, by omega, by omega, hn, .inl rfl, by simp, rfl, k1, rfl, fun k hk => by simp at hk, f1⟩, ?_⟩
  rintro y z h2 ⟨m, i, tail, cs, rfl, rfl, hi, hm, hm64, hpos, hd, htl, kb, hcs, hall, g2⟩
  have hi1 : 1 ≤ i := by
    rcases Nat.eq_zero_or_pos i with h0 | h0
    · subst h0; simp at hm; omega
    · exact h0
  obtain ⟨j, rfl⟩ : ∃ j, i = j + 1 := ⟨i - 1, by omega⟩
  have e1 : IntKind.i64.wrap (((j + 1 : Nat) : Int) - 1) = (j : Int) := by rw [wrap64_id (by omega) (by omega)]; omega
  have e2 : (m : Int).tmod 10 = ((m % 10 : Nat) : Int) := by rw [Int.tmod_eq_emod_of_nonneg (by omega)]; rfl
  have e3 : IntKind.u8.wrap (IntKind.u64.wrap (48 + ((m % 10 : Nat) : Int))) = ((48 + m % 10 : Nat) : Int) := by rw [IntKind.wrap_u8, IntKind.wrap_u64]; omega
  have e4 : IntKind.u64.wrap ((m : Int).tdiv 10) = ((m / 10 : Nat) : Int) := by
    have : (m : Int).tdiv 10 = ((m / 10 : Nat) : Int) := rfl
    rw [this, IntKind.wrap_u64]; omega
  rw [e1, e2, e3, e4]
  refine ⟨by omega, by omega, ?_⟩
  rw [Int.toNat_natCast, Nat.mul_one, add_plain, Nat.zero_add]
  refine sto_i kb (by omega) ?_
  have f3 : Fr (fun b => b = h.size) h2 (sc h2 ⟨h.size, j, none⟩ (.int .u8 ((48 + m % 10 : Nat) : Int))) := Fr.scb _ _ _ _
  have k3 := kb.sc j (.int .u8 ((48 + m % 10 : Nat) : Int))
  generalize sc h2 ⟨h.size, j, none⟩ (.int .u8 ((48 + m % 10 : Nat) : Int)) = h3 at *
  have g3 : Grow h h3 := g2.trans' f3 fun i hi e => by omega
  have hall' : ∀ k (hk : k < (UInt8.ofNat (48 + m % 10) :: tail).length), (cs.setIfInBounds j (.int .u8 ((48 + m % 10 : Nat) : Int)))[j + k]? = some (byteV (UInt8.ofNat (48 + m % 10) :: tail)[k]) := by
    intro k hk
    cases k with
    | zero =>
      rw [Nat.add_zero, Array.getElem?_setIfInBounds, if_pos rfl, if_pos (by omega)]
      simp only [List.getElem_cons_zero]
      rw [byte_of (by omega)]
    | succ k =>
      have hk' : k < tail.length := by simpa using hk
      rw [Array.getElem?_setIfInBounds, if_neg (by omega)]
      have := hall k hk'
      rw [show j + (k + 1) = j + 1 + k by omega]
      simpa using this
  refine ifb_iff (q := m / 10 = 0) (by simp; omega) (fun h0 => ?_) (fun h0 => ?_)
  · have hm10 : m < 10 := by omega
    have hmod : m % 10 = m := by omega
    refine ⟨by omega, by omega, by omega, fun s' q1 q2 q3 => ?_⟩
    refine ⟨digB n, ?_, ?_, rfl, g3⟩
    · rw [hd, digB_lt hm10, q2]
      simp
      omega
    · rw [q1, if_neg (by omega)]
      intro k v hv
      rw [hd, digB_lt hm10] at hv
      rw [hmod] at hall'
      rw [Int.toNat_natCast, Nat.mul_one, add_plain, add_plain, Nat.zero_add, k3.cl, hmod]
      simp only [List.getElem?_map, Option.map_eq_some_iff] at hv
      obtain ⟨u, hu, rfl⟩ := hv
      obtain ⟨hk, rfl⟩ := List.getElem?_eq_some_iff.1 hu
      exact hall' k hk
  · have hm10 : ¬ m < 10 := by omega
    refine ⟨⟨m / 10, j, UInt8.ofNat (48 + m % 10) :: tail, _, rfl, rfl, by omega, Nat.div_lt_of_lt_mul (by rw [Nat.pow_succ, Nat.mul_comm] at hm; exact hm), by omega, .inr (by omega), ?_, by simp; omega, k3, by simp [hcs], hall', g3⟩, by dsimp only; omega⟩
    rw [hd, digB_ge hm10]
    simp

/-- a whole number's digits -/
def decB (n : Int) : List UInt8 := if n < 0 then 45 :: digB n.natAbs else digB n.natAbs
theorem Dec_spec (n : Int) (hn : inI n) : CallsH Try.prog 38 #[.int .i64 n] h (fun v h' => v = .string ⟨(decB n).toArray⟩ ∧ Grow h h') := by
  apply F38
  unfold L38
  unfold inI at hn
  refine ifb_dec (fun h0 => ?_) (fun h0 => ?_)
  · have e1 : IntKind.u64.wrap (0 - (IntKind.u64.wrap n)) = (n.natAbs : Int) := by rw [IntKind.wrap_u64, IntKind.wrap_u64]; omega
    rw [e1]
    refine cal_of (dec_spec n.natAbs (by omega)) ?_
    rintro _ h1 ⟨rfl, g1⟩
    refine ⟨_, rfl, ?_, ?_, g1⟩
    · have := digB_20 (n := n.natAbs) (by omega)
      rw [bytes_size, bytes_size]
      simp only [List.length_cons, List.length_nil]
      omega
    · have : decB n = [45] ++ digB n.natAbs := by unfold decB; rw [if_pos h0]; rfl
      rw [this, ← bytes_cat]
  · have e1 : IntKind.u64.wrap n = (n.natAbs : Int) := by rw [IntKind.wrap_u64]; omega
    rw [e1]
    refine cal_of (dec_spec n.natAbs (by omega)) ?_
    rintro _ h1 ⟨rfl, g1⟩
    refine ⟨_, rfl, ?_, g1⟩
    have : decB n = digB n.natAbs := by unfold decB; rw [if_neg h0]
    rw [this]
end
end Go.Proofs.Ytifjmbbnpkgmaaa

/-
  NumTexts, walked.
-/
import Derived.Test.YtfafhadklhnemaaS3
namespace Go.Proofs.Ytfafhadklhnemaa
open Go Go.Lf

/-- a digit below 16 -/
def hexD (d : Nat) : Nat := if d < 10 then 48 + d else 87 + d
/-- the last k hexadecimal digits -/
def hexB (n : Nat) : Nat → List UInt8
  | 0 => []
  | k + 1 => hexB (n / 16) k ++ [UInt8.ofNat (hexD (n % 16))]
theorem hexB_len : ∀ (k n : Nat), (hexB n k).length = k
  | 0, _ => rfl
  | k + 1, n => by simp [hexB, hexB_len k]
theorem hexB_get : ∀ (k n i : Nat), i < k → (hexB n k)[i]? = some (UInt8.ofNat (hexD (n / 16 ^ (k - 1 - i) % 16)))
  | k + 1, n, i, hi => by
    unfold hexB
    rw [List.getElem?_append, hexB_len]
    by_cases h : i < k
    · rw [if_pos h, hexB_get k (n / 16) i h, Nat.div_div_eq_div_mul, ← Nat.pow_succ']
      have : (k - 1 - i).succ = k + 1 - 1 - i := by omega
      rw [this]
    · have : i = k := by omega
      subst this
      simp

section
variable {h : Heap}
theorem digit_spec (d : Nat) (hd : d < 16) : CallsH Try.prog 58 #[.int .u8 d] h (fun v h' => h = h' ∧ v = .int .u8 (hexD d : Nat)) := by
  apply F58
  unfold L58
  unfold hexD
  refine ifb_dec (fun h0 => ⟨rfl, ?_⟩) (fun h0 => ⟨rfl, ?_⟩)
  · rw [if_pos (by omega)]
    have : IntKind.u8.wrap (48 + (d : Int)) = ((48 + d : Nat) : Int) := by rw [IntKind.wrap_u8]; omega
    rw [this]
  · rw [if_neg (by omega)]
    have : IntKind.u8.wrap (IntKind.u8.wrap (97 + (d : Int)) - 10) = ((87 + d : Nat) : Int) := by rw [IntKind.wrap_u8, IntKind.wrap_u8]; omega
    rw [this]
theorem nib (a : BitVec 64) (s : Nat) (hs : s ≤ 60) : IntKind.u8.wrap (bitsI .and .u64 ((a.toNat : Int).fdiv (2 ^ (min (s : Int).toNat IntKind.u64.bits))) 15) = ((a.toNat / 2 ^ s % 16 : Nat) : Int) := by
  have e1 : min ((s : Int)).toNat IntKind.u64.bits = s := by
    rw [Int.toNat_natCast]; show min s 64 = s; omega
  rw [e1]
  have e2 : (a.toNat : Int).fdiv (2 ^ s) = ((a >>> s).toNat : Int) := by
    rw [BitVec.toNat_ushiftRight, Nat.shiftRight_eq_div_pow]
    have : (2 : Int) ^ s = ((2 ^ s : Nat) : Int) := by rw [Int.natCast_pow]; rfl
    rw [this, Int.fdiv_eq_ediv_of_nonneg _ (Int.natCast_nonneg (2 ^ s))]
    rfl
  have e3 : (15 : Int) = ((15#64).toNat : Int) := rfl
  rw [e2, e3, bitsI_and]
  have e4 : ((a >>> s) &&& 15#64).toNat = a.toNat / 2 ^ s % 16 := by
    rw [BitVec.toNat_and, BitVec.toNat_ushiftRight, Nat.shiftRight_eq_div_pow]
    exact Nat.and_two_pow_sub_one_eq_mod _ 4
  rw [e4, IntKind.wrap_u8]
  omega
theorem hex_spec (n : Nat) (hn : n < 18446744073709551616) : CallsH Try.prog 41 #[.int .u64 n] h (fun v h' => v = .string ⟨(hexB n 16).toArray⟩ ∧ Grow h h') := by
  apply F41
  unfold L41
  refine ⟨by omega, by omega, by omega, by omega, ?_⟩
  rintro s5 h1 rfl rfl
  have f1 : Grow h (h.push (.cells (madeCells (Value.int .u8 0).cells ((16 : Int).toNat * 1)) 5)) := Fr.push _ _ _
  have k1 := blk.new h (madeCells (Value.int .u8 0).cells ((16 : Int).toNat * 1)) 5
  have z1 : (madeCells (Value.int .u8 0).cells ((16 : Int).toNat * 1)).size = 16 := by rw [size_madeCells]; rfl
  generalize madeCells (Value.int .u8 0).cells ((16 : Int).toNat * 1) = cs0 at *
  generalize h.push (.cells cs0 5) = h1 at *
  refine ⟨fun y h2 => ∃ (i : Nat) (cs : Array Value), y = i ∧ i ≤ 16 ∧ blk h2 h.size cs ∧ cs.size = 16 ∧ (∀ k, k < i → cs[k]? = some (byteV (UInt8.ofNat (hexD (n / 16 ^ (16 - 1 - k) % 16))))) ∧ Grow h h2, fun y _ => (16 - y).toNat,
    ⟨0, cs0, rfl, by omega, k1, z1, fun k hk => by omega, f1⟩, ?_⟩
  rintro y h2 ⟨i, cs, rfl, hi, kb, hcs, hall, g2⟩
  refine ifb_dec (fun hlt => ?_) (fun hge => ?_)
  · have hil : i < 16 := by have : (i : Int) < ((16 : Nat) : Int) := hlt; omega
    have hwi : IntKind.i64.wrap ((i : Int) + 1) = ((i + 1 : Nat) : Int) := by rw [wrap64_id (by omega) (by omega)]; omega
    have e1 : IntKind.i64.wrap (60 - (IntKind.i64.wrap (4 * (i : Int)))) = ((60 - 4 * i : Nat) : Int) := by
      rw [wrap64_id (x := 4 * (i : Int)) (by omega) (by omega), wrap64_id (by omega) (by omega)]; omega
    rw [e1]
    refine ⟨by omega, ?_⟩
    have hb : (BitVec.ofNat 64 n).toNat = n := by rw [BitVec.toNat_ofNat]; exact Nat.mod_eq_of_lt hn
    have hnib := nib (BitVec.ofNat 64 n) (60 - 4 * i) (by omega)
    rw [hb] at hnib
    rw [hnib]
    have hp : 2 ^ (60 - 4 * i) = 16 ^ (16 - 1 - i) := by
      rw [show (16 : Nat) = 2 ^ 4 from rfl, ← Nat.pow_mul]
      congr 1
      omega
    rw [hp]
    have h16 : n / 16 ^ (16 - 1 - i) % 16 < 16 := Nat.mod_lt _ (by omega)
    generalize hd : n / 16 ^ (16 - 1 - i) % 16 = dg at *
    refine cal_of (digit_spec dg h16) ?_
    rintro _ _ ⟨rfl, rfl⟩
    refine ⟨_, rfl, ixS_i rfl (by omega) hlt ?_⟩
    rw [Int.toNat_natCast, Nat.mul_one, add_plain, Nat.zero_add]
    refine sto_i kb (by omega) ?_
    refine ⟨⟨i + 1, _, hwi, by omega, kb.sc i _, by simp [hcs], fun k hk => ?_, g2.trans' (Fr.scb _ _ _ _) fun i hi e => by omega⟩, by rw [hwi]; (try dsimp only); omega⟩
    rw [Array.getElem?_setIfInBounds]
    by_cases e : i = k
    · subst e
      rw [if_pos rfl, if_pos (by omega), hd, byte_of (by unfold hexD; split <;> omega)]
    · rw [if_neg e]
      exact hall k (by omega)
  · have : i = 16 := by have : ¬ (i : Int) < ((16 : Nat) : Int) := hge; omega
    subst this
    refine ⟨hexB n 16, by rw [hexB_len]; rfl, fun k v hv => ?_, rfl, g2⟩
    rw [add_plain, kb.cl, Nat.zero_add]
    simp only [List.getElem?_map, Option.map_eq_some_iff] at hv
    obtain ⟨u, hu, rfl⟩ := hv
    have hk : k < 16 := by have := (List.getElem?_eq_some_iff.1 hu).1; rwa [hexB_len] at this
    rw [hexB_get 16 n k hk] at hu
    rw [hall k hk]
    cases hu
    rfl
theorem hexR_spec (n : Nat) (hn : n < 18446744073709551616) : CallsH Try.prog 42 #[.int .u64 n] h (fun v h' => v = .string ⟨(hexB n 16).toArray⟩ ∧ Grow h h') := by
  apply F42
  unfold L42
  refine ⟨fun y s z h2 => ∃ (m i : Nat) (tail : List UInt8), y = m ∧ z = i ∧ i ≤ 16 ∧ m < 18446744073709551616 ∧ s = ⟨tail.toArray⟩ ∧ tail.length = i ∧ hexB n 16 = hexB m (16 - i) ++ tail ∧ Grow h h2, fun _ _ z _ => (16 - z).toNat, ⟨n, 0, [], rfl, rfl, by omega, hn, rfl, rfl, by simp, Fr.refl _ _⟩, ?_⟩
  rintro y s z h2 ⟨m, i, tail, rfl, rfl, hi, hm, rfl, htl, hd, g2⟩
  have e2 : (m : Int).tmod 16 = ((m % 16 : Nat) : Int) := by rw [Int.tmod_eq_emod_of_nonneg (by omega)]; rfl
  have e4 : IntKind.u64.wrap ((m : Int).tdiv 16) = ((m / 16 : Nat) : Int) := by
    have : (m : Int).tdiv 16 = ((m / 16 : Nat) : Int) := rfl
    rw [this, IntKind.wrap_u64]; omega
  refine ifb_dec (fun hlt => ?_) (fun hge => ?_)
  · have hwi : IntKind.i64.wrap ((i : Int) + 1) = ((i + 1 : Nat) : Int) := by rw [wrap64_id (by omega) (by omega)]; omega
    have e3 : IntKind.u8.wrap ((m : Int).tmod 16) = ((m % 16 : Nat) : Int) := by rw [e2, IntKind.wrap_u8]; omega
    rw [e3, e4, hwi]
    refine ⟨fun d => d = ((hexD (m % 16) : Nat) : Int), ifb_dec (fun h0 => ?_) (fun h0 => ?_), ?_⟩
    · show _ = _
      unfold hexD
      rw [if_pos (by omega), IntKind.wrap_u8]; omega
    · show _ = _
      unfold hexD
      rw [if_neg (by omega), IntKind.wrap_u8]; omega
    rintro _ rfl s20 h3 rfl rfl
    refine one_byte (by unfold hexD; split <;> omega) ?_
    rw [bytes_cat, bytes_size, bytes_size]
    refine ⟨by simp; omega, ⟨m / 16, i + 1, _, rfl, rfl, by omega, by omega, rfl, by simp [htl], ?_, g2.trans (Fr.push _ _ _)⟩, by dsimp only; omega⟩
    rw [hd, show 16 - i = 16 - (i + 1) + 1 by omega]
    simp [hexB]
  · have : i = 16 := by omega
    subst this
    have hd : hexB n 16 = tail := hd
    exact ⟨by rw [hd], g2⟩

theorem texts_walk (n a : Int) (h : Heap) (hn : inI n) (ha : 0 ≤ a ∧ a ≤ 18446744073709551615) : CallsH Try.prog 8 #[.int .i64 n, .int .u64 a] h (fun v h' => v = .bool true ∧ Grow h h') := by
  apply F8
  unfold L8
  obtain ⟨a, rfl⟩ := Int.eq_ofNat_of_zero_le ha.1
  refine cal_of reckoned_spec ?_
  rintro _ h1 ⟨rfl, g1⟩
  refine ⟨_, rfl, ?_⟩
  refine ⟨fun b h' => b = true ∧ Grow h1 h', ⟨fun _ => ?_, fun e => (by cases e)⟩, ?_⟩
  · refine cal_of (Dec_spec n hn) ?_
    rintro _ h3 ⟨rfl, g3⟩
    refine ⟨_, rfl, cal_of (DecR_spec n hn) ?_⟩
    rintro _ h4 ⟨rfl, g4⟩
    exact ⟨_, rfl, by simp, g3.trans g4⟩
  rintro _ h2 ⟨rfl, g2⟩
  refine ⟨fun b h' => b = true ∧ Grow h2 h', ⟨fun _ => ?_, fun e => (by cases e)⟩, ?_⟩
  · refine cal_of (hex_spec a (by omega)) ?_
    rintro _ h3 ⟨rfl, g3⟩
    refine ⟨_, rfl, cal_of (hexR_spec a (by omega)) ?_⟩
    rintro _ h4 ⟨rfl, g4⟩
    exact ⟨_, rfl, by simp, g3.trans g4⟩
  rintro _ h5 ⟨rfl, g5⟩
  exact ⟨rfl, (g1.trans g2).trans g5⟩
end
end Go.Proofs.Ytfafhadklhnemaa

/-
  The library's ways with bits; a region's elements, listed and counted.
-/
import Derived.Test.YtgbmihnainbgiaaDoorS8
import Derived.Test.YtgbmihnainbgiaaDoorLiftB
namespace Go.Proofs.YtgbmihnainbgiaaDoor
open Go Go.Lf Go.Bits

theorem and64 {A B : Nat} (hA : A < 18446744073709551616) (hB : B < 18446744073709551616) : bitsI .and .u64 (A : Int) (B : Int) = ((A &&& B : Nat) : Int) := by
  unfold bitsI
  dsimp only
  rw [IntKind.wrap_u64]
  have hAB : A &&& B < 18446744073709551616 := Nat.lt_of_le_of_lt Nat.and_le_left hA
  have e : (BitVec.ofInt IntKind.u64.bits (A : Int) &&& BitVec.ofInt IntKind.u64.bits (B : Int)).toNat = A &&& B := by
    change (BitVec.ofInt 64 (A : Int) &&& BitVec.ofInt 64 (B : Int)).toNat = A &&& B
    rw [BitVec.ofInt_natCast, BitVec.ofInt_natCast, BitVec.toNat_and, BitVec.toNat_ofNat, BitVec.toNat_ofNat, Nat.mod_eq_of_lt hA, Nat.mod_eq_of_lt hB]
  rw [e]
  omega
theorem andI64 {A B : Nat} (hA : A < 18446744073709551616) (hB : B < 128) : bitsI .and .i64 (A : Int) (B : Int) = ((A &&& B : Nat) : Int) := by
  unfold bitsI
  dsimp only
  rw [IntKind.wrap_i64]
  have hAB : A &&& B ≤ B := Nat.and_le_right
  have e : (BitVec.ofInt IntKind.i64.bits (A : Int) &&& BitVec.ofInt IntKind.i64.bits (B : Int)).toNat = A &&& B := by
    change (BitVec.ofInt 64 (A : Int) &&& BitVec.ofInt 64 (B : Int)).toNat = A &&& B
    rw [BitVec.ofInt_natCast, BitVec.ofInt_natCast, BitVec.toNat_and, BitVec.toNat_ofNat, BitVec.toNat_ofNat, Nat.mod_eq_of_lt hA, Nat.mod_eq_of_lt (by omega)]
  rw [e]
  omega
theorem fdivN (A k : Nat) : ((A : Int)).fdiv (2 ^ k) = ((A / 2 ^ k : Nat) : Int) := by
  rw [Int.fdiv_eq_ediv_of_nonneg _ (by exact_mod_cast Nat.zero_le _)]
  norm_cast
theorem ones_spec (h : Heap) (x : Nat) (hx : x < 18446744073709551616) : CallsH Tryd.prog 18 #[.int .u64 (x : Int)] h (fun v h' => h = h' ∧ v = .int .i64 (ones 64 x)) := by
  apply F18
  unfold L18
  have hm1 : (6148914691236517205 : Int) = ((6148914691236517205 : Nat) : Int) := rfl
  have hm2 : (3689348814741910323 : Int) = ((3689348814741910323 : Nat) : Int) := rfl
  have hm3 : (1085102592571150095 : Int) = ((1085102592571150095 : Nat) : Int) := rfl
  have hm4 : (127 : Int) = ((127 : Nat) : Int) := rfl
  have wr : ∀ n : Nat, n < 18446744073709551616 → IntKind.u64.wrap (n : Int) = (n : Int) := fun n hn => by rw [IntKind.wrap_u64]; omega
  have sh : ∀ (k : Nat), k ≤ 64 → min ((k : Int)).toNat IntKind.u64.bits = k := fun k hk => by
    rw [Int.toNat_natCast]; exact Nat.min_eq_left hk
  have s1 := sh 1 (by omega)
  have s2 := sh 2 (by omega)
  have s4 := sh 4 (by omega)
  have s8 := sh 8 (by omega)
  have s16 := sh 16 (by omega)
  have s32 := sh 32 (by omega)
  have i1 : ((1 : Nat) : Int) = 1 := rfl
  have i2 : ((2 : Nat) : Int) = 2 := rfl
  have i4 : ((4 : Nat) : Int) = 4 := rfl
  have i8 : ((8 : Nat) : Int) = 8 := rfl
  have i16 : ((16 : Nat) : Int) = 16 := rfl
  have i32 : ((32 : Nat) : Int) = 32 := rfl
  rw [i1] at s1; rw [i2] at s2; rw [i4] at s4; rw [i8] at s8; rw [i16] at s16; rw [i32] at s32
  rw [s1, s2, s4, s8, s16, s32, hm1, hm2, hm3, hm4]
  simp only [fdivN]
  have b1 : ∀ a m : Nat, a &&& m ≤ m := fun a m => Nat.and_le_right
  rw [and64 (A := x / 2 ^ 1) (by omega) (by omega), and64 hx (by omega), ← Int.natCast_add, wr _ (by have := b1 (x / 2 ^ 1) 6148914691236517205; have := b1 x 6148914691236517205; omega)]
  generalize hx1 : (x / 2 ^ 1 &&& 6148914691236517205) + (x &&& 6148914691236517205) = x1
  have hx1l : x1 < 18446744073709551616 := by have := b1 (x / 2 ^ 1) 6148914691236517205; have := b1 x 6148914691236517205; omega
  simp only [fdivN]
  rw [and64 (A := x1 / 2 ^ 2) (by omega) (by omega), and64 hx1l (by omega)]
  refine ⟨_, rfl, ?_⟩
  rw [← Int.natCast_add, wr _ (by have := b1 (x1 / 2 ^ 2) 3689348814741910323; have := b1 x1 3689348814741910323; omega)]
  generalize hx2 : (x1 / 2 ^ 2 &&& 3689348814741910323) + (x1 &&& 3689348814741910323) = x2
  have hx2l : x2 ≤ 7378697629483820646 := by have := b1 (x1 / 2 ^ 2) 3689348814741910323; have := b1 x1 3689348814741910323; omega
  simp only [fdivN]
  refine ⟨_, rfl, _, rfl, ?_⟩
  rw [← Int.natCast_add, wr _ (by omega), and64 (by omega) (by omega)]
  generalize hx3 : (x2 / 2 ^ 4 + x2) &&& 1085102592571150095 = x3
  have hx3l : x3 ≤ 1085102592571150095 := by rw [← hx3]; exact b1 _ _
  simp only [fdivN]
  rw [← Int.natCast_add, wr _ (by omega)]
  generalize hx4 : x3 + x3 / 2 ^ 8 = x4
  simp only [fdivN]
  rw [← Int.natCast_add, wr _ (by omega)]
  generalize hx5 : x4 + x4 / 2 ^ 16 = x5
  refine ⟨_, rfl, ?_⟩
  simp only [fdivN]
  rw [← Int.natCast_add, wr _ (by omega), wrap64_id (by omega) (by omega), andI64 (by omega) (by omega)]
  refine ⟨by first | rfl | trivial, ?_⟩
  have hc := count64_ones x hx
  have h127 : ∀ n : Nat, n &&& 127 = n % 128 := fun n => Nat.and_two_pow_sub_one_eq_mod n 7
  rw [← hc, h127]
  unfold count64
  simp only
  have p2 : x / 2 = x / 2 ^ 1 := rfl
  have p4 : ∀ n : Nat, n / 4 = n / 2 ^ 2 := fun _ => rfl
  have p16 : ∀ n : Nat, n / 16 = n / 2 ^ 4 := fun _ => rfl
  have p256 : ∀ n : Nat, n / 256 = n / 2 ^ 8 := fun _ => rfl
  have p65 : ∀ n : Nat, n / 65536 = n / 2 ^ 16 := fun _ => rfl
  rw [p2, hx1, p4, hx2, p16, hx3, p256, hx4, p65, hx5]

/-- the library's table lies at the first block -/
def tabL : List Int := [0, 1, 56, 2, 57, 49, 28, 3, 61, 58, 42, 50, 38, 29, 17, 4, 62, 47, 59, 36, 45, 43, 51, 22, 53, 39, 33, 30, 24, 18, 12, 5, 63, 55, 48, 27, 60, 41, 37, 16, 46, 35, 44, 21, 52, 32, 23, 11, 54, 26, 40, 15, 34, 20, 31, 10, 25, 14, 19, 9, 13, 8, 7, 6]
def TabAt (h : Heap) : Prop := 0 < h.size ∧ ∀ i (hi : i < tabL.length), cl h ⟨0, i, none⟩ = some (.int .u8 tabL[i])
theorem TabAt.grow {h h' : Heap} (x : TabAt h) (g : Grow h h') : TabAt h' := ⟨Nat.lt_of_lt_of_le x.1 g.size, fun i hi => g.clk (x.2 i hi) fun h => h⟩
theorem tab_all : ∀ k, k < 64 → ((2 ^ k * 285870213051353865) % 18446744073709551616) / 2 ^ 58 < 64 ∧ tabL[((2 ^ k * 285870213051353865) % 18446744073709551616) / 2 ^ 58]? = some ((k : Nat) : Int) := by decide +kernel
theorem tz_spec {h : Heap} (T : TabAt h) (k q : Nat) (hl : 2 ^ (k + 1) * q + 2 ^ k < 18446744073709551616) : CallsH Tryd.prog 16 #[.int .u64 ((2 ^ (k + 1) * q + 2 ^ k : Nat) : Int)] h (fun v h' => h = h' ∧ v = .int .i64 k) := by
  apply F16
  unfold L16
  have hp : 0 < 2 ^ k := Nat.two_pow_pos k
  have hk : k < 64 := by
    refine Nat.lt_of_not_le fun hge => ?_
    have : 2 ^ 64 ≤ 2 ^ k := Nat.pow_le_pow_right (by decide) hge
    omega
  have hlow := low_and_neg k q hk hl
  generalize hN : 2 ^ (k + 1) * q + 2 ^ k = N at *
  have hNp : 0 < N := by omega
  refine ⟨fun e => by simp at e; omega, fun _ => ?_⟩
  have hneg : IntKind.u64.wrap (0 - (N : Int)) = ((18446744073709551616 - N : Nat) : Int) := by rw [IntKind.wrap_u64]; omega
  have hlow' : N &&& (18446744073709551616 - N) = 2 ^ k := hlow
  rw [hneg, and64 hl (by omega), hlow']
  have hmul : IntKind.u64.wrap (((2 ^ k : Nat) : Int) * 285870213051353865) = (((2 ^ k * 285870213051353865) % 18446744073709551616 : Nat) : Int) := by
    rw [IntKind.wrap_u64]
    generalize 2 ^ k = z
    omega
  rw [hmul]
  have s58 : min ((58 : Int)).toNat IntKind.u64.bits = 58 := rfl
  rw [s58, fdivN]
  obtain ⟨t1, t2⟩ := tab_all k hk
  generalize ((2 ^ k * 285870213051353865) % 18446744073709551616) / 2 ^ 58 = ix at *
  refine ⟨by omega, by exact_mod_cast t1, ?_⟩
  have hix : ix < tabL.length := t1
  have hc := T.2 ix hix
  rw [List.getElem?_eq_getElem hix, Option.some.injEq] at t2
  rw [t2] at hc
  refine ldI_i (x := (k : Int)) ?_ ⟨rfl, ?_⟩
  · rw [add_plain, Int.toNat_natCast, Nat.mul_one, Nat.zero_add]; exact hc
  · rw [wrap64_id (by omega) (by omega)]
/-- the digits that are 1, rising -/
def bitsOf (n x : Nat) : List Nat := (List.range n).filter fun i => x.testBit i
theorem bits_low {k q : Nat} (hk : k < 64) : bitsOf 64 (2 ^ (k + 1) * q + 2 ^ k) = k :: bitsOf 64 (2 ^ (k + 1) * q) := by
  unfold bitsOf
  have e : List.range 64 = List.range k ++ k :: (List.range (63 - k)).map (k + 1 + ·) := by
    have h1 : List.range (k + (64 - k)) = List.range k ++ (List.range (64 - k)).map (k + ·) := List.range_add
    rw [show k + (64 - k) = 64 by omega] at h1
    rw [h1, show 64 - k = (63 - k) + 1 by omega, List.range_succ_eq_map]
    simp only [List.map_cons, List.map_map, Nat.add_zero]
    congr 2
    refine List.map_congr_left fun j _ => ?_
    simp only [Function.comp_apply]
    omega
  have n1 : (List.range k).filter (fun i => (2 ^ (k + 1) * q + 2 ^ k).testBit i) = [] := by
    rw [List.filter_eq_nil_iff]
    intro j hj
    have := List.mem_range.1 hj
    rw [low_bit, low_none k q j (by omega)]
    simp; omega
  have n2 : (List.range k).filter (fun i => (2 ^ (k + 1) * q).testBit i) = [] := by
    rw [List.filter_eq_nil_iff]
    intro j hj
    have := List.mem_range.1 hj
    rw [low_none k q j (by omega)]
    simp
  rw [e, List.filter_append, List.filter_append, n1, n2, List.filter_cons, List.filter_cons, low_bit, low_none k q k (by omega)]
  simp only [decide_true, Bool.true_or, if_true, List.nil_append, Bool.false_eq_true, if_false]
  congr 1
  apply List.filter_congr
  intro j hj
  obtain ⟨i, _, rfl⟩ := List.mem_map.1 hj
  rw [low_bit]
  have : ¬ (k + 1 + i = k) := by omega
  simp [this]
theorem bits_zero : bitsOf 64 0 = [] := by
  unfold bitsOf
  rw [List.filter_eq_nil_iff]
  intro j _
  simp
end Go.Proofs.YtgbmihnainbgiaaDoor

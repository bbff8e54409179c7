/-
  NumTurns walked: sums and products the other way about, contraries.
-/
import Derived.Test.YtfafhadklhnemaaS8
namespace Go.Proofs.Ytfafhadklhnemaa
open Go Go.Lf Ieee

theorem sum_comm (x y : Datum) : x.sum y = y.sum x := by
  cases x with
  | nan => cases y <;> rfl
  | infinity s =>
    cases y with
    | nan => rfl
    | infinity t =>
      unfold Datum.sum
      by_cases h : s = t
      · subst h; rfl
      · simp [h, Ne.symm h]
    | number => rfl
  | number s m i =>
    cases y with
    | nan => rfl
    | infinity t => rfl
    | number t n j =>
      unfold Datum.sum
      simp only []
      rw [Int.min_comm i j, Int.add_comm (signed s m _), Bool.and_comm s t]
theorem product_comm (x y : Datum) : x.product y = y.product x := by
  cases x with
  | nan => cases y <;> rfl
  | infinity s =>
    cases y with
    | nan => rfl
    | infinity t => unfold Datum.product; simp only []; rw [Bool.xor_comm]
    | number t n j => rfl
  | number s m i =>
    cases y with
    | nan => rfl
    | infinity t => rfl
    | number t n j =>
      unfold Datum.product
      simp only []
      rw [Bool.xor_comm, Nat.mul_comm m n, Int.add_comm i j]
theorem fV_comm (op : BinOp) (ho : op = .add ∨ op = .mul) (a b : Nat) : fV op a b = fV op b a := by
  have e : fD op a b = fD op b a := by
    rcases ho with rfl | rfl
    · exact sum_comm _ _
    · exact product_comm _ _
  unfold fV
  rw [fA_fD, fA_fD, e]
theorem opposite_opposite (x : Datum) : x.opposite.opposite = x := by cases x <;> simp [Datum.opposite]
theorem signed_not (s : Bool) (m u : Nat) : signed (!s) m u = - signed s m u := by unfold signed; cases s <;> simp
/-- a sum of contraries -/
theorem sum_opposite {x y d : Datum} (h : x.sum y = some d) : ∃ d', x.opposite.sum y.opposite = some d' ∧ (shows d').2 = (shows d).2 ∧ ((shows d').1 = !(shows d).1 ∨ (shows d).2 = 0) := by
  cases x with
  | nan => cases y <;> simp [Datum.sum] at h
  | infinity s =>
    cases y with
    | nan => simp [Datum.sum] at h
    | infinity t =>
      unfold Datum.sum at h
      simp only [] at h
      by_cases hs : s = t
      · subst hs
        rw [if_pos rfl, Option.some.injEq] at h
        subst h
        exact ⟨.infinity (!s), by unfold Datum.opposite Datum.sum; simp, rfl, .inl rfl⟩
      · rw [if_neg hs] at h; cases h
    | number t n j =>
      have h : some (Datum.infinity s) = some d := h
      rw [Option.some.injEq] at h
      subst h
      exact ⟨.infinity (!s), rfl, rfl, .inl rfl⟩
  | number s m i =>
    cases y with
    | nan => simp [Datum.sum] at h
    | infinity t =>
      have h : some (Datum.infinity t) = some d := h
      rw [Option.some.injEq] at h
      subst h
      exact ⟨.infinity (!t), rfl, rfl, .inl rfl⟩
    | number t n j =>
      unfold Datum.sum at h
      simp only [Option.some.injEq] at h
      subst h
      refine ⟨_, rfl, ?_, ?_⟩
      · show rr _ _ = rr _ _
        rw [signed_not, signed_not, ← Int.neg_add, Int.natAbs_neg]
      · by_cases h0 : signed s m (i - min i j).toNat + signed t n (j - min i j).toNat = 0
        · right
          show rr _ _ = 0
          rw [h0]
          exact rr_zero _
        · left
          show (if signed (!s) m (i - min i j).toNat + signed (!t) n (j - min i j).toNat = 0 then (!s && !t) else decide (signed (!s) m (i - min i j).toNat + signed (!t) n (j - min i j).toNat < 0)) = !(if signed s m (i - min i j).toNat + signed t n (j - min i j).toNat = 0 then (s && t) else decide (signed s m (i - min i j).toNat + signed t n (j - min i j).toNat < 0))
          rw [signed_not, signed_not, if_neg h0, if_neg (by omega), Bool.eq_iff_iff, decide_eq_true_iff, Bool.not_eq_true', decide_eq_false_iff_not]
          omega
theorem sum_opposite_none {x y : Datum} (h : x.sum y = none) : x.opposite.sum y.opposite = none := by
  cases e : x.opposite.sum y.opposite with
  | none => rfl
  | some d =>
    obtain ⟨d', h1, _⟩ := sum_opposite e
    rw [opposite_opposite, opposite_opposite, h] at h1
    cases h1
theorem fD_back (a b : Nat) : fD .sub b a = ((double.read a).opposite.sum (double.read b).opposite.opposite) := by
  rw [opposite_opposite, sum_comm]; rfl
theorem sub_back (a b : Nat) : (fV .sub a b = NN ∧ fV .sub b a = NN) ∨ (rung (fV .sub a b) ≤ infR ∧ rung (fV .sub b a) ≤ infR ∧ fV .sub a b < 18446744073709551616 ∧ rowv (fV .sub b a) = - rowv (fV .sub a b)) := by
  cases h : fD .sub a b with
  | none =>
    left
    refine ⟨fV_none h, fV_none ?_⟩
    rw [fD_back]
    exact sum_opposite_none h
  | some d =>
    right
    obtain ⟨d', h1, h2, h3⟩ := sum_opposite h
    rw [← fD_back] at h1
    have hi := infR_eq
    have l1 := shows_le d
    have l2 := shows_le d'
    obtain ⟨w1, w2, w3⟩ := word_rung (s := (shows d).1) (r := (shows d).2) (by omega)
    obtain ⟨v1, v2, v3⟩ := word_rung (s := (shows d').1) (r := (shows d').2) (by omega)
    rw [fV_some h, fV_some h1]
    refine ⟨by omega, by omega, w3, ?_⟩
    unfold rowv
    rw [w1, w2, v1, v2, h2]
    rcases h3 with h3 | h3
    · rw [h3]; cases (shows d).1 <;> simp
    · rw [h3]; cases (shows d).1 <;> cases (shows d').1 <;> rfl
section
variable {h : Heap}
theorem plain_neg_neg (a : Nat) (ha : a < 18446744073709551616) : plainN (Op.negFloat .f64 (plainN (Op.negFloat .f64 a))) = plainN a := by
  obtain ⟨h1, _, _⟩ := negF a ha
  by_cases hn : infR < rung a
  · have e1 : plainN a = NN := by unfold plainN; rw [if_pos hn]
    have e2 : plainN (Op.negFloat .f64 a) = NN := by unfold plainN; rw [h1, if_pos hn]
    rw [e1, e2]
    decide
  · rw [plainN_of (q := Op.negFloat .f64 a) (by omega), neg_neg]
theorem turns_walk (a b : Int) (h : Heap) (ha : 0 ≤ a ∧ a ≤ 18446744073709551615) (hb : 0 ≤ b ∧ b ≤ 18446744073709551615) : CallsH Try.prog 6 #[.int .u64 a, .int .u64 b] h (fun v h' => v = .bool true ∧ Grow h h') := by
  apply F6
  unfold L6
  obtain ⟨a, rfl⟩ := Int.eq_ofNat_of_zero_le ha.1
  obtain ⟨b, rfl⟩ := Int.eq_ofNat_of_zero_le hb.1
  have ha' : a < 18446744073709551616 := by omega
  refine cal_of reckoned_spec ?_
  rintro _ h1 ⟨rfl, g1⟩
  refine ⟨_, rfl, ?_⟩
  refine orp (q := false) (fun _ k hk => cal_i (fadd_spec a b) (cal_i (fadd_spec b a) (by rw [fV_comm .add (.inl rfl) a b, bne_self_eq_false]; exact hk))) ?_
  refine orp (q := false) (fun _ k hk => cal_i (fmul_spec a b) (cal_i (fmul_spec b a) (by rw [fV_comm .mul (.inr rfl) a b, bne_self_eq_false]; exact hk))) ?_
  refine orp (q := false) (fun _ k hk => cal_i (fneg_spec a) (cal_i (fneg_spec _) (cal_i (plain_spec a) (by rw [plain_neg_neg a ha', bne_self_eq_false]; exact hk)))) ?_
  refine ⟨fun e => (by cases e), fun _ => ?_⟩
  refine cal_i (fsub_spec a b) (cal_i (fneg_spec _) (cal_i (fsub_spec b a) (cal_b (same_spec _ _) ⟨?_, g1⟩)))
  congr 1
  rcases sub_back a b with ⟨e1, e2⟩ | ⟨e1, e2, e3, e4⟩
  · rw [e1, e2]
    have e3 : plainN (Op.negFloat .f64 NN) = NN := by decide
    rw [e3]
    simp [NN]
  · obtain ⟨n1, _, _⟩ := negF _ e3
    rw [plainN_of (by rw [n1]; exact e1), fO_eq (by rw [n1]; exact e1) e2, rowv_neg _ e3, e4]
    simp
end
end Go.Proofs.Ytfafhadklhnemaa

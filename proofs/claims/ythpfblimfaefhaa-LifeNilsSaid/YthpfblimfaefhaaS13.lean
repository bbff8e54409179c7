/-
  LifeMore and LifeNils, walked.
-/
import Derived.Test.YthpfblimfaefhaaS12
import Derived.Test.YthpfblimfaefhaaS5
import Derived.Test.YthpfblimfaefhaaS9
namespace Go.Proofs.Ythpfblimfaefhaa
open Go Go.Lf

theorem more_walk (n : Int) (pv : Sv) (ps : List (Int × Int)) (x0 x1 : Int) (h : Heap) (x : PairsAt h pv ps) :
    CallsH Try.prog 5 #[.int .i64 n, .slice pv.a pv.n pv.c, .agg #[.int .i64 x0, .int .i64 x1]] h (fun v h' => v = .bool true ∧ Grow h h') := by
  apply F5
  unfold L5
  rintro p5 h1 rfl rfl
  have f1 : Grow h (h.push (.cells #[.int .i64 x0, .int .i64 x1] 33)) := Fr.push _ _ _
  have k1 := blk.new h #[.int .i64 x0, .int .i64 x1] 33
  generalize h.push (.cells #[.int .i64 x0, .int .i64 x1] 33) = h1 at *
  refine cal_of (outlived_spec _) ?_
  rintro _ h2 ⟨rfl, f2⟩
  have f12 := f1.trans f2
  refine ⟨_, rfl, ?_⟩
  refine ifb_iff (q := ¬ (0 ≤ n ∧ n ≤ 20 ∧ pv.n ≤ 40)) (by simp; omega) (fun hn => ?_) (fun hn => ?_)
  · refine cal_of (outlived_spec _) ?_
    rintro _ h3 ⟨rfl, f3⟩
    exact ⟨_, rfl, rfl, f12.trans f3⟩
  have hn : 0 ≤ n ∧ n ≤ 20 ∧ pv.n ≤ 40 := by omega
  obtain ⟨n, rfl⟩ := Int.eq_ofNat_of_zero_le hn.1
  have hlen : ps.length ≤ 40 := by have := x.len; omega
  refine cal_of (both_spec (by omega) (x.grow f12) (by omega)) ?_
  rintro _ h4 ⟨br, bo, c, rb, bw, s, rfl, R, Q, f4, hB, -⟩
  have f24 := f12.trans f4
  refine ⟨_, rfl, _, rfl, _, rfl, _, rfl, _, rfl, _, rfl, _, rfl, ⟨fun e => (by cases e), fun _ => ?_⟩⟩
  have k4 := (f2.trans f4).blk k1 (fun h => h)
  obtain ⟨ha, a, hal, ea⟩ := rem_in n (by omega) x0
  obtain ⟨_, b, hbl, eb⟩ := rem_in n (by omega) x1
  refine ldI_i (x := x0) (by rw [k4.cl]; rfl) ⟨ha, ldI_i (x := x1) (by rw [add_plain, k4.cl]; rfl) ⟨ha, ?_⟩⟩
  rw [ea, eb]
  refine cal_of (clone_spec R (by omega)) ?_
  rintro _ h5 ⟨br', bo', c', rb', rfl, R', g5, hB'⟩
  refine ⟨_, rfl, ?_⟩
  have R5 := R.frame (T := fun _ => False) g5 (fun _ _ h => h)
  refine ⟨fun t h6 => t = false ∧ RelOk br bo c rb n (addM (mOf n ps) a b) h6 ∧ RelOk br' bo' c' rb' n (mOf n ps) h6 ∧ Grow h h6, ⟨fun e => (by cases e), fun _ => ?_⟩, ?_⟩
  · refine cal_of (add_spec R5 (Clo.mOf n ps) a b hal hbl (by omega)) ?_
    rintro _ h7 ⟨rfl, R7, f7⟩
    refine ⟨_, rfl, rfl, R7, R'.frame f7 (fun z hz hr => ?_), (f24.trans g5).trans' f7 fun i hi hr => ?_⟩
    · have := hB' z hz
      have := R.lt hr
      omega
    · have := hB i hr
      have := f12.size
      omega
  rintro t h6 ⟨rfl, R6, R6', g6⟩
  refine ⟨fun e => (by cases e), fun _ => ?_⟩
  have hw : ∀ y : Int, 0 ≤ y → y ≤ 22 → IntKind.i64.wrap (y + 1) = y + 1 := fun y h0 h1 => wrap64_id (by omega) (by omega)
  refine ⟨fun y h8 => 0 ≤ y ∧ y ≤ n + 1 ∧ h6 = h8, fun y _ => (n + 1 - y).toNat, ⟨by omega, by omega, rfl⟩, ?_⟩
  rintro y _ ⟨hy0, hy1, rfl⟩
  refine ifb_dec (fun hle => ?_) (fun _ => ⟨rfl, g6⟩)
  refine ⟨fun z h8 => 0 ≤ z ∧ z ≤ n + 1 ∧ h6 = h8, fun z _ => (n + 1 - z).toNat, ⟨by omega, by omega, rfl⟩, ?_⟩
  rintro z _ ⟨hz0, hz1, rfl⟩
  have hwy := hw y (by omega) (by omega)
  refine ifb_dec (fun hle' => ?_) (fun _ => ⟨⟨by omega, by omega, rfl⟩, by rw [hwy]; (try dsimp only); omega⟩)
  have hwz := hw z (by omega) (by omega)
  obtain ⟨i, rfl⟩ := Int.eq_ofNat_of_zero_le hy0
  obtain ⟨j, rfl⟩ := Int.eq_ofNat_of_zero_le hz0
  refine cal_of (has_spec R6 i j) ?_
  rintro _ _ ⟨rfl, rfl⟩
  refine ⟨_, rfl, ?_⟩
  refine cal_of (has_spec R6' i j) ?_
  rintro _ _ ⟨rfl, rfl⟩
  refine ⟨_, rfl, ?_⟩
  rw [has_true (by omega) (by omega), has_true (by omega) (by omega)]
  refine ⟨fun t h8 => t = addM (mOf n ps) a b i j ∧ h6 = h8, ⟨fun e => ?_, fun e => ?_⟩, ?_⟩
  · exact ⟨by simp [addM, e], rfl⟩
  · refine cal_of (has_spec R6' i a) ?_
    rintro _ _ ⟨rfl, rfl⟩
    refine ⟨_, rfl, ?_⟩
    rw [has_true (by omega) (by omega)]
    refine ⟨fun t h8 => t = (mOf n ps i a && mOf n ps b j) ∧ h6 = h8, ⟨fun e1 => ?_, fun e1 => ?_⟩, ?_⟩
    · refine cal_of (has_spec R6' b j) ?_
      rintro _ _ ⟨rfl, rfl⟩
      refine ⟨_, rfl, ?_, rfl⟩
      rw [has_true (by omega) (by omega), e1, Bool.true_and]
    · exact ⟨by rw [e1]; rfl, rfl⟩
    · rintro _ _ ⟨rfl, rfl⟩
      exact ⟨by simp only [addM, e, Bool.false_or], rfl⟩
  rintro _ _ ⟨rfl, rfl⟩
  refine ⟨fun e => (by simp at e), fun _ => ⟨⟨by omega, by omega, rfl⟩, by rw [hwz]; (try dsimp only); omega⟩⟩

theorem nils_walk (n a b : Int) (h : Heap) :
    CallsH Try.prog 8 #[.int .i64 n, .int .i64 a, .int .i64 b] h (fun v h' => v = .bool true ∧ Grow h h') := by
  apply F8
  unfold L8
  refine ⟨fun v h1 => Grow h h1 ∧ ∃ p e, v = .tuple #[.pointer p, .int .i64 e] ∧ (if 0 ≤ n ∧ n ≤ 300 then p ≠ none ∧ e = 0 else p = none ∧ e = 14), ?_, ?_⟩
  · by_cases hn : 0 ≤ n ∧ n ≤ 300
    · obtain ⟨k, rfl⟩ := Int.eq_ofNat_of_zero_le hn.1
      refine (new_spec k h (by omega)).mono ?_
      rintro v h1 ⟨br, bo, c, rb, rfl, _, g, _⟩
      exact ⟨g, _, _, rfl, by rw [if_pos hn]; exact ⟨by simp, rfl⟩⟩
    · refine (new_bad n h hn).mono ?_
      rintro v h1 ⟨rfl, rfl⟩
      exact ⟨Fr.refl _ _, _, _, rfl, by rw [if_neg hn]; exact ⟨rfl, rfl⟩⟩
  rintro _ h1 ⟨g1, p, e, rfl, hpe⟩
  refine ⟨_, rfl, _, rfl, _, rfl, _, rfl, _, rfl, ?_⟩
  refine ifb_iff (q := False) ?_ (fun h => h.elim) (fun _ => ?_)
  · by_cases hn : 0 ≤ n ∧ n ≤ 300
    · rw [if_pos hn] at hpe
      obtain ⟨hp, rfl⟩ := hpe
      cases p with
      | none => exact absurd rfl hp
      | some p => simp; omega
    · rw [if_neg hn] at hpe
      obtain ⟨rfl, rfl⟩ := hpe
      simp
      omega
  refine cal_of (outlived_spec _) ?_
  rintro _ h2 ⟨rfl, f2⟩
  refine ⟨_, rfl, ?_⟩
  refine ⟨fun t h3 => t = true ∧ h2 = h3, ⟨fun _ => ?_, fun e => (by cases e)⟩, ?_⟩
  · refine cal_of len_nil ?_
    rintro _ _ ⟨rfl, rfl⟩
    exact ⟨_, rfl, rfl, rfl⟩
  rintro _ _ ⟨rfl, rfl⟩
  refine ⟨fun t h3 => t = true ∧ h2 = h3, ⟨fun _ => ?_, fun e => (by cases e)⟩, ?_⟩
  · refine cal_of (add_nil a b _) ?_
    rintro _ _ ⟨rfl, rfl⟩
    exact ⟨_, rfl, rfl, rfl⟩
  rintro _ _ ⟨rfl, rfl⟩
  refine ⟨fun t h3 => t = true ∧ h2 = h3, ⟨fun _ => ?_, fun e => (by cases e)⟩, ?_⟩
  · refine cal_of (has_nil a b) ?_
    rintro _ _ ⟨rfl, rfl⟩
    exact ⟨_, rfl, rfl, rfl⟩
  rintro _ _ ⟨rfl, rfl⟩
  refine ⟨fun t h3 => t = true ∧ h2 = h3, ⟨fun _ => ?_, fun e => (by cases e)⟩, ?_⟩
  · refine cal_of (under_nil a) ?_
    rintro _ _ ⟨rfl, rfl⟩
    exact ⟨⟨none, 0, 0⟩, rfl, rfl, rfl⟩
  rintro _ _ ⟨rfl, rfl⟩
  refine ⟨fun t h3 => t = true ∧ h2 = h3, ⟨fun _ => ?_, fun e => (by cases e)⟩, ?_⟩
  · refine cal_of pairs_nil ?_
    rintro _ _ ⟨rfl, rfl⟩
    exact ⟨⟨none, 0, 0⟩, rfl, rfl, rfl⟩
  rintro _ _ ⟨rfl, rfl⟩
  refine ⟨fun t h3 => t = true ∧ h2 = h3, ⟨fun _ => ?_, fun e => (by cases e)⟩, ?_⟩
  · refine cal_of clone_nil ?_
    rintro _ _ ⟨rfl, rfl⟩
    exact ⟨_, rfl, rfl, rfl⟩
  rintro _ _ ⟨rfl, rfl⟩
  exact ⟨rfl, g1.trans f2⟩
end Go.Proofs.Ythpfblimfaefhaa

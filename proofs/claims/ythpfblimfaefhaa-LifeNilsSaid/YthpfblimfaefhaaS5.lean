/-
  LifeOrders, walked.
-/
import Derived.Test.YthpfblimfaefhaaS4
namespace Go.Proofs.Ythpfblimfaefhaa
open Go Go.Lf

theorem rem_in (n : Nat) (hn : n ≤ 300) (x : Int) : IntKind.u64.wrap (IntKind.u64.wrap (n : Int) + 1) ≠ 0 ∧
    ∃ k : Nat, k ≤ n ∧ IntKind.i64.wrap ((IntKind.u64.wrap x : Int).tmod (IntKind.u64.wrap (IntKind.u64.wrap (n : Int) + 1))) = k := by
  have e1 : IntKind.u64.wrap (n : Int) = n := by rw [IntKind.wrap_u64]; omega
  have e2 : IntKind.u64.wrap ((n : Int) + 1) = ((n + 1 : Nat) : Int) := by rw [IntKind.wrap_u64]; omega
  rw [e1, e2]
  refine ⟨by omega, ?_⟩
  have h0 : 0 ≤ IntKind.u64.wrap x := by rw [IntKind.wrap_u64]; omega
  obtain ⟨y, hy⟩ := Int.eq_ofNat_of_zero_le h0
  rw [hy]
  have e3 : ((y : Nat) : Int).tmod ((n + 1 : Nat) : Int) = ((y % (n + 1) : Nat) : Int) := by
    rw [Int.tmod_eq_emod_of_nonneg (by omega)]; omega
  rw [e3]
  have := Nat.mod_lt y (show 0 < n + 1 by omega)
  exact ⟨y % (n + 1), by omega, by rw [wrap64_id (by omega) (by omega)]⟩

theorem has_true {n : Nat} {m : Nat → Nat → Bool} {i j : Nat} (hi : i ≤ n) (hj : j ≤ n) : hasM n m i j = m i j := by
  simp [hasM, inR, hi, hj]

theorem orders_walk (n : Int) (pv : Sv) (ps : List (Int × Int)) (x0 x1 x2 : Int) (h : Heap) (x : PairsAt h pv ps) :
    CallsH Try.prog 4 #[.int .i64 n, .slice pv.a pv.n pv.c, .agg #[.int .i64 x0, .int .i64 x1, .int .i64 x2]] h (fun v h' => v = .bool true ∧ Grow h h') := by
  apply F4
  unfold L4
  rintro p h1 rfl rfl
  have f1 : Grow h (h.push (.cells #[.int .i64 x0, .int .i64 x1, .int .i64 x2] 30)) := Fr.push _ _ _
  have kb := blk.new h #[.int .i64 x0, .int .i64 x1, .int .i64 x2] 30
  refine cal_of (outlived_spec _) ?_
  rintro _ h2 ⟨rfl, f2⟩
  refine ⟨_, rfl, ?_⟩
  refine ifb_iff (q := ¬ (0 ≤ n ∧ n ≤ 60 ∧ pv.n ≤ 100)) (by simp; omega) (fun hn => ?_) (fun hn => ?_)
  · refine cal_of (outlived_spec _) ?_
    rintro _ h3 ⟨rfl, f3⟩
    exact ⟨_, rfl, rfl, (f1.trans f2).trans f3⟩
  have hn : 0 ≤ n ∧ n ≤ 60 ∧ pv.n ≤ 100 := by omega
  obtain ⟨n, rfl⟩ := Int.eq_ofNat_of_zero_le hn.1
  have hn60 : n ≤ 60 := by omega
  have f12 := f1.trans f2
  refine cal_of (both_spec (by omega) (x.grow f12) (by have := x.len; omega)) ?_
  rintro _ h4 ⟨br, bo, c, rb, bw, s, rfl, R, -, f4, -⟩
  have f14 := f12.trans f4
  have C := Clo.mOf n ps
  have kb4 := f4.blk (f2.blk kb (fun h => h)) (fun h => h)
  refine ⟨_, rfl, _, rfl, _, rfl, _, rfl, _, rfl, _, rfl, _, rfl, ⟨fun e => (by cases e), fun _ => ?_⟩⟩
  refine ldI_i (x := x0) (by rw [kb4.cl]; rfl) ⟨(rem_in n (by omega) x0).1, ?_⟩
  rw [add_plain]
  refine ldI_i (x := x1) (by rw [kb4.cl]; rfl) ⟨(rem_in n (by omega) x0).1, ?_⟩
  rw [add_plain]
  refine ldI_i (x := x2) (by rw [kb4.cl]; rfl) ⟨(rem_in n (by omega) x0).1, ?_⟩
  obtain ⟨-, a, ha, ea⟩ := rem_in n (by omega) x0
  obtain ⟨-, b, hb, eb⟩ := rem_in n (by omega) x1
  obtain ⟨-, d, hd, ed⟩ := rem_in n (by omega) x2
  simp only [ea, eb, ed]
  refine cal_of (has_spec R a a) ?_
  rintro _ _ ⟨rfl, rfl⟩
  refine ⟨_, rfl, ?_⟩
  rw [has_true ha ha, C.refl a ha]
  refine ⟨fun b' h6 => b' = true ∧ h4 = h6, ⟨fun _ => ?_, fun e => (by cases e)⟩, ?_⟩
  · refine cal_of (has_spec R (0 : Nat) b) ?_
    rintro _ _ ⟨rfl, rfl⟩
    exact ⟨_, rfl, by rw [has_true (by omega) hb, C.zero b hb], rfl⟩
  rintro _ _ ⟨rfl, rfl⟩
  refine ⟨fun b' h6 => b' = true ∧ h4 = h6, ⟨fun _ => ?_, fun e => (by cases e)⟩, ?_⟩
  · refine cal_of (has_spec R a b) ?_
    rintro _ _ ⟨rfl, rfl⟩
    refine ⟨_, rfl, ?_⟩
    rw [has_true ha hb]
    refine ⟨fun b' h6 => b' = (!mOf n ps a b || !mOf n ps b d) ∧ h4 = h6, ⟨fun e => ⟨by rw [e]; rfl, rfl⟩, fun e => ?_⟩, ?_⟩
    · refine cal_of (has_spec R b d) ?_
      rintro _ _ ⟨rfl, rfl⟩
      exact ⟨_, rfl, by rw [has_true hb hd, e]; rfl, rfl⟩
    rintro _ _ ⟨rfl, rfl⟩
    refine ⟨fun b' h6 => b' = true ∧ h4 = h6, ⟨fun e => ⟨rfl, rfl⟩, fun e => ?_⟩, ?_⟩
    · refine cal_of (has_spec R a d) ?_
      rintro _ _ ⟨rfl, rfl⟩
      simp at e
      exact ⟨_, rfl, by rw [has_true ha hd, C.trans a b d ha hb hd e.1 e.2], rfl⟩
    rintro _ _ ⟨rfl, rfl⟩
    exact ⟨rfl, rfl⟩
  rintro _ _ ⟨rfl, rfl⟩
  exact ⟨rfl, f14⟩
end Go.Proofs.Ythpfblimfaefhaa

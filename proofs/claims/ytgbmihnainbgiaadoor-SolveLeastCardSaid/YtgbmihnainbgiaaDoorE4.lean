/-
  SolveLeast walked.
-/
import Derived.Test.YtgbmihnainbgiaaDoorE3
namespace Go.Proofs.YtgbmihnainbgiaaDoor
open Go Go.Lf
set_option linter.unusedVariables false

theorem filter_at {f : Nat → Bool} {N e : Nat} (he : e < N) (hf : f e = true) : ∃ hk : ((List.range e).filter f).length < ((List.range N).filter f).length, ((List.range N).filter f)[((List.range e).filter f).length] = e := by
  have h1 : List.range N = List.range e ++ e :: (List.range (N - e - 1)).map (e + 1 + ·) := by
    have h1 : List.range (e + (N - e)) = List.range e ++ (List.range (N - e)).map (e + ·) := List.range_add
    rw [show e + (N - e) = N by omega] at h1
    rw [h1, show N - e = (N - e - 1) + 1 by omega, List.range_succ_eq_map]
    simp only [List.map_cons, List.map_map, Nat.add_zero]
    congr 2
    refine List.map_congr_left fun j _ => ?_
    simp only [Function.comp_apply]
    omega
  have h2 : (List.range N).filter f = (List.range e).filter f ++ e :: ((List.range (N - e - 1)).map (e + 1 + ·)).filter f := by
    rw [h1, List.filter_append, List.filter_cons, if_pos hf]
  refine ⟨by rw [h2, List.length_append, List.length_cons]; omega, ?_⟩
  simp only [h2]
  rw [List.getElem_append_right (Nat.le_refl _)]
  simp
theorem filter_all {f : Nat → Bool} {W N : Nat} (h : W ≤ N) (hf : ∀ e, W ≤ e → e < N → f e = false) : (List.range N).filter f = (List.range W).filter f := by
  have h1 : List.range (W + (N - W)) = List.range W ++ (List.range (N - W)).map (W + ·) := List.range_add
  rw [show W + (N - W) = N by omega] at h1
  rw [h1, List.filter_append]
  have : ((List.range (N - W)).map (W + ·)).filter f = [] := by
    rw [List.filter_eq_nil_iff]
    intro a ha
    obtain ⟨i, hi, rfl⟩ := List.mem_map.1 ha
    have := List.mem_range.1 hi
    rw [hf _ (by omega) (by omega)]
    simp
  rw [this, List.append_nil]
theorem least_walk (n W : Int) (s : Sv) (ops : List Opn) (h : Heap) (T : TabAt h) (X : OpsAt h s ops) : CallsH Tryd.prog 3 #[.int .i64 n, .int .i64 W, .slice s.a s.n s.c] h (fun v h' => v = .bool true ∧ Grow h h') := by
  apply F3
  unfold L3
  refine cal_of (solved_spec h) ?_
  rintro _ h1 ⟨rfl, f1⟩
  refine ⟨_, rfl, ?_⟩
  refine ⟨fun b h' => b = !(smallB n W s.n) ∧ h1 = h', ⟨fun e => (by cases e), fun _ => ?_⟩, ?_⟩
  · refine cal_of (small_spec n W s h1) ?_
    rintro _ _ ⟨rfl, rfl⟩
    exact ⟨_, rfl, rfl, rfl⟩
  rintro _ _ ⟨rfl, rfl⟩
  refine ⟨fun _ => ?_, fun e => ?_⟩
  · refine cal_of (solved_spec h1) ?_
    rintro _ h2 ⟨rfl, f2⟩
    exact ⟨_, rfl, rfl, f1.trans f2⟩
  have hsm : smallB n W s.n = true := by simpa using e
  obtain ⟨a1, a2, a3, a4, a5⟩ := small_iff.1 hsm
  obtain ⟨n, rfl⟩ := Int.eq_ofNat_of_zero_le a1
  obtain ⟨W, rfl⟩ := Int.eq_ofNat_of_zero_le a3
  have hol : ops.length ≤ 60 := by have := X.len; omega
  refine cal_of (told_spec (X.grow f1) (n := n) (W := W) (by omega) (by omega) (by omega)) ?_
  rintro _ h5 ⟨x, d, outs, puts, rfl, K⟩
  refine ⟨_, rfl, _, rfl, _, rfl, _, rfl, outs, rfl, _, rfl, puts, rfl, _, rfl, true, rfl, ?_⟩
  refine ⟨fun e => (by cases e), fun _ => ?_⟩
  have g5 := f1.trans K.gr
  have hxn := K.hn
  have hxW := K.hW
  have hlo := outsL_len n ops
  have hlp := putsL_len n W ops
  have hpo : ∀ p ∈ outsL n ops, inN n p.1 ∧ inN n p.2 := by
    intro p hp
    obtain ⟨o, ho, rfl⟩ := List.mem_map.1 hp
    have := (List.mem_filter.1 ho).2
    simp [okOut, reg] at this
    unfold inN
    omega
  have hpp : ∀ p ∈ putsL n W ops, inN n p.1 := by
    intro p hp
    obtain ⟨o, ho, rfl⟩ := List.mem_map.1 hp
    have := (List.mem_filter.1 ho).2
    simp [okPut, reg] at this
    unfold inN
    omega
  refine ⟨fun r h6 => ∃ j : Nat, r = j ∧ j ≤ n ∧ Grow h5 h6, fun r _ => n - r.toNat, ⟨0, rfl, Nat.zero_le _, Fr.refl _ _⟩, ?_⟩
  rintro _ h6 ⟨j, rfl, hj, g6⟩
  refine ifb_iff (q := j < n) (by simp) (fun hlt => ?_) (fun hge => ⟨rfl, g5.trans g6⟩)
  have k6 := K.ok.grow g6
  refine cal_of (list_spec k6 (T.grow (g5.trans g6)) (by omega) (r := j) (by omega)) ?_
  rintro _ h7 ⟨f7, s44, rfl, o7⟩
  refine ⟨s44, rfl, ?_⟩
  have hfa : (List.range (64 * x.nw)).filter (d.S j) = (List.range W).filter (d.S j) := filter_all (by unfold Sh.nw; omega) fun e h1 h2 => over_none K.tol (by omega) h1 h2
  rw [hfa] at o7
  have hflen : ∀ m, ((List.range m).filter (d.S j)).length ≤ m := fun m => by have := List.length_filter_le (d.S j) (List.range m); rwa [List.length_range] at this
  have hn44 : s44.n = ((List.range W).filter (d.S j)).length := by have := o7.len; simp [natI] at this; omega
  have hW150 := hflen W
  refine ⟨fun k e h8 => ∃ i : Nat, e = i ∧ i ≤ W ∧ Grow h7 h8 ∧ k = (((List.range i).filter (d.S j)).length : Nat), fun _ e _ => W - e.toNat, ⟨0, rfl, Nat.zero_le _, Fr.refl _ _, rfl⟩, ?_⟩
  rintro _ _ h8 ⟨i, rfl, hi, g8, rfl⟩
  have g58 := g6.trans (f7.trans g8)
  have k8 := K.ok.grow g58
  refine ifb_iff (q := i < W) (by simp) (fun hil => ?_) (fun hig => ?_)
  · have hli := hflen i
    refine ⟨fun k h11 => Grow h7 h11 ∧ k = (((List.range (i + 1)).filter (d.S j)).length : Nat), ?_, ?_⟩
    · refine cal_of (refHas_spec (n := n) (K.out.frame g58 fun _ _ h => h) (K.put.frame g58 fun _ _ h => h) hpo hpp (by omega) (by omega) (by omega) hlt (i : Int)) ?_
      rintro _ h9 ⟨f9, rfl⟩
      refine ⟨_, rfl, ?_⟩
      rw [← least_law hxn hxW K.tol hlt hil]
      refine cal_of (has_spec (K.ok.grow (g58.trans f9)) (by omega) (j : Int) (i : Int)) ?_
      rintro _ _ ⟨rfl, rfl⟩
      refine ⟨_, rfl, ?_⟩
      have hhas : hasD x d (j : Int) (i : Int) = d.S j i := by
        unfold hasD
        rw [reg_nat, reg_nat, decide_eq_true (by omega), decide_eq_true (by omega)]
        simp
      rw [hhas]
      have hstep : ((List.range (i + 1)).filter (d.S j)).length = ((List.range i).filter (d.S j)).length + (if d.S j i then 1 else 0) := by
        rw [List.range_succ, List.filter_append, List.length_append, List.filter_cons, List.filter_nil]
        cases d.S j i <;> rfl
      refine ⟨fun b => b = false, ⟨fun e => by simp at e, fun _ => ?_⟩, ?_⟩
      · refine ⟨fun b => b = false, ⟨fun hS => ?_, fun hS => ?_⟩, ?_⟩
        · obtain ⟨hk, hat⟩ := filter_at hil hS
          refine ⟨fun b => b = false, ⟨fun e => ?_, fun _ => ?_⟩, ?_⟩
          · rw [hn44] at e
            simp at e
            omega
          · have o9 := o7.frame (g8.trans f9) fun _ _ h => h
            rw [natI_ints] at o9
            obtain ⟨p, ep, c⟩ := (own_ints o9).at_ ((List.range i).filter (d.S j)).length (by simpa using hk)
            refine ⟨p, ep, by omega, by rw [hn44]; exact_mod_cast hk, ldI_i (by rw [Int.toNat_natCast]; exact c) ?_⟩
            simp only [List.getElem_map, hat]
            simp
          · rintro _ rfl
            rfl
        · rfl
        · rintro _ rfl
          rfl
      rintro _ rfl
      refine ⟨fun e => (by cases e), fun _ => ⟨fun hS => ⟨g8.trans f9, ?_⟩, fun hS => ⟨g8.trans f9, ?_⟩⟩⟩
      · rw [hstep, hS, wrap64_id (by omega) (by omega)]; rfl
      · rw [hstep, hS]; rfl
    · rintro _ h11 ⟨q1, rfl⟩
      have hwi : IntKind.i64.wrap ((i : Int) + 1) = ((i + 1 : Nat) : Int) := by rw [wrap64_id (by omega) (by omega)]; rfl
      rw [hwi]
      exact ⟨⟨i + 1, rfl, hil, q1, rfl⟩, by dsimp only; omega⟩
  · obtain rfl : i = W := by omega
    refine ⟨fun b h12 => b = false ∧ h8 = h12, ⟨fun e => ?_, fun _ => ?_⟩, ?_⟩
    · rw [hn44] at e; simp at e
    · refine cal_of (count_spec k8 (by omega) (r := j) (by omega)) ?_
      rintro _ _ ⟨rfl, rfl⟩
      refine ⟨_, rfl, ?_, rfl⟩
      rw [hfa]; simp
    rintro _ _ ⟨rfl, rfl⟩
    refine ⟨fun e => (by cases e), fun _ => ?_⟩
    have hwj : IntKind.i64.wrap ((j : Int) + 1) = ((j + 1 : Nat) : Int) := by rw [wrap64_id (by omega) (by omega)]; rfl
    rw [hwj]
    exact ⟨⟨j + 1, rfl, hlt, g58⟩, by dsimp only; omega⟩
end Go.Proofs.YtgbmihnainbgiaaDoor

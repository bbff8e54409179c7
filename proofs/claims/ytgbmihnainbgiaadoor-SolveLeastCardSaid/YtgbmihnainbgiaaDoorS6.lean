/-
  Whether what must be in a region is in it; all that is told.
-/
import Derived.Test.YtgbmihnainbgiaaDoorS5
namespace Go.Proofs.YtgbmihnainbgiaaDoor
open Go Go.Lf

theorem ones_0 (h : Heap) : CallsH Tryd.prog 18 #[.int .u64 0] h (fun v h' => h = h' ∧ v = .int .i64 0) := by
  apply F18
  unfold L18
  exact ⟨_, rfl, _, rfl, _, rfl, _, rfl, rfl, by kernel_rfl⟩
theorem ones_8 (h : Heap) : CallsH Tryd.prog 18 #[.int .u64 8] h (fun v h' => h = h' ∧ v = .int .i64 1) := by
  apply F18
  unfold L18
  exact ⟨_, rfl, _, rfl, _, rfl, _, rfl, rfl, by kernel_rfl⟩

section
variable {x : Sh} {d : Sd} {h : Heap}
/-- a region that has 67 alone -/
theorem count_one (k : SolOk x d h) (hW : x.W = 70) {r : Nat} (hr : r < x.n) (hS : ∀ e, e < 128 → d.S r e = decide (e = 67)) : CallsH Tryd.prog 11 #[.pointer (some ⟨x.bs, 0, none⟩), .int .i64 r] h (fun v h' => h = h' ∧ v = .int .i64 1) := by
  apply F11
  unfold L11
  have hnw : x.nw = 2 := by unfold Sh.nw; rw [hW]
  have hrow := k.row r hr
  rw [hnw] at hrow
  obtain ⟨w0, c0, b0⟩ := hrow.cell (k := 0) (by omega)
  obtain ⟨w1, c1, b1⟩ := hrow.cell (k := 1) (by omega)
  have e0 : w0 = 0#64 := BitVec.eq_of_getLsbD_eq fun i hi => by
    have h67 : ¬ i = 67 := by omega
    rw [b0 i hi, hS _ (by omega)]; simp [h67]
  have e1 : w1 = 8#64 := BitVec.eq_of_getLsbD_eq fun i hi => by
    rw [b1 i hi, hS _ (by omega)]
    have : ∀ i, i < 64 → decide (64 * 1 + i = 67) = (8#64).getLsbD i := by decide
    exact this i hi
  subst e0 e1
  refine ⟨fun n h4 => n = 1 ∧ h = h4, ?_, ?_⟩
  · refine cal_of (region_spec k r) ?_
    rintro _ _ ⟨rfl, rfl⟩
    refine ⟨_, rfl, fun _ => ?_, fun e => ?_⟩
    · refine nn_i (ldS_i (s := x.tb) (by rw [add_plain]; exact k.ct) (k.get hr ?_))
      rw [hnw]
      refine ⟨fun n y h2 => h = h2 ∧ ((y = 0 ∧ n = 0) ∨ (y = 1 ∧ n = 0) ∨ (y = 2 ∧ n = 1)), fun _ y _ => (2 - y).toNat, ⟨rfl, .inl ⟨rfl, rfl⟩⟩, ?_⟩
      rintro n y _ ⟨rfl, ⟨rfl, rfl⟩ | ⟨rfl, rfl⟩ | ⟨rfl, rfl⟩⟩
      · refine ⟨fun _ => ?_, fun e => by simp at e⟩
        refine ixS_i rfl (by omega) (by show (0 : Int) < ((2 : Nat) : Int); omega) (ldI_i (x := 0) c0 ?_)
        refine cal_of (ones_0 h) ?_
        rintro _ _ ⟨rfl, rfl⟩
        exact ⟨_, rfl, ⟨rfl, .inr (.inl ⟨rfl, rfl⟩)⟩, by dsimp only; decide⟩
      · refine ⟨fun _ => ?_, fun e => by simp at e⟩
        refine ixS_i rfl (by omega) (by show (1 : Int) < ((2 : Nat) : Int); omega) (ldI_i (x := 8) (by simpa [add_plain] using c1) ?_)
        refine cal_of (ones_8 h) ?_
        rintro _ _ ⟨rfl, rfl⟩
        exact ⟨_, rfl, ⟨rfl, .inr (.inr ⟨rfl, rfl⟩)⟩, by dsimp only; decide⟩
      · exact ⟨fun e => by simp at e, fun _ => ⟨rfl, rfl⟩⟩
    · rw [reg_nat, decide_eq_true hr] at e; cases e
  · rintro _ _ ⟨rfl, rfl⟩
    exact ⟨rfl, rfl⟩
end

theorem solved_spec (h : Heap) : CallsH Tryd.prog 5 #[] h (fun v h' => v = .bool true ∧ Grow h h') := by
  apply F5
  unfold L5
  refine cal_of (new_spec h 3 70) ?_
  rintro v h1 ⟨-, hok⟩
  obtain ⟨x, d, rfl, hn, hW, k, t, g1, w1⟩ := hok (by unfold newOk; omega)
  refine ⟨_, rfl, _, rfl, _, rfl, _, rfl, _, rfl, fun e => (by cases e), fun _ => ?_⟩
  have hn : x.n = 3 := by omega
  have hW : x.W = 70 := by omega
  have hnw : x.nw = 2 := by unfold Sh.nw; rw [hW]
  have r3 : ∀ r : Nat, r < 3 → reg x.n (r : Int) = true := fun r hr => by rw [reg_nat, hn]; exact decide_eq_true hr
  have r0 : reg x.n 0 = true := r3 0 (by omega)
  have r1 : reg x.n 1 = true := r3 1 (by omega)
  have r2 : reg x.n 2 = true := r3 2 (by omega)
  have re : reg x.W 67 = true := by unfold reg; rw [hW]; decide
  have re6 : reg x.W 66 = true := by unfold reg; rw [hW]; decide
  refine cal_of (outlives_spec k t (by omega) (by omega) (by omega) 0 1) ?_
  rintro _ h2 ⟨rfl, d2, k2, t2, f2, w2⟩
  have g2 : Grow h h2 := g1.trans' f2 fun i hi hw => hw (w1 i hi)
  have w2' : ∀ b, b < h.size → d2.w b = 0 := fun b hb => by rw [w2 b (by have := g1.size; omega)]; exact w1 b hb
  rw [r0, r1]
  refine ⟨_, rfl, ?_⟩
  refine ⟨fun b h' => b = true ∧ ∃ d', SolOk x d' h' ∧ Tol x (outO (outO (fun _ _ => False) 0 1) 1 2) (fun _ _ => False) 2 d' ∧ Grow h h' ∧ ∀ b, b < h.size → d'.w b = 0, ⟨fun _ => ?_, fun e => by simp at e⟩, ?_⟩
  · refine cal_of (outlives_spec k2 t2 (by omega) (by omega) (by omega) 1 2) ?_
    rintro _ h4 ⟨rfl, d4, k4, t4, f4, w4⟩
    rw [r1, r2]
    exact ⟨_, rfl, rfl, d4, k4, t4, g2.trans' f4 fun i hi hw => hw (w2' i hi), fun b hb => by rw [w4 b (by have := g2.size; omega)]; exact w2' b hb⟩
  rintro _ h3 ⟨rfl, d3, k3, t3, g3, w3⟩
  refine ⟨fun b h' => b = true ∧ ∃ d', SolOk x d' h' ∧ Tol x (outO (outO (fun _ _ => False) 0 1) 1 2) (putP x (fun _ _ => False) 2 67) 2 d' ∧ Grow h h', ⟨fun _ => ?_, fun e => (by cases e)⟩, ?_⟩
  · refine cal_of (put_spec k3 t3 (by omega) (by omega) (by omega) 2 67) ?_
    rintro _ h4 ⟨rfl, d4, k4, t4, f4, w4⟩
    rw [r2, re]
    exact ⟨_, rfl, rfl, d4, k4, t4, g3.trans' f4 fun i hi hw => hw (w3 i hi)⟩
  rintro _ h5 ⟨rfl, d5, k5, t5, g5⟩
  -- what is in the regions
  have s67 : ∀ r, r < 3 → d5.S r 67 = true := by
    have c := t5.cl 67 (by omega)
    have p2 : d5.S 2 67 = true := c.1 2 (by omega) (.inr ⟨rfl, rfl, re⟩)
    have p1 : d5.S 1 67 = true := c.2 1 2 (by omega) (by omega) (.inr ⟨rfl, rfl⟩) p2
    have p0 : d5.S 0 67 = true := c.2 0 1 (by omega) (by omega) (.inl (.inr ⟨rfl, rfl⟩)) p1
    intro r hr
    match r, hr with
    | 0, _ => exact p0
    | 1, _ => exact p1
    | 2, _ => exact p2
  have sno : ∀ r e, r < 3 → e < 128 → e ≠ 67 → d5.S r e = false := by
    intro r e hr he hne
    cases hS : d5.S r e with
    | false => rfl
    | true =>
      have := t5.least e (by omega) (fun _ => false) ⟨fun r _ hp => by
        rcases hp with hp | ⟨_, hp, _⟩
        · exact hp.elim
        · omega, fun _ _ _ _ _ h => by cases h⟩ r (by omega) hS
      cases this
  refine ⟨fun b h' => b = true ∧ h5 = h', ⟨fun _ => ?_, fun e => (by cases e)⟩, ?_⟩
  · refine cal_of (has_spec k5 (by omega) 0 67) ?_
    rintro _ _ ⟨rfl, rfl⟩
    exact ⟨_, rfl, by simp [hasD, r0, re, s67], rfl⟩
  rintro _ _ ⟨rfl, rfl⟩
  refine ⟨fun b h' => b = true ∧ h5 = h', ⟨fun _ => ?_, fun e => (by cases e)⟩, ?_⟩
  · refine cal_of (has_spec k5 (by omega) 0 66) ?_
    rintro _ _ ⟨rfl, rfl⟩
    exact ⟨_, rfl, by simp [hasD, r0, re6, sno], rfl⟩
  rintro _ _ ⟨rfl, rfl⟩
  refine ⟨fun b h' => b = true ∧ h5 = h', ⟨fun _ => ?_, fun e => (by cases e)⟩, ?_⟩
  · refine cal_of (count_one k5 hW (r := 1) (by omega) fun e he => ?_) ?_
    · by_cases h67 : e = 67
      · subst h67; simp [s67]
      · simp [h67, sno 1 e (by omega) he h67]
    rintro _ _ ⟨rfl, rfl⟩
    exact ⟨_, rfl, rfl, rfl⟩
  rintro _ _ ⟨rfl, rfl⟩
  exact ⟨rfl, g5⟩
end Go.Proofs.YtgbmihnainbgiaaDoor

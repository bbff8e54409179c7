/-
  SolveRows, walked.
-/
import Derived.Test.YtgbmihnainbgiaaS8
namespace Go.Proofs.Ytgbmihnainbgiaa
open Go Go.Lf

structure PrsAt (h : Heap) (s : Sv) (ps : List (Int × Int)) : Prop where
  len : s.n = ps.length
  at_ : ∀ i (hi : i < ps.length), ∃ p, s.a = some p ∧ cl h (p.add (i * 2)) = some (.int .i64 ps[i].1) ∧ cl h ((p.add (i * 2)).add 1) = some (.int .i64 ps[i].2)
/-- a row of ints in memory -/
def RowI (h : Heap) (g n : Nat) (L : Nat → Nat) : Prop := ∃ cs : Array Value, blk h g cs ∧ cs.size = n ∧ ∀ k, k < n → cs[k]? = some (.int .i64 (L k : Nat))
theorem RowI.frame {h h' : Heap} {g n : Nat} {C : Nat → Nat} {T : Nat → Prop} (x : RowI h g n C) (fr : Fr T h h') (hT : ¬ T g) : RowI h' g n C := by
  obtain ⟨cs, k, r⟩ := x
  exact ⟨cs, fr.blk k hT, r⟩
theorem RowI.cell {h : Heap} {g n : Nat} {C : Nat → Nat} (x : RowI h g n C) {k : Nat} (hk : k < n) : cl h ⟨g, k, none⟩ = some (.int .i64 (C k : Nat)) := by
  obtain ⟨cs, kb, s, r⟩ := x
  rw [kb.cl, r k hk]
theorem RowI.put {h : Heap} {g n : Nat} {C : Nat → Nat} (x : RowI h g n C) {k : Nat} (hk : k < n) (b : Nat) {K : Heap → Prop}
    (kk : ∀ h', RowI h' g n (fun j => if j = k then b else C j) → Fr (fun i => i = g) h h' → K h') : sto h ⟨g, k, none⟩ (.int .i64 (b : Int)) K := by
  obtain ⟨cs, kb, s, r⟩ := x
  refine sto_i kb (by omega) (kk _ ⟨_, kb.sc k _, by simp [s], fun j hj => ?_⟩ (Fr.scb _ _ _ _))
  rw [Array.getElem?_setIfInBounds]
  by_cases e : k = j
  · subst e; simp [s, hk]
  · have e' : ¬ j = k := fun h => e h.symm
    simp [e, e', r j hj]

/-- a number taken into a range -/
def rng (m : Nat) (z : Int) : Nat := (IntKind.u64.wrap z % (m : Int)).toNat
theorem rng_spec {m : Nat} (h0 : 0 < m) (hm : m ≤ 4000) (z : Int) : IntKind.i64.wrap ((IntKind.u64.wrap z).tmod (m : Int)) = (rng m z : Int) ∧ rng m z < m := by
  have e2 : 0 ≤ IntKind.u64.wrap z := by rw [IntKind.wrap_u64]; omega
  have h3 := Int.emod_nonneg (IntKind.u64.wrap z) (show (m : Int) ≠ 0 by omega)
  have h4 := Int.emod_lt_of_pos (IntKind.u64.wrap z) (show (0 : Int) < m by omega)
  unfold rng
  rw [Int.tmod_eq_emod_of_nonneg e2, wrap64_id (by omega) (by omega)]
  omega

/-- is something put into region r or one behind it? -/
def behind (m : Nat) (ps : List (Int × Int)) (e r : Nat) : Bool := ps.any fun p => decide (rng 100 p.2 = e) && decide (r ≤ rng m p.1)

theorem rows_walk (n0 : Int) (s : Sv) (ps : List (Int × Int)) (h : Heap) (X : PrsAt h s ps) :
    CallsH Try.prog 5 #[.int .i64 n0, .slice s.a s.n s.c] h (fun v h' => v = .bool true ∧ Grow h h') := by
  apply F5
  unfold L5
  refine cal_of (solved_spec h) ?_
  rintro _ h1 ⟨rfl, f1⟩
  refine ⟨_, rfl, ?_⟩
  have hsl := X.len
  refine ⟨fun _ => ?_, fun e60 => ?_⟩
  · refine cal_of (solved_spec h1) ?_
    rintro _ h4 ⟨rfl, f4⟩
    exact ⟨_, rfl, rfl, f1.trans f4⟩
  have h60 : ps.length ≤ 60 := by have := of_decide_eq_false (show decide (60 < ((s.n : Nat) : Int)) = false by simpa using e60); omega
  obtain ⟨hr0, hr1⟩ := rng_spec (m := 60) (by omega) (by omega) n0
  have hm : IntKind.i64.wrap (1 + (IntKind.i64.wrap (((IntKind.u64.wrap n0) : Int).tmod 60))) = ((1 + rng 60 n0 : Nat) : Int) := by
    have : ((60 : Nat) : Int) = 60 := rfl
    rw [this] at hr0
    rw [hr0, wrap64_id (by omega) (by omega)]
    omega
  rw [hm]
  have hm1 : 1 ≤ 1 + rng 60 n0 := by omega
  have hm60 : 1 + rng 60 n0 ≤ 60 := by omega
  generalize 1 + rng 60 n0 = m at *
  clear hm hr0 hr1
  refine cal_of (new_spec h1 m 100) ?_
  rintro v h3 ⟨-, hok⟩
  obtain ⟨x, d3, rfl, hxn, hxW, k3, t3, g3, w3⟩ := hok (by unfold newOk; omega)
  have hxn : x.n = m := by omega
  have hxW : x.W = 100 := by omega
  have hnw : x.nw = 2 := by unfold Sh.nw; rw [hxW]
  refine ⟨_, rfl, _, rfl, _, rfl, _, rfl, _, rfl, fun e => (by cases e), fun _ => ?_⟩
  refine ⟨by omega, by omega, by omega, by omega, ?_⟩
  rintro s38 h4 rfl rfl
  have f4 : Grow h3 (h3.push (.cells (madeCells (Value.int .i64 0).cells ((100 : Int).toNat * 1)) 3)) := Fr.push _ _ _
  have R4 : RowI (h3.push (.cells (madeCells (Value.int .i64 0).cells ((100 : Int).toNat * 1)) 3)) h3.size 100 (fun _ => 0) := by
    refine ⟨_, blk.new _ _ _, by rw [size_madeCells]; rfl, fun k hk => ?_⟩
    rw [made_get _ rfl, if_pos (by show k < 100 * 1; omega)]
    rfl
  generalize h3.push (.cells (madeCells (Value.int .i64 0).cells ((100 : Int).toNat * 1)) 3) = h4 at *
  have g4 := g3.trans f4
  have u64m : IntKind.u64.wrap ((m : Nat) : Int) = (m : Int) := by rw [IntKind.wrap_u64]; omega
  have lb0 : d3.w h3.size = 0 := k3.w0 _ (Nat.le_refl _)
  have hzz : h1.size ≤ h3.size := g3.size
  refine ⟨fun y h5 => ∃ (i : Nat) (d : Sd) (L : Nat → Nat), y = i ∧ i ≤ ps.length ∧ SolOk x d h5 ∧ Tol x (fun _ _ => False) (fun r e => ∃ p ∈ ps.take i, r = rng m p.1 ∧ e = rng 100 p.2) 0 d ∧ RowI h5 h3.size 100 L ∧
      (∀ e r, e < 100 → (r < L e ↔ behind m (ps.take i) e r = true)) ∧ (∀ e, L e ≤ 1000) ∧ Grow h1 h5 ∧ (∀ b, b < h1.size → d.w b = 0) ∧ d.w h3.size = 0, fun y _ => (ps.length - y).toNat,
    ⟨0, d3, fun _ => 0, rfl, by omega, k3.grow f4, t3.congr (fun _ _ _ _ => Iff.rfl) (fun _ _ _ => ⟨fun h => h.elim, fun ⟨p, hp, _⟩ => by simp at hp⟩) (Nat.le_refl _), R4, fun e r _ => by simp [behind], fun _ => Nat.zero_le _, g4, w3, lb0⟩, ?_⟩
  rintro y h5 ⟨i, d, L, rfl, hi, k5, t5, R5, L5', Lb, g5, w5, lb5⟩
  refine ifb_dec (fun hlt => ?_) (fun hge => ?_)
  · have hil : i < ps.length := by omega
    have hwi : IntKind.i64.wrap ((i : Int) + 1) = ((i + 1 : Nat) : Int) := by rw [wrap64_id (by omega) (by omega)]; omega
    have htk : ps.take (i + 1) = ps.take i ++ [ps[i]] := List.take_succ_eq_append_getElem hil
    refine ⟨fun h8 => ∃ (d : Sd) (L : Nat → Nat), SolOk x d h8 ∧ Tol x (fun _ _ => False) (fun r e => ∃ p ∈ ps.take (i + 1), r = rng m p.1 ∧ e = rng 100 p.2) 0 d ∧ RowI h8 h3.size 100 L ∧
      (∀ e r, e < 100 → (r < L e ↔ behind m (ps.take (i + 1)) e r = true)) ∧ (∀ e, L e ≤ 1000) ∧ Grow h1 h8 ∧ (∀ b, b < h1.size → d.w b = 0) ∧ d.w h3.size = 0, ?_,
      fun h8 ⟨d, L, q1, q2, q3, q4, q5, q6, q7, q8⟩ => ⟨⟨i + 1, d, L, hwi, by omega, q1, q2, q3, q4, q5, q6, q7, q8⟩, by rw [hwi]; (try dsimp only); omega⟩⟩
    obtain ⟨p, ep, c1, c2⟩ := X.at_ i hil
    have G5 := f1.trans g5
    refine ixS_i ep (by omega) (by omega) (ldI_i (x := ps[i].1) (by rw [Int.toNat_natCast]; exact G5.clk c1 (fun h => h)) ?_)
    rw [u64m]
    refine ⟨by omega, ixS_i ep (by omega) (by omega) (ldI_i (x := ps[i].2) (by rw [Int.toNat_natCast]; exact G5.clk c2 (fun h => h)) ?_)⟩
    obtain ⟨a1, a2⟩ := rng_spec (m := m) (by omega) (by omega) ps[i].1
    obtain ⟨b1, b2⟩ := rng_spec (m := 100) (by omega) (by omega) ps[i].2
    have e100 : ((100 : Nat) : Int) = 100 := rfl
    rw [e100] at b1
    rw [a1, b1]
    have hbn : ∀ e r, behind m (ps.take (i + 1)) e r = (behind m (ps.take i) e r || (decide (rng 100 ps[i].2 = e) && decide (r ≤ rng m ps[i].1))) := by
      intro e r
      unfold behind
      rw [htk, List.any_append]
      simp
    rw [htk] at *
    generalize hra : rng m ps[i].1 = ra at *
    generalize hxb : rng 100 ps[i].2 = xb at *
    refine cal_of (put_spec k5 t5 (by omega) (by omega) (by omega) ra xb) ?_
    rintro _ h6 ⟨rfl, d6, k6, t6, f6, w6⟩
    have r1 : reg x.n (ra : Int) = true := by rw [reg_nat]; exact decide_eq_true (by omega)
    have r2 : reg x.W (xb : Int) = true := by rw [reg_nat]; exact decide_eq_true (by omega)
    rw [r1, r2]
    refine ⟨_, rfl, fun e => (by cases e), fun _ => ?_⟩
    have R6 := R5.frame f6 fun hw => hw lb5
    have t6' : Tol x (fun _ _ => False) (fun r e => ∃ p ∈ ps.take i ++ [ps[i]], r = rng m p.1 ∧ e = rng 100 p.2) 0 d6 := by
      refine t6.congr (fun _ _ _ _ => Iff.rfl) (fun r e _ => ⟨fun hp => ?_, fun ⟨p, h1, h2, h3⟩ => ?_⟩) (Nat.le_refl _)
      · rcases hp with ⟨p, h1, h2⟩ | ⟨h1, h2, _⟩
        · exact ⟨p, List.mem_append_left _ h1, h2⟩
        · exact ⟨ps[i], List.mem_append_right _ (List.mem_singleton.2 rfl), by omega, by omega⟩
      · rcases List.mem_append.1 h1 with h1 | h1
        · exact .inl ⟨p, h1, h2, h3⟩
        · simp only [List.mem_singleton] at h1
          subst h1
          exact .inr ⟨by omega, by omega, r2⟩
    have g6 : Grow h1 h6 := g5.trans' f6 fun i hi hw => hw (w5 i hi)
    have w6' : ∀ b, b < h1.size → d6.w b = 0 := fun b hb => by rw [w6 b (by have := g5.size; omega)]; exact w5 b hb
    have hlb : h3.size < h5.size := by obtain ⟨cs, c, _⟩ := R5; exact c.lt
    have lb6 : d6.w h3.size = 0 := by rw [w6 _ hlb]; exact lb5
    refine ixS_i rfl (by omega) (by show (xb : Int) < ((100 : Nat) : Int); omega) (ldI_i (x := (L xb : Int)) (by rw [Int.toNat_natCast, Nat.mul_one, add_plain, Nat.zero_add]; exact R6.cell b2) ?_)
    have hwr : IntKind.i64.wrap ((ra : Int) + 1) = ((ra + 1 : Nat) : Int) := by rw [wrap64_id (by omega) (by omega)]; omega
    rw [hwr]
    refine ifb_dec (fun hlt => ?_) (fun hge => ?_)
    · refine ixS_i rfl (by omega) (by show (xb : Int) < ((100 : Nat) : Int); omega) ?_
      rw [Int.toNat_natCast, Nat.mul_one, add_plain, Nat.zero_add]
      refine R6.put b2 (ra + 1) fun h7 R7 f7 => ?_
      refine ⟨d6, _, k6.frame f7 fun b hb e => hb (by rw [e]; exact lb6), t6', R7, fun e r he => ?_, fun e => ?_, g6.trans' f7 fun i hi e => by omega, w6', lb6⟩
      · rw [hbn]
        by_cases ee : e = xb
        · subst ee
          have := L5' e r he
          simp only [if_true, decide_true, Bool.true_and, Bool.or_eq_true, decide_eq_true_eq, ← this]
          omega
        · have ee' : ¬ xb = e := fun h => ee h.symm
          rw [if_neg ee, L5' e r he]
          simp [ee']
      · split
        · omega
        · exact Lb e
    · refine ⟨d6, L, k6, t6', R6, fun e r he => ?_, Lb, g6, w6', lb6⟩
      rw [hbn]
      by_cases ee : e = xb
      · subst ee
        have := L5' e r he
        simp only [decide_true, Bool.true_and, Bool.or_eq_true, decide_eq_true_eq, ← this]
        omega
      · have ee' : ¬ xb = e := fun h => ee h.symm
        rw [L5' e r he]
        simp [ee']
  have hi : i = ps.length := by omega
  subst hi
  rw [List.take_length] at t5 L5'
  refine ⟨fun y h9 => ∃ (j : Nat) (d : Sd), y = j ∧ j + 1 ≤ m ∧ SolOk x d h9 ∧ Tol x (fun a b => a < j ∧ b = a + 1) (fun r e => ∃ p ∈ ps, r = rng m p.1 ∧ e = rng 100 p.2) j d ∧ RowI h9 h3.size 100 L ∧ Grow h1 h9 ∧ (∀ b, b < h1.size → d.w b = 0) ∧ d.w h3.size = 0, fun y _ => (m - y).toNat,
    ⟨0, d, rfl, by omega, k5, t5.congr (fun _ _ _ _ => ⟨fun h => h.elim, fun h => by omega⟩) (fun _ _ _ => Iff.rfl) (Nat.le_refl _), R5, g5, w5, lb5⟩, ?_⟩
  rintro y h9 ⟨j, d9, rfl, hj, k9, t9, R9, g9, w9, lb9⟩
  have hwj : IntKind.i64.wrap ((j : Int) + 1) = ((j + 1 : Nat) : Int) := by rw [wrap64_id (by omega) (by omega)]; omega
  rw [hwj]
  refine ifb_dec (fun hlt => ?_) (fun hge => ?_)
  · refine cal_of (outlives_spec k9 t9 (by omega) (by omega) (by omega) j (j + 1 : Nat)) ?_
    rintro _ h10 ⟨rfl, d10, k10, t10, f10, w10⟩
    have r1 : reg x.n (j : Int) = true := by rw [reg_nat]; exact decide_eq_true (by omega)
    have r2 : reg x.n ((j + 1 : Nat) : Int) = true := by rw [reg_nat]; exact decide_eq_true (by omega)
    rw [r1, r2]
    have hlb : h3.size < h9.size := by obtain ⟨cs, c, _⟩ := R9; exact c.lt
    refine ⟨_, rfl, fun e => (by cases e), fun _ => ⟨⟨j + 1, d10, rfl, by omega, k10, t10.congr (fun a b _ _ => ⟨fun hp => ?_, fun hp => ?_⟩) (fun _ _ _ => Iff.rfl) (Nat.le_refl _), R9.frame f10 fun hw => hw lb9, g9.trans' f10 fun i hi hw => hw (w9 i hi),
      fun b hb => by rw [w10 b (by have := g9.size; omega)]; exact w9 b hb, by rw [w10 _ hlb]; exact lb9⟩, by (try dsimp only); omega⟩⟩
    · rcases hp with hp | ⟨h1, h2⟩
      · omega
      · omega
    · by_cases ea : a = j
      · exact .inr ⟨by omega, by omega⟩
      · exact .inl (by omega)
  -- what is in the regions
  have inS : ∀ r e, r < m → e < 100 → (d9.S r e = true ↔ r < L e) := by
    intro r e hr he
    rw [L5' e r he]
    have c := t9.cl e (by omega)
    constructor
    · intro hS
      refine t9.least e (by omega) (behind m ps e) ⟨fun r' hr' ⟨p, h1, h2, h3⟩ => ?_, fun a b ha hb ho hD => ?_⟩ r (by omega) hS
      · exact List.any_eq_true.2 ⟨p, h1, by simp [h2, h3]⟩
      · obtain ⟨p, h1, h2⟩ := List.any_eq_true.1 hD
        refine List.any_eq_true.2 ⟨p, h1, ?_⟩
        simp only [Bool.and_eq_true, decide_eq_true_eq] at h2 ⊢
        omega
    · intro hb
      obtain ⟨p, h1, h2⟩ := List.any_eq_true.1 hb
      simp only [Bool.and_eq_true, decide_eq_true_eq] at h2
      have hlt := (rng_spec (m := m) (by omega) (by omega) p.1).2
      have top : d9.S (rng m p.1) e = true := c.1 _ (by omega) ⟨p, h1, rfl, h2.1.symm⟩
      have down : ∀ k, d9.S (rng m p.1 - k) e = true := by
        intro k
        induction k with
        | zero => exact top
        | succ k ih =>
          by_cases hk : rng m p.1 ≤ k
          · have : rng m p.1 - (k + 1) = rng m p.1 - k := by omega
            rw [this]; exact ih
          · exact c.2 (rng m p.1 - (k + 1)) (rng m p.1 - k) (by omega) (by omega) (by omega) ih
      have := down (rng m p.1 - r)
      rwa [show rng m p.1 - (rng m p.1 - r) = r by omega] at this
  refine ⟨fun y h11 => ∃ r : Nat, y = r ∧ r ≤ m ∧ Grow h9 h11, fun y _ => (m - y).toNat, ⟨0, rfl, by omega, Fr.refl _ _⟩, ?_⟩
  rintro y h11 ⟨r, rfl, hr, g11⟩
  refine ifb_dec (fun hlt => ?_) (fun _ => ⟨rfl, (f1.trans g9).trans g11⟩)
  have hrm : r < m := by omega
  have hwr : IntKind.i64.wrap ((r : Int) + 1) = ((r + 1 : Nat) : Int) := by rw [wrap64_id (by omega) (by omega)]; omega
  refine ⟨fun y h12 => ∃ e : Nat, y = e ∧ e ≤ 100 ∧ Grow h11 h12, fun y _ => (100 - y).toNat, ⟨0, rfl, by omega, Fr.refl _ _⟩, ?_⟩
  rintro y h12 ⟨e, rfl, he, g12⟩
  refine ifb_dec (fun hlt => ?_) (fun hge => ⟨⟨r + 1, hwr, by omega, g11.trans g12⟩, by rw [hwr]; (try dsimp only); omega⟩)
  have he100 : e < 100 := by omega
  have hwe : IntKind.i64.wrap ((e : Int) + 1) = ((e + 1 : Nat) : Int) := by rw [wrap64_id (by omega) (by omega)]; omega
  have R12 := R9.frame (g11.trans g12) fun h => h
  refine ⟨Grow h12, Fr.refl _ _, ixS_i rfl (by omega) (by show (e : Int) < ((100 : Nat) : Int); omega) ⟨(L e : Int), fun h' g => by rw [Int.toNat_natCast, Nat.mul_one, add_plain, Nat.zero_add]; exact g.clk (R12.cell he100) (fun h => h), ?_⟩⟩
  refine cal_of (has_spec (k9.grow (g11.trans g12)) (by omega) r e) ?_
  rintro _ _ ⟨rfl, rfl⟩
  refine ⟨_, rfl, Fr.refl _ _, ?_⟩
  have eq : hasD x d9 r e = decide ((r : Int) < (L e : Int)) := by
    have h1 : hasD x d9 r e = d9.S r e := by simp [hasD, reg_nat, hxn, hxW, hrm, he100]
    rw [h1, Bool.eq_iff_iff, inS r e hrm he100, decide_eq_true_eq]
    omega
  rw [eq]
  exact ⟨fun hne => by simp at hne, fun _ => ⟨⟨e + 1, hwe, by omega, g12⟩, by rw [hwe]; (try dsimp only); omega⟩⟩
end Go.Proofs.Ytgbmihnainbgiaa

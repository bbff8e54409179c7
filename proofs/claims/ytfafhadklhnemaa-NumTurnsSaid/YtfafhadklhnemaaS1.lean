/-
  Whole numbers: reckoned with by the program and by the document.
-/
import Derived.Test.YtfafhadklhnemaaLiftS
import Derived.Test.YtfafhadklhnemaaG
namespace Go.Proofs.Ytfafhadklhnemaa
open Go Go.Lf

def inI (x : Int) : Prop := -9223372036854775808 ≤ x ∧ x ≤ 9223372036854775807
instance (x : Int) : Decidable (inI x) := by unfold inI; exact inferInstance
/-- a number, if it is one -/
def resN (x : Int) : Int := if inI x then x else 0
def resB (x : Int) : Bool := decide (inI x)
def resV (x : Int) : Value := .tuple #[.int .i64 (resN x), .bool (resB x)]
theorem resV_in {x : Int} (h : inI x) : resV x = .tuple #[.int .i64 x, .bool true] := by unfold resV resN resB; rw [if_pos h, decide_eq_true h]
theorem resV_out {x : Int} (h : ¬ inI x) : resV x = .tuple #[.int .i64 0, .bool false] := by unfold resV resN resB; rw [if_neg h, decide_eq_false h]

section
variable {h : Heap}
theorem half_spec (n : Int) (hn : inI n) : CallsH Try.prog 48 #[.int .i64 n] h (fun v h' => h = h' ∧ v = .tuple #[.bool (decide (n < 0)), .int .u64 (n.natAbs : Int)]) := by
  apply F48
  unfold L48
  unfold inI at hn
  refine ifb_dec (fun h0 => ⟨rfl, ?_⟩) (fun h0 => ⟨rfl, ?_⟩)
  · have e1 : IntKind.u64.wrap n = (n.natAbs : Int) := by rw [IntKind.wrap_u64]; omega
    have e2 : decide (n < 0) = false := decide_eq_false (by omega)
    rw [e1, e2]
  · have e0 : IntKind.i64.wrap (n + 1) = n + 1 := wrap64_id (by omega) (by omega)
    have e3 : IntKind.i64.wrap (0 - (n + 1)) = 0 - (n + 1) := wrap64_id (by omega) (by omega)
    have e1 : IntKind.u64.wrap ((IntKind.u64.wrap (IntKind.i64.wrap (0 - (IntKind.i64.wrap (n + 1))))) + 1) = (n.natAbs : Int) := by
      rw [e0, e3, IntKind.wrap_u64, IntKind.wrap_u64]; omega
    have e2 : decide (n < 0) = true := decide_eq_true (by omega)
    rw [e1, e2]
theorem made_spec (s : Bool) (m : Nat) (hm : m < 18446744073709551616) : CallsH Try.prog 49 #[.bool s, .int .u64 m] h (fun v h' => h = h' ∧ v = resV (if s then -(m : Int) else m)) := by
  apply F49
  unfold L49
  cases s with
  | false =>
    refine ⟨fun _ => ifb_dec (fun h1 => ⟨rfl, ?_⟩) (fun h1 => ⟨rfl, ?_⟩), fun e => (by cases e)⟩
    · exact (resV_out (by unfold inI; simp; omega)).symm
    · have : inI (m : Int) := by unfold inI; omega
      rw [wrap64_id (by omega) (by omega)]
      exact (resV_in this).symm
  | true =>
    refine ⟨fun e => (by cases e), fun _ => ifb_dec (fun h1 => ⟨rfl, ?_⟩) (fun h1 => ?_)⟩
    · exact (resV_out (by unfold inI; simp; omega)).symm
    · refine ifb_iff (q := m = 0) (by simp) (fun h0 => ⟨rfl, ?_⟩) (fun h0 => ⟨rfl, ?_⟩)
      · subst h0
        exact (resV_in (by decide)).symm
      · have e1 : IntKind.u64.wrap ((m : Int) - 1) = (m : Int) - 1 := by rw [IntKind.wrap_u64]; omega
        have e2 : IntKind.i64.wrap ((m : Int) - 1) = (m : Int) - 1 := wrap64_id (by omega) (by omega)
        have e3 : IntKind.i64.wrap (0 - ((m : Int) - 1)) = 0 - ((m : Int) - 1) := wrap64_id (by omega) (by omega)
        have e4 : IntKind.i64.wrap (0 - ((m : Int) - 1) - 1) = -(m : Int) := by rw [wrap64_id (by omega) (by omega)]; omega
        rw [e1, e2, e3, e4]
        exact (resV_in (x := -(m : Int)) (by unfold inI; omega)).symm

theorem neg_spec (a : Int) (ha : inI a) : CallsH Try.prog 37 #[.int .i64 a] h (fun v h' => h = h' ∧ v = resV (-a)) := by
  apply F37
  unfold L37
  have ha' := ha
  unfold inI at ha
  refine ifb_iff (q := a = -9223372036854775808) (by simp) (fun h0 => ⟨rfl, ?_⟩) (fun h0 => ⟨rfl, ?_⟩)
  · exact (resV_out (by unfold inI; omega)).symm
  · rw [wrap64_id (x := 0 - a) (by omega) (by omega)]
    have : 0 - a = -a := by omega
    rw [this]
    exact (resV_in (by unfold inI; omega)).symm
theorem negR_spec (a : Int) (ha : inI a) : CallsH Try.prog 38 #[.int .i64 a] h (fun v h' => h = h' ∧ v = resV (-a)) := by
  apply F38
  unfold L38
  refine cal_of (half_spec a ha) ?_
  rintro _ _ ⟨rfl, rfl⟩
  refine ⟨_, rfl, _, rfl, _, rfl, _, rfl, _, rfl, ?_⟩
  have ha' := ha
  unfold inI at ha'
  refine cal_of (made_spec (!decide (a < 0)) a.natAbs (by omega)) ?_
  rintro _ _ ⟨rfl, rfl⟩
  have e : (if (!decide (a < 0)) = true then -(a.natAbs : Int) else a.natAbs) = -a := by
    by_cases h0 : a < 0
    · simp [h0]; omega
    · simp [h0]; omega
  rw [e]
  exact ⟨_, rfl, _, rfl, _, rfl, _, rfl, _, rfl, rfl, rfl⟩
theorem add_spec (a b : Int) (ha : inI a) (hb : inI b) : CallsH Try.prog 17 #[.int .i64 a, .int .i64 b] h (fun v h' => h = h' ∧ v = resV (a + b)) := by
  apply F17
  unfold L17
  unfold inI at ha hb
  have hw : IntKind.i64.wrap (a + b) = (a + b + 9223372036854775808) % 18446744073709551616 - 9223372036854775808 := IntKind.wrap_i64 _
  by_cases hin : inI (a + b)
  · have hin' := hin
    unfold inI at hin'
    have e : IntKind.i64.wrap (a + b) = a + b := wrap64_id hin'.1 hin'.2
    rw [e]
    have : ((decide (a < a + b) != decide (0 < b)) && (b != 0)) = false := by
      have : (a < a + b) ↔ (0 < b) := by omega
      simp [this]
    rw [this]
    exact ⟨fun e => (by cases e), fun _ => ⟨rfl, (resV_in hin).symm⟩⟩
  · have hin' := hin
    unfold inI at hin'
    have : ((decide (a < IntKind.i64.wrap (a + b)) != decide (0 < b)) && (b != 0)) = true := by
      have hb0 : b ≠ 0 := by omega
      by_cases h0 : 0 < b
      · have : ¬ a < IntKind.i64.wrap (a + b) := by rw [hw]; omega
        simp [this, h0, hb0]
      · have : a < IntKind.i64.wrap (a + b) := by rw [hw]; omega
        simp [this, h0, hb0]
    rw [this]
    exact ⟨fun _ => ⟨rfl, (resV_out hin).symm⟩, fun e => (by cases e)⟩
theorem sub_spec (a b : Int) (ha : inI a) (hb : inI b) : CallsH Try.prog 19 #[.int .i64 a, .int .i64 b] h (fun v h' => h = h' ∧ v = resV (a - b)) := by
  apply F19
  unfold L19
  unfold inI at ha hb
  have hw : IntKind.i64.wrap (a - b) = (a - b + 9223372036854775808) % 18446744073709551616 - 9223372036854775808 := IntKind.wrap_i64 _
  by_cases hin : inI (a - b)
  · have hin' := hin
    unfold inI at hin'
    have e : IntKind.i64.wrap (a - b) = a - b := wrap64_id hin'.1 hin'.2
    rw [e]
    have : ((decide (a - b < a) != decide (0 < b)) && (b != 0)) = false := by
      have : (a - b < a) ↔ (0 < b) := by omega
      simp [this]
    rw [this]
    exact ⟨fun e => (by cases e), fun _ => ⟨rfl, (resV_in hin).symm⟩⟩
  · have hin' := hin
    unfold inI at hin'
    have : ((decide (IntKind.i64.wrap (a - b) < a) != decide (0 < b)) && (b != 0)) = true := by
      have hb0 : b ≠ 0 := by omega
      by_cases h0 : 0 < b
      · have : ¬ IntKind.i64.wrap (a - b) < a := by rw [hw]; omega
        simp [this, h0, hb0]
      · have : IntKind.i64.wrap (a - b) < a := by rw [hw]; omega
        simp [this, h0, hb0]
    rw [this]
    exact ⟨fun _ => ⟨rfl, (resV_out hin).symm⟩, fun e => (by cases e)⟩

/-- what is made of a sign and how far, told on -/
theorem made_on (s : Bool) (m : Nat) (hm : m < 18446744073709551616) {x : Int} (e : (if s then -(m : Int) else m) = x) {R : Value → Heap → Prop} (hR : R (resV x) h) :
    cal Try.prog 49 #[.bool s, .int .u64 m] h fun u h3 => asTup u fun r => elt r 0 fun u_1 => asI .i64 u_1 fun x1 => elt r 1 fun u_2 => asB u_2 fun x2 => R (.tuple #[.int .i64 x1, .bool x2]) h3 := by
  subst e
  refine cal_of (made_spec s m hm) ?_
  rintro _ _ ⟨rfl, rfl⟩
  exact ⟨_, rfl, _, rfl, _, rfl, _, rfl, _, rfl, hR⟩
theorem addR_spec (a b : Int) (ha : inI a) (hb : inI b) : CallsH Try.prog 18 #[.int .i64 a, .int .i64 b] h (fun v h' => h = h' ∧ v = resV (a + b)) := by
  apply F18
  unfold L18
  refine cal_of (half_spec a ha) ?_
  rintro _ _ ⟨rfl, rfl⟩
  refine ⟨_, rfl, _, rfl, _, rfl, _, rfl, _, rfl, ?_⟩
  refine cal_of (half_spec b hb) ?_
  rintro _ _ ⟨rfl, rfl⟩
  refine ⟨_, rfl, _, rfl, _, rfl, _, rfl, _, rfl, ?_⟩
  unfold inI at ha hb
  refine ifb_iff (q := (a < 0) ↔ (b < 0)) (by by_cases h1 : a < 0 <;> by_cases h2 : b < 0 <;> simp [h1, h2]) (fun hs => ?_) (fun hs => ?_)
  · have e1 : IntKind.u64.wrap (9223372036854775808 - (b.natAbs : Int)) = 9223372036854775808 - (b.natAbs : Int) := by rw [IntKind.wrap_u64]; omega
    rw [e1]
    refine ifb_dec (fun h1 => ⟨rfl, ?_⟩) (fun h1 => ?_)
    · exact (resV_out (by unfold inI; omega)).symm
    · have e2 : IntKind.u64.wrap ((a.natAbs : Int) + (b.natAbs : Int)) = ((a.natAbs + b.natAbs : Nat) : Int) := by rw [IntKind.wrap_u64]; omega
      rw [e2]
      refine made_on (R := fun v h' => h = h' ∧ v = resV (a + b)) _ _ (by omega) ?_ ⟨rfl, rfl⟩
      by_cases h0 : a < 0 <;> simp [h0] <;> omega
  · refine ifb_dec (fun h1 => ?_) (fun h1 => ?_)
    · have e2 : IntKind.u64.wrap ((a.natAbs : Int) - (b.natAbs : Int)) = ((a.natAbs - b.natAbs : Nat) : Int) := by rw [IntKind.wrap_u64]; omega
      rw [e2]
      refine made_on (R := fun v h' => h = h' ∧ v = resV (a + b)) _ _ (by omega) ?_ ⟨rfl, rfl⟩
      by_cases h0 : a < 0 <;> simp [h0] <;> omega
    · have e2 : IntKind.u64.wrap ((b.natAbs : Int) - (a.natAbs : Int)) = ((b.natAbs - a.natAbs : Nat) : Int) := by rw [IntKind.wrap_u64]; omega
      rw [e2]
      refine made_on (R := fun v h' => h = h' ∧ v = resV (a + b)) _ _ (by omega) ?_ ⟨rfl, rfl⟩
      by_cases h0 : b < 0 <;> simp [h0] <;> omega
theorem subR_spec (a b : Int) (ha : inI a) (hb : inI b) : CallsH Try.prog 20 #[.int .i64 a, .int .i64 b] h (fun v h' => h = h' ∧ v = resV (a - b)) := by
  apply F20
  unfold L20
  refine cal_of (half_spec a ha) ?_
  rintro _ _ ⟨rfl, rfl⟩
  refine ⟨_, rfl, _, rfl, _, rfl, _, rfl, _, rfl, ?_⟩
  refine cal_of (half_spec b hb) ?_
  rintro _ _ ⟨rfl, rfl⟩
  refine ⟨_, rfl, _, rfl, _, rfl, _, rfl, _, rfl, ?_⟩
  unfold inI at ha hb
  refine ifb_iff (q := ¬ ((a < 0) ↔ (b < 0))) (by by_cases h1 : a < 0 <;> by_cases h2 : b < 0 <;> simp [h1, h2]) (fun hs => ?_) (fun hs => ?_)
  · have e1 : IntKind.u64.wrap (9223372036854775808 - (b.natAbs : Int)) = 9223372036854775808 - (b.natAbs : Int) := by rw [IntKind.wrap_u64]; omega
    rw [e1]
    refine ifb_iff (q := (9223372036854775808 : Int) - b.natAbs < a.natAbs ∨ ((b.natAbs : Int) = 9223372036854775808 ∧ 0 < (a.natAbs : Int))) (by simp) (fun h1 => ⟨rfl, ?_⟩) (fun h1 => ?_)
    · exact (resV_out (by unfold inI; omega)).symm
    · have e2 : IntKind.u64.wrap ((a.natAbs : Int) + (b.natAbs : Int)) = ((a.natAbs + b.natAbs : Nat) : Int) := by rw [IntKind.wrap_u64]; omega
      rw [e2]
      refine made_on (R := fun v h' => h = h' ∧ v = resV (a - b)) _ _ (by omega) ?_ ⟨rfl, rfl⟩
      by_cases h0 : a < 0 <;> simp [h0] <;> omega
  · refine ifb_dec (fun h1 => ?_) (fun h1 => ?_)
    · have e2 : IntKind.u64.wrap ((a.natAbs : Int) - (b.natAbs : Int)) = ((a.natAbs - b.natAbs : Nat) : Int) := by rw [IntKind.wrap_u64]; omega
      rw [e2]
      refine made_on (R := fun v h' => h = h' ∧ v = resV (a - b)) _ _ (by omega) ?_ ⟨rfl, rfl⟩
      by_cases h0 : a < 0 <;> simp [h0] <;> omega
    · have e2 : IntKind.u64.wrap ((b.natAbs : Int) - (a.natAbs : Int)) = ((b.natAbs - a.natAbs : Nat) : Int) := by rw [IntKind.wrap_u64]; omega
      rw [e2]
      refine made_on (R := fun v h' => h = h' ∧ v = resV (a - b)) _ _ (by omega) ?_ ⟨rfl, rfl⟩
      by_cases h0 : b < 0 <;> simp [h0] <;> omega

theorem natAbs_sign (x : Int) : (x.natAbs : Int) = if x < 0 then -x else x := by split <;> omega
theorem mul_spec (a b : Int) (ha : inI a) (hb : inI b) : CallsH Try.prog 21 #[.int .i64 a, .int .i64 b] h (fun v h' => h = h' ∧ v = resV (a * b)) := by
  apply F21
  unfold L21
  have ha' := ha
  have hb' := hb
  unfold inI at ha hb
  refine ifb_iff (q := a = 0 ∨ b = 0) (by simp) (fun h0 => ⟨rfl, ?_⟩) (fun h0 => ?_)
  · have : a * b = 0 := by rcases h0 with h0 | h0 <;> simp [h0]
    rw [this]
    exact (resV_in (by unfold inI; omega)).symm
  refine ifb_iff (q := a = -1) (by simp) (fun h1 => ?_) (fun h1 => ?_)
  · refine cal_of (neg_spec b hb') ?_
    rintro _ _ ⟨rfl, rfl⟩
    have : a * b = -b := by rw [h1]; omega
    rw [this]
    exact ⟨_, rfl, _, rfl, _, rfl, _, rfl, _, rfl, rfl, rfl⟩
  refine ifb_iff (q := b = -1) (by simp) (fun h2 => ?_) (fun h2 => ?_)
  · refine cal_of (neg_spec a ha') ?_
    rintro _ _ ⟨rfl, rfl⟩
    have : a * b = -a := by rw [h2]; omega
    rw [this]
    exact ⟨_, rfl, _, rfl, _, rfl, _, rfl, _, rfl, rfl, rfl⟩
  have hb0 : b ≠ 0 := fun h => h0 (.inr h)
  refine ⟨hb0, ?_⟩
  have hw : IntKind.i64.wrap (a * b) = (a * b + 9223372036854775808) % 18446744073709551616 - 9223372036854775808 := IntKind.wrap_i64 _
  generalize hc : IntKind.i64.wrap (a * b) = c at *
  have hcr : -9223372036854775808 ≤ c ∧ c ≤ 9223372036854775807 := by omega
  have hdm : b * c.tdiv b + c.tmod b = c := Int.mul_tdiv_add_tmod c b
  have habs : (c.tdiv b).natAbs ≤ c.natAbs := by
    rw [Int.natAbs_tdiv]
    exact Nat.div_le_self _ _
  have hq : IntKind.i64.wrap (c.tdiv b) = c.tdiv b := by
    have : (c.tdiv b).natAbs < 9223372036854775808 ∨ c.natAbs = 9223372036854775808 := by omega
    rcases this with h | h
    · exact wrap64_id (by omega) (by omega)
    · -- the least number, by one or by two and more
      have hb1 : b = 1 ∨ 2 ≤ b.natAbs := by omega
      rcases hb1 with hb1 | hb1
      · subst hb1
        rw [Int.tdiv_one]
        exact wrap64_id hcr.1 hcr.2
      · have : (c.tdiv b).natAbs ≤ c.natAbs / 2 := by
          rw [Int.natAbs_tdiv]
          exact Nat.div_le_div_left hb1 (by omega)
        exact wrap64_id (by omega) (by omega)
  rw [hq]
  by_cases hin : inI (a * b)
  · have hin' := hin
    unfold inI at hin'
    have hcp : c = a * b := by omega
    have : c.tdiv b = a := by rw [hcp]; exact Int.mul_tdiv_cancel a hb0
    rw [this]
    refine ⟨fun e => by simp at e, fun _ => ⟨rfl, ?_⟩⟩
    rw [hcp]
    exact (resV_in hin).symm
  · have hne : c.tdiv b ≠ a := by
      intro e
      rw [e] at hdm
      have hm : (c.tmod b).natAbs < b.natAbs := by
        rw [Int.natAbs_tmod]
        exact Nat.mod_lt _ (by omega)
      have hcomm : b * a = a * b := Int.mul_comm b a
      rw [hcomm] at hdm
      unfold inI at hin
      omega
    have : (c.tdiv b != a) = true := by simpa using hne
    rw [this]
    exact ⟨fun _ => ⟨rfl, (resV_out hin).symm⟩, fun e => (by cases e)⟩
theorem sgn_mul (a b : Int) : (if (decide (a < 0) != decide (b < 0)) = true then -((a.natAbs * b.natAbs : Nat) : Int) else ((a.natAbs * b.natAbs : Nat) : Int)) = a * b := by
  have e := Int.natAbs_mul a b
  rw [Int.natCast_mul, natAbs_sign a, natAbs_sign b]
  by_cases h1 : a < 0 <;> by_cases h2 : b < 0 <;> simp [h1, h2, Int.neg_mul, Int.mul_neg]
theorem mulR_spec (a b : Int) (ha : inI a) (hb : inI b) : CallsH Try.prog 22 #[.int .i64 a, .int .i64 b] h (fun v h' => h = h' ∧ v = resV (a * b)) := by
  apply F22
  unfold L22
  refine cal_of (half_spec a ha) ?_
  rintro _ _ ⟨rfl, rfl⟩
  refine ⟨_, rfl, _, rfl, _, rfl, _, rfl, _, rfl, ?_⟩
  refine cal_of (half_spec b hb) ?_
  rintro _ _ ⟨rfl, rfl⟩
  refine ⟨_, rfl, _, rfl, _, rfl, _, rfl, _, rfl, ?_⟩
  unfold inI at ha hb
  have hp := Int.natAbs_mul a b
  refine ⟨fun c => c = decide (0 < b.natAbs ∧ 9223372036854775808 / b.natAbs < a.natAbs), ⟨fun e => ⟨by have := of_decide_eq_true e; omega, ?_⟩, fun e => ?_⟩, ?_⟩
  · have h0 : 0 < b.natAbs := by have := of_decide_eq_true e; omega
    have e1 : (9223372036854775808 : Int).tdiv (b.natAbs : Int) = ((9223372036854775808 / b.natAbs : Nat) : Int) := by
      rw [Int.tdiv_eq_ediv_of_nonneg (by omega)]; rfl
    have hle : 9223372036854775808 / b.natAbs ≤ 9223372036854775808 := Nat.div_le_self _ _
    rw [e1]
    generalize 9223372036854775808 / b.natAbs = q at *
    have e2 : IntKind.u64.wrap (q : Int) = (q : Int) := by rw [IntKind.wrap_u64]; omega
    rw [e2]
    show _ = _
    rw [Bool.eq_iff_iff, decide_eq_true_iff, decide_eq_true_iff]
    omega
  · have h0 : ¬ 0 < b.natAbs := by have := of_decide_eq_false e; omega
    simp [h0]
  rintro _ rfl
  refine ifb_dec (fun hq => ⟨rfl, ?_⟩) (fun hq => ?_)
  · have h1 : 9223372036854775808 < a.natAbs * b.natAbs := (Nat.div_lt_iff_lt_mul hq.1).1 hq.2
    rw [← hp] at h1
    exact (resV_out (by unfold inI; omega)).symm
  · have h1 : a.natAbs * b.natAbs ≤ 9223372036854775808 := by
      rcases Nat.eq_zero_or_pos b.natAbs with h | h
      · rw [h]; omega
      · have : a.natAbs ≤ 9223372036854775808 / b.natAbs := by omega
        exact (Nat.le_div_iff_mul_le h).1 this
    have e2 : IntKind.u64.wrap ((a.natAbs : Int) * (b.natAbs : Int)) = ((a.natAbs * b.natAbs : Nat) : Int) := by
      rw [← Int.natCast_mul, IntKind.wrap_u64]; omega
    rw [e2]
    exact made_on (R := fun v h' => h = h' ∧ v = resV (a * b)) _ _ (by omega) (sgn_mul a b) ⟨rfl, rfl⟩

/-- a quotient -/
def divV (a b : Int) : Value := if b = 0 then .tuple #[.int .i64 0, .bool false] else resV (a.tdiv b)
theorem div_spec (a b : Int) (ha : inI a) (hb : inI b) : CallsH Try.prog 35 #[.int .i64 a, .int .i64 b] h (fun v h' => h = h' ∧ v = divV a b) := by
  apply F35
  unfold L35
  unfold divV
  refine ifb_iff (q := b = 0) (by simp) (fun h0 => ⟨rfl, by rw [if_pos h0]⟩) (fun h0 => ?_)
  rw [if_neg h0]
  refine ifb_iff (q := b = -1) (by simp) (fun h1 => ?_) (fun h1 => ⟨h0, rfl, ?_⟩)
  · refine cal_of (neg_spec a ha) ?_
    rintro _ _ ⟨rfl, rfl⟩
    have : a.tdiv b = -a := by rw [h1, Int.tdiv_neg, Int.tdiv_one]
    rw [this]
    exact ⟨_, rfl, _, rfl, _, rfl, _, rfl, _, rfl, rfl, rfl⟩
  · unfold inI at ha hb
    have hr : -9223372036854775808 ≤ a.tdiv b ∧ a.tdiv b ≤ 9223372036854775807 := by
      have hb1 : b = 1 ∨ 2 ≤ b.natAbs := by omega
      rcases hb1 with hb1 | hb1
      · subst hb1
        rw [Int.tdiv_one]
        exact ha
      · have : (a.tdiv b).natAbs ≤ a.natAbs / 2 := by
          rw [Int.natAbs_tdiv]
          exact Nat.div_le_div_left hb1 (by omega)
        omega
    rw [wrap64_id hr.1 hr.2]
    exact (resV_in hr).symm
theorem sgn_div (a b : Int) : (if (decide (a < 0) != decide (b < 0)) = true then -((a.natAbs / b.natAbs : Nat) : Int) else ((a.natAbs / b.natAbs : Nat) : Int)) = a.tdiv b := by
  have e1 : ∀ m n : Nat, ((m / n : Nat) : Int) = (m : Int).tdiv n := fun m n => rfl
  rw [e1, natAbs_sign a, natAbs_sign b]
  by_cases h1 : a < 0 <;> by_cases h2 : b < 0 <;> simp [h1, h2, Int.neg_tdiv, Int.tdiv_neg]
theorem divR_spec (a b : Int) (ha : inI a) (hb : inI b) : CallsH Try.prog 36 #[.int .i64 a, .int .i64 b] h (fun v h' => h = h' ∧ v = divV a b) := by
  apply F36
  unfold L36
  refine cal_of (half_spec a ha) ?_
  rintro _ _ ⟨rfl, rfl⟩
  refine ⟨_, rfl, _, rfl, _, rfl, _, rfl, _, rfl, ?_⟩
  refine cal_of (half_spec b hb) ?_
  rintro _ _ ⟨rfl, rfl⟩
  refine ⟨_, rfl, _, rfl, _, rfl, _, rfl, _, rfl, ?_⟩
  unfold inI at ha hb
  unfold divV
  refine ifb_iff (q := b = 0) (by simp) (fun h0 => ⟨rfl, by rw [if_pos h0]⟩) (fun h0 => ⟨by omega, ?_⟩)
  rw [if_neg h0]
  have hle : a.natAbs / b.natAbs ≤ a.natAbs := Nat.div_le_self _ _
  have e1 : (a.natAbs : Int).tdiv (b.natAbs : Int) = ((a.natAbs / b.natAbs : Nat) : Int) := rfl
  have hs := sgn_div a b
  rw [e1]
  generalize a.natAbs / b.natAbs = q at *
  have e2 : IntKind.u64.wrap (q : Int) = (q : Int) := by rw [IntKind.wrap_u64]; omega
  rw [e2]
  exact made_on (R := fun v h' => h = h' ∧ v = resV (a.tdiv b)) _ _ (by omega) hs ⟨rfl, rfl⟩
end
end Go.Proofs.Ytfafhadklhnemaa

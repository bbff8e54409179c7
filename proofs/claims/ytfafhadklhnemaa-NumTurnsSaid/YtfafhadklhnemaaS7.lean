/-
  Sums, products and quotients of floats, by their edges; NumFloats walked.
-/
import Derived.Test.YtfafhadklhnemaaS6
namespace Go.Proofs.Ytfafhadklhnemaa
open Go Go.Lf Ieee

def NN : Nat := 9221120237041090561
def plainN (q : Nat) : Nat := if infR < rung q then NN else q
/-- what arithmetic gives, in bits -/
def fV (op : BinOp) (a b : Nat) : Nat := match fA op a b with
  | some q => plainN q
  | none => NN
def nanb (a : Nat) : Bool := decide (infR < rung a)
def finb (a : Nat) : Bool := decide (rung a < infR)
def zerb (a : Nat) : Bool := decide (rung a = 0)
theorem infR_eq : infR = 9218868437227405312 := rfl
theorem plainN_of {q : Nat} (h : rung q ≤ infR) : plainN q = q := by unfold plainN; rw [if_neg (by omega)]
theorem word_eq (s : Bool) (r : Nat) : double.word s r = (if s then 9223372036854775808 else 0) + r := by
  have e : double.signWeight = 9223372036854775808 := rfl
  unfold Format.word
  rw [e]
  cases s <;> simp
theorem word_rung {s : Bool} {r : Nat} (h : r < 9223372036854775808) : rung (double.word s r) = r ∧ sgnB (double.word s r) = s ∧ double.word s r < 18446744073709551616 := by
  rw [word_eq]
  cases s
  · simp only [Bool.false_eq_true, if_false, Nat.zero_add]
    refine ⟨by unfold rung; omega, ?_, by omega⟩
    unfold sgnB
    have : r / 9223372036854775808 % 2 = 0 := by omega
    rw [this]; rfl
  · simp only [if_true]
    refine ⟨by unfold rung; omega, ?_, by omega⟩
    unfold sgnB
    have : (9223372036854775808 + r) / 9223372036854775808 % 2 = 1 := by omega
    rw [this]; rfl
theorem word_rd (a : Nat) (ha : a < 18446744073709551616) : double.word (sgnB a) (rung a) = a := by rw [word_eq]; exact (rung_rd a ha).symm
/-- where a magnitude comes to stand -/
def rr (m : Nat) (e : Int) : Nat := double.nearest false m e
theorem cut_neg (s : Bool) (n d : Nat) : Toward.even.cut s n d = Toward.even.cut false n d := by unfold Toward.cut; simp only []
theorem nearest_eq (s : Bool) (m : Nat) (e : Int) : double.nearest s m e = double.word s (rr m e) := by
  unfold rr Format.nearest
  by_cases h : m = 0
  · rw [if_pos h, if_pos h]; unfold Format.word; simp
  · rw [if_neg h, if_neg h]
    simp only [cut_neg s]
    unfold Format.word
    simp
theorem rr_le (m : Nat) (e : Int) : rr m e ≤ infR := by
  unfold rr Format.nearest
  have e3 : double.infRung = infR := rfl
  by_cases h : m = 0
  · rw [if_pos h]; unfold Format.word; simp
  · rw [if_neg h, e3]
    unfold Format.word
    simp only [Bool.false_eq_true, if_false]
    exact Nat.min_le_right _ _
theorem rr_zero (e : Int) : rr 0 e = 0 := by unfold rr Format.nearest; rw [if_pos rfl]; unfold Format.word; simp
/-- what is written of what isn't none -/
def shows (d : Datum) : Bool × Nat := match d with
  | .number s m e => (s, rr m e)
  | .infinity s => (s, infR)
  | .nan s _ => (s, 0)
theorem write_eq {d : Datum} (hd : d.isNaN = false) : double.write d = double.word (shows d).1 (shows d).2 := by
  cases d with
  | number s m e => exact nearest_eq s m e
  | infinity s => rfl
  | nan s f => cases hd
theorem shows_le (d : Datum) : (shows d).2 ≤ infR := by
  cases d with
  | number s m e => exact rr_le m e
  | infinity s => exact Nat.le_refl _
  | nan s f => exact Nat.zero_le _
theorem read_nan' {a : Nat} (h : infR < rung a) : ∃ s f, double.read a = .nan s f := read_nan h
theorem read_num {a : Nat} (h : rung a < infR) : ∃ m e, double.read a = .number (sgnB a) m e ∧ (m = 0 ↔ rung a = 0) := by
  obtain ⟨m, k, e1, e2⟩ := read_fin h
  refine ⟨m, _, e1, fun hm => ?_, fun hr => ?_⟩
  · subst hm
    rw [Nat.zero_shiftLeft] at e2
    exact val_inj (e2.trans val_zero.symm)
  · rw [hr, val_zero, Nat.shiftLeft_eq] at e2
    rcases Nat.mul_eq_zero.1 e2.symm with h | h
    · exact h
    · exact absurd h (Nat.pos_iff_ne_zero.1 (Nat.two_pow_pos _))
theorem sum_nan {x y z : Datum} (h : x.sum y = some z) : z.isNaN = false := by
  cases x <;> cases y <;> simp only [Datum.sum, Option.some.injEq, reduceCtorEq] at h
  · subst h; rfl
  · subst h; rfl
  · subst h; rfl
  · split at h
    · simp only [Option.some.injEq] at h; subst h; rfl
    · cases h
theorem product_nan {x y z : Datum} (h : x.product y = some z) : z.isNaN = false := by
  cases x <;> cases y <;> simp only [Datum.product, Option.some.injEq, reduceCtorEq] at h
  · subst h; rfl
  · split at h
    · cases h
    · simp only [Option.some.injEq] at h; subst h; rfl
  · split at h
    · cases h
    · simp only [Option.some.injEq] at h; subst h; rfl
  · subst h; rfl
theorem quotient_nan {k : Nat} {x y z : Datum} (h : x.quotient k y = some z) : z.isNaN = false := by
  cases x <;> cases y <;> simp only [Datum.quotient, Option.some.injEq, reduceCtorEq] at h
  · split at h
    · split at h
      · cases h
      · simp only [Option.some.injEq] at h; subst h; rfl
    · simp only [Option.some.injEq] at h; subst h; rfl
  · subst h; rfl
  · subst h; rfl
/-- exactly, ahead of writing -/
def fD : BinOp → Nat → Nat → Option Datum
  | .add, a, b => (double.read a).sum (double.read b)
  | .sub, a, b => (double.read a).sum (double.read b).opposite
  | .mul, a, b => (double.read a).product (double.read b)
  | _, a, b => (double.read a).quotient 54 (double.read b)
theorem fA_fD (op : BinOp) (a b : Nat) : fA op a b = (fD op a b).map double.write := by cases op <;> rfl
theorem fD_nan {op : BinOp} {a b : Nat} {d : Datum} (h : fD op a b = some d) : d.isNaN = false := by
  cases op <;> first | exact sum_nan h | exact product_nan h | exact quotient_nan h
theorem fV_some {op : BinOp} {a b : Nat} {d : Datum} (h : fD op a b = some d) : fV op a b = double.word (shows d).1 (shows d).2 := by
  unfold fV
  rw [fA_fD, h]
  simp only [Option.map_some]
  rw [write_eq (fD_nan h)]
  have := shows_le d
  have hi := infR_eq
  exact plainN_of (by rw [(word_rung (by omega)).1]; exact this)
theorem fV_none {op : BinOp} {a b : Nat} (h : fD op a b = none) : fV op a b = NN := by
  unfold fV; rw [fA_fD, h]; rfl
theorem fV_nan {op : BinOp} {a b : Nat} (h : infR < rung a ∨ infR < rung b) : fV op a b = NN := by
  apply fV_none
  rcases h with h | h
  · obtain ⟨s, f, e⟩ := read_nan' h
    cases op <;> simp only [fD, e] <;> rfl
  · obtain ⟨s, f, e⟩ := read_nan' h
    cases op <;> simp only [fD, e] <;> cases double.read a <;> rfl
/-- the bits of what may come -/
theorem far_bits {op : BinOp} {a b r : Nat} (h : FAr op a b r) : r < 18446744073709551616 ∧ plainN r = fV op a b := by
  unfold FAr at h
  unfold fV
  cases e : fA op a b with
  | none =>
    rw [e] at h
    obtain ⟨s, f, h1, h2, h3⟩ := h
    have hi := infR_eq
    refine ⟨by omega, ?_⟩
    unfold plainN
    rw [if_pos (by unfold rung; omega)]
  | some q =>
    rw [e] at h
    subst h
    refine ⟨?_, rfl⟩
    rw [fA_fD] at e
    cases ed : fD op a b with
    | none => rw [ed] at e; cases e
    | some d =>
      rw [ed] at e
      simp only [Option.map_some, Option.some.injEq] at e
      rw [← e, write_eq (fD_nan ed)]
      have := shows_le d
      have hi := infR_eq
      exact (word_rung (by omega)).2.2
theorem read_sr (a : Nat) : double.read a = (if rung a < 4503599627370496 then .number (sgnB a) (rung a) double.leastPlace else if rung a < infR then .number (sgnB a) (4503599627370496 + rung a % 4503599627370496) (double.leastPlace + (rung a / 4503599627370496 - 1 : Nat)) else if rung a = infR then .infinity (sgnB a) else .nan (sgnB a) (rung a - infR)) := rfl
theorem read_neg (a : Nat) (ha : a < 18446744073709551616) : double.read (Op.negFloat .f64 a) = (double.read a).opposite := by
  obtain ⟨h1, h2, _⟩ := negF a ha
  rw [read_sr, read_sr a, h1, h2]
  repeat' split
  all_goals rfl
theorem fD_sub (a b : Nat) (hb : b < 18446744073709551616) : fD .add a (Op.negFloat .f64 b) = fD .sub a b := by
  unfold fD
  simp only []
  rw [read_neg b hb]
theorem fV_sub (a b : Nat) (hb : b < 18446744073709551616) : fV .add a (Op.negFloat .f64 b) = fV .sub a b := by
  unfold fV; rw [fA_fD, fA_fD, fD_sub a b hb]
theorem neg_neg (a : Nat) : Op.negFloat .f64 (Op.negFloat .f64 a) = a := by
  have e : ∀ a, Op.negFloat .f64 a = a ^^^ 2 ^ 63 := fun _ => rfl
  rw [e, e, Nat.xor_assoc, Nat.xor_self, Nat.xor_zero]
end Go.Proofs.Ytfafhadklhnemaa

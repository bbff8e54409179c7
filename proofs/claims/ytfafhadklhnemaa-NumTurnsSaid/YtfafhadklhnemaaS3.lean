/-
  Whether numbers are reckoned with; NumWholes, NumParts, NumBack: walked.
-/
import Derived.Test.YtfafhadklhnemaaS2
namespace Go.Proofs.Ytfafhadklhnemaa
open Go Go.Lf

theorem read_nan {r : Nat} (h : 9218868437227405312 < r % 9223372036854775808) : ∃ s f, Ieee.double.read r = .nan s f := by
  have e1 : Ieee.double.signWeight = 9223372036854775808 := rfl
  have e2 : Ieee.double.binade = 4503599627370496 := rfl
  have e3 : Ieee.double.infRung = 9218868437227405312 := rfl
  unfold Ieee.Format.read
  rw [e1, e2, e3]
  dsimp only
  rw [if_neg (by omega), if_neg (by omega), if_neg (by omega)]
  exact ⟨_, _, rfl⟩
theorem fO_nan {r : Nat} (h : 9218868437227405312 < r % 9223372036854775808) (q : Nat) : fO r q = none := by
  obtain ⟨s, f, e⟩ := read_nan h
  unfold fO Ieee.Format.order
  rw [e]
  cases Ieee.double.read q <;> rfl
theorem nanB_rung {r : Nat} (h : nanB r) : 9218868437227405312 < r % 9223372036854775808 := by
  obtain ⟨s, f, hs, hf, rfl⟩ := h
  omega

section
variable {h : Heap}
theorem bits_nan {r : Nat} (hr : nanB r) : CallsH Try.prog 50 #[.float .f64 r] h (fun v h' => h = h' ∧ v = .int .u64 9221120237041090561) := by
  apply F50
  unfold L50
  rw [fO_nan (nanB_rung hr)]
  exact ⟨fun _ => ⟨rfl, rfl⟩, fun e => (by cases e)⟩
theorem fdiv_00 : CallsH Try.prog 29 #[.int .u64 0, .int .u64 0] h (fun v h' => h = h' ∧ v = .int .u64 9221120237041090561) := by
  apply F29
  unfold L29
  intro r hr
  have e : fA .quo ((0 : Int)).toNat ((0 : Int)).toNat = none := by kernel_rfl
  unfold FAr at hr
  rw [e] at hr
  refine cal_of (bits_nan hr) ?_
  rintro _ _ ⟨rfl, rfl⟩
  exact ⟨_, rfl, rfl, rfl⟩
theorem kind_nan : CallsH Try.prog 15 #[.int .u64 9221120237041090561] h (fun v h' => h = h' ∧ v = .int .i64 0) := by
  apply F15
  unfold L15
  rw [fO_nan (by decide)]
  exact ⟨fun _ => ⟨rfl, rfl⟩, fun e => (by cases e)⟩
theorem isinf_0 (s : Int) (hs : s = 1 ∨ s = -1) : CallsH Try.prog 45 #[.float .f64 0, .int .i64 s] h (fun v h' => h = h' ∧ v = .bool false) := by
  apply F45
  unfold L45
  refine ⟨fun r h' => (r = 0 ∨ r = 9223372036854775808) ∧ h = h', ⟨fun e => ?_, fun _ => ⟨fun _ => ⟨.inr (by kernel_rfl), rfl⟩, fun _ => ⟨.inl rfl, rfl⟩⟩⟩, ?_⟩
  · rcases hs with rfl | rfl <;> simp at e
  · rintro r _ ⟨rfl | rfl, rfl⟩
    · exact ⟨rfl, by kernel_rfl⟩
    · exact ⟨rfl, by kernel_rfl⟩
theorem kind_0 : CallsH Try.prog 15 #[.int .u64 0] h (fun v h' => h = h' ∧ v = .int .i64 4) := by
  apply F15
  unfold L15
  have e0 : ((0 : Int)).toNat = 0 := rfl
  have e1 : fO 0 0 = some .eq := by kernel_rfl
  rw [e0, e1]
  refine ⟨fun e => (by cases e), fun _ => ?_⟩
  refine cal_of (isinf_0 (-1) (.inr rfl)) ?_
  rintro _ _ ⟨rfl, rfl⟩
  refine ⟨_, rfl, fun e => (by cases e), fun _ => ?_⟩
  refine cal_of (isinf_0 1 (.inl rfl)) ?_
  rintro _ _ ⟨rfl, rfl⟩
  refine ⟨_, rfl, fun e => (by cases e), fun _ => ⟨fun e => (by cases e), fun _ => ⟨fun e => (by cases e), fun _ => ?_⟩⟩⟩
  have sg : CallsH Try.prog 46 #[.float .f64 0] h (fun v h' => h = h' ∧ v = .bool false) := by
    apply F46
    unfold L46
    exact ⟨rfl, rfl⟩
  refine cal_of sg ?_
  rintro _ _ ⟨rfl, rfl⟩
  exact ⟨_, rfl, fun e => (by cases e), fun _ => ⟨rfl, rfl⟩⟩

theorem reckoned_spec : CallsH Try.prog 10 #[] h (fun v h' => v = .bool true ∧ Grow h h') := by
  apply F10
  unfold L10
  refine cal_of (mul_spec 4611686018427387904 2 (by decide) (by decide)) ?_
  rintro _ _ ⟨rfl, rfl⟩
  rw [resV_out (by decide)]
  refine ⟨_, rfl, _, rfl, _, rfl, _, rfl, _, rfl, ?_⟩
  refine cal_of (sub_spec 7 9 (by decide) (by decide)) ?_
  rintro _ _ ⟨rfl, rfl⟩
  rw [resV_in (by decide)]
  refine ⟨_, rfl, _, rfl, _, rfl, _, rfl, _, rfl, ?_⟩
  refine ⟨fun b h' => b = true ∧ h = h', ⟨fun _ => ?_, fun e => (by cases e)⟩, ?_⟩
  · refine cal_of kind_0 ?_
    rintro _ _ ⟨rfl, rfl⟩
    exact ⟨_, rfl, rfl, rfl⟩
  rintro _ _ ⟨rfl, rfl⟩
  refine ⟨fun b h' => b = true ∧ h = h', ⟨fun _ => ?_, fun e => (by cases e)⟩, ?_⟩
  · refine cal_of fdiv_00 ?_
    rintro _ _ ⟨rfl, rfl⟩
    refine ⟨_, rfl, cal_of kind_nan ?_⟩
    rintro _ _ ⟨rfl, rfl⟩
    exact ⟨_, rfl, rfl, rfl⟩
  rintro _ _ ⟨rfl, rfl⟩
  refine ⟨fun b h' => b = true ∧ h = h', ⟨fun _ => ?_, fun e => (by cases e)⟩, ?_⟩
  · refine cal_of fdiv_00 ?_
    rintro _ _ ⟨rfl, rfl⟩
    exact ⟨_, rfl, rfl, rfl⟩
  rintro _ _ ⟨rfl, rfl⟩
  refine ⟨fun b h' => b = true ∧ Grow h h', ⟨fun _ => ?_, fun e => (by cases e)⟩, fun b h' q => ⟨by rw [q.1], q.2⟩⟩
  refine cal_of (Dec_spec (-10) (by decide)) ?_
  rintro _ h1 ⟨rfl, g1⟩
  refine ⟨_, rfl, ?_, g1⟩
  have e1 : decB (-10) = [45, 49, 48] := by
    have e2 : digB 10 = [49, 48] := by
      rw [digB_ge (by omega), digB_lt (by omega)]
      rfl
    unfold decB
    rw [if_pos (by decide)]
    show 45 :: digB 10 = _
    rw [e2]
  rw [e1]
  simp

theorem tup2 {v : Value} {x : Int} {b : Bool} (e : v = .tuple #[.int .i64 x, .bool b]) {K : Int → Bool → Prop} (k : K x b) : asTup v fun r => elt r 0 fun u => asI .i64 u fun x => elt r 1 fun u => asB u fun y => K x y := by
  subst e
  exact ⟨_, rfl, _, rfl, _, rfl, _, rfl, _, rfl, k⟩
theorem wholes_walk (a b : Int) (h : Heap) (ha : inI a) (hb : inI b) : CallsH Try.prog 4 #[.int .i64 a, .int .i64 b] h (fun v h' => v = .bool true ∧ Grow h h') := by
  apply F4
  unfold L4
  refine cal_of reckoned_spec ?_
  rintro _ h1 ⟨rfl, g1⟩
  refine ⟨_, rfl, fun e => (by cases e), fun _ => ?_⟩
  refine cal_of (add_spec a b ha hb) ?_
  rintro _ _ ⟨rfl, rfl⟩
  refine tup2 rfl (cal_of (addR_spec a b ha hb) ?_)
  rintro _ _ ⟨rfl, rfl⟩
  refine tup2 rfl ⟨fun e => by simp at e, fun _ => ?_⟩
  refine cal_of (sub_spec a b ha hb) ?_
  rintro _ _ ⟨rfl, rfl⟩
  refine tup2 rfl (cal_of (subR_spec a b ha hb) ?_)
  rintro _ _ ⟨rfl, rfl⟩
  refine tup2 rfl ⟨fun e => by simp at e, fun _ => ?_⟩
  refine cal_of (mul_spec a b ha hb) ?_
  rintro _ _ ⟨rfl, rfl⟩
  refine tup2 rfl (cal_of (mulR_spec a b ha hb) ?_)
  rintro _ _ ⟨rfl, rfl⟩
  refine tup2 rfl ⟨by simp, g1⟩
theorem divV_tup (a b : Int) : ∃ x y, divV a b = .tuple #[.int .i64 x, .bool y] := by
  unfold divV
  split
  · exact ⟨_, _, rfl⟩
  · exact ⟨_, _, rfl⟩
theorem parts_walk (a b : Int) (h : Heap) (ha : inI a) (hb : inI b) : CallsH Try.prog 7 #[.int .i64 a, .int .i64 b] h (fun v h' => v = .bool true ∧ Grow h h') := by
  apply F7
  unfold L7
  obtain ⟨x, y, e⟩ := divV_tup a b
  refine cal_of (div_spec a b ha hb) ?_
  rintro _ _ ⟨rfl, rfl⟩
  refine tup2 e (cal_of (divR_spec a b ha hb) ?_)
  rintro _ _ ⟨rfl, rfl⟩
  refine tup2 e (cal_of (neg_spec a ha) ?_)
  rintro _ _ ⟨rfl, rfl⟩
  refine tup2 rfl (cal_of (negR_spec a ha) ?_)
  rintro _ _ ⟨rfl, rfl⟩
  refine tup2 rfl (cal_of reckoned_spec ?_)
  rintro _ h1 ⟨rfl, g1⟩
  exact ⟨_, rfl, by simp, g1⟩
theorem back_walk (a b : Int) (h : Heap) (ha : inI a) (hb : inI b) : CallsH Try.prog 9 #[.int .i64 a, .int .i64 b] h (fun v h' => v = .bool true ∧ Grow h h') := by
  apply F9
  unfold L9
  refine ⟨fun h' => h = h', ?_, ?_⟩
  · refine cal_of (add_spec a b ha hb) ?_
    rintro _ _ ⟨rfl, rfl⟩
    refine tup2 rfl ⟨fun hin => ?_, fun _ => rfl⟩
    have hin := of_decide_eq_true hin
    unfold resN
    rw [if_pos hin]
    refine cal_of (sub_spec (a + b) b hin hb) ?_
    rintro _ _ ⟨rfl, rfl⟩
    have e : a + b - b = a := by omega
    rw [e]
    refine tup2 (resV_in ha) ⟨fun e => by simp at e, fun _ => rfl⟩
  rintro _ rfl
  refine ⟨fun h' => h = h', ?_, ?_⟩
  · refine cal_of (mul_spec a b ha hb) ?_
    rintro _ _ ⟨rfl, rfl⟩
    refine tup2 rfl (ifb_iff (q := inI (a * b) ∧ b ≠ 0) (by simp [resB]) (fun hq => ?_) (fun _ => rfl))
    unfold resN
    rw [if_pos hq.1]
    refine cal_of (div_spec (a * b) b hq.1 hb) ?_
    rintro _ _ ⟨rfl, rfl⟩
    have e : divV (a * b) b = resV a := by
      unfold divV
      rw [if_neg hq.2, Int.mul_tdiv_cancel a hq.2]
    rw [e]
    refine tup2 (resV_in ha) ⟨fun e => by simp at e, fun _ => rfl⟩
  rintro _ rfl
  refine cal_of reckoned_spec ?_
  rintro _ h1 ⟨rfl, g1⟩
  exact ⟨_, rfl, rfl, g1⟩
end
end Go.Proofs.Ytfafhadklhnemaa

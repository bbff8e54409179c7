/-
  VaryThrough, VaryOf walked.
-/
import Derived.Test.YtomafdhiflbgcaaV8
namespace Go.Proofs.Ytomafdhiflbgcaa
open Go Go.Lf
set_option linter.unusedVariables false

def thrR (a b : Int) : Int := if a = 0 ∨ b = 0 then 0 else if a = 1 then b else if a = 3 ∨ b = 3 then 3 else if a = b then 1 else 2
theorem thrR_spec (a b : Int) (h : Heap) : CallsH Try.prog 8 #[.int .i64 a, .int .i64 b] h (fun x h' => h = h' ∧ x = .int .i64 (thrR a b)) := by
  apply F8
  unfold L8 thrR
  refine ifb_iff (q := a = 0 ∨ b = 0) (by simp) (fun q => ⟨rfl, by rw [if_pos q]⟩) (fun q => ?_)
  rw [if_neg q]
  refine ifb_iff (q := a = 1) (by simp) (fun q => ⟨rfl, by rw [if_pos q]⟩) (fun q => ?_)
  rw [if_neg q]
  refine ifb_iff (q := a = 3 ∨ b = 3) (by simp) (fun q => ⟨rfl, by rw [if_pos q]⟩) (fun q => ?_)
  rw [if_neg q]
  refine ifb_iff (q := a = b) (by simp) (fun q => ⟨rfl, by rw [if_pos q]⟩) (fun q => ?_)
  rw [if_neg q]
  exact ⟨rfl, rfl⟩
theorem mod4 (a : Int) : ∃ k : Nat, k < 4 ∧ IntKind.i64.wrap ((IntKind.u64.wrap a).tmod 4) = (k : Int) := by
  have h0 : 0 ≤ IntKind.u64.wrap a := by rw [IntKind.wrap_u64]; omega
  have e : (IntKind.u64.wrap a).tmod 4 = IntKind.u64.wrap a % 4 := Int.tmod_eq_emod_of_nonneg h0
  rw [e]
  refine ⟨(IntKind.u64.wrap a % 4).toNat, by omega, ?_⟩
  rw [wrap64_id (by omega) (by omega)]
  omega
theorem thr_laws : ∀ a, a < 4 → ∀ b, b < 4 → throughF ((a : Nat) : Int) ((b : Nat) : Int) = thrR a b ∧ throughF a b = throughF b a ∧ throughF 1 a = a := by decide
theorem thr_assoc : ∀ a, a < 4 → ∀ b, b < 4 → ∀ c, c < 4 → throughF (throughF ((a : Nat) : Int) ((b : Nat) : Int)) ((c : Nat) : Int) = throughF a (throughF b c) := by decide
theorem through_walk (a b c : Int) (h : Heap) : CallsH Try.prog 3 #[.int .i64 a, .int .i64 b, .int .i64 c] h (fun x h' => x = .bool true ∧ Grow h h') := by
  apply F3
  unfold L3
  obtain ⟨i, hi, ei⟩ := mod4 a
  obtain ⟨j, hj, ej⟩ := mod4 b
  obtain ⟨k, hk, ek⟩ := mod4 c
  rw [ei, ej, ek]
  obtain ⟨l1, l2, l3⟩ := thr_laws i hi j hj
  have l4 := thr_assoc i hi j hj k hk
  refine cal_of (varied_spec h) ?_
  rintro _ h1 ⟨f1, rfl⟩
  refine ⟨_, rfl, fun x h' => x = true ∧ h1 = h', ⟨fun _ => ?_, fun e => (by cases e)⟩, ?_⟩
  · refine cal_of (through_spec _ _ _) ?_
    rintro _ _ ⟨rfl, rfl⟩
    refine ⟨_, rfl, cal_of (thrR_spec _ _ _) ?_⟩
    rintro _ _ ⟨rfl, rfl⟩
    exact ⟨_, rfl, by rw [l1]; simp, rfl⟩
  rintro _ _ ⟨rfl, rfl⟩
  refine ⟨fun x h' => x = true ∧ h1 = h', ⟨fun _ => ?_, fun e => (by cases e)⟩, ?_⟩
  · refine cal_of (through_spec _ _ _) ?_
    rintro _ _ ⟨rfl, rfl⟩
    refine ⟨_, rfl, cal_of (through_spec _ _ _) ?_⟩
    rintro _ _ ⟨rfl, rfl⟩
    exact ⟨_, rfl, by rw [l2]; simp, rfl⟩
  rintro _ _ ⟨rfl, rfl⟩
  refine ⟨fun x h' => x = true ∧ h1 = h', ⟨fun _ => ?_, fun e => (by cases e)⟩, ?_⟩
  · refine cal_of (through_spec _ _ _) ?_
    rintro _ _ ⟨rfl, rfl⟩
    refine ⟨_, rfl, cal_of (through_spec _ _ _) ?_⟩
    rintro _ _ ⟨rfl, rfl⟩
    refine ⟨_, rfl, cal_of (through_spec _ _ _) ?_⟩
    rintro _ _ ⟨rfl, rfl⟩
    refine ⟨_, rfl, cal_of (through_spec _ _ _) ?_⟩
    rintro _ _ ⟨rfl, rfl⟩
    exact ⟨_, rfl, by rw [l4]; simp, rfl⟩
  rintro _ _ ⟨rfl, rfl⟩
  refine ⟨fun x h' => x = true ∧ h1 = h', ⟨fun _ => ?_, fun e => (by cases e)⟩, ?_⟩
  · refine cal_of (through_spec _ _ _) ?_
    rintro _ _ ⟨rfl, rfl⟩
    exact ⟨_, rfl, by rw [l3]; simp, rfl⟩
  rintro _ _ ⟨rfl, rfl⟩
  exact ⟨rfl, f1⟩
theorem of_walk (l : Sv) (xs : List Int) (slot : Int) (other : ByteArray) (h : Heap) (hl : IntsAt h l xs) : CallsH Try.prog 4 #[.slice l.a l.n l.c, .int .i64 slot, .string other] h (fun x h' => x = .bool true ∧ Grow h h') := by
  apply F4
  unfold L4
  refine cal_of (varied_spec h) ?_
  rintro _ h1 ⟨f1, rfl⟩
  refine ⟨_, rfl, fun e => ?_, fun e => ?_⟩
  · refine cal_of (varied_spec h1) ?_
    rintro _ h2 ⟨f2, rfl⟩
    exact ⟨_, rfl, rfl, f1.trans f2⟩
  have hn := hl.len
  simp only [Bool.not_true, Bool.false_or, Bool.or_eq_false_iff, decide_eq_false_iff_not] at e
  rintro m h3 rfl rfl
  refine ⟨h1.size, #[], 0, [], rfl, by simp, rfl, rfl, ?_⟩
  rintro h4 L' c' rfl hL
  have f4 : Grow h1 ((h1.push (.map #[] 0)).setIfInBounds h1.size (.map L' c')) := by
    refine ⟨by simp, fun b hb _ => ?_⟩
    rw [Array.getElem?_setIfInBounds, if_neg (by omega), Array.getElem?_push, if_neg (by omega)]
  have hm4 : ((h1.push (.map #[] 0)).setIfInBounds h1.size (.map L' c'))[h1.size]? = some (.map L' c') := by
    rw [Array.getElem?_setIfInBounds, if_pos rfl, if_pos (by simp)]
  generalize (h1.push (.map #[] 0)).setIfInBounds h1.size (.map L' c') = h4 at *
  have i4 := hl.keep (f1.trans f4) fun _ _ h => h
  have hw : WAt (fun _ => True) h4 (some h1.size) [(nS, xs)] :=
    ⟨[(nS, l, xs)], rfl, .inr ⟨h1.size, L', c', rfl, hm4, hL⟩, fun _ _ => trivial, fun e he => by
      obtain rfl : e = (nS, l, xs) := by simpa using he
      exact ⟨IntsQ.of i4 fun _ _ _ => trivial, by dsimp only; omega⟩⟩
  have hlk : lkW nS [(nS, xs)] = xs := by simp [lkW]
  refine ⟨fun x => x = ofW [(nS, xs)] nS slot, ?_, ?_⟩
  · unfold ofW
    rw [hlk]
    refine ifb_iff (q := 0 ≤ slot ∧ slot < xs.length) (by simp [hn]) (fun q => ?_) (fun q => ?_)
    · obtain ⟨p, e', c⟩ := i4.at_ slot.toNat (by omega)
      refine ⟨p, e', by omega, by omega, _, c, ?_⟩
      rw [if_neg (by omega), List.getD_eq_getElem?_getD, List.getElem?_eq_getElem (by omega)]
      rfl
    · rw [if_pos (by omega)]
  rintro _ rfl
  refine cal_of (of_spec hw nS slot) ?_
  rintro _ _ ⟨rfl, rfl⟩
  refine ⟨_, rfl, fun x h' => x = true ∧ h4 = h', ⟨fun _ => ?_, fun e => by simp at e⟩, ?_⟩
  · refine ⟨fun x h' => x = true ∧ h4 = h', ⟨fun _ => ⟨rfl, rfl⟩, fun eo => ?_⟩, fun _ _ hh => hh⟩
    refine cal_of (of_spec hw other slot) ?_
    rintro _ _ ⟨rfl, rfl⟩
    have hne : other ≠ nS := fun q => by rw [q] at eo; simp at eo
    have : ofW [(nS, xs)] other slot = 3 := by
      unfold ofW lkW
      rw [if_neg hne]
      rw [show lkW other [] = [] from rfl]
      split
      · rfl
      · simp
    exact ⟨_, rfl, by rw [this]; rfl, rfl⟩
  rintro _ _ ⟨rfl, rfl⟩
  refine ⟨fun x h' => x = true ∧ h4 = h', ⟨fun _ => ?_, fun e => (by cases e)⟩, ?_⟩
  · refine cal_of (of_spec (WAt.nil (fun _ => True) h4) other 0) ?_
    rintro _ _ ⟨rfl, rfl⟩
    refine ⟨_, rfl, ?_, rfl⟩
    have : ofW [] other 0 = 3 := by simp [ofW, lkW]
    rw [this]; rfl
  rintro _ _ ⟨rfl, rfl⟩
  exact ⟨rfl, f1.trans f4⟩
end Go.Proofs.Ytomafdhiflbgcaa

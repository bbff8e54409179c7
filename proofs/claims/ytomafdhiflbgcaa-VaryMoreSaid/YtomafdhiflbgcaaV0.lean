/-
  Types: small ones.
-/
import Derived.Test.YtomafdhiflbgcaaLiftT
import Derived.Test.YtomafdhiflbgcaaG
namespace Go.Proofs.Ytomafdhiflbgcaa
open Go Go.Lf
set_option linter.unusedVariables false

/-- no deeper than so, and not wide -/
def small : Nat → Ty → Bool
  | 0, _ => false
  | d + 1, .mk _ nm _ _ rs az => decide (az.length ≤ 4) && decide (rs.length ≤ 6) && decide (nm.size ≤ 60) && az.all (small d)
theorem wrap_succ {i n : Nat} (hi : i < n) (hn : n ≤ 4611686018427387904) : IntKind.i64.wrap ((i : Int) + 1) = ((i + 1 : Nat) : Int) := by rw [wrap64_id (by omega) (by omega)]; rfl
section
variable {Q : Nat → Prop} {h : Heap}
theorem small_spec : ∀ (d : Nat) (_ : d ≤ 100) (t : Ty) (v : Tv) (h : Heap), TyAt Q h t v → CallsH Try.prog 11 #[.agg (tvs v), .int .i64 d] h (fun x h' => Grow h h' ∧ x = .bool (small d t)) := by
  intro d
  induction d with
  | zero =>
    intro _ t v h hv
    apply F11
    unfold L11
    refine new6 (v := v) fun h1 b1 f1 _ => ?_
    refine ⟨fun x => x = true, ⟨fun _ => rfl, fun e => (by cases e)⟩, ?_⟩
    rintro _ rfl
    refine ⟨fun x => x = true, ⟨fun _ => rfl, fun e => (by cases e)⟩, ?_⟩
    rintro _ rfl
    refine ⟨fun x => x = true, ⟨fun _ => rfl, fun e => (by cases e)⟩, ?_⟩
    rintro _ rfl
    exact ⟨fun _ => ⟨f1, by cases t; rfl⟩, fun e => (by cases e)⟩
  | succ d ih =>
    intro hd t v h hv
    obtain ⟨k, nm, mu, r, rs, az⟩ := t
    apply F11
    unfold L11
    have hv0 := hv
    rw [tyAt_iff] at hv
    obtain ⟨e1, e2, e3, e4, e5, e6, e7⟩ := hv
    refine new6 (v := v) fun h1 b1 f1 _ => ?_
    have T6 := Tv6.blk b1
    have hd0 : (((d + 1 : Nat) : Int) == 0) = false := by simp; omega
    refine ⟨fun x => x = decide (4 < az.length), ⟨fun e => (by rw [hd0] at e; cases e), fun _ => ⟨_, T6.2.2.2.2.2, ?_⟩⟩, ?_⟩
    · dsimp only; rw [e6, Bool.eq_iff_iff]; simp; omega
    rintro _ rfl
    refine ⟨fun x => x = (decide (4 < az.length) || decide (6 < rs.length)), ⟨fun e => (by rw [e]; rfl), fun e => ⟨_, T6.2.2.2.2.1, ?_⟩⟩, ?_⟩
    · dsimp only; rw [e, e5.len, Bool.eq_iff_iff]; simp; omega
    rintro _ rfl
    refine ⟨fun x => x = (decide (4 < az.length) || decide (6 < rs.length) || decide (60 < nm.size)), ⟨fun e => (by rw [e]; rfl), fun e => ⟨_, T6.2.1, ?_⟩⟩, ?_⟩
    · dsimp only; rw [e, e2, Bool.eq_iff_iff]; simp; omega
    rintro _ rfl
    have hs : small (d + 1) (.mk k nm mu r rs az) = (!(decide (4 < az.length) || decide (6 < rs.length) || decide (60 < nm.size)) && az.all (small d)) := by
      show (decide (az.length ≤ 4) && decide (rs.length ≤ 6) && decide (nm.size ≤ 60) && az.all (small d)) = _
      congr 1
      rw [Bool.eq_iff_iff]
      simp
    refine ⟨fun e => ⟨f1, by rw [hs, e]; rfl⟩, fun e => ?_⟩
    have has : az.length ≤ 4 := by
      simp only [Bool.or_eq_false_iff, decide_eq_false_iff_not] at e
      omega
    refine ⟨fun i h' => ∃ j : Nat, i = j ∧ j ≤ az.length ∧ Grow h1 h' ∧ (az.take j).all (small d) = true, fun i _ => az.length - i.toNat, ⟨0, rfl, Nat.zero_le _, Fr.refl _ _, rfl⟩, ?_⟩
    rintro _ h2 ⟨j, rfl, hj, f2, ha⟩
    have T6' := T6.fr f2 (fun h => h)
    refine ⟨_, T6'.2.2.2.2.2, ?_⟩
    dsimp only
    rw [e6]
    refine ifb_iff (q := j < az.length) (by simp) (fun hl => ?_) (fun hl => ?_)
    · refine ⟨_, T6'.2.2.2.2.2, ?_⟩
      refine args_get (hv0.grow (f1.trans f2)) hl fun u hu => ?_
      have hw : IntKind.i64.wrap (((d + 1 : Nat) : Int) - 1) = (d : Int) := by rw [wrap64_id (by omega) (by omega)]; omega
      rw [hw]
      refine cal_of (ih (by omega) _ _ _ hu) ?_
      rintro _ h3 ⟨f3, rfl⟩
      have hall : (az.take (j + 1)).all (small d) = small d az[j] := by
        rw [List.take_add_one, List.getElem?_eq_getElem hl, List.all_append, ha]; simp
      refine ⟨_, rfl, fun e' => ⟨f1.trans (f2.trans f3), ?_⟩, fun e' => ?_⟩
      · rw [hs, e]
        have : small d az[j] = false := by simpa using e'
        congr 1
        symm
        rw [Bool.not_false, Bool.true_and, List.all_eq_false]
        exact ⟨_, List.getElem_mem hl, by rw [this]; simp⟩
      · have : small d az[j] = true := by simpa using e'
        rw [wrap_succ hl (by omega)]
        exact ⟨⟨j + 1, rfl, hl, f2.trans f3, by rw [hall, this]⟩, by simp; omega⟩
    · refine ⟨f1.trans f2, ?_⟩
      have : j = az.length := by omega
      subst this
      rw [List.take_length] at ha
      rw [hs, e, ha]
      rfl

end
theorem small_mk {n : Nat} {k : Int} {nm : ByteArray} {mu : Bool} {r : Int} {rs : List Int} {az : List Ty} (h : small n (.mk k nm mu r rs az) = true) : ∃ m, n = m + 1 ∧ az.length ≤ 4 ∧ rs.length ≤ 6 ∧ ∀ a ∈ az, small m a = true := by
  cases n with
  | zero => cases h
  | succ m =>
    have h' : (decide (az.length ≤ 4) && decide (rs.length ≤ 6) && decide (nm.size ≤ 60) && az.all (small m)) = true := h
    simp only [Bool.and_eq_true, decide_eq_true_eq, List.all_eq_true] at h'
    exact ⟨m, rfl, h'.1.1.1, h'.1.1.2, h'.2⟩
theorem small_up : ∀ (n : Nat) (t : Ty), small n t = true → small (n + 1) t = true := by
  intro n
  induction n with
  | zero => intro t h; cases t; cases h
  | succ n ih =>
    intro t h
    obtain ⟨k, nm, mu, r, rs, az⟩ := t
    have h' : (decide (az.length ≤ 4) && decide (rs.length ≤ 6) && decide (nm.size ≤ 60) && az.all (small n)) = true := h
    show (decide (az.length ≤ 4) && decide (rs.length ≤ 6) && decide (nm.size ≤ 60) && az.all (small (n + 1))) = true
    simp only [Bool.and_eq_true, List.all_eq_true] at h' ⊢
    exact ⟨h'.1, fun a ha => ih a (h'.2 a ha)⟩
theorem small_ups (n m : Nat) (t : Ty) (h : small n t = true) : small (n + m) t = true := by
  induction m with
  | zero => exact h
  | succ m ih => exact small_up _ _ ih
end Go.Proofs.Ytomafdhiflbgcaa

/-
  Erase; Map with no function; shapes stay.
-/
import Derived.Test.YtohlfkomjmjheaaTyK
namespace Go.Proofs.Ytohlfkomjmjheaa
open Go Go.Lf
set_option linter.unusedVariables false

theorem same_wT (t : Ty) : ∀ (xs : List Int), (allT t).length ≤ xs.length → same t (withT t xs) = true := by
  refine Ty.ind (P := fun t => ∀ (xs : List Int), (allT t).length ≤ xs.length → same t (withT t xs) = true) ?_ t
  intro k nm mu r rs az ih xs hx
  rw [allT_mk, List.length_append] at hx
  rw [withT_mk, same_mk]
  have hargs : ∀ (bz : List Ty) (xs : List Int), (∀ b ∈ bz, b ∈ az) → (bz.flatMap allT).length ≤ xs.length → sameA same bz (withA withT allT bz xs) = true := by
    intro bz
    induction bz with
    | nil => intro xs _ _; rfl
    | cons b bz ihb =>
      intro xs hb h1
      rw [List.flatMap_cons, List.length_append] at h1
      simp only [withA, sameA, Bool.and_eq_true]
      exact ⟨ih b (hb b (by simp)) _ (by omega), ihb _ (fun x hx => hb x (by simp [hx])) (by rw [List.length_drop]; omega)⟩
  rw [hargs az _ (fun _ h => h) (by rw [List.length_drop]; omega)]
  by_cases h5 : k = 5
  · have hl : (ownL (.mk k nm mu r rs az)).length = rs.length := by rw [ownL_mk, if_neg (by omega), if_pos h5]
    rw [if_pos h5, List.length_take, Nat.min_eq_left (by omega), hl]
    simp
  · have : (k != 5) = true := by simpa using h5
    rw [this]
    simp
theorem same_wT' (t : Ty) : ∀ (xs : List Int), (allT t).length ≤ xs.length → same (withT t xs) t = true := by
  refine Ty.ind (P := fun t => ∀ (xs : List Int), (allT t).length ≤ xs.length → same (withT t xs) t = true) ?_ t
  intro k nm mu r rs az ih xs hx
  rw [allT_mk, List.length_append] at hx
  rw [withT_mk, same_mk]
  have hargs : ∀ (bz : List Ty) (xs : List Int), (∀ b ∈ bz, b ∈ az) → (bz.flatMap allT).length ≤ xs.length → sameA same (withA withT allT bz xs) bz = true := by
    intro bz
    induction bz with
    | nil => intro xs _ _; rfl
    | cons b bz ihb =>
      intro xs hb h1
      rw [List.flatMap_cons, List.length_append] at h1
      simp only [withA, sameA, Bool.and_eq_true]
      exact ⟨ih b (hb b (by simp)) _ (by omega), ihb _ (fun x hx => hb x (by simp [hx])) (by rw [List.length_drop]; omega)⟩
  rw [hargs az _ (fun _ h => h) (by rw [List.length_drop]; omega)]
  by_cases h5 : k = 5
  · have hl : (ownL (.mk k nm mu r rs az)).length = rs.length := by rw [ownL_mk, if_neg (by omega), if_pos h5]
    rw [if_pos h5, List.length_take, Nat.min_eq_left (by omega), hl]
    simp
  · have : (k != 5) = true := by simpa using h5
    rw [this]
    simp
theorem same_refl : ∀ a : Ty, same a a = true := by
  intro a
  refine Ty.ind (P := fun a => same a a = true) ?_ a
  intro k nm mu r rs az ih
  rw [same_mk]
  have : sameA same az az = true := sameA_iff.2 ⟨rfl, fun i h1 _ => ih _ (List.getElem_mem h1)⟩
  rw [this]
  simp
theorem small_wT : ∀ (n : Nat) (t : Ty) (xs : List Int), small n t = true → small n (withT t xs) = true := by
  intro n
  induction n with
  | zero => intro t xs h; cases t; cases h
  | succ n ih =>
    intro t xs h
    have h0 := ownL_len h
    obtain ⟨k, nm, mu, r, rs, az⟩ := t
    have h' : (decide (az.length ≤ 4) && decide (rs.length ≤ 6) && decide (nm.size ≤ 60) && az.all (small n)) = true := h
    rw [withT_mk]
    show (decide ((withA withT allT az _).length ≤ 4) && decide ((if k = 5 then xs.take (ownL (.mk k nm mu r rs az)).length else rs).length ≤ 6) && decide (nm.size ≤ 60) && (withA withT allT az _).all (small n)) = true
    simp only [Bool.and_eq_true, decide_eq_true_eq] at h' ⊢
    refine ⟨⟨⟨by rw [withA_len]; exact h'.1.1.1, ?_⟩, h'.1.2⟩, ?_⟩
    · split
      · rw [List.length_take]; omega
      · exact h'.1.1.2
    · have hall := h'.2
      have : ∀ (bz : List Ty) (ys : List Int), bz.all (small n) = true → (withA withT allT bz ys).all (small n) = true := by
        intro bz
        induction bz with
        | nil => intro ys _; rfl
        | cons b bz ihb =>
          intro ys hb
          simp only [withA, List.all_cons, Bool.and_eq_true] at hb ⊢
          exact ⟨ih b _ hb.1, ihb _ hb.2⟩
      exact this _ _ hall
/-- the regions put in are the regions there -/
theorem allT_wT (t : Ty) : ∀ (xs : List Int), (allT t).length ≤ xs.length → allT (withT t xs) = xs.take (allT t).length := by
  refine Ty.ind (P := fun t => ∀ (xs : List Int), (allT t).length ≤ xs.length → allT (withT t xs) = xs.take (allT t).length) ?_ t
  intro k nm mu r rs az ih xs hx
  rw [allT_mk, List.length_append] at hx
  rw [withT_mk, allT_mk, allT_mk, List.length_append]
  generalize ho : (ownL (.mk k nm mu r rs az)).length = o at *
  have hargs : ∀ (bz : List Ty) (xs : List Int), (∀ b ∈ bz, b ∈ az) → (bz.flatMap allT).length ≤ xs.length → (withA withT allT bz xs).flatMap allT = xs.take (bz.flatMap allT).length := by
    intro bz
    induction bz with
    | nil => intro xs _ _; simp [withA]
    | cons b bz ihb =>
      intro xs hb h1
      rw [List.flatMap_cons, List.length_append] at h1
      simp only [withA, List.flatMap_cons, List.length_append]
      rw [ih b (hb b (by simp)) _ (by omega), ihb _ (fun x hx => hb x (by simp [hx])) (by rw [List.length_drop]; omega), List.take_add]
  rw [hargs az _ (fun _ h => h) (by rw [List.length_drop]; omega), List.take_add]
  congr 1
  rw [ownL_has] at ho ⊢
  have hsame : hasOwn (.mk k nm mu (if k = 5 then r else if o = 1 then xs.getD 0 r else r) (if k = 5 then xs.take o else rs) (withA withT allT az (xs.drop o))) = hasOwn (.mk k nm mu r rs az) := rfl
  rw [hsame]
  by_cases h5 : k = 5
  · have hno : hasOwn (.mk k nm mu r rs az) = false := by unfold hasOwn; rw [h5]; rfl
    rw [hno, if_neg (by simp), if_pos h5, if_pos h5]
    rfl
  · rw [if_neg h5] at ho ⊢
    rw [if_neg h5]
    by_cases hh : hasOwn (.mk k nm mu r rs az) = true
    · rw [if_pos hh] at ho ⊢
      have ho1 : o = 1 := by rw [← ho]; rfl
      rw [if_pos ho1]
      subst ho1
      cases xs with
      | nil => simp at hx
      | cons x xs => simp
    · rw [if_neg hh] at ho ⊢
      have ho0 : o = 0 := by rw [← ho]; rfl
      rw [ho0]; rfl
section
variable {Q : Nat → Prop} {h : Heap}
theorem map_nil_spec {t : Ty} {v : Tv} (hv : TyAt Q h t v) : CallsH Try.prog 14 #[.agg (tvs v), .nilFunc] h (fun x h' => Grow h h' ∧ x = .agg (tvs v)) := by
  apply F14
  unfold L14
  refine new6 (v := v) fun h1 b1 f1 z1 => newz fun h2 b2 f2 z2 => ?_
  refine ⟨true, rfl, fun _ => ?_, fun e => (by cases e)⟩
  refine rd6 (Tv6.blk (f2.blk b1 fun h => h)) ?_
  refine sto6 (v := v) b2 rfl fun h3 b3 f3 => ?_
  have := f1.size
  exact rd6 (Tv6.blk b3) ⟨(f1.trans f2).trans' f3 fun i hi e => by omega, rfl⟩
theorem erase_clos : Clos Try.prog (.func (.func 37) #[] #[]) (fun _ => False) (fun (_ : Unit) (_ : Heap) => True) (fun _ _ => 0) (fun s _ => s) := by
  refine ⟨rfl, fun _ _ _ _ _ _ _ => trivial, fun s r h _ => ⟨_, #[], rfl, ⟨Try.f37, Try.func37, by kernel_rfl, by kernel_rfl⟩, ?_⟩⟩
  apply F37
  unfold L37
  exact ⟨rfl, Fr.refl _ _, trivial⟩
noncomputable def eraT (t : Ty) : Ty := withT t (outs (σ := Unit) (fun _ _ => 0) (fun s _ => s) () (allT t))
theorem erase_spec {t : Ty} {n : Nat} (hn : n ≤ 8) (hsm : small n t = true) {v : Tv} (hQ : ∀ b, Q b → b < h.size) (hv : TyAt Q h t v) : CallsH Try.prog 19 #[.agg (tvs v)] h (fun x h' => Grow h h' ∧ ∃ v', x = .agg (tvs v') ∧ TyAt (fun b => Q b ∨ h.size ≤ b) h' (eraT t) v') := by
  apply F19
  unfold L19
  refine new6 (v := v) fun h1 b1 f1 z1 => newz fun h2 b2 f2 z2 => ?_
  refine rd6 (Tv6.blk (f2.blk b1 fun h => h)) ?_
  have g2 := f1.trans f2
  refine cal_of (map_spec erase_clos t n hn hsm Q v h2 () (fun b hb => ⟨by have := hQ b hb; have := g2.size; omega, fun h => h⟩) (fun b hb => hb.elim) (hv.grow g2) trivial) ?_
  rintro _ h3 ⟨f3, -, v', rfl, t3⟩
  refine ⟨_, _, _, _, _, _, rfl, ?_⟩
  refine sto6 (v := v') (f3.blk b2 fun h => h) rfl fun h4 b4 f4 => ?_
  have s1 := f1.size
  refine rd6 (Tv6.blk b4) ⟨(g2.trans f3).trans' f4 fun i hi e => by omega, v', rfl, ?_⟩
  refine (t3.fr f4 fun b hb e => ?_).weak fun b hb _ => hb.imp id fun q => by have := g2.size; omega
  rcases hb with hb | hb
  · have := hQ b hb; omega
  · omega
end
end Go.Proofs.Ytohlfkomjmjheaa

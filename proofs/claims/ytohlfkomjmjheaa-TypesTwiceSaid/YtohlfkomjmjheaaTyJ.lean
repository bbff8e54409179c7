/-
  A type's regions replaced one by one.
-/
import Derived.Test.YtohlfkomjmjheaaTyD
import Derived.Test.YtohlfkomjmjheaaLiftX
import Derived.Test.YtohlfkomjmjheaaLiftP
namespace Go.Proofs.Ytohlfkomjmjheaa
open Go Go.Lf
set_option linter.unusedVariables false

/-! ### a function of regions that has a state -/
def outs {σ : Type} (g : σ → Int → Int) (nx : σ → Int → σ) : σ → List Int → List Int
  | _, [] => []
  | s, x :: xs => g s x :: outs g nx (nx s x) xs
def fins {σ : Type} (nx : σ → Int → σ) : σ → List Int → σ
  | s, [] => s
  | s, x :: xs => fins nx (nx s x) xs
section
variable {σ : Type} {g : σ → Int → Int} {nx : σ → Int → σ}
theorem outs_len : ∀ (s : σ) (xs : List Int), (outs g nx s xs).length = xs.length
  | _, [] => rfl
  | s, x :: xs => by simp [outs, outs_len]
theorem fins_app : ∀ (s : σ) (xs ys : List Int), fins nx s (xs ++ ys) = fins nx (fins nx s xs) ys
  | _, [], _ => rfl
  | s, x :: xs, ys => by simp [fins, fins_app (nx s x) xs ys]
theorem outs_app : ∀ (s : σ) (xs ys : List Int), outs g nx s (xs ++ ys) = outs g nx s xs ++ outs g nx (fins nx s xs) ys
  | _, [], _ => rfl
  | s, x :: xs, ys => by simp [outs, fins, outs_app (nx s x) xs ys]
end
/-- a function value that is called with a region: what it answers, what it leaves; its cells are at the blocks `C` -/
structure Clos (P : Program) (fv : Value) (C : Nat → Prop) {σ : Type} (I : σ → Heap → Prop) (g : σ → Int → Int) (nx : σ → Int → σ) : Prop where
  some : isNilF fv = some false
  fr : ∀ (T : Nat → Prop) s h h', I s h → Fr T h h' → (∀ b, C b → ¬ T b) → I s h'
  call : ∀ s r h, I s h → ∃ fno caps, fv = .func (.func fno) #[] caps ∧ IsFn P fno ∧ CallsH P fno (#[.int .i64 r] ++ caps) h (fun x h' => x = .int .i64 (g s r) ∧ Fr C h h' ∧ I (nx s r) h')

/-! ### a type with other regions hangs on as many as it has -/
theorem withT_ext : ∀ (t : Ty) (xs ys : List Int), xs.take (allT t).length = ys.take (allT t).length → withT t xs = withT t ys := by
  intro t
  refine Ty.ind (P := fun t => ∀ (xs ys : List Int), xs.take (allT t).length = ys.take (allT t).length → withT t xs = withT t ys) ?_ t
  intro k nm mu r rs az ih xs ys h
  rw [allT_mk, List.length_append] at h
  rw [withT_mk, withT_mk]
  generalize ho : (ownL (.mk k nm mu r rs az)).length = o at *
  have h1 : xs.take o = ys.take o := by
    have := congrArg (List.take o) h
    rwa [List.take_take, List.take_take, Nat.min_eq_left (by omega)] at this
  have h2 : (xs.drop o).take (az.flatMap allT).length = (ys.drop o).take (az.flatMap allT).length := by
    have := congrArg (List.drop o) h
    rwa [List.drop_take, List.drop_take, Nat.add_sub_cancel_left] at this
  have hA : ∀ (bz : List Ty) (xs ys : List Int), (∀ b ∈ bz, b ∈ az) → xs.take (bz.flatMap allT).length = ys.take (bz.flatMap allT).length → withA withT allT bz xs = withA withT allT bz ys := by
    intro bz
    induction bz with
    | nil => intro _ _ _ _; rfl
    | cons b bz ihb =>
      intro xs ys hb h
      rw [List.flatMap_cons, List.length_append] at h
      simp only [withA]
      have g1 := congrArg (List.take (allT b).length) h
      rw [List.take_take, List.take_take, Nat.min_eq_left (by omega)] at g1
      have g2 := congrArg (List.drop (allT b).length) h
      rw [List.drop_take, List.drop_take, Nat.add_sub_cancel_left] at g2
      rw [ih b (hb b (by simp)) xs ys g1, ihb _ _ (fun x hx => hb x (by simp [hx])) g2]
  rw [hA az _ _ (fun _ h => h) h2, h1]
  congr 1
  by_cases h5 : k = 5
  · rw [if_pos h5, if_pos h5]
  · rw [if_neg h5, if_neg h5]
    by_cases h1' : o = 1
    · rw [if_pos h1', if_pos h1']
      subst h1'
      cases xs with
      | nil =>
        cases ys with
        | nil => rfl
        | cons y ys => simp at h1
      | cons x xs =>
        cases ys with
        | nil => simp at h1
        | cons y ys =>
          simp at h1
          simp [h1]
    · rw [if_neg h1', if_neg h1']
section
variable {Q : Nat → Prop} {h : Heap}
theorem c6_take : ∀ (us : List Tv) (i : Nat), (c6 us).take (i * 6) = c6 (us.take i)
  | [], i => by simp [c6]
  | a :: us, 0 => by simp [c6]
  | a :: us, i + 1 => by
    have e : c6 (a :: us) = (tvs a).toList ++ c6 us := rfl
    have e2 : c6 ((a :: us).take (i + 1)) = (tvs a).toList ++ c6 (us.take i) := rfl
    rw [e, e2, ← c6_take us i, List.take_append]
    have hl : (tvs a).toList.length = 6 := rfl
    rw [hl, List.take_of_length_le (by rw [hl]; omega)]
    congr 2
    omega
theorem c6_drop : ∀ (us : List Tv) (i : Nat), (c6 us).drop (i * 6) = c6 (us.drop i)
  | [], i => by simp [c6]
  | a :: us, 0 => by simp [c6]
  | a :: us, i + 1 => by
    have e : c6 (a :: us) = (tvs a).toList ++ c6 us := rfl
    rw [e, List.drop_succ_cons, ← c6_drop us i, List.drop_append]
    have hl : (tvs a).toList.length = 6 := rfl
    rw [hl, List.drop_of_length_le (by rw [hl]; omega), List.nil_append]
    congr 1
    omega
theorem c6_set (us : List Tv) (i : Nat) (hi : i < us.length) (u : Tv) : (c6 us).take (i * 6) ++ (tvs u).toList ++ (c6 us).drop (i * 6 + 6) = c6 (us.set i u) := by
  rw [c6_take, show i * 6 + 6 = (i + 1) * 6 by omega, c6_drop, List.set_eq_take_append_cons_drop, if_pos hi, c6_app]
  have : c6 (u :: us.drop (i + 1)) = (tvs u).toList ++ c6 (us.drop (i + 1)) := rfl
  rw [this, List.append_assoc]
theorem ints_set (xs : List Int) (i : Nat) (hi : i < xs.length) (x : Int) : (ints xs).take i ++ [Value.int .i64 x] ++ (ints xs).drop (i + 1) = ints (xs.set i x) := by
  unfold ints
  rw [List.set_eq_take_append_cons_drop, if_pos hi, List.map_append, List.map_cons, List.map_take, List.map_drop]
  simp
/-- the parts of a type, as they stand -/
theorem args_row {k : Int} {nm : ByteArray} {mu : Bool} {r : Int} {rs : List Int} {az : List Ty} {v : Tv} (x : TyAt Q h (.mk k nm mu r rs az) v) : ∃ us : List Tv, us.length = az.length ∧ RowO h v.az.a (c6 us) ∧ ∀ i (hi : i < us.length) (hi' : i < az.length), TyAt Q h az[i] us[i] := by
  obtain ⟨-, -, -, -, -, e6, e7⟩ := tyAt_iff.1 x
  have key : ∀ i, i < az.length → ∃ u : Tv, ∃ p, v.az.a = some p ∧ Tv6 h (p.add (i * 6)) u ∧ ∀ (hi : i < az.length), TyAt Q h az[i] u := by
    intro i hi
    obtain ⟨p, u, q1, q2, q3, q4⟩ := e7 i hi
    exact ⟨u, p, q1, q3, fun _ => q4⟩
  have : ∃ us : List Tv, us.length = az.length ∧ ∀ i (hi : i < us.length), ∃ p, v.az.a = some p ∧ Tv6 h (p.add (i * 6)) us[i] ∧ ∀ (hi' : i < az.length), TyAt Q h az[i] us[i] := by
    refine ⟨(List.range az.length).attach.map fun i => Classical.choose (key i.1 (by simpa using i.2)), by simp, fun j hj => ?_⟩
    simp only [List.getElem_map, List.getElem_attach, List.getElem_range]
    exact Classical.choose_spec (key j (by simpa using hj))
  obtain ⟨us, hl, hall⟩ := this
  refine ⟨us, hl, ?_, fun i hi hi' => by obtain ⟨p, _, _, h3⟩ := hall i hi; exact h3 hi'⟩
  cases ha : v.az.a with
  | none =>
    cases us with
    | nil => rfl
    | cons u us =>
      obtain ⟨p, e, _⟩ := hall 0 (by simp)
      rw [ha] at e; cases e
  | some p =>
    intro j w hw
    have hj : j < (c6 us).length := (List.getElem?_eq_some_iff.1 hw).1
    rw [c6_len] at hj
    have hi : j / 6 < us.length := by omega
    obtain ⟨q, e, T, _⟩ := hall (j / 6) hi
    rw [ha] at e
    simp only [Option.some.injEq] at e
    subst e
    have hq : j % 6 < 6 := by omega
    have ej : j = j / 6 * 6 + j % 6 := by omega
    rw [ej] at hw ⊢
    rw [c6_get us (j / 6) hi (j % 6) hq] at hw
    generalize j % 6 = m at *
    rw [← add_add]
    obtain ⟨c0, c1, c2, c3, c4, c5⟩ := T
    match m, hq with
    | 0, _ => rw [add_zero, c0]; exact hw
    | 1, _ => rw [c1]; exact hw
    | 2, _ => rw [c2]; exact hw
    | 3, _ => rw [c3]; exact hw
    | 4, _ => rw [c4]; exact hw
    | 5, _ => rw [c5]; exact hw
theorem one_c6l (us : List Tv) : ∀ u ∈ c6 us, u.oneCell' = true := by
  intro u hu
  obtain ⟨v, _, hu⟩ := List.mem_flatMap.1 hu
  exact one_c6 v u hu
theorem own_empty' (sz : Nat) (h : Heap) (B : Nat) (E : TypeId) (hB : B ≤ h.size) : Own (h.push (.cells #[] E)) B sz ⟨some ⟨h.size, 0, none⟩, 0, 0⟩ [] :=
  ⟨by simp, .inr ⟨h.size, #[], rfl, hB, blk.new h #[] E, Nat.le_refl _, by simp, by simp⟩⟩
theorem cloneI_spec {s : Sv} {xs : List Int} (x : IntsAt h s xs) (hb : xs.length ≤ 1000000) : CallsH Try.prog 34 #[.slice s.a s.n s.c] h (fun v h' => Grow h h' ∧ ∃ s' : Sv, v = .slice s'.a s'.n s'.c ∧ Own h' h.size 1 s' (ints xs)) := by
  apply F34
  unfold L34
  refine ⟨fun e => ⟨Fr.refl _ _, ⟨none, 0, 0⟩, rfl, ?_⟩, fun _ => ?_⟩
  · have : xs = [] := by
      cases xs with
      | nil => rfl
      | cons a xs =>
        obtain ⟨p, e', _⟩ := x.at_ 0 (by simp)
        rw [e'] at e; cases e
    subst this
    exact Own.nil _ _ _
  · rintro s5 h1 rfl rfl
    have f1 : Grow h (h.push (.cells #[] 3)) := Fr.push _ _ _
    have i1 := x.keep f1 fun _ _ h => h
    refine appS_own rfl (own_empty' 1 h h.size 3 (Nat.le_refl _)) (news := ints xs) (by simp [ints, x.len]) (ints_row i1) (one_ints _) (by simp) (by dsimp only; rw [x.len]; omega) (by dsimp only; rw [x.len]; omega) ?_
    intro s' h' _ o' f' _
    exact ⟨f1.trans' f' fun i hi ⟨a, ea, eb⟩ => (by simp only [Option.some.injEq] at ea; subst ea; simp only at eb; omega), s', rfl, by simpa using o'⟩
theorem cloneT_spec {s : Sv} {us : List Tv} (hn : s.n = us.length) (x : RowO h s.a (c6 us)) (hb : us.length ≤ 1000000) : CallsH Try.prog 35 #[.slice s.a s.n s.c] h (fun v h' => Grow h h' ∧ ∃ s' : Sv, v = .slice s'.a s'.n s'.c ∧ Own h' h.size 6 s' (c6 us)) := by
  apply F35
  unfold L35
  refine ⟨fun e => ⟨Fr.refl _ _, ⟨none, 0, 0⟩, rfl, ?_⟩, fun _ => ?_⟩
  · have hs : s.a = none := by simpa using e
    rw [hs] at x
    have x' : c6 us = [] := x
    have : us = [] := by
      have := congrArg List.length x'
      rw [c6_len] at this
      have h0 : us.length * 6 = 0 := this
      exact List.eq_nil_of_length_eq_zero (by omega)
    subst this
    exact Own.nil _ _ _
  · rintro s5 h1 rfl rfl
    have f1 : Grow h (h.push (.cells #[] 25)) := Fr.push _ _ _
    have x1 : RowO (h.push (.cells #[] 25)) s.a (c6 us) := by
      cases ha : s.a with
      | none => rw [ha] at x; exact x
      | some p => rw [ha] at x; exact fun j v hv => f1.clk (x j v hv) fun h => h
    refine appS_own rfl (own_empty' 6 h h.size 25 (Nat.le_refl _)) (news := c6 us) (by rw [c6_len, hn]) x1 (one_c6l _) (by simp) (by dsimp only; rw [hn]; omega) (by dsimp only; rw [hn]; omega) ?_
    intro s' h' _ o' f' _
    exact ⟨f1.trans' f' fun i hi ⟨a, ea, eb⟩ => (by simp only [Option.some.injEq] at ea; subst ea; simp only at eb; omega), s', rfl, by simpa using o'⟩
end
end Go.Proofs.Ytohlfkomjmjheaa

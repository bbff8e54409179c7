/-
  Has a type a region of its own; rows of types cloned (cuts of ty/TyD, ty/TyJ under a name of their own).
-/
import Derived.Test.YteaidgpiolakcaaTyC
import Derived.Test.YteaidgpiolakcaaLiftK
import Derived.Test.YteaidgpiolakcaaLiftX
import Derived.Test.YteaidgpiolakcaaLiftP
namespace Go.Proofs.Yteaidgpiolakcaa.inst
open Go Go.Lf Go.Proofs.Yteaidgpiolakcaa
set_option linter.unusedVariables false

section
variable {Q : Nat → Prop} {h : Heap}
def hasOwn : Ty → Bool
  | .mk k _ _ _ _ _ => k == 7 || k == 8 || k == 9
theorem ownB_spec {t : Ty} {v : Tv} (hv : TyAt Q h t v) : CallsH Try.prog 20 #[.agg (tvs v)] h (fun x h' => Grow h h' ∧ x = .bool (hasOwn t)) := by
  obtain ⟨k, nm, mu, r, rs, az⟩ := t
  obtain ⟨e1, e2, e3, e4, e5, e6, e7⟩ := tyAt_iff.1 hv
  apply F20
  unfold L20
  refine new6 (v := v) fun h1 b1 f1 z1 => ?_
  have T1 := Tv6.blk b1
  refine ⟨_, T1.1, ?_⟩
  rw [e1]
  refine ⟨fun x => x = (k == 7 || k == 8), ⟨fun e => by rw [e]; rfl, fun e => ⟨_, T1.1, by rw [e, e1]; rfl⟩⟩, ?_⟩
  rintro _ rfl
  refine ⟨fun x => x = (k == 7 || k == 8 || k == 9), ⟨fun e => by rw [e]; rfl, fun e => ⟨_, T1.1, by rw [e, e1]; rfl⟩⟩, ?_⟩
  rintro _ rfl
  exact ⟨f1, rfl⟩
theorem c6_take : ∀ (us : List Tv) (i : Nat), (c6 us).take (i * 6) = c6 (us.take i)
  | [], i => by simp [c6]
  | a :: us, 0 => by simp [c6]
  | a :: us, i + 1 => by
    have e : c6 (a :: us) = (tvs a).toList ++ c6 us := rfl
    have e2 : c6 ((a :: us).take (i + 1)) = (tvs a).toList ++ c6 (us.take i) := rfl
    rw [e, e2, ← c6_take us i, List.take_append]
    have hl : (tvs a).toList.length = 6 := rfl
    rw [hl, List.take_of_length_le (by rw [hl]; omega)]
    congr 2
    omega
theorem c6_drop : ∀ (us : List Tv) (i : Nat), (c6 us).drop (i * 6) = c6 (us.drop i)
  | [], i => by simp [c6]
  | a :: us, 0 => by simp [c6]
  | a :: us, i + 1 => by
    have e : c6 (a :: us) = (tvs a).toList ++ c6 us := rfl
    rw [e, List.drop_succ_cons, ← c6_drop us i, List.drop_append]
    have hl : (tvs a).toList.length = 6 := rfl
    rw [hl, List.drop_of_length_le (by rw [hl]; omega), List.nil_append]
    congr 1
    omega
theorem c6_set (us : List Tv) (i : Nat) (hi : i < us.length) (u : Tv) : (c6 us).take (i * 6) ++ (tvs u).toList ++ (c6 us).drop (i * 6 + 6) = c6 (us.set i u) := by
  rw [c6_take, show i * 6 + 6 = (i + 1) * 6 by omega, c6_drop, List.set_eq_take_append_cons_drop, if_pos hi, c6_app]
  have : c6 (u :: us.drop (i + 1)) = (tvs u).toList ++ c6 (us.drop (i + 1)) := rfl
  rw [this, List.append_assoc]
theorem ints_set (xs : List Int) (i : Nat) (hi : i < xs.length) (x : Int) : (ints xs).take i ++ [Value.int .i64 x] ++ (ints xs).drop (i + 1) = ints (xs.set i x) := by
  unfold ints
  rw [List.set_eq_take_append_cons_drop, if_pos hi, List.map_append, List.map_cons, List.map_take, List.map_drop]
  simp
/-- the parts of a type, as they stand -/
theorem args_row {k : Int} {nm : ByteArray} {mu : Bool} {r : Int} {rs : List Int} {az : List Ty} {v : Tv} (x : TyAt Q h (.mk k nm mu r rs az) v) : ∃ us : List Tv, us.length = az.length ∧ RowO h v.az.a (c6 us) ∧ ∀ i (hi : i < us.length) (hi' : i < az.length), TyAt Q h az[i] us[i] := by
  obtain ⟨-, -, -, -, -, e6, e7⟩ := tyAt_iff.1 x
  have key : ∀ i, i < az.length → ∃ u : Tv, ∃ p, v.az.a = some p ∧ Tv6 h (p.add (i * 6)) u ∧ ∀ (hi : i < az.length), TyAt Q h az[i] u := by
    intro i hi
    obtain ⟨p, u, q1, q2, q3, q4⟩ := e7 i hi
    exact ⟨u, p, q1, q3, fun _ => q4⟩
  have : ∃ us : List Tv, us.length = az.length ∧ ∀ i (hi : i < us.length), ∃ p, v.az.a = some p ∧ Tv6 h (p.add (i * 6)) us[i] ∧ ∀ (hi' : i < az.length), TyAt Q h az[i] us[i] := by
    refine ⟨(List.range az.length).attach.map fun i => Classical.choose (key i.1 (by simpa using i.2)), by simp, fun j hj => ?_⟩
    simp only [List.getElem_map, List.getElem_attach, List.getElem_range]
    exact Classical.choose_spec (key j (by simpa using hj))
  obtain ⟨us, hl, hall⟩ := this
  refine ⟨us, hl, ?_, fun i hi hi' => by obtain ⟨p, _, _, h3⟩ := hall i hi; exact h3 hi'⟩
  cases ha : v.az.a with
  | none =>
    cases us with
    | nil => rfl
    | cons u us =>
      obtain ⟨p, e, _⟩ := hall 0 (by simp)
      rw [ha] at e; cases e
  | some p =>
    intro j w hw
    have hj : j < (c6 us).length := (List.getElem?_eq_some_iff.1 hw).1
    rw [c6_len] at hj
    have hi : j / 6 < us.length := by omega
    obtain ⟨q, e, T, _⟩ := hall (j / 6) hi
    rw [ha] at e
    simp only [Option.some.injEq] at e
    subst e
    have hq : j % 6 < 6 := by omega
    have ej : j = j / 6 * 6 + j % 6 := by omega
    rw [ej] at hw ⊢
    rw [c6_get us (j / 6) hi (j % 6) hq] at hw
    generalize j % 6 = m at *
    rw [← add_add]
    obtain ⟨c0, c1, c2, c3, c4, c5⟩ := T
    match m, hq with
    | 0, _ => rw [add_zero, c0]; exact hw
    | 1, _ => rw [c1]; exact hw
    | 2, _ => rw [c2]; exact hw
    | 3, _ => rw [c3]; exact hw
    | 4, _ => rw [c4]; exact hw
    | 5, _ => rw [c5]; exact hw
theorem one_c6l (us : List Tv) : ∀ u ∈ c6 us, u.oneCell' = true := by
  intro u hu
  obtain ⟨v, _, hu⟩ := List.mem_flatMap.1 hu
  exact one_c6 v u hu
theorem own_empty' (sz : Nat) (h : Heap) (B : Nat) (E : TypeId) (hB : B ≤ h.size) : Own (h.push (.cells #[] E)) B sz ⟨some ⟨h.size, 0, none⟩, 0, 0⟩ [] :=
  ⟨by simp, .inr ⟨h.size, #[], rfl, hB, blk.new h #[] E, Nat.le_refl _, by simp, by simp⟩⟩
theorem cloneI_spec {s : Sv} {xs : List Int} (x : IntsAt h s xs) (hb : xs.length ≤ 1000000) : CallsH Try.prog 21 #[.slice s.a s.n s.c] h (fun v h' => Grow h h' ∧ ∃ s' : Sv, v = .slice s'.a s'.n s'.c ∧ Own h' h.size 1 s' (ints xs)) := by
  apply F21
  unfold L21
  refine ⟨fun e => ⟨Fr.refl _ _, ⟨none, 0, 0⟩, rfl, ?_⟩, fun _ => ?_⟩
  · have : xs = [] := by
      cases xs with
      | nil => rfl
      | cons a xs =>
        obtain ⟨p, e', _⟩ := x.at_ 0 (by simp)
        rw [e'] at e; cases e
    subst this
    exact Own.nil _ _ _
  · rintro s5 h1 rfl rfl
    have f1 : Grow h (h.push (.cells #[] 3)) := Fr.push _ _ _
    have i1 := x.keep f1 fun _ _ h => h
    refine appS_own rfl (own_empty' 1 h h.size 3 (Nat.le_refl _)) (news := ints xs) (by simp [ints, x.len]) (ints_row i1) (one_ints _) (by simp) (by dsimp only; rw [x.len]; omega) (by dsimp only; rw [x.len]; omega) ?_
    intro s' h' _ o' f' _
    exact ⟨f1.trans' f' fun i hi ⟨a, ea, eb⟩ => (by simp only [Option.some.injEq] at ea; subst ea; simp only at eb; omega), s', rfl, by simpa using o'⟩
theorem cloneT_spec {s : Sv} {us : List Tv} (hn : s.n = us.length) (x : RowO h s.a (c6 us)) (hb : us.length ≤ 1000000) : CallsH Try.prog 22 #[.slice s.a s.n s.c] h (fun v h' => Grow h h' ∧ ∃ s' : Sv, v = .slice s'.a s'.n s'.c ∧ Own h' h.size 6 s' (c6 us)) := by
  apply F22
  unfold L22
  refine ⟨fun e => ⟨Fr.refl _ _, ⟨none, 0, 0⟩, rfl, ?_⟩, fun _ => ?_⟩
  · have hs : s.a = none := by simpa using e
    rw [hs] at x
    have x' : c6 us = [] := x
    have : us = [] := by
      have := congrArg List.length x'
      rw [c6_len] at this
      have h0 : us.length * 6 = 0 := this
      exact List.eq_nil_of_length_eq_zero (by omega)
    subst this
    exact Own.nil _ _ _
  · rintro s5 h1 rfl rfl
    have f1 : Grow h (h.push (.cells #[] 32)) := Fr.push _ _ _
    have x1 : RowO (h.push (.cells #[] 32)) s.a (c6 us) := by
      cases ha : s.a with
      | none => rw [ha] at x; exact x
      | some p => rw [ha] at x; exact fun j v hv => f1.clk (x j v hv) fun h => h
    refine appS_own rfl (own_empty' 6 h h.size 32 (Nat.le_refl _)) (news := c6 us) (by rw [c6_len, hn]) x1 (one_c6l _) (by simp) (by dsimp only; rw [hn]; omega) (by dsimp only; rw [hn]; omega) ?_
    intro s' h' _ o' f' _
    exact ⟨f1.trans' f' fun i hi ⟨a, ea, eb⟩ => (by simp only [Option.some.injEq] at ea; subst ea; simp only at eb; omega), s', rfl, by simpa using o'⟩
end
end Go.Proofs.Yteaidgpiolakcaa.inst

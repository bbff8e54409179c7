/-
  The plain laws of pairs that hold among sets: through a third type, both ways, with more ways.
-/
import Derived.Test.YtkgckfcekokieaaS8
namespace Go.Proofs.Ytkgckfcekokieaa
open Go Go.Lf
set_option linter.unusedVariables false

/-! ### sets -/
def subW (a b : BitVec 64) : Prop := ∀ i, i < 64 → b.getLsbD i = true → a.getLsbD i = true
theorem sub_iff (a b : Int) : (bitsI .andNot .u64 b a == 0) = true ↔ subW (BitVec.ofInt 64 a) (BitVec.ofInt 64 b) := by
  unfold bitsI
  dsimp only
  rw [beq_iff_eq, IntKind.wrap_u64]
  generalize hA : BitVec.ofInt IntKind.u64.bits a = A
  generalize hB : BitVec.ofInt IntKind.u64.bits b = B
  change BitVec 64 at A
  change BitVec 64 at B
  have hA' : BitVec.ofInt 64 a = A := hA
  have hB' : BitVec.ofInt 64 b = B := hB
  rw [hA', hB']
  have hlt := (B &&& ~~~A).isLt
  constructor
  · intro h i hi hb
    have h0 : (B &&& ~~~A) = 0#64 := by
      apply BitVec.eq_of_toNat_eq
      have : (B &&& ~~~A).toNat = 0 := by
        change (((B &&& ~~~A).toNat : Nat) : Int) % 18446744073709551616 = 0 at h
        omega
      simpa using this
    have := congrArg (fun v => v.getLsbD i) h0
    simp only [BitVec.getLsbD_and, BitVec.getLsbD_not, hb, Bool.true_and, hi, decide_true] at this
    simpa using this
  · intro h
    have h0 : (B &&& ~~~A) = 0#64 := by
      apply BitVec.eq_of_getLsbD_eq
      intro i hi
      simp only [BitVec.getLsbD_and, BitVec.getLsbD_not, hi, decide_true, Bool.true_and]
      cases hb : B.getLsbD i with
      | false => simp
      | true => simp [h i hi hb]
    change (((B &&& ~~~A).toNat : Nat) : Int) % 18446744073709551616 = 0
    rw [h0]; rfl
theorem relB_iff {bs : List Int} {x y : Int} : relB bs x y = true ↔ ∃ a b, 0 ≤ x ∧ 0 ≤ y ∧ bs[x.toNat]? = some a ∧ bs[y.toNat]? = some b ∧ subW (BitVec.ofInt 64 a) (BitVec.ofInt 64 b) := by
  unfold relB
  simp only [Bool.and_eq_true, decide_eq_true_eq]
  constructor
  · rintro ⟨⟨h1, h2⟩, h3⟩
    split at h3
    · rename_i a b e1 e2
      exact ⟨a, b, h1, h2, e1, e2, (sub_iff a b).1 h3⟩
    · cases h3
  · rintro ⟨a, b, h1, h2, e1, e2, h3⟩
    rw [e1, e2]
    exact ⟨⟨h1, h2⟩, (sub_iff a b).2 h3⟩
theorem relB_trans {bs : List Int} {x y z : Int} (h1 : relB bs x y = true) (h2 : relB bs y z = true) : relB bs x z = true := by
  obtain ⟨a, b, p1, p2, e1, e2, s1⟩ := relB_iff.1 h1
  obtain ⟨b', c, q1, q2, d1, d2, s2⟩ := relB_iff.1 h2
  rw [e2] at d1
  simp only [Option.some.injEq] at d1
  subst d1
  exact relB_iff.2 ⟨a, c, p1, q2, e1, d2, fun i hi h => s1 i hi (s2 i hi h)⟩

/-! ### ways -/
def R4 (x : Int) : Prop := x = 0 ∨ x = 1 ∨ x = 2 ∨ x = 3
theorem life_all (bs : List Int) (x y : Int) {w : Int} (hw : R4 w) : allB bs (lifeL x y w) = true ↔ ((w = 1 ∨ w = 3) → relB bs x y = true) ∧ ((w = 2 ∨ w = 3) → relB bs y x = true) := by
  unfold lifeL allB
  rcases hw with rfl | rfl | rfl | rfl
  · have h1 : (bitsI .and .i64 0 1 != 0) = false := by decide
    have h2 : (bitsI .and .i64 0 2 != 0) = false := by decide
    simp [h1, h2]
  · have h1 : (bitsI .and .i64 1 1 != 0) = true := by decide
    have h2 : (bitsI .and .i64 1 2 != 0) = false := by decide
    simp [h1, h2]
  · have h1 : (bitsI .and .i64 2 1 != 0) = false := by decide
    have h2 : (bitsI .and .i64 2 2 != 0) = true := by decide
    simp [h1, h2]
  · have h1 : (bitsI .and .i64 3 1 != 0) = true := by decide
    have h2 : (bitsI .and .i64 3 2 != 0) = true := by decide
    simp [h1, h2]
theorem allB_app (bs : List Int) (l m : List (Int × Int)) : allB bs (l ++ m) = true ↔ allB bs l = true ∧ allB bs m = true := by
  unfold allB; rw [List.all_append, Bool.and_eq_true]
def all2 (R : Int → Int → Prop) : List Int → List Int → Prop
  | [], [] => True
  | a :: l, b :: m => R a b ∧ all2 R l m
  | _, _ => False
theorem all2_app {R : Int → Int → Prop} : ∀ {l m l' m' : List Int}, all2 R l m → all2 R l' m' → all2 R (l ++ l') (m ++ m')
  | [], [], _, _, _, h => h
  | [], _ :: _, _, _, h, _ => h.elim
  | _ :: _, [], _, _, h, _ => h.elim
  | _ :: l, _ :: m, _, _, h, h' => ⟨h.1, all2_app h.2 h'⟩
theorem all2_map {R : Int → Int → Prop} {f g : Nat → Int} (l : List Nat) (h : ∀ i, R (f i) (g i)) : all2 R (l.map f) (l.map g) := by
  induction l with
  | nil => trivial
  | cons a l ih => exact ⟨h a, ih⟩
theorem ways_rel {R RI : Int → Int → Prop} (h0 : R 0 0) (hthr : ∀ o o' i i', R o o' → RI i i' → R (thr o i) (thr o' i')) (h3 : RI 3 3) {of of' : ByteArray → Nat → Int} (hof : ∀ nm i, RI (of nm i) (of' nm i)) (t : Ty) :
    ∀ w w', R w w' → all2 R (waysT of t w) (waysT of' t w') := by
  refine Ty.ind (P := fun t => ∀ w w', R w w' → all2 R (waysT of t w) (waysT of' t w')) ?_ t
  intro k nm mu r rs az ih w w' hw
  rw [waysT_mk, waysT_mk]
  refine all2_app ?_ ?_
  · split
    · split
      · exact ⟨h0, trivial⟩
      · exact ⟨hw, trivial⟩
    · split
      · exact all2_map _ fun i => hthr _ _ _ _ hw (hof nm i)
      · trivial
  · have key : ∀ (f f' : Nat → Int) (i : Nat) (bz : List Ty), (∀ i, R (f i) (f' i)) → (∀ b ∈ bz, b ∈ az) → all2 R (argsW (waysT of) f i bz) (argsW (waysT of') f' i bz) := by
      intro f f' i bz hf
      induction bz generalizing i with
      | nil => intro _; trivial
      | cons b bz ihb =>
        intro hb
        exact all2_app (ih b (hb b (by simp)) _ _ (hf i)) (ihb (i + 1) fun x hx => hb x (by simp [hx]))
    refine key _ _ 0 az (fun i => ?_) fun b h => h
    split
    · exact hthr _ _ _ _ hw (hof nm _)
    · split
      · exact hthr _ _ _ _ hw h3
      · exact hw
theorem digs_R4 (f n : Nat) : ∀ x ∈ digs f n, R4 x := by
  intro x hx
  unfold digs at hx
  obtain ⟨j, _, rfl⟩ := List.mem_map.1 hx
  have : f / 4 ^ j % 4 < 4 := Nat.mod_lt _ (by omega)
  generalize f / 4 ^ j % 4 = q at *
  unfold R4
  omega
theorem ofN_R4 (f : Nat) (nm : ByteArray) (i : Nat) : R4 (ofN f nm i) := by
  unfold ofN ofW
  cases hl : (lkL nm [(⟨#[83]⟩, digs f 8)])[i]? with
  | none => exact .inr (.inr (.inr rfl))
  | some x =>
    have hx := List.mem_of_getElem? hl
    unfold lkL at hx
    split at hx
    · exact digs_R4 f 8 x hx
    · simp [lkL] at hx
theorem thr_R4 : ∀ o i, R4 o → R4 i → R4 (thr o i) := by
  intro o i ho hi
  rcases ho with rfl | rfl | rfl | rfl <;> rcases hi with rfl | rfl | rfl | rfl <;> (unfold R4; decide)

/-! ### through a third -/
def Rs (a b : Int) : Prop := a = b ∧ R4 a
theorem zip_through (bs : List Int) : ∀ (ws xs ys zs : List Int), (∀ w ∈ ws, R4 w) → ws.length ≤ ys.length → allB bs (zipL ws xs ys) = true → allB bs (zipL ws ys zs) = true → allB bs (zipL ws xs zs) = true
  | [], _, _, _, _, _, _, _ => by simp [zipL, allB]
  | w :: ws, [], _, _, _, _, _, _ => by simp [zipL, allB]
  | w :: ws, x :: xs, _, [], _, _, _, _ => by simp [zipL, allB]
  | w :: ws, x :: xs, [], z :: zs, _, hl, _, _ => by simp at hl
  | w :: ws, x :: xs, y :: ys, z :: zs, hw, hl, h1, h2 => by
    simp only [zipL, allB_app] at h1 h2 ⊢
    have hw0 := hw w (by simp)
    refine ⟨?_, zip_through bs ws xs ys zs (fun v hv => hw v (by simp [hv])) (by simpa using hl) h1.2 h2.2⟩
    rw [life_all bs _ _ hw0] at h1 h2 ⊢
    exact ⟨fun h => relB_trans (h1.1.1 h) (h2.1.1 h), fun h => relB_trans (h2.1.2 h) (h1.1.2 h)⟩
theorem all2_R4 {l m : List Int} (h : all2 Rs l m) : ∀ w ∈ l, R4 w := by
  induction l generalizing m with
  | nil => intro w hw; cases hw
  | cons a l ih =>
    intro w hw
    cases m with
    | nil => exact h.elim
    | cons b m =>
      rcases List.mem_cons.1 hw with e | e
      · rw [e]; exact h.1.2
      · exact ih h.2 w e
theorem ways_R4 (f : Nat) (t : Ty) {w : Int} (hw : R4 w) : ∀ v ∈ waysT (ofN f) t w, R4 v :=
  all2_R4 (ways_rel (R := Rs) (RI := Rs) ⟨rfl, .inl rfl⟩ (fun o o' i i' h1 h2 => ⟨by rw [h1.1, h2.1], thr_R4 _ _ h1.2 h2.2⟩) ⟨rfl, .inr (.inr (.inr rfl))⟩ (fun nm i => ⟨rfl, ofN_R4 f nm i⟩) t w w ⟨rfl, hw⟩)
theorem through_law (bs : List Int) (f : Nat) (t : Ty) (xs ys zs : List Int) : throughOk bs f t xs ys zs := by
  intro h1 h2
  exact zip_through bs _ _ _ _ (ways_R4 f t (.inr (.inl rfl))) (by rw [waysT_len, rgs_len]; exact Nat.le_refl _) h1 h2

/-! ### both ways -/
def Rb (a b : Int) : Prop := (a = 0 ∧ b = 0) ∨ (R4 a ∧ a ≠ 0 ∧ b = 3)
theorem thr_Rb : ∀ o o' i i', Rb o o' → Rs i i' → Rb (thr o i) (thr o' i') := by
  rintro o o' i i' h ⟨rfl, hi⟩
  rcases h with ⟨rfl, rfl⟩ | ⟨ho, hn, rfl⟩
  · left; unfold thr; simp
  · rcases ho with rfl | rfl | rfl | rfl
    · exact absurd rfl hn
    all_goals (rcases hi with rfl | rfl | rfl | rfl <;> (unfold Rb R4; decide))
theorem zip_both (bs : List Int) : ∀ (ws vs xs ys : List Int), all2 Rb ws vs → ((allB bs (zipL ws xs ys) && allB bs (zipL ws ys xs)) = allB bs (zipL vs xs ys))
  | [], [], _, _, _ => by simp [zipL, allB]
  | [], _ :: _, _, _, h => h.elim
  | _ :: _, [], _, _, h => h.elim
  | w :: ws, v :: vs, [], ys, _ => by cases ys <;> simp [zipL, allB]
  | w :: ws, v :: vs, x :: xs, [], _ => by simp [zipL, allB]
  | w :: ws, v :: vs, x :: xs, y :: ys, h => by
    have ih := zip_both bs ws vs xs ys h.2
    rw [Bool.eq_iff_iff] at ih ⊢
    simp only [zipL, Bool.and_eq_true, allB_app] at ih ⊢
    have hw : R4 w := by
      rcases h.1 with ⟨e, _⟩ | ⟨e, _⟩
      · exact .inl e
      · exact e
    have hv : R4 v := by
      rcases h.1 with ⟨_, e⟩ | ⟨_, _, e⟩
      · exact .inl e
      · exact .inr (.inr (.inr e))
    rw [life_all bs _ _ hw, life_all bs _ _ hw, life_all bs _ _ hv, ← ih]
    rcases h.1 with ⟨e1, e2⟩ | ⟨e0, e1, e2⟩
    · subst e1; subst e2; simp
    · subst e2
      rcases e0 with e | e | e | e <;> subst e
      · exact absurd rfl e1
      all_goals simp
      all_goals (constructor <;> rintro ⟨⟨a, b⟩, c, d⟩ <;> simp_all)
def bothOk (bs : List Int) (f : Nat) (t : Ty) (xs ys : List Int) : Prop :=
  let L := fun (w : Int) (a b : List Int) => allB bs (zipL (waysT (ofN f) t w) (rgs a (allT t).length) (rgs b (allT t).length))
  (L 1 xs ys && L 1 ys xs) = L 3 xs ys
theorem both_law (bs : List Int) (f : Nat) (t : Ty) (xs ys : List Int) : bothOk bs f t xs ys :=
  zip_both bs _ _ _ _ (ways_rel (R := Rb) (RI := Rs) (.inl ⟨rfl, rfl⟩) thr_Rb ⟨rfl, .inr (.inr (.inr rfl))⟩ (fun nm i => ⟨rfl, ofN_R4 f nm i⟩) t 1 3 (.inr ⟨.inr (.inl rfl), by decide, rfl⟩))

/-! ### with more ways -/
def Rm (a b : Int) : Prop := R4 a ∧ R4 b ∧ (a = 0 ∨ a = b ∨ b = 3)
theorem thr_Rm : ∀ o o' i i', Rm o o' → Rm i i' → Rm (thr o i) (thr o' i') := by
  rintro o o' i i' ⟨h1, h2, h3⟩ ⟨k1, k2, k3⟩
  refine ⟨thr_R4 _ _ h1 k1, thr_R4 _ _ h2 k2, ?_⟩
  rcases h1 with rfl | rfl | rfl | rfl <;> rcases h2 with rfl | rfl | rfl | rfl <;> first | (exfalso; revert h3; decide) | skip
  all_goals (rcases k1 with rfl | rfl | rfl | rfl <;> rcases k2 with rfl | rfl | rfl | rfl <;> first | (exfalso; revert k3; decide) | decide)
theorem zip_more (bs : List Int) : ∀ (ws vs xs ys : List Int), all2 Rm ws vs → allB bs (zipL vs xs ys) = true → allB bs (zipL ws xs ys) = true
  | [], [], _, _, _, _ => by simp [zipL, allB]
  | [], _ :: _, _, _, h, _ => h.elim
  | _ :: _, [], _, _, h, _ => h.elim
  | w :: ws, v :: vs, [], ys, _, _ => by simp [zipL, allB]
  | w :: ws, v :: vs, x :: xs, [], _, _ => by simp [zipL, allB]
  | w :: ws, v :: vs, x :: xs, y :: ys, h, hh => by
    simp only [zipL, allB_app] at hh ⊢
    obtain ⟨r1, r2, r3⟩ := h.1
    refine ⟨?_, zip_more bs ws vs xs ys h.2 hh.2⟩
    have hh1 := hh.1
    rw [life_all bs _ _ r1]
    rw [life_all bs _ _ r2] at hh1
    rcases r3 with e | e | e
    · subst e; simp
    · subst e; exact hh1
    · subst e; exact ⟨fun _ => hh1.1 (.inr rfl), fun _ => hh1.2 (.inr rfl)⟩
theorem dig_or (f m j : Nat) : Rm ((f / 4 ^ j % 4 : Nat) : Int) (((f ||| m) / 4 ^ j % 4 : Nat) : Int) := by
  have e4 : 4 ^ j = 2 ^ (2 * j) := by rw [Nat.pow_mul]
  have e : (f ||| m) / 4 ^ j % 4 = (f / 4 ^ j % 4) ||| (m / 4 ^ j % 4) := by
    rw [e4, Nat.or_div_two_pow]
    exact Nat.or_mod_two_pow (n := 2)
  rw [e]
  have ha : f / 4 ^ j % 4 < 4 := Nat.mod_lt _ (by omega)
  have hc : m / 4 ^ j % 4 < 4 := Nat.mod_lt _ (by omega)
  generalize f / 4 ^ j % 4 = a at *
  generalize m / 4 ^ j % 4 = c at *
  have key : ∀ a c : Fin 4, (a.1 ||| c.1) < 4 ∧ (a.1 = 0 ∨ a.1 = (a.1 ||| c.1) ∨ (a.1 ||| c.1) = 3) := by decide
  obtain ⟨k1, k2⟩ := key ⟨a, ha⟩ ⟨c, hc⟩
  dsimp only at k1 k2
  generalize (a ||| c) = b at *
  unfold Rm R4
  omega
theorem of_or (f m : Nat) (nm : ByteArray) (i : Nat) : Rm (ofN f nm i) (ofN (f ||| m) nm i) := by
  unfold ofN ofW lkL
  split
  · unfold digs
    rw [List.getElem?_map, List.getElem?_map]
    cases hr : (List.range 8)[i]? with
    | none => exact ⟨.inr (.inr (.inr rfl)), .inr (.inr (.inr rfl)), .inr (.inl rfl)⟩
    | some j => exact dig_or f m j
  · exact ⟨.inr (.inr (.inr rfl)), .inr (.inr (.inr rfl)), .inr (.inl rfl)⟩
def waysOk (bs : List Int) (f m : Nat) (t : Ty) (xs ys : List Int) : Prop :=
  let L := fun (f : Nat) => allB bs (zipL (waysT (ofN f) t 1) (rgs xs (allT t).length) (rgs ys (allT t).length))
  L (f ||| m) = true → L f = true
theorem ways_law (bs : List Int) (f m : Nat) (t : Ty) (xs ys : List Int) : waysOk bs f m t xs ys := by
  intro h
  exact zip_more bs _ _ _ _ (ways_rel (R := Rm) (RI := Rm) ⟨.inl rfl, .inl rfl, .inl rfl⟩ thr_Rm ⟨.inr (.inr (.inr rfl)), .inr (.inr (.inr rfl)), .inr (.inl rfl)⟩ (of_or f m) t 1 1 ⟨.inr (.inl rfl), .inr (.inl rfl), .inr (.inl rfl)⟩) h
end Go.Proofs.Ytkgckfcekokieaa

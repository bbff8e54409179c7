/-
  Regions of types: own ones, all.
-/
import Derived.Test.YteaidgpiolakcaaTyA
namespace Go.Proofs.Yteaidgpiolakcaa
open Go Go.Lf
set_option linter.unusedVariables false

def ownL : Ty → List Int
  | .mk k _ _ r rs _ => if 7 ≤ k ∧ k ≤ 9 then [r] else if k = 5 then rs else []
theorem ownL_mk (k : Int) (nm : ByteArray) (mu : Bool) (r : Int) (rs : List Int) (az : List Ty) : ownL (.mk k nm mu r rs az) = if 7 ≤ k ∧ k ≤ 9 then [r] else if k = 5 then rs else [] := rfl
noncomputable def allT : Ty → List Int :=
  Ty.rec (motive_1 := fun _ => List Int) (motive_2 := fun _ => List Int) (fun k nm mu r rs az ih => ownL (.mk k nm mu r rs az) ++ ih) [] (fun _ _ a b => a ++ b)
theorem allT_rec (az : List Ty) : (Ty.rec_1 (motive_1 := fun _ => List Int) (motive_2 := fun _ => List Int) (fun k nm mu r rs az ih => ownL (.mk k nm mu r rs az) ++ ih) [] (fun _ _ a b => a ++ b) az : List Int) = az.flatMap allT := by
  induction az with
  | nil => rfl
  | cons a az ih => rw [List.flatMap_cons, ← ih]; rfl
theorem allT_mk (k : Int) (nm : ByteArray) (mu : Bool) (r : Int) (rs : List Int) (az : List Ty) : allT (.mk k nm mu r rs az) = ownL (.mk k nm mu r rs az) ++ az.flatMap allT := by
  rw [← allT_rec]; rfl
theorem ownL_len {n : Nat} {t : Ty} (h : small n t = true) : (ownL t).length ≤ 6 := by
  obtain ⟨k, nm, mu, r, rs, az⟩ := t
  obtain ⟨m, _, _, h2, _⟩ := small_mk h
  rw [ownL_mk]
  split
  · simp
  · split
    · exact h2
    · simp
theorem flat_len {f : Ty → List Int} {m : Nat} : ∀ (xs : List Ty), (∀ a ∈ xs, (f a).length ≤ m) → (xs.flatMap f).length ≤ xs.length * m
  | [], _ => by simp
  | x :: xs, H => by
    rw [List.flatMap_cons, List.length_append, List.length_cons, Nat.succ_mul]
    have := flat_len xs fun a ha => H a (by simp [ha])
    have := H x (by simp)
    omega
theorem allT_len : ∀ (n : Nat) (t : Ty), small n t = true → (allT t).length ≤ bnd n := by
  intro n
  induction n with
  | zero => intro t h; cases t; cases h
  | succ n ih =>
    intro t h
    have h0 := ownL_len h
    obtain ⟨k, nm, mu, r, rs, az⟩ := t
    obtain ⟨m, e, h1, h2, h3⟩ := small_mk h
    obtain rfl : m = n := by omega
    rw [allT_mk, List.length_append]
    have := flat_len (f := allT) az fun a ha => ih a (h3 a ha)
    have := Nat.mul_le_mul_right (bnd m) h1
    show _ ≤ 14 + 4 * bnd m
    omega
section
variable {Q : Nat → Prop} {h : Heap}
theorem ints_row {s : Sv} {xs : List Int} (x : IntsAt h s xs) : RowO h s.a (ints xs) := by
  cases ha : s.a with
  | none =>
    cases xs with
    | nil => rfl
    | cons a xs =>
      obtain ⟨p, e, _⟩ := x.at_ 0 (by simp)
      rw [ha] at e; cases e
  | some p =>
    intro j v hv
    simp only [ints, List.getElem?_map, Option.map_eq_some_iff] at hv
    obtain ⟨y, hy, rfl⟩ := hv
    obtain ⟨hj, rfl⟩ := List.getElem?_eq_some_iff.1 hy
    obtain ⟨q, e, c⟩ := x.at_ j hj
    rw [ha] at e
    simp only [Option.some.injEq] at e
    subst e
    rwa [Nat.mul_one] at c
theorem own_spec {t : Ty} {v : Tv} (hv : TyAt Q h t v) : CallsH Try.prog 12 #[.agg (tvs v)] h (fun x h' => Grow h h' ∧ ∃ s : Sv, x = .slice s.a s.n s.c ∧ IntsAt h' s (ownL t)) := by
  obtain ⟨k, nm, mu, r, rs, az⟩ := t
  obtain ⟨e1, e2, e3, e4, e5, e6, e7⟩ := tyAt_iff.1 hv
  apply F12
  unfold L12
  refine new6 (v := v) fun h1 b1 f1 z1 => ?_
  have T1 := Tv6.blk b1
  refine ⟨_, T1.1, ?_⟩
  refine ⟨fun x => x = (decide (7 ≤ k) && decide (k ≤ 9)), ⟨fun e => ⟨_, T1.1, ?_⟩, fun e => ?_⟩, ?_⟩
  · rw [e1] at e; rw [e1, e]; rfl
  · rw [e1] at e; rw [e]; rfl
  rintro _ rfl
  refine ifb_iff (q := 7 ≤ k ∧ k ≤ 9) (by simp) (fun h79 => ?_) (fun h79 => ?_)
  · refine ⟨_, T1.2.2.2.1, ?_⟩
    rw [e4]
    rintro s h2 rfl rfl
    refine ⟨f1.trans (Fr.push _ _ _), _, rfl, ?_⟩
    have : ownL (.mk k nm mu r rs az) = [r] := by rw [ownL_mk, if_pos h79]
    rw [this]
    refine ⟨rfl, fun i hi => ?_⟩
    obtain rfl : i = 0 := by simp at hi; omega
    refine ⟨_, rfl, ?_⟩
    rw [add_plain, (blk.new h1 #[Value.int .i64 r] 3).cl]
    rfl
  · refine ⟨_, T1.1, ?_⟩
    rw [e1]
    refine ifb_iff (q := k = 5) (by simp) (fun h5 => ?_) (fun h5 => ?_)
    · refine ⟨_, T1.2.2.2.2.1, f1, _, rfl, ?_⟩
      have : ownL (.mk k nm mu r rs az) = rs := by rw [ownL_mk, if_neg h79, if_pos h5]
      rw [this]
      exact (e5.fr f1 fun _ _ h => h).ints
    · refine ⟨f1, ⟨none, 0, 0⟩, rfl, ?_⟩
      have : ownL (.mk k nm mu r rs az) = [] := by rw [ownL_mk, if_neg h79, if_neg h5]
      rw [this]
      exact IntsAt.nil _ _ _
theorem own_empty (h : Heap) (B : Nat) (E : TypeId) (hB : B ≤ h.size) : Own (h.push (.cells #[] E)) B 1 ⟨some ⟨h.size, 0, none⟩, 0, 0⟩ (ints []) :=
  ⟨rfl, .inr ⟨h.size, #[], rfl, hB, blk.new h #[] E, Nat.le_refl _, rfl, rfl⟩⟩
theorem one_ints (xs : List Int) : ∀ u ∈ ints xs, u.oneCell' = true := by
  intro u hu
  simp only [ints, List.mem_map] at hu
  obtain ⟨x, _, rfl⟩ := hu
  rfl
theorem all_spec : ∀ (t : Ty) (n : Nat) (_ : n ≤ 8) (_ : small n t = true) (v : Tv) (h : Heap), TyAt Q h t v → CallsH Try.prog 6 #[.agg (tvs v)] h (fun x h' => Grow h h' ∧ ∃ s : Sv, x = .slice s.a s.n s.c ∧ Own h' h.size 1 s (ints (allT t))) := by
  intro t
  refine Ty.ind (P := fun t => ∀ (n : Nat) (_ : n ≤ 8) (_ : small n t = true) (v : Tv) (h : Heap), TyAt Q h t v → CallsH Try.prog 6 #[.agg (tvs v)] h (fun x h' => Grow h h' ∧ ∃ s : Sv, x = .slice s.a s.n s.c ∧ Own h' h.size 1 s (ints (allT t)))) ?_ t
  intro k nm mu r rs az ih n hn hsm v h hv
  have hown := ownL_len hsm
  obtain ⟨m, rfl, ha4, hr6, hall⟩ := small_mk hsm
  have hb := bnd8 hn
  have hbm : bnd (m + 1) = 14 + 4 * bnd m := rfl
  apply F6
  unfold L6
  refine new6 (v := v) fun h1 b1 f1 z1 => ?_
  rintro s5 h2 rfl rfl
  have f2 : Grow h1 (h1.push (.cells #[] 3)) := Fr.push _ _ _
  have o2 := own_empty h1 h.size 3 f1.size
  have g2 := f1.trans f2
  refine rd6 (Tv6.blk (f2.blk b1 fun h => h)) ?_
  refine cal_of (own_spec (hv.grow g2)) ?_
  rintro _ h3 ⟨f3, s3, rfl, i3⟩
  refine ⟨s3, rfl, ?_⟩
  have g3 := g2.trans f3
  have hs3 : s3.n = (ownL (.mk k nm mu r rs az)).length := i3.len
  refine appS_own rfl (o2.frame f3 fun _ _ h => h) (news := ints (ownL (.mk k nm mu r rs az))) (by simp [ints, hs3]) (ints_row i3) (one_ints _) g3.size (by dsimp only; omega) (by dsimp only; omega) ?_
  intro s8 h4 hn8 o8 f4 own8
  have g4 : Grow h h4 := g3.trans' f4 fun i hi e => by have := ((o2.frame f3 fun _ _ h => h).ge e).1; omega
  have B4 : blk h4 h.size (tvs v) := by
    refine f4.blk ((f2.trans f3).blk b1 fun h => h) fun e => ?_
    obtain ⟨a, ea, eb⟩ := e
    simp only [Option.some.injEq] at ea
    subst ea
    simp only at eb
    omega
  have own8' : ∀ b, s8.own b → h1.size ≤ b := fun b hb => by
    rcases own8 b hb with ⟨a, ea, eb⟩ | e
    · simp only [Option.some.injEq] at ea
      subst ea
      simp only at eb
      omega
    · have := (f2.trans f3).size; omega
  refine ⟨fun out i h' => ∃ j : Nat, i = j ∧ j ≤ az.length ∧ Grow h h' ∧ blk h' h.size (tvs v) ∧ (∀ b, out.own b → h1.size ≤ b) ∧ Own h' h.size 1 out (ints (ownL (.mk k nm mu r rs az) ++ (az.take j).flatMap allT)), fun _ i _ => az.length - i.toNat, ⟨0, rfl, Nat.zero_le _, g4, B4, own8', by simpa [ints] using o8⟩, ?_⟩
  rintro out _ h5 ⟨j, rfl, hj, g5, B5, ow5, o5⟩
  have T5 := Tv6.blk B5
  refine ⟨_, T5.2.2.2.2.2, ?_⟩
  have hvn := (tyAt_iff.1 hv).2.2.2.2.2.1
  refine ifb_iff (q := j < az.length) (by simp [hvn]) (fun hl => ?_) (fun hl => ?_)
  · refine ⟨_, T5.2.2.2.2.2, args_get (hv.grow g5) hl fun u hu => ?_⟩
    refine cal_of (ih _ (List.getElem_mem hl) m (by omega) (hall _ (List.getElem_mem hl)) u h5 hu) ?_
    rintro _ h6 ⟨f6, s6, rfl, o6⟩
    refine ⟨s6, rfl, ?_⟩
    have hl6 := allT_len m az[j] (hall _ (List.getElem_mem hl))
    have hn6 : s6.n = (allT az[j]).length := by have := o6.len; simp [ints] at this; omega
    have hfl := flat_len (f := allT) (m := bnd m) (az.take j) fun a ha => allT_len m a (hall a (List.mem_of_mem_take ha))
    have hfl2 : (az.take j).length * bnd m ≤ 4 * bnd m := Nat.mul_le_mul_right _ (by simp; omega)
    have hno : out.n = (ownL (.mk k nm mu r rs az) ++ (az.take j).flatMap allT).length := by have := o5.len; simp [ints] at this ⊢; omega
    rw [List.length_append] at hno
    refine appS_own rfl (o5.frame f6 fun _ _ h => h) (news := ints (allT az[j])) (by simp [ints, hn6]) o6.row (one_ints _) (by have := (g5.trans f6).size; omega) (by omega) (by omega) ?_
    intro s7 h7 _ o7 f7 own7
    rw [wrap_succ hl (by omega)]
    refine ⟨⟨j + 1, rfl, hl, (g5.trans f6).trans' f7 fun i hi e => by have := (o5.ge e).1; omega, f7.blk (f6.blk B5 fun h => h) fun e => by have := ow5 _ e; omega, fun b hb => ?_, ?_⟩, by simp; omega⟩
    · rcases own7 b hb with e | e
      · exact ow5 b e
      · have := f6.size; have := g5.size; have := B5.lt; have := (f2.trans f3).size; have := f4.size
        have : h1.size ≤ h5.size := by omega
        omega
    · rw [List.take_add_one, List.getElem?_eq_getElem hl, List.flatMap_append, ← List.append_assoc]
      simpa [ints] using o7
  · have hje : j = az.length := by omega
    subst hje
    rw [List.take_length, ← allT_mk] at o5
    exact ⟨g5, _, rfl, o5⟩

end
end Go.Proofs.Yteaidgpiolakcaa

/-
  Which regions must outlive which for a type to be one.
-/
import Derived.Test.YtohlfkomjmjheaaTyD
import Derived.Test.YtohlfkomjmjheaaLiftQ
import Derived.Test.YtohlfkomjmjheaaLiftX
namespace Go.Proofs.Ytohlfkomjmjheaa
open Go Go.Lf
set_option linter.unusedVariables false

/-- pairs of ints as cells -/
def prs (l : List (Int × Int)) : List Value := l.flatMap fun p => [.int .i64 p.1, .int .i64 p.2]
theorem prs_len (l : List (Int × Int)) : (prs l).length = l.length * 2 := by
  induction l with
  | nil => rfl
  | cons a l ih => simp only [prs, List.flatMap_cons, List.length_append, List.length_cons, List.length_nil] at ih ⊢; omega
theorem prs_app (l m : List (Int × Int)) : prs (l ++ m) = prs l ++ prs m := by simp [prs]
theorem prs_get : ∀ (l : List (Int × Int)) (i : Nat) (hi : i < l.length), (prs l)[i * 2]? = some (.int .i64 l[i].1) ∧ (prs l)[i * 2 + 1]? = some (.int .i64 l[i].2)
  | a :: l, 0, _ => ⟨rfl, rfl⟩
  | a :: l, i + 1, hi => by
    have e : prs (a :: l) = [.int .i64 a.1, .int .i64 a.2] ++ prs l := rfl
    have := prs_get l i (by simpa using hi)
    rw [e, show (i + 1) * 2 = 2 + i * 2 by omega, show 2 + i * 2 + 1 = 2 + (i * 2 + 1) by omega]
    rw [List.getElem?_append_right (by simp), List.getElem?_append_right (by simp)]
    simpa [show 2 + (i * 2 + 1) - 2 = i * 2 + 1 by omega] using this
theorem one_prs (l : List (Int × Int)) : ∀ u ∈ prs l, u.oneCell' = true := by
  intro u hu
  obtain ⟨p, _, hu⟩ := List.mem_flatMap.1 hu
  simp only [List.mem_cons, List.not_mem_nil, or_false] at hu
  rcases hu with rfl | rfl <;> rfl
/-- a slice that reads as pairs -/
structure PrQ (Q : Nat → Prop) (h : Heap) (s : Sv) (l : List (Int × Int)) : Prop where
  len : s.n = l.length
  at_ : ∀ i (hi : i < l.length), ∃ p, s.a = some p ∧ Q p.block ∧ cl h (p.add (i * 2)) = some (.int .i64 l[i].1) ∧ cl h ((p.add (i * 2)).add 1) = some (.int .i64 l[i].2)
theorem PrQ.fr {Q T : Nat → Prop} {h h' : Heap} {s : Sv} {l : List (Int × Int)} (x : PrQ Q h s l) (f : Fr T h h') (hT : ∀ b, Q b → ¬ T b) : PrQ Q h' s l :=
  ⟨x.len, fun i hi => by obtain ⟨p, e, q, c, d⟩ := x.at_ i hi; exact ⟨p, e, q, f.clk c (by rw [add_block]; exact hT _ q), f.clk d (by rw [add_block, add_block]; exact hT _ q)⟩⟩
theorem PrQ.weak {Q Q' : Nat → Prop} {h : Heap} {s : Sv} {l : List (Int × Int)} (x : PrQ Q h s l) (hq : ∀ b, Q b → b < h.size → Q' b) : PrQ Q' h s l :=
  ⟨x.len, fun i hi => by obtain ⟨p, e, q, c, d⟩ := x.at_ i hi; exact ⟨p, e, hq _ q (by rw [← add_block p (i * 2)]; exact cl_lt c), c, d⟩⟩
theorem PrQ.nil (Q : Nat → Prop) (h : Heap) (a : Option Addr) (c : Nat) : PrQ Q h ⟨a, 0, c⟩ [] := ⟨rfl, fun i hi => by simp at hi⟩
theorem own_prs {h : Heap} {B : Nat} {s : Sv} {l : List (Int × Int)} (o : Own h B 2 s (prs l)) : PrQ s.own h s l := by
  have hn : s.n = l.length := by have := o.len; rw [prs_len] at this; omega
  refine ⟨hn, fun i hi => ?_⟩
  have hr := o.row
  rcases o.mem with ⟨_, e, _⟩ | ⟨g, cur, e, _⟩
  · omega
  rw [e] at hr
  obtain ⟨c1, c2⟩ := prs_get l i hi
  refine ⟨_, e, ⟨_, e, rfl⟩, hr _ _ c1, ?_⟩
  have := hr _ _ c2
  rw [add_plain] at this
  rw [add_plain, add_plain, show 0 + i * 2 + 1 = 0 + (i * 2 + 1) by omega]
  exact this
theorem prs_row {Q : Nat → Prop} {h : Heap} {s : Sv} {l : List (Int × Int)} (x : PrQ Q h s l) : RowO h s.a (prs l) := by
  cases ha : s.a with
  | none =>
    cases l with
    | nil => rfl
    | cons a l =>
      obtain ⟨p, e, _⟩ := x.at_ 0 (by simp)
      rw [ha] at e; cases e
  | some p =>
    intro j v hv
    have hj : j < (prs l).length := (List.getElem?_eq_some_iff.1 hv).1
    rw [prs_len] at hj
    have hi : j / 2 < l.length := by omega
    obtain ⟨q, e, _, c, d⟩ := x.at_ (j / 2) hi
    rw [ha] at e
    simp only [Option.some.injEq] at e
    subst e
    obtain ⟨c1, c2⟩ := prs_get l (j / 2) hi
    rcases Nat.mod_two_eq_zero_or_one j with h0 | h0
    · have ej : j = j / 2 * 2 := by omega
      rw [ej] at hv ⊢
      rw [c1] at hv
      rw [c, hv]
    · have ej : j = j / 2 * 2 + 1 := by omega
      rw [ej] at hv ⊢
      rw [c2] at hv
      rw [add_add] at d
      rw [d, hv]
/-- nothing is there at such a slot -/
theorem slot_none {rs : List Int} {az : List Ty} {i : Int} (h0 : ¬ i = 0) (h1 : ¬ (1 ≤ i ∧ i ≤ (rs.length : Int))) (h2 : ¬ ((rs.length : Int) < i ∧ i - rs.length ≤ (az.length : Int))) :
    (if i < 0 then [] else if i = 0 then [0] else match rs[i.toNat - 1]? with
    | some x => [x]
    | none => match az[i.toNat - rs.length - 1]? with
      | some a => allT a
      | none => []) = ([] : List Int) := by
  by_cases hn : i < 0
  · rw [if_pos hn]
  · rw [if_neg hn, if_neg h0, List.getElem?_eq_none (by omega : rs.length ≤ i.toNat - 1), List.getElem?_eq_none (by omega : az.length ≤ i.toNat - rs.length - 1)]
def inI (x : Int) : Prop := -9223372036854775808 ≤ x ∧ x ≤ 9223372036854775807
def crossL (a b : List Int) : List (Int × Int) := a.flatMap fun x => b.map fun y => (x, y)
theorem crossL_snoc (a b : List Int) (x : Int) : crossL (a ++ [x]) b = crossL a b ++ b.map fun y => (x, y) := by unfold crossL; rw [List.flatMap_append]; simp
theorem crossL_len (a b : List Int) : (crossL a b).length = a.length * b.length := by
  induction a with
  | nil => simp [crossL]
  | cons x a ih => unfold crossL at ih ⊢; rw [List.flatMap_cons, List.length_append, ih, List.length_map, List.length_cons, Nat.succ_mul, Nat.add_comm]
section
variable {Q : Nat → Prop} {h : Heap}
theorem cross_spec {B : Nat} {l a b : Sv} {L : List (Int × Int)} {xs ys : List Int} (o : Own h B 2 l (prs L)) (hx : IntsQ Q h a xs) (hy : IntsQ Q h b ys) (hQ : ∀ b, Q b → ¬ l.own b) (hQl : ∀ b, Q b → b < h.size) (hB : B ≤ h.size) (hxl : xs.length ≤ 400000) (hyl : ys.length ≤ 400000) (hL : L.length + xs.length * ys.length ≤ 8000000000000) :
    CallsH Try.prog 28 #[.slice l.a l.n l.c, .slice a.a a.n a.c, .slice b.a b.n b.c] h (fun x h' => ∃ s : Sv, x = .slice s.a s.n s.c ∧ Own h' B 2 s (prs (L ++ crossL xs ys)) ∧ Fr l.own h h' ∧ ∀ b, s.own b → l.own b ∨ h.size ≤ b) := by
  apply F28
  unfold L28
  rw [hx.len]
  have hmul : ∀ j, j ≤ xs.length → j * ys.length ≤ xs.length * ys.length := fun j hj => Nat.mul_le_mul_right _ hj
  refine ⟨fun s i h' => ∃ j : Nat, i = j ∧ j ≤ xs.length ∧ Own h' B 2 s (prs (L ++ crossL (xs.take j) ys)) ∧ Fr l.own h h' ∧ (∀ b, s.own b → l.own b ∨ h.size ≤ b), fun _ i _ => xs.length - i.toNat, ⟨0, rfl, Nat.zero_le _, by simpa [crossL] using o, Fr.refl _ _, fun _ h => .inl h⟩, ?_⟩
  rintro s1 _ h1 ⟨j, rfl, hj, o1, f1, w1⟩
  refine ifb_iff (q := j < xs.length) (by simp) (fun hl => ?_) (fun hl => ?_)
  rotate_left
  · have : j = xs.length := by omega
    subst this
    rw [List.take_length] at o1
    exact ⟨s1, rfl, o1, f1, w1⟩
  refine (hx.fr f1 hQ).ints.get hl ?_
  rw [hy.len]
  have hm1 := hmul (j + 1) hl
  rw [Nat.succ_mul] at hm1
  refine ⟨fun s i h' => ∃ q : Nat, i = q ∧ q ≤ ys.length ∧ Own h' B 2 s (prs (L ++ crossL (xs.take j) ys ++ (ys.take q).map fun y => (xs[j], y))) ∧ Fr l.own h h' ∧ (∀ b, s.own b → l.own b ∨ h.size ≤ b), fun _ i _ => ys.length - i.toNat, ⟨0, rfl, Nat.zero_le _, by simpa using o1, f1, w1⟩, ?_⟩
  rintro s2 _ h2 ⟨q, rfl, hq, o2, f2, w2⟩
  refine ifb_iff (q := q < ys.length) (by simp) (fun hl2 => ?_) (fun hl2 => ?_)
  · refine (hy.fr f2 hQ).ints.get hl2 ?_
    have hn2 : s2.n = L.length + j * ys.length + q := by
      have := o2.len
      rw [prs_len, List.length_append, List.length_append, crossL_len, List.length_map, List.length_take, List.length_take, Nat.min_eq_left (by omega), Nat.min_eq_left (by omega)] at this
      omega
    have hs2 := f2.size
    refine app1 rfl o2 rfl (by simp [Value.oneCell']) (by omega) (by omega) (by omega) fun s' h4 e1 o' f' hown => ?_
    rw [wrap_succ hl2 (by omega)]
    refine ⟨⟨q + 1, rfl, hl2, ?_, f2.trans' f' fun i hi e => (w2 i e).resolve_right (by omega), fun b hb => ?_⟩, by simp; omega⟩
    · rw [List.take_succ_eq_append_getElem hl2, List.map_append, ← List.append_assoc, prs_app]
      exact o'
    · rcases hown b hb with e | e
      · exact w2 b e
      · exact .inr (by omega)
  · have hqe : q = ys.length := by omega
    subst hqe
    rw [List.take_length] at o2
    rw [wrap_succ hl (by omega)]
    refine ⟨⟨j + 1, rfl, hl, ?_, f2, w2⟩, by simp; omega⟩
    rw [List.take_succ_eq_append_getElem hl, crossL_snoc, ← List.append_assoc]
    exact o2
theorem crossR_spec {a b : Sv} {xs ys : List Int} (hx : IntsAt h a xs) (hy : IntsAt h b ys) (hxl : xs.length ≤ 400000) (hyl : ys.length ≤ 400000) (hL : xs.length * ys.length ≤ 8000000000000) :
    CallsH Try.prog 30 #[.slice a.a a.n a.c, .slice b.a b.n b.c] h (fun x h' => ∃ s : Sv, x = .slice s.a s.n s.c ∧ Own h' h.size 2 s (prs (crossL xs ys)) ∧ Grow h h') := by
  apply F30
  unfold L30
  rw [hx.len]
  have hmul : ∀ j, j ≤ xs.length → j * ys.length ≤ xs.length * ys.length := fun j hj => Nat.mul_le_mul_right _ hj
  refine ⟨fun s i h' => ∃ j : Nat, i = j ∧ j ≤ xs.length ∧ Own h' h.size 2 s (prs (crossL (xs.take j) ys)) ∧ Grow h h', fun _ i _ => xs.length - i.toNat, ⟨0, rfl, Nat.zero_le _, by simpa [crossL, prs] using Own.nil h h.size 2, Fr.refl _ _⟩, ?_⟩
  rintro s1 _ h1 ⟨j, rfl, hj, o1, f1⟩
  refine ifb_iff (q := j < xs.length) (by simp) (fun hl => ?_) (fun hl => ?_)
  rotate_left
  · have : j = xs.length := by omega
    subst this
    rw [List.take_length] at o1
    exact ⟨s1, rfl, o1, f1⟩
  rw [hy.len]
  have hm1 := hmul (j + 1) hl
  rw [Nat.succ_mul] at hm1
  refine ⟨fun s i h' => ∃ q : Nat, i = q ∧ q ≤ ys.length ∧ Own h' h.size 2 s (prs (crossL (xs.take j) ys ++ (ys.take q).map fun y => (xs[j], y))) ∧ Grow h h', fun _ i _ => ys.length - i.toNat, ⟨0, rfl, Nat.zero_le _, by simpa using o1, f1⟩, ?_⟩
  rintro s2 _ h2 ⟨q, rfl, hq, o2, f2⟩
  refine ifb_iff (q := q < ys.length) (by simp) (fun hl2 => ?_) (fun hl2 => ?_)
  · refine (hx.keep f2 fun _ _ h => h).get hl ?_
    refine (hy.keep f2 fun _ _ h => h).get hl2 ?_
    have hn2 : s2.n = j * ys.length + q := by
      have := o2.len
      rw [prs_len, List.length_append, crossL_len, List.length_map, List.length_take, List.length_take, Nat.min_eq_left (by omega), Nat.min_eq_left (by omega)] at this
      omega
    refine app1 rfl o2 rfl (by simp [Value.oneCell']) f2.size (by omega) (by omega) fun s' h4 e1 o' f' hown => ?_
    rw [wrap_succ hl2 (by omega)]
    refine ⟨⟨q + 1, rfl, hl2, ?_, f2.trans' f' fun i hi e => by have := (o2.ge e).1; omega⟩, by simp; omega⟩
    rw [List.take_succ_eq_append_getElem hl2, List.map_append, ← List.append_assoc, prs_app]
    exact o'
  · have hqe : q = ys.length := by omega
    subst hqe
    rw [List.take_length] at o2
    rw [wrap_succ hl (by omega)]
    refine ⟨⟨j + 1, rfl, hl, ?_, f2⟩, by simp; omega⟩
    rw [List.take_succ_eq_append_getElem hl, crossL_snoc]
    exact o2
/-- the regions of a struct's slot -/
noncomputable def slotL : Ty → Int → List Int
  | .mk _ _ _ _ rs az, i => if i < 0 then [] else if i = 0 then [0] else match rs[i.toNat - 1]? with
    | some x => [x]
    | none => match az[i.toNat - rs.length - 1]? with
      | some a => allT a
      | none => []
theorem slotL_mk (k : Int) (nm : ByteArray) (mu : Bool) (r : Int) (rs : List Int) (az : List Ty) (i : Int) : slotL (.mk k nm mu r rs az) i = if i < 0 then [] else if i = 0 then [0] else match rs[i.toNat - 1]? with
    | some x => [x]
    | none => match az[i.toNat - rs.length - 1]? with
      | some a => allT a
      | none => [] := rfl
theorem slot_spec {t : Ty} {n : Nat} (hn : n ≤ 8) (hsm : small n t = true) {v : Tv} (hv : TyAt Q h t v) {i : Int} (hi : inI i) :
    CallsH Try.prog 29 #[.agg (tvs v), .int .i64 i] h (fun x h' => Grow h h' ∧ ∃ s : Sv, x = .slice s.a s.n s.c ∧ IntsQ (fun b => Q b ∨ h.size ≤ b) h' s (slotL t i)) := by
  obtain ⟨k, nm, mu, r, rs, az⟩ := t
  obtain ⟨m, rfl, ha4, hr6, hall⟩ := small_mk hsm
  obtain ⟨e1, e2, e3, e4, e5, e6, e7⟩ := tyAt_iff.1 hv
  unfold inI at hi
  apply F29
  unfold L29
  rw [slotL_mk]
  refine new6 (v := v) fun h1 b1 f1 z1 => ?_
  have T1 := Tv6.blk b1
  refine ⟨_, T1.2.2.2.2.1, ?_⟩
  refine ifb_iff (q := i = 0) (by simp) (fun h0 => ?_) (fun h0 => ?_)
  · rintro s12 h2 rfl rfl
    rw [if_neg (by omega), if_pos h0]
    refine ⟨f1.trans (Fr.push _ _ _), _, rfl, rfl, fun j hj => ?_⟩
    obtain rfl : j = 0 := by simp at hj; omega
    refine ⟨_, rfl, .inr f1.size, ?_⟩
    rw [Nat.zero_mul, add_zero, (blk.new h1 _ _).cl]
    rfl
  have e5' := e5.fr f1 fun _ _ h => h
  have hlt1 := f1.size
  refine ifb_iff (q := 1 ≤ i ∧ i ≤ (rs.length : Int)) (by rw [e5.len]; simp) (fun h1' => ?_) (fun h1' => ?_)
  · refine ⟨_, T1.2.2.2.2.1, ?_⟩
    have hw : IntKind.i64.wrap (i - 1) = i - 1 := wrap64_id (by omega) (by omega)
    rw [hw, if_neg (by omega), if_neg h0]
    have hir : i.toNat - 1 < rs.length := by omega
    rw [List.getElem?_eq_getElem hir]
    dsimp only
    obtain ⟨p, ea, hq, c⟩ := e5'.at_ (i.toNat - 1) hir
    obtain ⟨p0, ea0, hq0, c0⟩ := e5'.at_ 0 (by omega)
    rw [ea] at ea0
    simp only [Option.some.injEq] at ea0
    subst ea0
    rw [Nat.zero_mul, add_zero] at c0
    have hsp := cl_spot c0
    refine ⟨by omega, by omega, ?_, ?_⟩
    · have := e5.cap; have := e5.len; omega
    rintro ⟨sa, sn, sc⟩ q1 q2 q3
    dsimp only at q1 q2 q3
    refine ⟨f1, _, rfl, by dsimp only; rw [q2]; simp only [List.length_cons, List.length_nil]; omega, fun j hj => ?_⟩
    obtain rfl : j = 0 := by simp at hj; omega
    have hci := e5.cap
    rw [e5.len] at hci
    by_cases hcc : v.rs.c = (i - 1).toNat
    · omega
    · rw [if_neg hcc, ea] at q1
      refine ⟨_, q1, .inl (by rw [add_block]; exact hq), ?_⟩
      rw [addr_add_add _ _ _ hsp]
      have : (i - 1).toNat * 1 + 0 * 1 = (i.toNat - 1) * 1 := by omega
      rw [this]
      exact c
  have hwk : ((rs.length : Nat) : Int) < i → IntKind.i64.wrap (i - ((v.rs.n : Nat) : Int)) = i - rs.length := fun hlt => by rw [e5.len, wrap64_id (by omega) (by omega)]
  refine ⟨fun x => x = (decide ((rs.length : Int) < i) && decide (i - rs.length ≤ (az.length : Int))), ⟨fun e => ⟨_, T1.2.2.2.2.2, ?_⟩, fun e => ?_⟩, ?_⟩
  · have hlt : ((rs.length : Nat) : Int) < i := by rw [e5.len] at e; simpa using e
    rw [hwk hlt]
    dsimp only
    rw [e6, decide_eq_true hlt]
    rfl
  · have hlt : ¬ ((rs.length : Nat) : Int) < i := by rw [e5.len] at e; simpa using e
    rw [decide_eq_false hlt]
    rfl
  rintro _ rfl
  refine ifb_iff (q := (rs.length : Int) < i ∧ i - rs.length ≤ (az.length : Int)) (by simp) (fun h2' => ?_) (fun h2' => ?_)
  · have hq : i.toNat - rs.length - 1 < az.length := by omega
    have hw2 : IntKind.i64.wrap (i - (rs.length : Int) - 1) = ((i.toNat - rs.length - 1 : Nat) : Int) := by rw [wrap64_id (by omega) (by omega)]; omega
    rw [hwk h2'.1, hw2, if_neg (by omega), if_neg h0, List.getElem?_eq_none (by omega : rs.length ≤ i.toNat - 1), List.getElem?_eq_getElem hq]
    dsimp only
    refine ⟨_, T1.2.2.2.2.2, args_get (hv.grow f1) hq fun u hu => ?_⟩
    refine cal_of (allP_spec az[i.toNat - rs.length - 1] m (by omega) (hall _ (List.getElem_mem hq)) u h1 hu) ?_
    rintro _ h3 ⟨f3, s, rfl, o3⟩
    exact ⟨_, rfl, f1.trans f3, _, rfl, IntsQ.of (own_ints o3) fun b hb _ => .inr (by have := (o3.ge hb).1; omega)⟩
  · rw [slot_none h0 h1' h2']
    exact ⟨f1, _, rfl, (IntsC.nil _ _).toIntsQ⟩
end
end Go.Proofs.Ytohlfkomjmjheaa

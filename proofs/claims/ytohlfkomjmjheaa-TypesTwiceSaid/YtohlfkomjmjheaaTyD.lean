/-
  Lists of ints compared; types the same with regions or without; all regions, as the program tells them.
-/
import Derived.Test.YtohlfkomjmjheaaTyC
import Derived.Test.YtohlfkomjmjheaaLiftK
namespace Go.Proofs.Ytohlfkomjmjheaa
open Go Go.Lf
set_option linter.unusedVariables false

theorem Pre.grow : Pre (fun a b : Heap => Grow a b) := ⟨fun h => Fr.refl _ h, fun _ _ _ x y => x.trans y, fun _ _ x => x.size⟩
section
variable {Q : Nat → Prop} {h : Heap}
theorem ints_law {a b : Sv} {xs ys : List Int} (hx : IntsAt h a xs) (hy : IntsAt h b ys) (hb : xs.length ≤ 4611686018427387904) : L18 a b h (fun v h' => h = h' ∧ v = .bool (xs == ys)) := by
  unfold L18
  rw [hx.len, hy.len]
  refine ifb_iff (q := xs.length ≠ ys.length) (by simp; omega) (fun hne => ⟨rfl, ?_⟩) (fun heq => ?_)
  · have : (xs == ys) = false := by
      rw [beq_eq_false_iff_ne]
      exact fun e => hne (by rw [e])
    rw [this]
  have heq : xs.length = ys.length := by omega
  refine ⟨fun i => ∃ j : Nat, i = j ∧ j ≤ xs.length ∧ xs.take j = ys.take j, fun i => xs.length - i.toNat, ⟨0, rfl, Nat.zero_le _, rfl⟩, ?_⟩
  rintro _ ⟨j, rfl, hj, hh⟩
  refine ifb_iff (q := j < xs.length) (by simp) (fun hlt => ?_) (fun hge => ?_)
  · have hlt' : j < ys.length := by omega
    obtain ⟨p, e1, c1⟩ := hx.at_ j hlt
    obtain ⟨q, e2, c2⟩ := hy.at_ j hlt'
    refine ⟨p, e1, by omega, by rw [hx.len]; omega, _, by rw [Int.toNat_natCast]; exact c1, q, e2, by omega, by rw [hy.len]; omega, _, by rw [Int.toNat_natCast]; exact c2, fun e => ⟨rfl, ?_⟩, fun e => ?_⟩
    · have : (xs == ys) = false := by
        rw [beq_eq_false_iff_ne]
        intro he
        subst he
        simp at e
      rw [this]
    · have e' : xs[j] = ys[j] := by simpa using e
      rw [wrap_succ hlt hb]
      refine ⟨⟨j + 1, rfl, hlt, ?_⟩, by simp; omega⟩
      rw [List.take_succ_eq_append_getElem hlt, List.take_succ_eq_append_getElem hlt', hh, e']
  · have : j = xs.length := by omega
    subst this
    rw [List.take_length, heq, List.take_length] at hh
    exact ⟨rfl, by rw [hh]; simp⟩
theorem Ints_spec {a b : Sv} {xs ys : List Int} (hx : IntsAt h a xs) (hy : IntsAt h b ys) (hb : xs.length ≤ 4611686018427387904) : CallsH Try.prog 18 #[.slice a.a a.n a.c, .slice b.a b.n b.c] h (fun v h' => h = h' ∧ v = .bool (xs == ys)) :=
  F18 (ints_law hx hy hb)
theorem eqInts_spec {a b : Sv} {xs ys : List Int} (hx : IntsAt h a xs) (hy : IntsAt h b ys) (hb : xs.length ≤ 4611686018427387904) : CallsH Try.prog 42 #[.slice a.a a.n a.c, .slice b.a b.n b.c] h (fun v h' => h = h' ∧ v = .bool (xs == ys)) :=
  F42 (ints_law hx hy hb)
/-- the same but for regions, as the document tells it -/
theorem sameR_spec : ∀ (a b : Ty) (n : Nat) (_ : n ≤ 100) (_ : small n a = true) (v v' : Tv) (h : Heap), TyAt Q h a v → TyAt Q h b v' → CallsH Try.prog 17 #[.agg (tvs v), .agg (tvs v')] h (fun x h' => Grow h h' ∧ x = .bool (same a b)) := by
  intro a
  refine Ty.ind (P := fun a => ∀ (b : Ty) (n : Nat) (_ : n ≤ 100) (_ : small n a = true) (v v' : Tv) (h : Heap), TyAt Q h a v → TyAt Q h b v' → CallsH Try.prog 17 #[.agg (tvs v), .agg (tvs v')] h (fun x h' => Grow h h' ∧ x = .bool (same a b))) ?_ a
  intro k nm mu r rs az ih b n hn hsm v v' h hv hv'
  obtain ⟨k', nm', mu', r', rs', az'⟩ := b
  obtain ⟨n, rfl, ha, _, hall⟩ := small_mk hsm
  obtain ⟨e1, e2, e3, e4, e5, e6, e7⟩ := tyAt_iff.1 hv
  obtain ⟨d1, d2, d3, d4, d5, d6, d7⟩ := tyAt_iff.1 hv'
  apply F17
  unfold L17
  refine new6 (v := v) fun h1 b1 f1 _ => new6 (v := v') fun h2 b2 f2 _ => ?_
  have g2 := f1.trans f2
  have B1 := f2.blk b1 (fun h => h)
  have T1 := Tv6.blk B1
  have T2 := Tv6.blk b2
  rw [same_mk]
  refine ⟨fun x h' => Grow h2 h' ∧ (x = true → (!((k != k') || (nm.toList != nm'.toList) || (mu != mu')) && ((k != 5 || rs.length == rs'.length) && sameA same az az')) = false) ∧
    (x = false → az.length = az'.length ∧ (!((k != k') || (nm.toList != nm'.toList) || (mu != mu'))) = true ∧ (k != 5 || rs.length == rs'.length) = true), ?_, ?_⟩
  · refine ⟨fun h' => Grow h2 h', Fr.refl _ _, _, T1.1, _, T2.1, ?_⟩
    rw [e1, d1]
    refine ⟨fun e => ⟨Fr.refl _ _, fun _ => by rw [e]; rfl, fun h => by cases h⟩, fun ek => ⟨_, T1.2.1, _, T2.2.1, ?_⟩⟩
    rw [e2, d2]
    refine ⟨fun e => ⟨Fr.refl _ _, fun _ => by rw [e]; simp, fun h => by cases h⟩, fun en => ⟨_, T1.2.2.1, _, T2.2.2.1, ?_⟩⟩
    rw [e3, d3]
    refine ⟨fun e => ⟨Fr.refl _ _, fun _ => by rw [e]; simp, fun h => by cases h⟩, fun em => ⟨_, fun h' hs => (Tv6.blk (hs.blk B1 fun h => h)).2.2.2.2.2, _, T2.2.2.2.2.2, ?_⟩⟩
    dsimp only
    rw [e6, d6]
    refine ⟨fun e => ⟨Fr.refl _ _, fun _ => ?_, fun h => by cases h⟩, fun el => ?_⟩
    · have hne : az.length ≠ az'.length := by simp at e; omega
      have : sameA same az az' = false := by
        rw [← Bool.not_eq_true]
        exact fun e => hne (sameA_len e)
      rw [this]; simp
    have hla : az.length = az'.length := by simp at el; omega
    refine rd6 T1 (hd6 (fun h' hs => Tv6.blk (hs.blk b2 fun h => h)) ?_)
    refine cal_of (own_spec (hv.grow g2)) ?_
    rintro _ h3 ⟨f3, s, rfl, i3⟩
    refine ⟨s, rfl, f3, ?_⟩
    refine cal_of (own_spec (hv'.grow (g2.trans f3))) ?_
    rintro _ h4 ⟨f4, s', rfl, i4⟩
    refine ⟨s', rfl, f3.trans f4, ?_⟩
    rw [i3.len, i4.len]
    have hk : k = k' := by simpa using ek
    subst hk
    have hown : ((ownL (.mk k nm mu r rs az)).length = (ownL (.mk k nm' mu' r' rs' az')).length) ↔ ((k != 5 || rs.length == rs'.length) = true) := by
      rw [ownL_mk, ownL_mk]
      by_cases h5 : k = 5
      · subst h5; simp
      · simp [h5]
        split <;> rfl
    constructor
    · intro e
      have : ¬ ((k != 5 || rs.length == rs'.length) = true) := fun h => by
        have := hown.2 h
        simp at e; omega
      rw [Bool.not_eq_true] at this
      rw [this]; simp
    · intro e
      refine ⟨hla, by rw [ek, en, em]; rfl, hown.1 (by simp at e; omega)⟩
  rintro x h3 ⟨f3, H1, H2⟩
  refine ⟨fun e => ⟨g2.trans f3, by rw [H1 e]⟩, fun e => ?_⟩
  obtain ⟨hla, H3, H4⟩ := H2 e
  rw [H3, H4, Bool.true_and, Bool.true_and]
  refine ⟨fun i h' => ∃ j : Nat, i = j ∧ j ≤ az.length ∧ Grow h2 h' ∧ ∀ q (h1 : q < az.length) (h2 : q < az'.length), q < j → same az[q] az'[q] = true, fun i _ => az.length - i.toNat, ⟨0, rfl, Nat.zero_le _, f3, fun q _ _ h => absurd h (Nat.not_lt_zero _)⟩, ?_⟩
  rintro _ h6 ⟨j, rfl, hj, f6, hh⟩
  have T1' := Tv6.blk (f6.blk B1 fun h => h)
  have T2' := Tv6.blk (f6.blk b2 fun h => h)
  have g6 := g2.trans f6
  refine ⟨_, T1'.2.2.2.2.2, ?_⟩
  dsimp only
  rw [e6]
  refine ifb_iff (q := j < az.length) (by simp) (fun hlt => ?_) (fun hge => ?_)
  · have hlt' : j < az'.length := by omega
    refine ⟨_, T1'.2.2.2.2.2, args_get (hv.grow g6) hlt fun u hu => ?_⟩
    refine ⟨_, T2'.2.2.2.2.2, args_get (hv'.grow g6) hlt' fun u' hu' => ?_⟩
    refine cal_of (ih _ (List.getElem_mem hlt) _ n (by omega) (hall _ (List.getElem_mem hlt)) u u' h6 hu hu') ?_
    rintro _ h7 ⟨f7, rfl⟩
    refine ⟨_, rfl, fun e' => ⟨g6.trans f7, ?_⟩, fun e' => ?_⟩
    · have e2 : same az[j] az'[j] = false := by simpa using e'
      have : sameA same az az' = false := by
        rw [← Bool.not_eq_true]
        intro e
        rw [(sameA_iff.1 e).2 j hlt hlt'] at e2
        cases e2
      rw [this]
    · have e2 : same az[j] az'[j] = true := by simpa using e'
      rw [wrap_succ hlt (by omega)]
      refine ⟨⟨j + 1, rfl, hlt, f6.trans f7, fun q h1 h2 hq => ?_⟩, by simp; omega⟩
      rcases Nat.lt_or_ge q j with e | e
      · exact hh q h1 h2 e
      · obtain rfl : q = j := by omega
        exact e2
  · refine ⟨g6, ?_⟩
    have : sameA same az az' = true := sameA_iff.2 ⟨hla, fun q h1 h2 => hh q h1 h2 (by omega)⟩
    rw [this]
def hasOwn : Ty → Bool
  | .mk k _ _ _ _ _ => k == 7 || k == 8 || k == 9
theorem ownB_spec {t : Ty} {v : Tv} (hv : TyAt Q h t v) : CallsH Try.prog 33 #[.agg (tvs v)] h (fun x h' => Grow h h' ∧ x = .bool (hasOwn t)) := by
  obtain ⟨k, nm, mu, r, rs, az⟩ := t
  obtain ⟨e1, e2, e3, e4, e5, e6, e7⟩ := tyAt_iff.1 hv
  apply F33
  unfold L33
  refine new6 (v := v) fun h1 b1 f1 z1 => ?_
  have T1 := Tv6.blk b1
  refine ⟨_, T1.1, ?_⟩
  rw [e1]
  refine ⟨fun x => x = (k == 7 || k == 8), ⟨fun e => by rw [e]; rfl, fun e => ⟨_, T1.1, by rw [e, e1]; rfl⟩⟩, ?_⟩
  rintro _ rfl
  refine ⟨fun x => x = (k == 7 || k == 8 || k == 9), ⟨fun e => by rw [e]; rfl, fun e => ⟨_, T1.1, by rw [e, e1]; rfl⟩⟩, ?_⟩
  rintro _ rfl
  exact ⟨f1, rfl⟩
def copies : Ty → Bool
  | .mk k _ mu _ _ _ => (decide (1 ≤ k) && decide (k ≤ 4)) || (k == 7 && !mu)
theorem copies_spec {t : Ty} {v : Tv} (hv : TyAt Q h t v) : CallsH Try.prog 25 #[.agg (tvs v)] h (fun x h' => Grow h h' ∧ x = .bool (copies t)) := by
  obtain ⟨k, nm, mu, r, rs, az⟩ := t
  obtain ⟨e1, e2, e3, e4, e5, e6, e7⟩ := tyAt_iff.1 hv
  apply F25
  unfold L25
  refine new6 (v := v) fun h1 b1 f1 z1 => ?_
  have T1 := Tv6.blk b1
  refine ⟨_, T1.1, ?_⟩
  rw [e1]
  refine ⟨fun x => x = (decide (1 ≤ k) && decide (k ≤ 4)), ⟨fun e => ⟨_, T1.1, by rw [e, e1]; rfl⟩, fun e => by rw [e]; rfl⟩, ?_⟩
  rintro _ rfl
  refine ⟨fun x => x = ((decide (1 ≤ k) && decide (k ≤ 4)) || (k == 7 && !mu)), ⟨fun e => by rw [e]; rfl, fun e => ⟨_, T1.1, ?_⟩⟩, ?_⟩
  · rw [e1]
    refine ⟨fun x => x = (k == 7 && !mu), ⟨fun e' => ⟨_, T1.2.2.1, by rw [e', e3]; rfl⟩, fun e' => by rw [e']; rfl⟩, ?_⟩
    rintro _ rfl
    rw [e]; rfl
  rintro _ rfl
  exact ⟨f1, rfl⟩
theorem ownL_has (k : Int) (nm : ByteArray) (mu : Bool) (r : Int) (rs : List Int) (az : List Ty) : ownL (.mk k nm mu r rs az) = (if hasOwn (.mk k nm mu r rs az) = true then [r] else []) ++ (if k = 5 then rs else []) := by
  rw [ownL_mk]
  unfold hasOwn
  by_cases h79 : 7 ≤ k ∧ k ≤ 9
  · rw [if_pos h79, if_neg (by omega : ¬ k = 5)]
    have : (k == 7 || k == 8 || k == 9) = true := by simp; omega
    rw [if_pos this]; rfl
  · rw [if_neg h79]
    have : ¬ ((k == 7 || k == 8 || k == 9) = true) := by simp; omega
    rw [if_neg this]; rfl
/-- all regions, as the program tells them -/
theorem allP_spec : ∀ (t : Ty) (n : Nat) (_ : n ≤ 8) (_ : small n t = true) (v : Tv) (h : Heap), TyAt Q h t v → CallsH Try.prog 26 #[.agg (tvs v)] h (fun x h' => Grow h h' ∧ ∃ s : Sv, x = .slice s.a s.n s.c ∧ Own h' h.size 1 s (ints (allT t))) := by
  intro t
  refine Ty.ind (P := fun t => ∀ (n : Nat) (_ : n ≤ 8) (_ : small n t = true) (v : Tv) (h : Heap), TyAt Q h t v → CallsH Try.prog 26 #[.agg (tvs v)] h (fun x h' => Grow h h' ∧ ∃ s : Sv, x = .slice s.a s.n s.c ∧ Own h' h.size 1 s (ints (allT t)))) ?_ t
  intro k nm mu r rs az ih n hn hsm v h hv
  have hown := ownL_len hsm
  obtain ⟨m, rfl, ha4, hr6, hall⟩ := small_mk hsm
  have hb := bnd8 hn
  have hbm : bnd (m + 1) = 14 + 4 * bnd m := rfl
  obtain ⟨e1, e2, e3, e4, e5, e6, e7⟩ := tyAt_iff.1 hv
  apply F26
  unfold L26
  refine new6 (v := v) fun h1 b1 f1 z1 => ?_
  -- what each part keeps
  have f1s := f1.size
  refine ⟨fun s h' => Grow h h' ∧ blk h' h.size (tvs v) ∧ (∀ b, s.own b → h1.size ≤ b) ∧ Own h' h.size 1 s (ints (if hasOwn (.mk k nm mu r rs az) = true then [r] else [])), ?_, ?_⟩
  · refine rd6 (Tv6.blk b1) ?_
    refine cal_of (ownB_spec (hv.grow f1)) ?_
    rintro _ h2 ⟨f2, rfl⟩
    refine ⟨_, rfl, fun e => ?_, fun e => ?_⟩
    · have B2 := f2.blk b1 (fun h => h)
      refine ⟨_, (Tv6.blk B2).2.2.2.1, ?_⟩
      have s2 := f2.size
      refine app1 rfl (Own.nil h2 h.size 1) rfl (by simp [Value.oneCell']) (by omega) (by dsimp only; omega) (by dsimp only; omega) fun s' h' e1' o' f' hown' => ?_
      have g' : Grow h2 h' := f'.mono fun _ _ ⟨a, ea, _⟩ => by cases ea
      refine ⟨(f1.trans f2).trans g', g'.blk B2 (fun h => h), fun b hb => ?_, ?_⟩
      · rcases hown' b hb with ⟨a, ea, _⟩ | e
        · cases ea
        · omega
      · rw [if_pos e]
        rw [e4] at o'
        simpa [ints] using o'
    · refine ⟨f1.trans f2, f2.blk b1 (fun h => h), fun b hb => (by obtain ⟨a, ea, _⟩ := hb; cases ea), ?_⟩
      rw [if_neg (by rw [e]; simp)]
      exact Own.nil _ _ _
  rintro l3 h5 ⟨g5, B5, w5, o5⟩
  refine ⟨fun s h' => Grow h h' ∧ blk h' h.size (tvs v) ∧ (∀ b, s.own b → h1.size ≤ b) ∧ Own h' h.size 1 s (ints (ownL (.mk k nm mu r rs az))), ?_, ?_⟩
  · refine ⟨_, (Tv6.blk B5).1, ?_⟩
    rw [e1, ownL_has]
    have hl5 : l3.n ≤ 1 := by
      have := o5.len
      simp only [ints, List.length_map, Nat.mul_one] at this
      rw [← this]
      split <;> simp
    refine ifb_iff (q := k = 5) (by simp) (fun h5' => ?_) (fun h5' => ?_)
    · refine ⟨_, (Tv6.blk B5).2.2.2.2.1, ?_⟩
      have i5 := (e5.fr g5 fun _ _ h => h).ints
      have g5s := g5.size
      refine appS_own rfl o5 (news := ints rs) (by simp [ints, i5.len]) (ints_row i5) (one_ints _) (by omega) (by rw [i5.len]; omega) (by rw [i5.len]; omega) ?_
      intro s' h' hn' o' f' own'
      refine ⟨g5.trans' f' fun i hi e => by have := w5 _ e; omega, f'.blk B5 fun e => by have := w5 _ e; omega, fun b hb => ?_, ?_⟩
      · rcases own' b hb with e | e
        · exact w5 b e
        · have := B5.lt; omega
      · rw [if_pos h5']
        simpa [ints] using o'
    · rw [if_neg h5', List.append_nil]
      exact ⟨g5, B5, w5, o5⟩
  rintro l3 h7 ⟨g7, B7, w7, o7⟩
  refine ⟨_, (Tv6.blk B7).2.2.2.2.2, ?_⟩
  refine ⟨fun out i h' => ∃ j : Nat, i = j ∧ j ≤ az.length ∧ Grow h h' ∧ blk h' h.size (tvs v) ∧ (∀ b, out.own b → h1.size ≤ b) ∧ Own h' h.size 1 out (ints (ownL (.mk k nm mu r rs az) ++ (az.take j).flatMap allT)), fun _ i _ => az.length - i.toNat, ⟨0, rfl, Nat.zero_le _, g7, B7, w7, by simpa [ints] using o7⟩, ?_⟩
  rintro out _ h8 ⟨j, rfl, hj, g8, B8, w8, o8⟩
  refine ifb_iff (q := j < az.length) (by simp [e6]) (fun hl => ?_) (fun hl => ?_)
  · refine args_get (hv.grow g8) hl fun u hu => ?_
    refine newz fun h9 b9 f9 z9 => sto6 (v := u) b9 rfl fun h10 b10 f10 => ?_
    have f10' : Grow h8 h10 := f9.trans' f10 fun i hi e => by omega
    refine rd6 (Tv6.blk b10) ?_
    refine cal_of (ih _ (List.getElem_mem hl) m (by omega) (hall _ (List.getElem_mem hl)) u h10 (hu.grow f10')) ?_
    rintro _ h11 ⟨f11, s6, rfl, o6⟩
    refine ⟨s6, rfl, ?_⟩
    have F := f10'.trans f11
    have Fs := F.size
    have hl6 := allT_len m az[j] (hall _ (List.getElem_mem hl))
    have hn6 : s6.n = (allT az[j]).length := by have := o6.len; simp [ints] at this; omega
    have hfl := flat_len (f := allT) (m := bnd m) (az.take j) fun a ha => allT_len m a (hall a (List.mem_of_mem_take ha))
    have hfl2 : (az.take j).length * bnd m ≤ 4 * bnd m := Nat.mul_le_mul_right _ (by simp; omega)
    have hno : out.n = (ownL (.mk k nm mu r rs az) ++ (az.take j).flatMap allT).length := by have := o8.len; simp [ints] at this ⊢; omega
    rw [List.length_append] at hno
    have g8s := g8.size
    refine appS_own rfl (o8.frame F fun _ _ h => h) (news := ints (allT az[j])) (by simp [ints, hn6]) o6.row (one_ints _) (by omega) (by omega) (by omega) ?_
    intro s7 h12 _ o12 f12 own12
    rw [wrap_succ hl (by omega)]
    refine ⟨⟨j + 1, rfl, hl, (g8.trans F).trans' f12 fun i hi e => by have := (o8.ge e).1; omega, f12.blk (F.blk B8 fun h => h) fun e => by have := w8 _ e; omega, fun b hb => ?_, ?_⟩, by simp; omega⟩
    · rcases own12 b hb with e | e
      · exact w8 b e
      · have := B8.lt; omega
    · rw [List.take_add_one, List.getElem?_eq_getElem hl, List.flatMap_append, ← List.append_assoc]
      simpa [ints] using o12
  · have hje : j = az.length := by omega
    subst hje
    rw [List.take_length, ← allT_mk] at o8
    exact ⟨g8, _, rfl, o8⟩
theorem allT_big {n : Nat} (hn : n ≤ 8) {t : Ty} (h : small n t = true) : (allT t).length ≤ 4611686018427387904 := by
  have h1 := allT_len n t h
  have h2 := bnd8 hn
  generalize bnd n = z at h1 h2
  omega
/-- the same with their regions, as the document tells it -/
theorem equalR_spec (a b : Ty) (n : Nat) (hn : n ≤ 8) (ha : small n a = true) (hb : small n b = true) (v v' : Tv) (h : Heap) (hv : TyAt Q h a v) (hv' : TyAt Q h b v') :
    CallsH Try.prog 20 #[.agg (tvs v), .agg (tvs v')] h (fun x h' => Grow h h' ∧ x = .bool (same a b && allT a == allT b)) := by
  apply F20
  unfold L20
  refine new6 (v := v) fun h1 b1 f1 _ => new6 (v := v') fun h2 b2 f2 _ => ?_
  have g2 := f1.trans f2
  have B1 := f2.blk b1 (fun h => h)
  refine ⟨fun x h' => Grow h2 h' ∧ x = (same a b && allT a == allT b), ?_, fun x h' H => ⟨g2.trans H.1, by rw [H.2]⟩⟩
  refine ⟨fun h' => Grow h2 h', Fr.refl _ _, rd6 (Tv6.blk B1) (rd6 (Tv6.blk b2) ?_)⟩
  refine cal_of (sameR_spec a b n (by omega) ha v v' h2 (hv.grow g2) (hv'.grow g2)) ?_
  rintro _ h3 ⟨f3, rfl⟩
  refine ⟨_, rfl, f3, fun e => ?_, fun e => ⟨f3, by rw [e]; rfl⟩⟩
  refine rd6 (Tv6.blk (f3.blk B1 fun h => h)) ⟨fun h' => Grow h3 h', fun h' H => f3.trans H, Fr.refl _ _, ?_⟩
  refine hd6 (fun h' hs => Tv6.blk ((f3.trans hs).blk b2 fun h => h)) ?_
  refine cal_of (all_spec a n hn ha v h3 (hv.grow (g2.trans f3))) ?_
  rintro _ h4 ⟨f4, s4, rfl, o4⟩
  refine ⟨s4, rfl, f4, ?_⟩
  refine cal_of (all_spec b n hn hb v' h4 (hv'.grow ((g2.trans f3).trans f4))) ?_
  rintro _ h5 ⟨f5, s5, rfl, o5⟩
  refine ⟨s5, rfl, ?_⟩
  refine cal_of (Ints_spec (own_ints (o4.frame f5 fun _ _ h => h)) (own_ints o5) (allT_big hn ha)) ?_
  rintro _ _ ⟨rfl, rfl⟩
  exact ⟨_, rfl, f3.trans (f4.trans f5), by rw [e]; rfl⟩
theorem equalP_spec (a b : Ty) (n : Nat) (hn : n ≤ 8) (ha : small n a = true) (hb : small n b = true) (v v' : Tv) (h : Heap) (hv : TyAt Q h a v) (hv' : TyAt Q h b v') :
    CallsH Try.prog 24 #[.agg (tvs v), .agg (tvs v')] h (fun x h' => Grow h h' ∧ x = .bool (same a b && allT a == allT b)) := by
  apply F24
  unfold L24
  refine new6 (v := v) fun h1 b1 f1 _ => new6 (v := v') fun h2 b2 f2 _ => ?_
  have g2 := f1.trans f2
  have B1 := f2.blk b1 (fun h => h)
  refine ⟨fun x h' => Grow h2 h' ∧ x = (same a b && allT a == allT b), ?_, fun x h' H => ⟨g2.trans H.1, by rw [H.2]⟩⟩
  refine ⟨fun h' => Grow h2 h', Fr.refl _ _, rd6 (Tv6.blk B1) (rd6 (Tv6.blk b2) ?_)⟩
  refine cal_of (same_spec a b n (by omega) ha v v' h2 (hv.grow g2) (hv'.grow g2)) ?_
  rintro _ h3 ⟨f3, rfl⟩
  refine ⟨_, rfl, f3, fun e => ?_, fun e => ⟨f3, by rw [e]; rfl⟩⟩
  refine rd6 (Tv6.blk (f3.blk B1 fun h => h)) ⟨fun h' => Grow h3 h', fun h' H => f3.trans H, Fr.refl _ _, ?_⟩
  refine hd6 (fun h' hs => Tv6.blk ((f3.trans hs).blk b2 fun h => h)) ?_
  refine cal_of (allP_spec a n hn ha v h3 (hv.grow (g2.trans f3))) ?_
  rintro _ h4 ⟨f4, s4, rfl, o4⟩
  refine ⟨s4, rfl, f4, ?_⟩
  refine cal_of (allP_spec b n hn hb v' h4 (hv'.grow ((g2.trans f3).trans f4))) ?_
  rintro _ h5 ⟨f5, s5, rfl, o5⟩
  refine ⟨s5, rfl, ?_⟩
  refine cal_of (eqInts_spec (own_ints (o4.frame f5 fun _ _ h => h)) (own_ints o5) (allT_big hn ha)) ?_
  rintro _ _ ⟨rfl, rfl⟩
  exact ⟨_, rfl, f3.trans (f4.trans f5), by rw [e]; rfl⟩
end
end Go.Proofs.Ytohlfkomjmjheaa

/-
  Values copied; are they whole; where a part stands.
-/
import Derived.Test.YtggacajnmgligaaH1
namespace Go.Proofs.Ytggacajnmgligaa
open Go Go.Lf
set_option linter.unusedVariables false

def c7 (us : List Vv) : List Value := us.flatMap fun u => (vvs u).toList
theorem c7_len (us : List Vv) : (c7 us).length = us.length * 7 := by
  induction us with
  | nil => rfl
  | cons a l ih =>
    have e : c7 (a :: l) = (vvs a).toList ++ c7 l := rfl
    rw [e, List.length_append, ih, List.length_cons]
    simp
    omega
theorem c7_app (l m : List Vv) : c7 (l ++ m) = c7 l ++ c7 m := by simp [c7]
theorem c7_get : ∀ (us : List Vv) (i : Nat) (hi : i < us.length) (q : Nat), q < 7 → (c7 us)[i * 7 + q]? = (vvs us[i])[q]?
  | a :: us, 0, _, q, hq => by
    have e : c7 (a :: us) = (vvs a).toList ++ c7 us := rfl
    rw [e, Nat.zero_mul, Nat.zero_add, List.getElem?_append_left (by simpa [vvs] using hq)]
    simp
  | a :: us, i + 1, hi, q, hq => by
    have e : c7 (a :: us) = (vvs a).toList ++ c7 us := rfl
    have := c7_get us i (by simpa using hi) q hq
    rw [e, List.getElem?_append_right (by simp; omega)]
    have e2 : (i + 1) * 7 + q - (vvs a).toList.length = i * 7 + q := by simp; omega
    rw [e2, this]
    simp
theorem own7 {h : Heap} {B : Nat} {s : Sv} {us : List Vv} (o : Own h B 7 s (c7 us)) {i : Nat} (hi : i < us.length) : ∃ p, s.a = some p ∧ s.own p.block ∧ (p.off = 0 ∧ p.spot = none ∧ ∃ cs, blk h p.block cs ∧ (i + 1) * 7 ≤ cs.size) ∧ Vv7 h (p.add (i * 7)) us[i] := by
  have hn := o.len
  rw [c7_len] at hn
  have hr := o.row
  rcases o.mem with ⟨_, e, _⟩ | ⟨g, cur, e, _, k, hc, hsz, _⟩
  · omega
  rw [e] at hr
  refine ⟨_, e, ⟨_, e, rfl⟩, ⟨rfl, rfl, cur, k, ?_⟩, fun j u hu => ?_⟩
  · rw [hsz]; exact Nat.mul_le_mul_right 7 (by omega)
  · have hj : j < 7 := (Array.getElem?_eq_some_iff.1 hu).1
    have := hr (i * 7 + j) u (by rw [c7_get us i hi j hj]; exact hu)
    rw [add_plain] at this
    rw [add_plain, add_plain, Nat.add_assoc]
    exact this
theorem c7_take : ∀ (us : List Vv) (i : Nat), (c7 us).take (i * 7) = c7 (us.take i)
  | [], i => by simp [c7]
  | a :: us, 0 => by simp [c7]
  | a :: us, i + 1 => by
    have e : c7 (a :: us) = (vvs a).toList ++ c7 us := rfl
    have e2 : c7 ((a :: us).take (i + 1)) = (vvs a).toList ++ c7 (us.take i) := rfl
    rw [e, e2, ← c7_take us i, List.take_append]
    have hl : (vvs a).toList.length = 7 := rfl
    rw [hl, List.take_of_length_le (by rw [hl]; omega)]
    congr 2
    omega
theorem c7_drop : ∀ (us : List Vv) (i : Nat), (c7 us).drop (i * 7) = c7 (us.drop i)
  | [], i => by simp [c7]
  | a :: us, 0 => by simp [c7]
  | a :: us, i + 1 => by
    have e : c7 (a :: us) = (vvs a).toList ++ c7 us := rfl
    rw [e, List.drop_succ_cons, ← c7_drop us i, List.drop_append]
    have hl : (vvs a).toList.length = 7 := rfl
    rw [hl, List.drop_of_length_le (by rw [hl]; omega), List.nil_append]
    congr 1
    omega
theorem c7_set (us : List Vv) (i : Nat) (hi : i < us.length) (u : Vv) : (c7 us).take (i * 7) ++ (vvs u).toList ++ (c7 us).drop (i * 7 + 7) = c7 (us.set i u) := by
  rw [c7_take, show i * 7 + 7 = (i + 1) * 7 by omega, c7_drop, List.set_eq_take_append_cons_drop, if_pos hi, c7_app]
  have : c7 (u :: us.drop (i + 1)) = (vvs u).toList ++ c7 (us.drop (i + 1)) := rfl
  rw [this, List.append_assoc]
theorem one_c7l (us : List Vv) : ∀ u ∈ c7 us, u.oneCell' = true := by
  intro u hu
  obtain ⟨v, _, hu⟩ := List.mem_flatMap.1 hu
  exact one_vv v u hu
theorem own_empty' (sz : Nat) (h : Heap) (B : Nat) (E : TypeId) (hB : B ≤ h.size) : Own (h.push (.cells #[] E)) B sz ⟨some ⟨h.size, 0, none⟩, 0, 0⟩ [] :=
  ⟨by simp, .inr ⟨h.size, #[], rfl, hB, blk.new h #[] E, Nat.le_refl _, by simp, by simp⟩⟩
section
variable {h : Heap}
theorem cloneV_spec {s : Sv} {us : List Vv} (hn : s.n = us.length) (x : RowO h s.a (c7 us)) (hb : us.length ≤ 1000000) : CallsH Try.prog 44 #[.slice s.a s.n s.c] h (fun v h' => Grow h h' ∧ ∃ s' : Sv, v = .slice s'.a s'.n s'.c ∧ Own h' h.size 7 s' (c7 us)) := by
  apply F44
  unfold L44
  refine ⟨fun e => ⟨Fr.refl _ _, ⟨none, 0, 0⟩, rfl, ?_⟩, fun _ => ?_⟩
  · have hs : s.a = none := by simpa using e
    rw [hs] at x
    have x' : c7 us = [] := x
    have : us = [] := by
      have := congrArg List.length x'
      rw [c7_len] at this
      have h0 : us.length * 7 = 0 := this
      exact List.eq_nil_of_length_eq_zero (by omega)
    subst this
    exact Own.nil _ _ _
  · rintro s5 h1 rfl rfl
    have f1 : Grow h (h.push (.cells #[] 33)) := Fr.push _ _ _
    have x1 : RowO (h.push (.cells #[] 33)) s.a (c7 us) := by
      cases ha : s.a with
      | none => rw [ha] at x; exact x
      | some p => rw [ha] at x; exact fun j v hv => f1.clk (x j v hv) fun h => h
    refine appS_own rfl (own_empty' 7 h h.size 33 (Nat.le_refl _)) (news := c7 us) (by rw [c7_len, hn]) x1 (one_c7l _) (by simp) (by dsimp only; rw [hn]; omega) (by dsimp only; rw [hn]; omega) ?_
    intro s' h' _ o' f' _
    exact ⟨f1.trans' f' fun i hi ⟨a, ea, eb⟩ => (by simp only [Option.some.injEq] at ea; subst ea; simp only at eb; omega), s', rfl, by simpa using o'⟩
theorem one_intsL (xs : List Int) : ∀ u ∈ ints xs, u.oneCell' = true := by
  intro u hu
  obtain ⟨x, _, rfl⟩ := List.mem_map.1 hu
  rfl
theorem ints_rowL {s : Sv} {xs : List Int} (x : IntsAt h s xs) : RowO h s.a (ints xs) := by
  cases ha : s.a with
  | none =>
    cases xs with
    | nil => rfl
    | cons a xs =>
      obtain ⟨p, e, _⟩ := x.at_ 0 (by simp)
      rw [ha] at e; cases e
  | some p =>
    intro j w hw
    unfold ints at hw
    rw [List.getElem?_map] at hw
    have hj : j < xs.length := by
      rcases Nat.lt_or_ge j xs.length with h | h
      · exact h
      · rw [List.getElem?_eq_none h] at hw; cases hw
    rw [List.getElem?_eq_getElem hj] at hw
    simp only [Option.map_some, Option.some.injEq] at hw
    obtain ⟨q, e, c⟩ := x.at_ j hj
    rw [ha] at e
    obtain rfl : p = q := by simpa using e
    rw [Nat.mul_one] at c
    rw [← hw]; exact c
theorem cloneI_spec {s : Sv} {xs : List Int} (x : IntsAt h s xs) (hb : xs.length ≤ 1000000) : CallsH Try.prog 30 #[.slice s.a s.n s.c] h (fun v h' => Grow h h' ∧ ∃ s' : Sv, v = .slice s'.a s'.n s'.c ∧ IntsC (fun b => h.size ≤ b) h' s' xs) := by
  apply F30
  unfold L30
  refine ⟨fun e => ⟨Fr.refl _ _, ⟨none, 0, 0⟩, rfl, ?_⟩, fun _ => ?_⟩
  · have : xs = [] := by
      cases xs with
      | nil => rfl
      | cons a xs =>
        obtain ⟨p, e', _⟩ := x.at_ 0 (by simp)
        rw [e'] at e; cases e
    subst this
    exact IntsC.nil _ _
  · rintro s5 h1 rfl rfl
    have f1 : Grow h (h.push (.cells #[] 3)) := Fr.push _ _ _
    have i1 := x.keep f1 fun _ _ h => h
    refine appS_own rfl (own_empty' 1 h h.size 3 (Nat.le_refl _)) (news := ints xs) (by simp [ints, x.len]) (ints_rowL i1) (one_intsL _) (by simp) (by dsimp only; rw [x.len]; omega) (by dsimp only; rw [x.len]; omega) ?_
    intro s' h' _ o' f' _
    have o2 : Own h' h.size 1 s' (ints xs) := by simpa using o'
    exact ⟨f1.trans' f' fun i hi ⟨a, ea, eb⟩ => (by simp only [Option.some.injEq] at ea; subst ea; simp only at eb; omega), s', rfl, IntsQ.of (own_ints o2) fun b hb _ => (o2.ge hb).1, own_cap o2⟩
/-- the parts, as they stand -/
theorem parts_row {o : Bool} {Q : Nat → Prop} {A : List Nat → Nat → Prop} {k n : Int} {nm : ByteArray} {ts : List Vl} {al : Int} {pa : List Int} {tg : Int} {v : Vv} (x : VAt o Q h (.mk k n nm ts al pa tg) A v) :
    ∃ us : List Vv, us.length = ts.length ∧ RowO h v.ps.a (c7 us) ∧ ∀ i (hi : i < us.length) (hi' : i < ts.length), VAt o Q h ts[i] (shA A i) us[i] := by
  obtain ⟨-, -, -, -, -, -, e7, e8⟩ := vAt_iff.1 x
  have : Inhabited Vv := ⟨zVv⟩
  have key : ∀ i, i < ts.length → ∃ u : Vv, ∃ p, v.ps.a = some p ∧ Vv7 h (p.add (i * 7)) u ∧ ∀ (hi : i < ts.length), VAt o Q h ts[i] (shA A i) u := by
    intro i hi
    obtain ⟨p, u, q1, q2, q3, q4, q5⟩ := e8 i hi
    exact ⟨u, p, q1, q4, fun _ => q5⟩
  obtain ⟨f, hf⟩ := Go.Deep.choose_lt (α := Vv) key
  refine ⟨(List.range ts.length).map f, by simp, ?_, fun i hi hi' => by
    obtain ⟨p, _, _, h3⟩ := hf i hi'
    simpa using h3 hi'⟩
  cases ha : v.ps.a with
  | none =>
    cases hz : ts.length with
    | zero => simp [RowO, c7]
    | succ m =>
      obtain ⟨p, e, _⟩ := hf 0 (by omega)
      rw [ha] at e; cases e
  | some p =>
    intro j w hw
    have hj : j < (c7 ((List.range ts.length).map f)).length := (List.getElem?_eq_some_iff.1 hw).1
    rw [c7_len] at hj
    simp only [List.length_map, List.length_range] at hj
    have hi : j / 7 < ts.length := by omega
    obtain ⟨q, e, T, _⟩ := hf (j / 7) hi
    rw [ha] at e
    obtain rfl : p = q := by simpa using e
    have ej : j = j / 7 * 7 + j % 7 := by omega
    rw [ej] at hw ⊢
    rw [c7_get _ (j / 7) (by simpa using hi) (j % 7) (by omega)] at hw
    simp only [List.getElem_map, List.getElem_range] at hw
    have := T _ _ hw
    rw [add_add] at this
    exact this
/-- made anew, each block with its own place in the tree -/
def Fresh (h h' : Heap) (t : Vl) (v : Vv) : Prop := ∃ lab : Nat → Option (List Nat), (∀ b, b < h.size ∨ h'.size ≤ b → lab b = none) ∧ VAt true (fun b => h.size ≤ b ∧ lab b = none) h' t (fun σ b => lab b = some σ) v
/-- not wide anywhere -/
def smallV : Nat → Vl → Bool
  | 0, _ => false
  | d + 1, .mk k n nm ts al pa tg => decide (ts.length ≤ 5) && decide (nm.size ≤ 60) && decide (pa.length ≤ 6) && ts.all (smallV d)
/-- few parts anywhere -/
def few : Vl → Prop := Vl.rec (motive_1 := fun _ => Prop) (motive_2 := fun _ => Prop) (fun _ _ _ ts _ pa _ ih => ts.length ≤ 1000000 ∧ pa.length ≤ 1000000 ∧ ih) True (fun _ _ a b => a ∧ b)
theorem few_mk {k n : Int} {nm : ByteArray} {ts : List Vl} {al : Int} {pa : List Int} {tg : Int} : few (.mk k n nm ts al pa tg) ↔ ts.length ≤ 1000000 ∧ pa.length ≤ 1000000 ∧ ∀ a ∈ ts, few a := by
  have e : ∀ ts : List Vl, (Vl.rec_1 (motive_1 := fun _ => Prop) (motive_2 := fun _ => Prop) (fun _ _ _ ts _ pa _ ih => ts.length ≤ 1000000 ∧ pa.length ≤ 1000000 ∧ ih) True (fun _ _ a b => a ∧ b) ts : Prop) ↔ ∀ a ∈ ts, few a := by
    intro ts
    induction ts with
    | nil => simp
    | cons a ts ih =>
      constructor
      · rintro ⟨h1, h2⟩ b hb
        rcases List.mem_cons.1 hb with rfl | hb
        · exact h1
        · exact ih.1 h2 b hb
      · intro H
        exact ⟨H a (by simp), ih.2 fun b hb => H b (by simp [hb])⟩
  constructor
  · rintro ⟨h1, h2, h3⟩
    exact ⟨h1, h2, (e ts).1 h3⟩
  · rintro ⟨h1, h2, h3⟩
    exact ⟨h1, h2, (e ts).2 h3⟩
theorem clone_spec (t : Vl) : ∀ (o : Bool) (Q : Nat → Prop) (A : List Nat → Nat → Prop) (v : Vv) (h : Heap), few t → VAt o Q h t A v →
    CallsH Try.prog 27 #[.agg (vvs v)] h (fun x h' => Grow h h' ∧ ∃ v', x = .agg (vvs v') ∧ Fresh h h' t v') := by
  refine Vl.ind (P := fun t => ∀ (o : Bool) (Q : Nat → Prop) (A : List Nat → Nat → Prop) (v : Vv) (h : Heap), few t → VAt o Q h t A v →
    CallsH Try.prog 27 #[.agg (vvs v)] h (fun x h' => Grow h h' ∧ ∃ v', x = .agg (vvs v') ∧ Fresh h h' t v')) ?_ t
  intro k n nm ts al pa tg ih o Q A v h hfew hv
  obtain ⟨hf1, hf2, hf3⟩ := few_mk.1 hfew
  obtain ⟨e1, e2, e3, e4, e5, e6, e7, e8⟩ := vAt_iff.1 hv
  apply F27
  unfold L27
  refine newV (v := v) fun h1 b1 f1 z1 => newV (v := zVv) fun h2 b2 f2 z2 => ?_
  have g2 := f1.trans f2
  have B1 := f2.blk b1 fun h => h
  refine ldS_i (s := v.ps) (Vv7.blk B1 3 _ rfl) ?_
  obtain ⟨us, hul, hrow, hparts⟩ := parts_row (hv.grow g2)
  refine cal_of (cloneV_spec (by omega) hrow (by omega)) ?_
  rintro _ h3 ⟨f3, s7, rfl, o7⟩
  refine ⟨s7, rfl, ?_⟩
  have B13 := f3.blk B1 fun h => h
  have B23 := f3.blk b2 fun h => h
  have s3 := f3.size
  rw [add_plain]
  refine sto_i B13 (by simp) ?_
  have B14 : blk (sc h3 ⟨h.size, 0 + 3, none⟩ (.slice s7.a s7.n s7.c)) h.size (vvs { v with ps := s7 }) := B13.sc 3 (.slice s7.a s7.n s7.c)
  have f4 : Fr (fun b => b = h.size) h3 (sc h3 ⟨h.size, 0 + 3, none⟩ (.slice s7.a s7.n s7.c)) := Fr.scb _ _ _ _
  have z4 : (sc h3 ⟨h.size, 0 + 3, none⟩ (.slice s7.a s7.n s7.c)).size = h3.size := sc_size _ _ _
  generalize sc h3 ⟨h.size, 0 + 3, none⟩ (.slice s7.a s7.n s7.c) = h4 at *
  have B24 := f4.blk B23 (by omega)
  have g4 : Grow h h4 := (g2.trans f3).trans' f4 fun i hi e => by omega
  have o4 := o7.frame f4 fun b hb e => by have := (o7.ge hb).1; omega
  have hn7 : s7.n = us.length := by have := o7.len; rw [c7_len] at this; omega
  refine ldS_i (s := s7) (by rw [B14.cl]; rfl) ?_
  refine ⟨fun i h' => ∃ (j : Nat) (ws : List Vv) (lab : Nat → Option (List Nat)), i = j ∧ j ≤ us.length ∧ ws.length = us.length ∧ Grow h h' ∧ h4.size ≤ h'.size ∧ blk h' h.size (vvs { v with ps := s7 }) ∧ blk h' h1.size (vvs zVv) ∧ Own h' h2.size 7 s7 (c7 ws) ∧
      (∀ q (h1 : q < ws.length) (h2 : q < us.length), j ≤ q → ws[q] = us[q]) ∧ (∀ b, b < h4.size ∨ h'.size ≤ b → lab b = none) ∧
      (∀ q (h1 : q < ws.length) (h2 : q < ts.length), q < j → VAt true (fun b => h4.size ≤ b ∧ lab b = none) h' ts[q] (fun σ b => lab b = some (q :: σ)) ws[q]),
    fun i _ => us.length - i.toNat, ⟨0, us, fun _ => none, rfl, Nat.zero_le _, rfl, g4, Nat.le_refl _, B14, B24, o4, fun _ _ _ _ => rfl, fun _ _ => rfl, fun q _ _ h => absurd h (Nat.not_lt_zero _)⟩, ?_⟩
  rintro _ h5 ⟨j, ws, lab, rfl, hj, hwl, g5, z5, c1, c2, o5, hsame, hlab, hdone⟩
  refine ifb_iff (q := j < us.length) (by rw [hn7]; simp) (fun hlt => ?_) (fun hge => ?_)
  · have hltw : j < ws.length := by omega
    have hltt : j < ts.length := by omega
    obtain ⟨p, ea, op, ⟨po, ps, cs, kcs, hcs⟩, T⟩ := own7 o5 hltw
    have hwu := hsame j hltw hlt (Nat.le_refl _)
    rw [hwu] at T
    refine ⟨p, ea, by omega, by rw [hn7]; omega, ?_⟩
    rw [Int.toNat_natCast]
    refine rd7 T ?_
    refine mineV (v := us[j]) fun h7 b7 f7 => ?_
    have s7' := f7.size
    have C1 := f7.blk c1 fun h => h
    refine ⟨fun h' => blk h' h.size (vvs { v with ps := s7 }), C1, ?_⟩
    refine rd7 (Vv7.blk b7) ⟨s7, fun h' hs => by rw [hs.cl]; rfl, ?_⟩
    have hvj : VAt o Q h7 ts[j] (shA A j) us[j] := by
      have h0 := hparts j hlt hltt
      obtain ⟨p0, u0, q1, q2, q3, q4, q5⟩ := e8 j hltt
      have hrow0 := hrow
      rw [q1] at hrow0
      -- the parts lie where they lay
      have hu0 : us[j] = u0 := by
        have hc : ∀ m (hm : m < 7), (vvs us[j])[m]? = (vvs u0)[m]? := fun m hm => by
          have r1 := hrow0 (j * 7 + m) _ (by rw [c7_get us j hlt m hm]; exact Array.getElem?_eq_getElem (by simpa using hm))
          have r2 := (q4.fr g2 fun h => h) m _ (Array.getElem?_eq_getElem (show m < (vvs u0).size by simpa using hm))
          rw [add_add] at r2
          rw [r1] at r2
          rw [Array.getElem?_eq_getElem (show m < (vvs us[j]).size by simpa using hm), Array.getElem?_eq_getElem (show m < (vvs u0).size by simpa using hm)]
          exact r2
        have z0 := hc 0 (by omega)
        have z1 := hc 1 (by omega)
        have z2 := hc 2 (by omega)
        have z3 := hc 3 (by omega)
        have z4 := hc 4 (by omega)
        have z5 := hc 5 (by omega)
        have z6 := hc 6 (by omega)
        simp at z0 z1 z2 z3 z4 z5 z6
        generalize us[j] = a at *
        obtain ⟨a1, a2, a3, ⟨a4, a5, a6⟩, a7, ⟨a8, a9, a10⟩, a11⟩ := a
        obtain ⟨c1, c2, c3, ⟨c4, c5, c6⟩, c7, ⟨c8, c9, c10⟩, c11⟩ := u0
        simp only at z0 z1 z2 z3 z4 z5 z6
        obtain ⟨rfl, rfl, rfl⟩ := z3
        obtain ⟨rfl, rfl, rfl⟩ := z5
        subst z0 z1 z2 z4 z6
        rfl
      rw [hu0]
      exact (q5.grow g5).grow f7
    refine cal_of (ih ts[j] (List.getElem_mem hltt) o Q (shA A j) us[j] h7 (hf3 _ (List.getElem_mem hltt)) hvj) ?_
    rintro _ h8 ⟨f8, w, rfl, labc, hlc1, hlc2⟩
    have C8 := f8.blk C1 fun h => h
    refine ⟨_, _, _, w.ps, _, w.pa, _, rfl, C8, ?_⟩
    have o8 := (o5.frame f7 fun _ _ h => h).frame f8 fun _ _ h => h
    refine ⟨p, ea, by omega, by rw [hn7]; omega, ?_⟩
    refine own_stoA o8 (by omega) (vs := (vvs w).toList) rfl (one_vv w) ea fun h9 o9 f9 => ?_
    rw [c7_set ws j hltw w] at o9
    have hown : ∀ b, s7.own b → h2.size ≤ b ∧ b < h3.size := fun b hb => o7.ge hb
    have s9 := f9.size
    have s8 := f8.size
    rw [wrap_succ hlt (by omega)]
    refine ⟨⟨j + 1, ws.set j w, fun b => if b < h7.size then lab b else (labc b).map (j :: ·), rfl, hlt, by rw [List.length_set]; exact hwl, ((g5.trans f7).trans f8).trans' f9 fun i hi e => by have := (hown i e).1; have := g2.size; omega, by omega,
      f9.blk C8 fun e => by have := (hown _ e).1; omega, f9.blk ((f7.trans f8).blk c2 fun h => h) (fun e => by have := (hown _ e).1; omega), o9, fun q q1 q2 hq => ?_, fun b hb => ?_, fun q q1 q2 hq => ?_⟩, by dsimp only; omega⟩
    · rw [List.getElem_set_ne (by omega)]
      exact hsame q (by simpa using q1) q2 (by omega)
    · show (if b < h7.size then lab b else (labc b).map (j :: ·)) = none
      by_cases hb7 : b < h7.size
      · rw [if_pos hb7]; exact hlab b (by omega)
      · rw [if_neg hb7, hlc1 b (by omega)]; rfl
    · have hno : ∀ b, h4.size ≤ b → ¬ s7.own b := fun b hb e => by have := (hown _ e).2; omega
      by_cases hqj : q = j
      · subst hqj
        rw [List.getElem_set_self]
        refine (hlc2.fr f9 (fun b hb e => hno b (by omega) e) fun σ b hb e => ?_).weak (fun b hb _ => ⟨by omega, ?_⟩) (fun h => h) fun σ b hb _ => ?_
        · refine hno b ?_ e
          have : ¬ b < h7.size := fun hl => by rw [hlc1 b (.inl hl)] at hb; cases hb
          omega
        · have : ¬ b < h7.size := fun hl => by rw [hlc1 b (.inl hl)] at hb; cases hb
          show (if b < h7.size then lab b else (labc b).map (q :: ·)) = some (q :: σ)
          rw [if_neg this, hb]; rfl
        · have : ¬ b < h7.size := by omega
          show (if b < h7.size then lab b else (labc b).map (q :: ·)) = none
          rw [if_neg this, hb.2]; rfl
      · rw [List.getElem_set_ne (fun e => hqj e.symm)]
        have hd := hdone q (by simpa using q1) q2 (by omega)
        have hd5 : VAt true (fun b => (h4.size ≤ b ∧ lab b = none) ∧ b < h5.size) h5 ts[q] (fun σ b => lab b = some (q :: σ) ∧ b < h5.size) ws[q] := hd.weak (fun b hb hl => ⟨hb, hl⟩) (fun h => h) fun σ b hb hl => ⟨hb, hl⟩
        refine (((hd5.grow f7).grow f8).fr f9 (fun b hb e => hno b hb.1.1 e) fun σ b hb e => ?_).weak (fun b hb _ => ⟨hb.1.1, ?_⟩) (fun h => h) fun σ b hb _ => ?_
        · refine hno b ?_ e
          rcases Nat.lt_or_ge b h4.size with hl | hl
          · rw [hlab b (.inl hl)] at hb; cases hb.1
          · exact hl
        · show (if b < h7.size then lab b else (labc b).map (j :: ·)) = some (q :: σ)
          rw [if_pos (by have := hb.2; omega)]; exact hb.1
        · show (if b < h7.size then lab b else (labc b).map (j :: ·)) = none
          rw [if_pos (by have := hb.2; omega)]; exact hb.1.2
  · -- its path
    obtain rfl : j = us.length := by omega
    have e65 := e6.fr g5 fun _ _ h => h
    refine ldS_i (s := v.pa) (by rw [add_plain, add_plain, c1.cl]; rfl) ?_
    refine cal_of (cloneI_spec e65.ints hf2) ?_
    rintro _ h10 ⟨f10, sp, rfl, ip⟩
    refine ⟨sp, rfl, ?_⟩
    have C1 := f10.blk c1 fun h => h
    have C2 := f10.blk c2 fun h => h
    rw [add_plain, add_plain]
    refine sto_i C1 (by simp) ?_
    have C11 : blk (sc h10 ⟨h.size, 0 + 4 + 1, none⟩ (.slice sp.a sp.n sp.c)) h.size (vvs { v with ps := s7, pa := sp }) := C1.sc 5 (.slice sp.a sp.n sp.c)
    have f11 : Fr (fun b => b = h.size) h10 (sc h10 ⟨h.size, 0 + 4 + 1, none⟩ (.slice sp.a sp.n sp.c)) := Fr.scb _ _ _ _
    have z11 : (sc h10 ⟨h.size, 0 + 4 + 1, none⟩ (.slice sp.a sp.n sp.c)).size = h10.size := sc_size _ _ _
    generalize sc h10 ⟨h.size, 0 + 4 + 1, none⟩ (.slice sp.a sp.n sp.c) = h11 at *
    refine rd7 (Vv7.blk C11) ?_
    refine stoV (v := { v with ps := s7, pa := sp }) (f11.blk C2 (by omega)) rfl fun h12 b12 f12 => rd7 (Vv7.blk b12) ?_
    have s10 := f10.size
    have s12 := f12.size
    refine ⟨(((g5.trans f10).trans' f11 fun i hi e => by omega)).trans' f12 fun i hi e => by omega, _, rfl, ?_⟩
    have hown : ∀ b, s7.own b → h2.size ≤ b ∧ b < h3.size := fun b hb => o7.ge hb
    refine ⟨fun b => if h4.size ≤ b ∧ b < h5.size then lab b else if s7.a.map (·.block) = some b ∧ b < h3.size ∧ h2.size ≤ b then some [] else none, fun b hb => ?_, ?_⟩
    · show (if h4.size ≤ b ∧ b < h5.size then lab b else if s7.a.map (·.block) = some b ∧ b < h3.size ∧ h2.size ≤ b then some [] else none) = none
      by_cases q : h4.size ≤ b ∧ b < h5.size
      · omega
      · rw [if_neg q, if_neg (by have := g2.size; omega)]
    · refine vAt_iff.2 ⟨e1, e2, e3, e4, e5, ?_, by show s7.n = _; omega, fun q hq => ?_⟩
      · refine ((ip.fr f11 fun b hb e => by omega).fr f12 fun b hb e => by omega).weak fun b hb _ => ⟨by omega, ?_⟩
        have hnot : ¬ (h4.size ≤ b ∧ b < h5.size) := by omega
        show (if h4.size ≤ b ∧ b < h5.size then lab b else if s7.a.map (·.block) = some b ∧ b < h3.size ∧ h2.size ≤ b then some [] else none) = none
        rw [if_neg hnot, if_neg (by omega)]
      · have hqw : q < ws.length := by omega
        obtain ⟨p, ea, op, ⟨po, psp, cs, kcs, hcs⟩, T⟩ := own7 o5 hqw
        have hob := hown _ op
        have hd := hdone q hqw hq (by omega)
        have hd5 : VAt true (fun b => (h4.size ≤ b ∧ lab b = none) ∧ b < h5.size) h5 ts[q] (fun σ b => lab b = some (q :: σ) ∧ b < h5.size) ws[q] := hd.weak (fun b hb hl => ⟨hb, hl⟩) (fun h => h) fun σ b hb hl => ⟨hb, hl⟩
        have n1 : ¬ p.block = h.size := by omega
        have n2 : ¬ p.block = h1.size := by omega
        refine ⟨p, ws[q], ea, ?_, fun _ => ⟨po, psp, cs, f12.blk (f11.blk (f10.blk kcs fun h => h) n1) n2, hcs⟩, (((T.fr f10 fun h => h).fr f11 (by rw [add_block]; exact n1)).fr f12 (by rw [add_block]; exact n2)), ?_⟩
        · show (if h4.size ≤ p.block ∧ p.block < h5.size then lab p.block else if s7.a.map (·.block) = some p.block ∧ p.block < h3.size ∧ h2.size ≤ p.block then some [] else none) = some []
          have hnot : ¬ (h4.size ≤ p.block ∧ p.block < h5.size) := by omega
          rw [if_neg hnot, if_pos ⟨by rw [ea]; rfl, hob.2, hob.1⟩]
        · have hbig : ∀ σ b, lab b = some (q :: σ) → h4.size ≤ b := fun σ b hb => by
            rcases Nat.lt_or_ge b h4.size with hl | hl
            · rw [hlab b (.inl hl)] at hb; cases hb
            · exact hl
          refine ((((hd5.grow f10).fr f11 (fun b hb e => by omega) fun σ b hb e => by have := hbig σ b hb.1; omega)).fr f12 (fun b hb e => by omega) fun σ b hb e => by have := hbig σ b hb.1; omega).weak (fun b hb _ => ⟨by omega, ?_⟩) (fun h => h) fun σ b hb _ => ?_
          · show (if h4.size ≤ b ∧ b < h5.size then lab b else _) = some (q :: σ)
            rw [if_pos ⟨hbig σ b hb.1, hb.2⟩]; exact hb.1
          · show (if h4.size ≤ b ∧ b < h5.size then lab b else _) = none
            rw [if_pos ⟨hb.1.1, hb.2⟩]; exact hb.1.2
end
end Go.Proofs.Ytggacajnmgligaa

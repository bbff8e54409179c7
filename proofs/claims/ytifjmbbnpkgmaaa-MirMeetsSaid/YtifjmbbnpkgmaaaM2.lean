/-
  What is owned of a place; numbers compared.
-/
import Derived.Test.YtifjmbbnpkgmaaaM1
namespace Go.Proofs.Ytifjmbbnpkgmaaa
open Go Go.Lf
set_option linter.unusedVariables false

def Cut (xs : List Int) (m : Nat) : Prop := m ≤ xs.length ∧ (∀ q (hq : q < xs.length), q < m → xs[q] ≠ -1) ∧ ∀ (hm : m < xs.length), xs[m] = -1
theorem Cut.one {xs : List Int} {m m' : Nat} (h : Cut xs m) (h' : Cut xs m') : m = m' := by
  obtain ⟨a, b, c⟩ := h
  obtain ⟨a', b', c'⟩ := h'
  rcases Nat.lt_trichotomy m m' with h | h | h
  · exact absurd (c (by omega)) (b' m (by omega) h)
  · exact h
  · exact absurd (c' (by omega)) (b m' (by omega) h)
section
variable {h : Heap}
theorem idx_spec {s : Sv} {xs : List Int} (x : PAt h s xs) : CallsH Try.prog 30 #[.slice s.a s.n s.c, .int .i64 (-1)] h (fun v h' => h = h' ∧ ∃ i : Int, v = .int .i64 i ∧ ((i = -1 ∧ Cut xs xs.length) ∨ ∃ j : Nat, i = j ∧ Cut xs j)) := by
  apply F30
  unfold L30
  have hn := x.ints.len
  have hf := x.few
  refine ⟨fun i => ∃ j : Nat, i = j ∧ j ≤ xs.length ∧ ∀ q (hq : q < xs.length), q < j → xs[q] ≠ -1, fun i => xs.length - i.toNat, ⟨0, rfl, Nat.zero_le _, fun q _ h => absurd h (Nat.not_lt_zero _)⟩, ?_⟩
  rintro _ ⟨j, rfl, hj, hall⟩
  refine ifb_iff (q := j < xs.length) (by rw [hn]; simp) (fun hl => ?_) (fun hl => ?_)
  · obtain ⟨p, e, c⟩ := x.ints.at_ j hl
    refine ⟨p, e, by omega, by rw [hn]; omega, _, by rw [Int.toNat_natCast]; exact c, fun he => ⟨rfl, j, rfl, .inr ⟨j, rfl, hj, hall, fun _ => ?_⟩⟩, fun he => ⟨⟨j + 1, wrap_succ hl (by omega), hl, fun q hq hqj => ?_⟩, ?_⟩⟩
    · have : -1 = xs[j] := by simpa using he
      exact this.symm
    · rcases Nat.lt_or_ge q j with h1 | h1
      · exact hall q hq h1
      · obtain rfl : q = j := by omega
        intro e2
        rw [e2] at he
        simp at he
    · rw [wrap_succ hl (by omega)]; simp; omega
  · have : j = xs.length := by omega
    subst this
    exact ⟨rfl, -1, rfl, .inl ⟨rfl, hj, hall, fun h => absurd h (Nat.lt_irrefl _)⟩⟩
theorem own_emptyI (h : Heap) (B : Nat) (E : TypeId) (hB : B ≤ h.size) : Own (h.push (.cells #[] E)) B 1 ⟨some ⟨h.size, 0, none⟩, 0, 0⟩ (ints []) :=
  ⟨by simp [ints], .inr ⟨h.size, #[], rfl, hB, blk.new h #[] E, Nat.le_refl _, by simp, by simp [ints]⟩⟩
theorem one_intsL (xs : List Int) : ∀ u ∈ ints xs, u.oneCell' = true := by
  intro u hu
  obtain ⟨x, _, rfl⟩ := List.mem_map.1 hu
  rfl
theorem ints_rowL {s : Sv} {xs : List Int} (x : IntsAt h s xs) : RowO h s.a (ints xs) := by
  cases ha : s.a with
  | none =>
    cases xs with
    | nil => rfl
    | cons a xs =>
      obtain ⟨p, e, _⟩ := x.at_ 0 (by simp)
      rw [ha] at e; cases e
  | some p =>
    intro j w hw
    unfold ints at hw
    rw [List.getElem?_map] at hw
    have hj : j < xs.length := by
      rcases Nat.lt_or_ge j xs.length with h | h
      · exact h
      · rw [List.getElem?_eq_none h] at hw; cases hw
    rw [List.getElem?_eq_getElem hj] at hw
    simp only [Option.map_some, Option.some.injEq] at hw
    obtain ⟨q, e, c⟩ := x.at_ j hj
    rw [ha] at e
    obtain rfl : p = q := by simpa using e
    rw [Nat.mul_one] at c
    rw [← hw]; exact c
theorem clone_spec {s : Sv} {xs : List Int} (x : IntsAt h s xs) (hb : xs.length ≤ 1000000) : CallsH Try.prog 31 #[.slice s.a s.n s.c] h (fun v h' => Grow h h' ∧ ∃ s' : Sv, v = .slice s'.a s'.n s'.c ∧ PAt h' s' xs ∧ ∀ b, s'.own b → h.size ≤ b) := by
  apply F31
  unfold L31
  refine ⟨fun e => ⟨Fr.refl _ _, ⟨none, 0, 0⟩, rfl, ?_⟩, fun _ => ?_⟩
  · have : xs = [] := by
      cases xs with
      | nil => rfl
      | cons a xs =>
        obtain ⟨p, e', _⟩ := x.at_ 0 (by simp)
        rw [e'] at e; cases e
    subst this
    exact ⟨PAt.nil _, fun b ⟨a, e, _⟩ => by cases e⟩
  · rintro s5 h1 rfl rfl
    have f1 : Grow h (h.push (.cells #[] 3)) := Fr.push _ _ _
    have i1 := x.keep f1 fun _ _ h => h
    refine appS_own rfl (own_emptyI h h.size 3 (Nat.le_refl _)) (news := ints xs) (by simp [ints, x.len]) (ints_rowL i1) (one_intsL _) (by simp) (by dsimp only; rw [x.len]; omega) (by dsimp only; rw [x.len]; omega) ?_
    intro s' h' _ o' f' _
    have o2 : Own h' h.size 1 s' (ints xs) := by simpa [ints] using o'
    refine ⟨f1.trans' f' fun i hi ⟨a, ea, eb⟩ => (by simp only [Option.some.injEq] at ea; subst ea; simp only at eb; omega), s', rfl, ⟨own_ints o2, ?_, hb⟩, fun b hb => (o2.ge hb).1⟩
    rcases o2.mem with ⟨_, e1, e2⟩ | ⟨g, cur, _, _, _, e, _⟩ <;> omega
theorem own_spec {s : Sv} {xs : List Int} (p : Int) (x : PAt h s xs) : CallsH Try.prog 16 #[.agg (plc p s)] h (fun v h' => Grow h h' ∧ ∃ (s' : Sv) (m : Nat), v = .agg (plc p s') ∧ Cut xs m ∧ PAt h' s' (xs.take m)) := by
  apply F16
  unfold L16
  have hn := x.ints.len
  refine newP fun h1 b1 f1 z1 => newP fun h2 b2 f2 z2 => ?_
  have g2 := f1.trans f2
  have B1 := f2.blk b1 fun h => h
  refine ldS_i (s := s) (by rw [add_plain, B1.cl]; rfl) ?_
  refine cal_of (idx_spec (x.grow g2)) ?_
  rintro _ _ ⟨rfl, i, rfl, hi⟩
  refine ⟨_, rfl, ?_⟩
  refine ⟨fun i => ∃ m : Nat, i = m ∧ Cut xs m, ?_, ?_⟩
  · rcases hi with ⟨rfl, hc⟩ | ⟨j, rfl, hc⟩
    · refine ⟨fun _ => ldS_i (s := s) (by rw [add_plain, B1.cl]; rfl) ⟨xs.length, by rw [hn], hc⟩, fun e => (by cases e)⟩
    · refine ⟨fun e => ?_, fun _ => ⟨j, rfl, hc⟩⟩
      have := of_decide_eq_true e
      omega
  rintro _ ⟨m, rfl, hc⟩
  refine ⟨fun h' => Grow h2 h', Fr.refl _ _, ldS_i (s := s) (by rw [add_plain, B1.cl]; rfl) ⟨p, fun h' hs => by rw [(hs.blk B1 fun h => h).cl]; rfl, ?_⟩⟩
  refine slS_head (m := m) (by have := hc.1; have := x.cap; omega) ⟨Fr.refl _ _, ?_⟩
  refine cal_of (clone_spec (s := ⟨s.a, m, s.c⟩) ((x.grow g2).head hc.1) (by have := x.few; simp; omega)) ?_
  rintro _ h4 ⟨f4, s', rfl, x4, own4⟩
  refine ⟨_, rfl, f4, ?_⟩
  have B4 := f4.blk b2 fun h => h
  refine stoP B4 rfl fun h5 b5 f5 => rdP b5 ?_
  refine ⟨(g2.trans f4).trans' f5 fun i hi e => by have := f1.size; omega, s', m, rfl, hc, x4.ints.frame f5 fun b hb e => ?_, x4.cap, x4.few⟩
  have := own4 b hb
  omega
theorem refOwn_spec {s : Sv} {xs : List Int} (p : Int) (x : PAt h s xs) : CallsH Try.prog 20 #[.agg (plc p s)] h (fun v h' => Grow h h' ∧ ∃ (s' : Sv) (m : Nat), v = .agg (plc p s') ∧ Cut xs m ∧ PAt h' s' (xs.take m)) := by
  apply F20
  unfold L20
  have hn := x.ints.len
  have hf := x.few
  refine newP fun h1 b1 f1 z1 => newP fun h2 b2 f2 z2 => ?_
  have B1 := f2.blk b1 fun h => h
  refine ldI_i (x := p) (by rw [B1.cl]; rfl) ?_
  refine newP fun h3 b3 f3 z3 => stoP b3 rfl fun h4 b4 f4 => ?_
  have g4 : Grow h h4 := ((f1.trans f2).trans f3).trans' f4 fun i hi e => by omega
  have s4 := f4.size
  have B14 := f4.blk ((f2.trans f3).blk b1 fun h => h) (by omega)
  have B24 := f4.blk (f3.blk b2 fun h => h) (by omega)
  refine ⟨fun i h' => ∃ (j : Nat) (so : Sv), i = j ∧ j ≤ xs.length ∧ (∀ q (hq : q < xs.length), q < j → xs[q] ≠ -1) ∧ Grow h h' ∧ h4.size ≤ h'.size ∧ blk h' h.size (plc p s) ∧ blk h' h1.size (plc 0 ⟨none, 0, 0⟩) ∧ blk h' h2.size (plc p so) ∧ Own h' h4.size 1 so (ints (xs.take j)),
    fun i _ => xs.length - i.toNat, ⟨0, ⟨none, 0, 0⟩, rfl, Nat.zero_le _, fun q _ h => absurd h (Nat.not_lt_zero _), g4, Nat.le_refl _, B14, B24, b4, Own.nil _ _ _⟩, ?_⟩
  rintro _ h5 ⟨j, so, rfl, hj, hall, g5, z5, c1, c2, c3, o5⟩
  refine ldS_i (s := s) (by rw [add_plain, c1.cl]; rfl) ?_
  have x5 := (x.grow g5).ints
  refine ⟨fun b => b = true ↔ ∃ hl : j < xs.length, xs[j] ≠ -1, ⟨fun e => ?_, fun e => ?_⟩, ?_⟩
  · have hl : j < xs.length := by rw [hn] at e; have := of_decide_eq_true e; omega
    obtain ⟨q, e1, d1⟩ := x5.at_ j hl
    refine ldS_i (s := s) (by rw [add_plain, c1.cl]; rfl) ⟨q, e1, by omega, by rw [hn]; omega, _, by rw [Int.toNat_natCast]; exact d1, ?_⟩
    simp [hl]
  · have hl : ¬ j < xs.length := by rw [hn] at e; have := of_decide_eq_false e; omega
    simp [hl]
  rintro b hb
  refine ⟨fun e => ?_, fun e => ?_⟩
  · obtain ⟨hl, hne⟩ := hb.1 e
    obtain ⟨q, e1, d1⟩ := x5.at_ j hl
    refine ldS_i (s := so) (by rw [add_plain, c3.cl]; rfl) (ldS_i (s := s) (by rw [add_plain, c1.cl]; rfl) ⟨q, e1, by omega, by rw [hn]; omega, _, by rw [Int.toNat_natCast]; exact d1, ?_⟩)
    have hso : so.n = j := by have := o5.len; simp [ints] at this; omega
    refine app1 rfl o5 rfl (by simp [Value.oneCell']) z5 (by omega) (by omega) fun s' h7 e7 o7 f7 own7 => ?_
    have n1 : ∀ b, b < h4.size → ¬ so.own b := fun b hb e => by have := (o5.ge e).1; omega
    have C1 := f7.blk c1 (n1 _ (by omega))
    have C2 := f7.blk c2 (n1 _ (by omega))
    have C3 := f7.blk c3 (n1 _ (by omega))
    have s7 := f7.size
    rw [add_plain]
    refine sto_i C3 (by simp) ?_
    have C8 : blk (sc h7 ⟨h2.size, 0 + 1, none⟩ (.slice s'.a s'.n s'.c)) h2.size (plc p s') := C3.sc 1 (.slice s'.a s'.n s'.c)
    have f8 : Fr (fun b => b = h2.size) h7 (sc h7 ⟨h2.size, 0 + 1, none⟩ (.slice s'.a s'.n s'.c)) := Fr.scb _ _ _ _
    have s8 : (sc h7 ⟨h2.size, 0 + 1, none⟩ (.slice s'.a s'.n s'.c)).size = h7.size := sc_size _ _ _
    generalize sc h7 ⟨h2.size, 0 + 1, none⟩ (.slice s'.a s'.n s'.c) = h8 at *
    rw [wrap_succ hl (by omega)]
    refine ⟨⟨j + 1, s', rfl, hl, fun q hq hqj => ?_, (g5.trans' f7 fun i hi e => n1 i (by omega) e).trans' f8 fun i hi e => by omega, by omega, f8.blk C1 (by omega), f8.blk C2 (by omega), C8, ?_⟩, by dsimp only; omega⟩
    · rcases Nat.lt_or_ge q j with h1 | h1
      · exact hall q hq h1
      · obtain rfl : q = j := by omega
        exact hne
    · have := o7.frame f8 fun b hb e => by have := (o7.ge hb).1; omega
      rw [List.take_succ_eq_append_getElem hl]
      have e : ints (xs.take j ++ [xs[j]]) = ints (xs.take j) ++ #[Value.int .i64 xs[j]].toList := by unfold ints; rw [List.map_append]; rfl
      rw [e]; exact this
  · have hno : ¬ ∃ hl : j < xs.length, xs[j] ≠ -1 := fun h => by rw [hb.2 h] at e; cases e
    have hc : Cut xs j := ⟨hj, hall, fun hm => Classical.byContradiction fun h => hno ⟨hm, h⟩⟩
    refine rdP c3 ?_
    refine stoP c2 rfl fun h9 b9 f9 => rdP b9 ⟨g5.trans' f9 fun i hi e => by omega, so, j, rfl, hc, ?_, ?_, ?_⟩
    · exact (own_ints o5).frame f9 fun b hb e => by have := (o5.ge hb).1; omega
    · rcases o5.mem with ⟨_, e1, e2⟩ | ⟨g, cur, _, _, _, e, _⟩ <;> omega
    · simp; omega
end
end Go.Proofs.Ytifjmbbnpkgmaaa

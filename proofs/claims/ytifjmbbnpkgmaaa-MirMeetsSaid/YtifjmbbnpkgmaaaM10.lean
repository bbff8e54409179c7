/-
  MirMeets walked.
-/
import Derived.Test.YtifjmbbnpkgmaaaM9
namespace Go.Proofs.Ytifjmbbnpkgmaaa
open Go Go.Lf
set_option linter.unusedVariables false

section
variable {h : Heap}
/-- a path behind another one, made anew -/
theorem chain {h0 h : Heap} {B : Nat} {s : Sv} {zs : List Int} (o : Own h B 1 s (ints zs)) (hB : B ≤ h.size) {t : Sv} {us : List Int} (x : IntsAt h t us) (hl : zs.length + us.length ≤ 1000) {K : Sv → Heap → Prop}
    (k : ∀ s' h', Own h' B 1 s' (ints (zs ++ us)) → Fr s.own h h' → (∀ b, s'.own b → s.own b ∨ h.size ≤ b) → K s' h') : appS 3 (Value.int .i64 0).cells 1 8 h s t K := by
  have hn : s.n = zs.length := by have := o.len; simp [ints] at this; omega
  refine appS_own rfl o (news := ints us) (by simp [ints, x.len]) (ints_rowL x) (one_intsL _) hB (by rw [hn, x.len]; omega) (by rw [hn, x.len]; omega) ?_
  intro s' h' _ o' f' own'
  exact k s' h' (by rw [show ints (zs ++ us) = ints zs ++ ints us by simp [ints]]; exact o') f' own'
/-- what a region that makes a longer path leaves -/
def MadeP (h : Heap) (a : Int) (zs : List Int) (p : Addr) (h' : Heap) : Prop := Grow h h' ∧ ∃ (b : Nat) (s : Sv), p = ⟨b, 0, none⟩ ∧ blk h' b (plc a s) ∧ PAt h' s zs
theorem finP {h0 h : Heap} {b : Nat} {s : Sv} {zs : List Int} (a : Int) (g : Grow h0 h) (hb : h0.size ≤ b) (B : blk h b (plc 0 ⟨none, 0, 0⟩)) (o : Own h h0.size 1 s (ints zs)) (hne : ¬ s.own b) (hl : zs.length ≤ 1000) {K : Heap → Prop} (k : ∀ h', MadeP h0 a zs ⟨b, 0, none⟩ h' → K h') :
    stoA h ⟨b, 0, none⟩ [.int .i64 a, .slice s.a s.n s.c] K := by
  refine stoP B rfl fun h' b' f' => k h' ⟨g.trans' f' fun i hi e => by omega, b, s, rfl, b', ?_⟩
  refine ⟨(own_ints o).frame f' fun q hq e => hne (e ▸ hq), ?_, by omega⟩
  rcases o.mem with ⟨_, e1, e2⟩ | ⟨g, cur, _, _, _, e, _⟩ <;> omega
/-- the region: four orders -/
theorem regionP {h : Heap} {b : Nat} {a : Int} {s x : Sv} {xs us : List Int} (B : blk h b (plc a s)) (hs : IntsAt h s xs) (hx : IntsAt h x us) (hl : xs.length + us.length ≤ 1000) {J : Addr → Heap → Prop} (hJ : ∀ p h', MadeP h a (xs ++ us) p h' → J p h') :
    ∃ Sq : Heap → Prop, Sq h ∧ (
        hlI .i64 Sq ⟨b, 0, none⟩ fun x37 =>
        hlS Sq ((⟨b, 0, none⟩ : Addr).add 1) fun x40 =>
        (
          newS 3 #[] 0 h fun s38 h13 =>
          Sq h13 ∧
          (
            appS 3 (Value.int .i64 0).cells 1 8 h13 s38 x40 fun s41 h14 =>
            Sq h14 ∧
            (
              appS 3 (Value.int .i64 0).cells 1 8 h14 s41 x fun s43 h15 =>
              Sq h15 ∧
              new 24 (plc 0 ⟨none, 0, 0⟩) h15 fun p7 h16 =>
              Sq h16 ∧
              stoA h16 p7 [.int .i64 x37, .slice s43.a s43.n s43.c] fun h17 =>
              J p7 h17) ∧ (
              new 24 (plc 0 ⟨none, 0, 0⟩) h14 fun p7_1 h18 =>
              Sq h18 ∧
              appS 3 (Value.int .i64 0).cells 1 8 h18 s41 x fun s43_1 h19 =>
              Sq h19 ∧
              stoA h19 p7_1 [.int .i64 x37, .slice s43_1.a s43_1.n s43_1.c] fun h20 =>
              J p7_1 h20)) ∧ (
            new 24 (plc 0 ⟨none, 0, 0⟩) h13 fun p7_2 h21 =>
            Sq h21 ∧
            appS 3 (Value.int .i64 0).cells 1 8 h21 s38 x40 fun s41_1 h22 =>
            Sq h22 ∧
            appS 3 (Value.int .i64 0).cells 1 8 h22 s41_1 x fun s43_2 h23 =>
            Sq h23 ∧
            stoA h23 p7_2 [.int .i64 x37, .slice s43_2.a s43_2.n s43_2.c] fun h24 =>
            J p7_2 h24)) ∧ (
          new 24 (plc 0 ⟨none, 0, 0⟩) h fun p7_3 h25 =>
          Sq h25 ∧
          newS 3 #[] 0 h25 fun s38_1 h26 =>
          Sq h26 ∧
          appS 3 (Value.int .i64 0).cells 1 8 h26 s38_1 x40 fun s41_2 h27 =>
          Sq h27 ∧
          appS 3 (Value.int .i64 0).cells 1 8 h27 s41_2 x fun s43_3 h28 =>
          Sq h28 ∧
          stoA h28 p7_3 [.int .i64 x37, .slice s43_3.a s43_3.n s43_3.c] fun h29 =>
          J p7_3 h29)) := by
  refine ⟨fun h' => Grow h h', Fr.refl _ _, a, fun h' g => by rw [(g.blk B fun h => h).cl]; rfl, s, fun h' g => by rw [add_plain, (g.blk B fun h => h).cl]; rfl, ?_, ?_⟩
  · rintro s38 h13 rfl rfl
    have f13 : Grow h (h.push (.cells #[] 3)) := Fr.push _ _ _
    have o13 := own_emptyI h h.size 3 (Nat.le_refl _)
    have z13 : (h.push (.cells #[] 3)).size = h.size + 1 := by simp
    have w13 : ∀ b, (⟨some ⟨h.size, 0, none⟩, 0, 0⟩ : Sv).own b → b = h.size := fun b ⟨a, e, eb⟩ => by simp only [Option.some.injEq] at e; subst e; exact eb.symm
    generalize h.push (.cells #[] 3) = h13 at *
    refine ⟨f13, ?_, ?_⟩
    · refine chain (h0 := h) o13 (by omega) (hs.keep f13 fun _ _ h => h) (by simp; omega) fun s41 h14 o14 f14 own14 => ?_
      rw [List.nil_append] at o14
      have g14 : Grow h h14 := f13.trans' f14 fun i hi e => by have := w13 i e; omega
      have s14 := f14.size
      refine ⟨g14, ?_, ?_⟩
      · refine chain (h0 := h) o14 (by omega) (hx.keep g14 fun _ _ h => h) hl fun s43 h15 o15 f15 own15 => ?_
        have g15 : Grow h h15 := g14.trans' f15 fun i hi e => by have := (o14.ge e).1; omega
        have s15 := f15.size
        refine ⟨g15, newP fun h16 b16 f16 z16 => ⟨g15.trans f16, ?_⟩⟩
        exact finP a (g15.trans f16) (by omega) b16 (o15.frame f16 fun _ _ h => h) (fun e => by have := (o15.ge e).2; omega) (by simp; omega) fun h' m => hJ _ _ m
      · refine newP fun h18 b18 f18 z18 => ⟨g14.trans f18, ?_⟩
        have o18 := o14.frame f18 fun _ _ h => h
        refine chain (h0 := h) o18 (by omega) (hx.keep (g14.trans f18) fun _ _ h => h) hl fun s43 h19 o19 f19 own19 => ?_
        have g19 : Grow h h19 := (g14.trans f18).trans' f19 fun i hi e => by have := (o14.ge e).1; omega
        have n18 : ¬ s41.own h14.size := fun e => by have := (o14.ge e).2; omega
        refine ⟨g19, finP a g19 (by omega) (f19.blk b18 n18) o19 (fun e => (own19 _ e).elim n18 fun q => by omega) (by simp; omega) fun h' m => hJ _ _ m⟩
    · refine newP fun h21 b21 f21 z21 => ⟨f13.trans f21, ?_⟩
      have n21 : ¬ (⟨some ⟨h.size, 0, none⟩, 0, 0⟩ : Sv).own h13.size := fun e => by have := w13 _ e; omega
      refine chain (h0 := h) (o13.frame f21 fun _ _ h => h) (by omega) (hs.keep (f13.trans f21) fun _ _ h => h) (by simp; omega) fun s41 h22 o22 f22 own22 => ?_
      rw [List.nil_append] at o22
      have g22 : Grow h h22 := (f13.trans f21).trans' f22 fun i hi e => by have := w13 i e; omega
      have n22 : ¬ s41.own h13.size := fun e => (own22 _ e).elim n21 fun q => by omega
      have s22 := f22.size
      refine ⟨g22, ?_⟩
      refine chain (h0 := h) o22 (by omega) (hx.keep g22 fun _ _ h => h) hl fun s43 h23 o23 f23 own23 => ?_
      have g23 : Grow h h23 := g22.trans' f23 fun i hi e => by have := (o22.ge e).1; omega
      refine ⟨g23, finP a g23 (by omega) (f23.blk (f22.blk b21 n21) n22) o23 (fun e => (own23 _ e).elim n22 fun q => by omega) (by simp; omega) fun h' m => hJ _ _ m⟩
  · refine newP fun h25 b25 f25 z25 => ⟨f25, ?_⟩
    rintro s38 h26 rfl rfl
    have f26 : Grow h25 (h25.push (.cells #[] 3)) := Fr.push _ _ _
    have o26 := own_emptyI h25 h.size 3 (by omega)
    have z26 : (h25.push (.cells #[] 3)).size = h25.size + 1 := by simp
    have w26 : ∀ b, (⟨some ⟨h25.size, 0, none⟩, 0, 0⟩ : Sv).own b → b = h25.size := fun b ⟨a, e, eb⟩ => by simp only [Option.some.injEq] at e; subst e; exact eb.symm
    generalize h25.push (.cells #[] 3) = h26 at *
    have g26 := f25.trans f26
    have n26 : ¬ (⟨some ⟨h25.size, 0, none⟩, 0, 0⟩ : Sv).own h.size := fun e => by have := w26 _ e; omega
    refine ⟨g26, ?_⟩
    refine chain (h0 := h) o26 (by omega) (hs.keep g26 fun _ _ h => h) (by simp; omega) fun s41 h27 o27 f27 own27 => ?_
    rw [List.nil_append] at o27
    have g27 : Grow h h27 := g26.trans' f27 fun i hi e => by have := w26 i e; omega
    have n27 : ¬ s41.own h.size := fun e => (own27 _ e).elim n26 fun q => by omega
    have s27 := f27.size
    refine ⟨g27, ?_⟩
    refine chain (h0 := h) o27 (by omega) (hx.keep g27 fun _ _ h => h) hl fun s43 h28 o28 f28 own28 => ?_
    have g28 : Grow h h28 := g27.trans' f28 fun i hi e => by have := (o27.ge e).1; omega
    refine ⟨g28, finP a g28 (Nat.le_refl _) (f28.blk (f27.blk (f26.blk b25 fun h => h) n26) n27) o28 (fun e => (own28 _ e).elim n27 fun q => by omega) (by simp; omega) fun h' m => hJ _ _ m⟩
end
end Go.Proofs.Ytifjmbbnpkgmaaa

/-
  sub.Pairs (ty/S4, under a name of its own).
-/
import Derived.Test.YteaidgpiolakcaaP3
namespace Go.Proofs.Yteaidgpiolakcaa.pairs
open Go Go.Lf Go.Proofs.Yteaidgpiolakcaa
set_option linter.unusedVariables false

theorem bnd8 {n : Nat} (h : n ≤ 8) : bnd n ≤ 305830 := by
  have : ∀ n, n ≤ 8 → bnd n ≤ 305830 := by decide
  exact this n h
section
variable {Q : Nat → Prop} {h : Heap}
theorem pairs_spec {w : Option Nat} {ws : List (ByteArray × List Int)} (a b : Ty) (n : Nat) (hn : n ≤ 8) (hsm : small n a = true) (v v' : Tv) (h : Heap) (hv : TyAt (fun b => b < h.size) h a v) (hv' : TyAt (fun b => b < h.size) h b v') (hw : WaysAt (fun b => b < h.size) h w ws) :
    CallsH Try.prog 9 #[.map w, .agg (tvs v), .agg (tvs v')] h (fun x h' => Grow h h' ∧ ((same a b = true ∧ ∃ s : Sv, x = .tuple #[.slice s.a s.n s.c, .bool true] ∧ Own h' h.size 2 s (prs (seeL (ofW ws) a 1 b))) ∨ (same a b = false ∧ x = .tuple #[.slice none 0 0, .bool false]))) := by
  apply F9
  unfold L9
  refine new6 (v := v) fun h1 b1 f1 _ => new6 (v := v') fun h2 b2 f2 z2 => ?_
  have g2 : Grow h h2 := f1.trans f2
  have B1 := f2.blk b1 (fun h => h)
  refine rd6 (Tv6.blk B1) (rd6 (Tv6.blk b2) ?_)
  refine cal_of (same_spec a b n (by omega) hsm v v' h2 (hv.grow g2) (hv'.grow g2)) ?_
  rintro _ h3 ⟨f3, rfl⟩
  refine ⟨_, rfl, fun e => ⟨g2.trans f3, .inr ⟨by simpa using e, rfl⟩⟩, fun e => ?_⟩
  have hs : same a b = true := by simpa using e
  have g3 := g2.trans f3
  rintro p15 h4 rfl rfl
  have f4 : Grow h3 (h3.push (.cells #[Value.map w, Value.slice (⟨none, 0, 0⟩ : Sv).a (⟨none, 0, 0⟩ : Sv).n (⟨none, 0, 0⟩ : Sv).c] 57)) := Fr.push _ _ _
  have b4 := blk.new h3 #[Value.map w, Value.slice (⟨none, 0, 0⟩ : Sv).a (⟨none, 0, 0⟩ : Sv).n (⟨none, 0, 0⟩ : Sv).c] 57
  have g4 := g3.trans f4
  refine rd6 (Tv6.blk ((f3.trans f4).blk B1 (fun h => h))) (rd6 (Tv6.blk ((f3.trans f4).blk b2 (fun h => h))) ?_)
  have hQ : ∀ b, b < h.size → b < h.size → b < h3.size := fun b h1 _ => by have := g3.size; omega
  have hb := bnd8 hn
  refine cal_of (see_spec (B := h3.size + 1) (pb := h3.size) (w := w) (ws := ws) a b n hsm hs v v' _ ⟨none, 0, 0⟩ [] 1 ((hv.weak hQ).grow g4) ((hv'.weak hQ).grow g4) ((hw.weak hQ).fr g4 fun _ _ h => h) ⟨b4, Own.nil _ _ _, by omega, by simp⟩ (by simp; omega)) ?_
  rintro _ h5 ⟨s5, p5, f5, o5⟩
  have g5 : Grow h h5 := g4.trans' f5 fun i hi e => by
    have := g3.size
    rcases e with e | ⟨a, e, _⟩
    · omega
    · cases e
  refine ⟨s5, by rw [add_plain, p5.box.cl]; rfl, g5, .inl ⟨hs, s5, rfl, ?_⟩⟩
  have o := p5.own
  refine ⟨o.len, o.mem.imp id ?_⟩
  rintro ⟨g, cur, q1, q2, q3⟩
  exact ⟨g, cur, q1, by have := g3.size; omega, q3⟩
end
end Go.Proofs.Yteaidgpiolakcaa.pairs

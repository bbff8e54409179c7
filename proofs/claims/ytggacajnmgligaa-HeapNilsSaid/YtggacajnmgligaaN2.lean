/-
  HeapNils, walked.
-/
import Derived.Test.YtggacajnmgligaaN1
namespace Go.Proofs.Ytggacajnmgligaa
open Go Go.Lf
set_option linter.unusedVariables false

theorem nils_walk (v : Vv) (t : Vl) (al : Int) (sp : Sv) (tg : Int) (h : Heap) {o : Bool} {Q : Nat → Prop} {A : List Nat → Nat → Prop} (hv : VAt o Q h t A v) : CallsH Try.prog 7 #[.agg (vvs v), .agg (pvs al sp tg)] h (fun r h' => r = .bool true ∧ Grow h h') := by
  apply F7
  unfold L7
  refine newV (v := v) fun h1 k1 f1 z1 => newPt fun h2 k2 f2 z2 => ?_
  have K1 := f2.blk k1 fun h => h
  have g2 := f1.trans f2
  refine rd7 (Vv7.blk K1) ?_
  refine cal_of (small_any 4 o Q A t v h2 (by omega) (hv.grow g2)) ?_
  rintro _ h3 ⟨f3, b, rfl⟩
  have K1 := f3.blk K1 fun h => h
  have K2 := f3.blk k2 fun h => h
  have g3 := g2.trans f3
  clear k1 k2
  have hk : cl h3 ⟨h.size, 0, none⟩ = some (.int .i64 v.k) := by rw [K1.cl]; rfl
  have hk5 : cl h3 ((⟨h1.size, 0, none⟩ : Addr).add 1) = some (.slice sp.a sp.n sp.c) := by rw [add_plain, K2.cl]; rfl
  refine ⟨_, rfl, fun c => c = false → v.k ≠ 6, ⟨fun e e' => (by cases e'), fun e => ldI_i hk fun e' => by simpa using e'⟩, ?_⟩
  intro x25 h25
  refine ⟨fun c => c = false → v.k ≠ 6 ∧ v.k ≠ 5, ⟨fun e e' => (by cases e'), fun e => ldI_i hk fun e' => ⟨h25 e, by simpa using e'⟩⟩, ?_⟩
  intro x30 h30
  refine ⟨fun c => c = false → v.k ≠ 6 ∧ v.k ≠ 5, ⟨fun e e' => (by cases e'), fun e => ldS_i (s := sp) hk5 fun _ => h30 e⟩, ?_⟩
  intro x36 h36
  refine ⟨fun _ => ?_, fun e => ?_⟩
  · refine cal_of (watched_spec h3) ?_
    rintro _ h4 ⟨f4, rfl⟩
    exact ⟨_, rfl, rfl, g3.trans f4⟩
  obtain ⟨n6, n5⟩ := h36 e
  refine rd7 (Vv7.blk K1) (cal_of nil_alloc ?_)
  rintro _ h5 ⟨g5, rfl⟩
  refine ⟨_, rfl, _, rfl, _, ⟨none, 0, 0⟩, _, rfl, _, rfl, _, rfl, ?_⟩
  refine minePt (al := 0) (sp := ⟨none, 0, 0⟩) (tg := 0) fun h7 k7 g7 => ?_
  have G7 := g3.trans (g5.trans g7)
  have K1 := (g5.trans g7).blk K1 fun h => h
  have K2 := (g5.trans g7).blk K2 fun h => h
  refine ldI_i (x := al) (by rw [K2.cl]; rfl) (cal_of (nil_base al) ?_)
  rintro _ h8 ⟨g8, rfl⟩
  refine ⟨_, rfl, _, rfl, _, ⟨none, 0, 0⟩, _, rfl, _, rfl, _, rfl, ?_⟩
  refine minePt (al := 0) (sp := ⟨none, 0, 0⟩) (tg := 0) fun h10 k10 g10 => ?_
  have G10 := G7.trans (g8.trans g10)
  have K1 := (g8.trans g10).blk K1 fun h => h
  have K2 := (g8.trans g10).blk K2 fun h => h
  refine rdPt K2 (cal_of nil_read ?_)
  rintro _ h11 ⟨g11, rfl⟩
  refine ⟨_, rfl, _, rfl, _, _, _, ⟨none, 0, 0⟩, _, ⟨none, 0, 0⟩, _, rfl, _, rfl, _, rfl, ?_⟩
  refine mineV (v := zVv) fun h13 k13 g13 => ?_
  have G13 := G10.trans (g11.trans g13)
  have K1 := (g11.trans g13).blk K1 fun h => h
  have K2 := (g11.trans g13).blk K2 fun h => h
  refine rdPt K2 (cal_of nil_take ?_)
  rintro _ h14 ⟨g14, rfl⟩
  refine ⟨_, rfl, _, rfl, _, _, _, ⟨none, 0, 0⟩, _, ⟨none, 0, 0⟩, _, rfl, _, rfl, _, rfl, ?_⟩
  refine mineV (v := zVv) fun h16 k16 g16 => ?_
  have G16 := G13.trans (g14.trans g16)
  have K1 := (g14.trans g16).blk K1 fun h => h
  have K2 := (g14.trans g16).blk K2 fun h => h
  refine rdPt K2 (cal_of (nil_borrow true) ?_)
  rintro _ h17 ⟨g17, rfl⟩
  refine ⟨_, rfl, _, rfl, _, ⟨none, 0, 0⟩, _, rfl, _, rfl, _, rfl, ?_⟩
  refine minePt (al := 0) (sp := ⟨none, 0, 0⟩) (tg := 0) fun h19 k19 g19 => ?_
  have G19 := G16.trans (g17.trans g19)
  have K1 := (g17.trans g19).blk K1 fun h => h
  have K2 := (g17.trans g19).blk K2 fun h => h
  refine rdPt K2 (cal_of nil_peek ?_)
  rintro _ h20 ⟨g20, rfl⟩
  refine ⟨_, rfl, _, rfl, _, _, _, ⟨none, 0, 0⟩, _, ⟨none, 0, 0⟩, _, rfl, _, rfl, _, rfl, ?_⟩
  refine mineV (v := zVv) fun h22 k22 g22 => ?_
  have G22 := G19.trans (g20.trans g22)
  have K1 := (g20.trans g22).blk K1 fun h => h
  have K2 := (g20.trans g22).blk K2 fun h => h
  refine cal_of (watched_spec h22) ?_
  rintro _ h23 ⟨g23, rfl⟩
  have G23 := G22.trans g23
  have K1 := g23.blk K1 fun h => h
  have K2 := g23.blk K2 fun h => h
  refine ⟨_, rfl, fun c h' => c = true ∧ Grow h23 h', ⟨fun _ => rdPt K2 (rd7 (Vv7.blk K1) (cal_of nil_write ?_)), fun e => (by cases e)⟩, ?_⟩
  · rintro _ h25 ⟨g25, rfl⟩
    exact ⟨_, rfl, rfl, g25⟩
  rintro _ h24 ⟨rfl, g24⟩
  refine ⟨fun c h' => c = true ∧ Grow h23 h', ⟨fun _ => ldI_i (x := al) (by rw [(g24.blk K2 fun h => h).cl]; rfl) (cal_of (nil_free al) ?_), fun e => (by cases e)⟩, ?_⟩
  · rintro _ h27 ⟨g27, rfl⟩
    exact ⟨_, rfl, rfl, g24.trans g27⟩
  rintro _ h26 ⟨rfl, g26⟩
  refine ⟨fun c h' => c = true ∧ Grow h23 h', ⟨fun _ => rd7 (Vv7.blk (g26.blk K1 fun h => h)) (cal_of (nil_drop n6 n5) ?_), fun e => (by cases e)⟩, ?_⟩
  · rintro _ h29 ⟨g29, rfl⟩
    exact ⟨_, rfl, rfl, g26.trans g29⟩
  rintro _ h28 ⟨rfl, g28⟩
  refine ⟨fun c h' => c = true ∧ Grow h23 h', ⟨fun _ => cal_of nil_live ?_, fun e => (by cases e)⟩, ?_⟩
  · rintro _ h31 ⟨g31, rfl⟩
    exact ⟨_, rfl, rfl, g28.trans g31⟩
  rintro _ h30 ⟨rfl, g30⟩
  refine ⟨fun c h' => c = true ∧ Grow h23 h', ⟨fun _ => ldI_i (x := al) (by rw [(g30.blk K2 fun h => h).cl]; rfl) (cal_of (nil_stack al) ?_), fun e => (by cases e)⟩, ?_⟩
  · rintro _ h33 ⟨g33, rfl⟩
    exact ⟨⟨none, 0, 0⟩, rfl, rfl, g30.trans g33⟩
  rintro _ h32 ⟨rfl, g32⟩
  exact ⟨rfl, G23.trans g32⟩
end Go.Proofs.Ytggacajnmgligaa

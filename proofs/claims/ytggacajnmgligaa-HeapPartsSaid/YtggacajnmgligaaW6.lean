/-
  HeapParts, walked.
-/
import Derived.Test.YtggacajnmgligaaW5
namespace Go.Proofs.Ytggacajnmgligaa
open Go Go.Lf
set_option linter.unusedVariables false

theorem pt_facts (a b : Int) (u w : Bool) : ∃ B B2 C D : Hs, borrowS (T1 a b) 0 [0] 1 u = (B, .ok 2) ∧ Few B ∧ borrowS B 0 [1] 1 true = (B2, .ok 3) ∧ Few B2 ∧ OkL B2 ∧ liveN B2 ≤ 10 ∧ (w = true → writeS 10 B2 0 [1] 1 (tN a) = (C, 0)) ∧ (w = false → takeS B2 0 [1] 3 = (C, .ok (tN b))) ∧ Few C ∧ useGet C 0 [0] 2 false = (D, .ok (tN a)) := by
  cases u <;> cases w
  · exact ⟨(borrowS (T1 a b) 0 [0] 1 false).1, (borrowS (borrowS (T1 a b) 0 [0] 1 false).1 0 [1] 1 true).1, (takeS (borrowS (borrowS (T1 a b) 0 [0] 1 false).1 0 [1] 1 true).1 0 [1] 3).1, (useGet (takeS (borrowS (borrowS (T1 a b) 0 [0] 1 false).1 0 [1] 1 true).1 0 [1] 3).1 0 [0] 2 false).1, by kernel_rfl, few_of (by kernel_rfl), by kernel_rfl, few_of (by kernel_rfl), ok_of (by kernel_rfl), of_decide_eq_true (by kernel_rfl), fun e => (by cases e), fun _ => by kernel_rfl, few_of (by kernel_rfl), by kernel_rfl⟩
  · exact ⟨(borrowS (T1 a b) 0 [0] 1 false).1, (borrowS (borrowS (T1 a b) 0 [0] 1 false).1 0 [1] 1 true).1, (writeS 10 (borrowS (borrowS (T1 a b) 0 [0] 1 false).1 0 [1] 1 true).1 0 [1] 1 (tN a)).1, (useGet (writeS 10 (borrowS (borrowS (T1 a b) 0 [0] 1 false).1 0 [1] 1 true).1 0 [1] 1 (tN a)).1 0 [0] 2 false).1, by kernel_rfl, few_of (by kernel_rfl), by kernel_rfl, few_of (by kernel_rfl), ok_of (by kernel_rfl), of_decide_eq_true (by kernel_rfl), fun _ => by kernel_rfl, fun e => (by cases e), few_of (by kernel_rfl), by kernel_rfl⟩
  · exact ⟨(borrowS (T1 a b) 0 [0] 1 true).1, (borrowS (borrowS (T1 a b) 0 [0] 1 true).1 0 [1] 1 true).1, (takeS (borrowS (borrowS (T1 a b) 0 [0] 1 true).1 0 [1] 1 true).1 0 [1] 3).1, (useGet (takeS (borrowS (borrowS (T1 a b) 0 [0] 1 true).1 0 [1] 1 true).1 0 [1] 3).1 0 [0] 2 false).1, by kernel_rfl, few_of (by kernel_rfl), by kernel_rfl, few_of (by kernel_rfl), ok_of (by kernel_rfl), of_decide_eq_true (by kernel_rfl), fun e => (by cases e), fun _ => by kernel_rfl, few_of (by kernel_rfl), by kernel_rfl⟩
  · exact ⟨(borrowS (T1 a b) 0 [0] 1 true).1, (borrowS (borrowS (T1 a b) 0 [0] 1 true).1 0 [1] 1 true).1, (writeS 10 (borrowS (borrowS (T1 a b) 0 [0] 1 true).1 0 [1] 1 true).1 0 [1] 1 (tN a)).1, (useGet (writeS 10 (borrowS (borrowS (T1 a b) 0 [0] 1 true).1 0 [1] 1 true).1 0 [1] 1 (tN a)).1 0 [0] 2 false).1, by kernel_rfl, few_of (by kernel_rfl), by kernel_rfl, few_of (by kernel_rfl), ok_of (by kernel_rfl), of_decide_eq_true (by kernel_rfl), fun _ => by kernel_rfl, fun e => (by cases e), few_of (by kernel_rfl), by kernel_rfl⟩
section
variable {lab : Nat → Lb} {h0 h : Heap} {hp : Nat} {S : Hs}
/-- two paths of one number laid -/
theorem path2 {b c : Nat} {al tg : Int} {z w : Int} {K : Heap → Prop} (x : Ses h0 lab h hp S) (k : PtAt lab h b al ⟨none, 0, 0⟩ tg []) (k' : PtAt lab h c al ⟨none, 0, 0⟩ tg []) (hbc : b ≠ c) (hb : h0.size ≤ b) (hc : h0.size ≤ c)
    (kk : ∀ h' sp sq, Ses h0 lab h' hp S → PtAt lab h' b al sp tg [z] → PtAt lab h' c al sq tg [w] → K h') : newS 3 #[.int .i64 z] 1 h fun s1 h1 => newS 3 #[.int .i64 w] 1 h1 fun s2 h2 => sto h2 ((⟨b, 0, none⟩ : Addr).add 1) (.slice s1.a s1.n s1.c) fun h3 => sto h3 ((⟨c, 0, none⟩ : Addr).add 1) (.slice s2.a s2.n s2.c) K := by
  rintro s1 h1 rfl rfl
  have f1 : Grow h (h.push (.cells #[.int .i64 z] 3)) := Fr.push _ _ _
  have k1 : blk (h.push (.cells #[.int .i64 z] 3)) h.size #[.int .i64 z] := blk.new _ _ _
  have s1 : (h.push (.cells #[.int .i64 z] 3)).size = h.size + 1 := by simp
  generalize h.push (.cells #[.int .i64 z] 3) = h1 at *
  rintro s2 h2 rfl rfl
  have f2 : Grow h1 (h1.push (.cells #[.int .i64 w] 3)) := Fr.push _ _ _
  have k2 : blk (h1.push (.cells #[.int .i64 w] 3)) h1.size #[.int .i64 w] := blk.new _ _ _
  generalize h1.push (.cells #[.int .i64 w] 3) = h2 at *
  have kb := f2.blk (f1.blk k.1 fun h => h) fun h => h
  have kc := f2.blk (f1.blk k'.1 fun h => h) fun h => h
  have hlt := k.1.lt
  have hlt' := k'.1.lt
  rw [add_plain]
  refine sto_i kb (by simp) ?_
  have kb2 : blk (sc h2 ⟨b, 0 + 1, none⟩ (.slice (some ⟨h.size, 0, none⟩) 1 1)) b (pvs al ⟨some ⟨h.size, 0, none⟩, 1, 1⟩ tg) := kb.sc 1 _
  have f3 : Fr (fun c => c = b) h2 (sc h2 ⟨b, 0 + 1, none⟩ (.slice (some ⟨h.size, 0, none⟩) 1 1)) := Fr.scb _ _ _ _
  generalize sc h2 ⟨b, 0 + 1, none⟩ (.slice (some ⟨h.size, 0, none⟩) 1 1) = h3 at *
  rw [add_plain]
  refine sto_i (f3.blk kc (fun e => hbc e.symm)) (by simp) ?_
  have kc2 : blk (sc h3 ⟨c, 0 + 1, none⟩ (.slice (some ⟨h1.size, 0, none⟩) 1 1)) c (pvs al ⟨some ⟨h1.size, 0, none⟩, 1, 1⟩ tg) := (f3.blk kc (fun e => hbc e.symm)).sc 1 _
  have f4 : Fr (fun i => i = c) h3 (sc h3 ⟨c, 0 + 1, none⟩ (.slice (some ⟨h1.size, 0, none⟩) 1 1)) := Fr.scb _ _ _ _
  generalize sc h3 ⟨c, 0 + 1, none⟩ (.slice (some ⟨h1.size, 0, none⟩) 1 1) = h4 at *
  have K1 := f4.blk (f3.blk (f2.blk k1 fun h => h) (by omega)) (by omega)
  have K2 := f4.blk (f3.blk k2 (by omega)) (by omega)
  have xs := (((x.grow f1).grow f2).own f3 fun i hi => by rw [hi]; exact ⟨k.2.1, hb⟩).own f4 fun i hi => by rw [hi]; exact ⟨k'.2.1, hc⟩
  refine kk h4 ⟨some ⟨h.size, 0, none⟩, 1, 1⟩ ⟨some ⟨h1.size, 0, none⟩, 1, 1⟩ xs ⟨f4.blk kb2 hbc, k.2.1, ⟨⟨rfl, fun i hi => ?_⟩, Nat.le_refl _⟩, by simp⟩ ⟨kc2, k'.2.1, ⟨⟨rfl, fun i hi => ?_⟩, Nat.le_refl _⟩, by simp⟩
  · have hi0 : i = 0 := by simpa using hi
    subst hi0
    exact ⟨_, rfl, nomut (x.no (Nat.le_refl _)), by rw [add_plain, K1.cl]; rfl⟩
  · have hi0 : i = 0 := by simpa using hi
    subst hi0
    exact ⟨_, rfl, nomut (x.no (show h.size ≤ h1.size by omega)), by rw [add_plain, K2.cl]; rfl⟩
end
theorem parts_walk (a b : Int) (uq wr : Bool) (h : Heap) : CallsH Try.prog 5 #[.agg #[.int .u64 a, .int .u64 b, .bool uq, .bool wr]] h (fun v h' => v = .bool true ∧ Grow h h') := by
  apply F5
  unfold L5
  rintro p1 h1 rfl rfl
  have f1 : Grow h (h.push (.cells #[.int .u64 a, .int .u64 b, .bool uq, .bool wr] 49)) := Fr.push _ _ _
  have k1 : blk (h.push (.cells #[.int .u64 a, .int .u64 b, .bool uq, .bool wr] 49)) h.size #[.int .u64 a, .int .u64 b, .bool uq, .bool wr] := blk.new _ _ _
  generalize h.push (.cells #[.int .u64 a, .int .u64 b, .bool uq, .bool wr] 49) = h1 at *
  refine ⟨a, by rw [k1.cl]; rfl, b, by rw [add_plain, k1.cl]; rfl, uq, by rw [add_plain, k1.cl]; rfl, wr, by rw [add_plain, k1.cl]; rfl, ?_⟩
  refine cal_of (new_ses 4 true) ?_
  rintro _ h2 ⟨lab, rfl, x2⟩
  refine ⟨_, rfl, ?_⟩
  generalize hhp : h1.size = hp at x2 ⊢
  refine cal_of (two_spec a b h2) ?_
  rintro _ h3 ⟨g3, u, rfl, hu⟩
  refine ⟨_, _, _, u.ps, _, u.pa, _, rfl, ?_⟩
  have x3 := x2.grow g3
  refine cal_of (alloc_ses x3 (few_new 4 true) (two_calm (fun b hb => x2.no hb) hu) (few_tT a b)) ?_
  rintro _ h4 ⟨lab4, t4, hm⟩
  rw [if_neg (by decide)] at hm
  obtain ⟨x4, rfl⟩ := hm
  refine ⟨_, rfl, _, rfl, _, ⟨none, 0, 0⟩, _, rfl, _, rfl, _, rfl, ?_⟩
  refine minePt (al := 0) (sp := ⟨none, 0, 0⟩) (tg := 1) fun h6 k6 g6 => ?_
  have P6 : PtAt lab4 h6 h4.size 0 ⟨none, 0, 0⟩ 1 [] := ⟨k6, x4.no (Nat.le_refl _), IntsC.nil _ _, by simp⟩
  have x6 := x4.grow g6
  refine cal_of (watched_spec h6) ?_
  rintro _ h7 ⟨g7, rfl⟩
  refine ⟨_, rfl, fun e => (by cases e), fun _ => ?_⟩
  have x7 := x6.grow g7
  have P7 := P6.grow g7
  have hge7 : h1.size ≤ h7.size := by obtain ⟨_, _, _, g, _⟩ := x7; exact g.size
  generalize h4.size = p8 at *
  obtain ⟨B, B2, C, D, b1, b2, b3, b4, b5, b6, b7, b8, b9, b10⟩ := pt_facts a b uq wr
  have hl0 : ∀ h' : Heap, Grow h7 h' → cl h' ⟨p8, 0, none⟩ = some (.int .i64 0) := fun h' hs => by rw [(hs.blk P7.1 fun h => h).cl]; rfl
  have hl1 : ∀ h' : Heap, Grow h7 h' → cl h' ((⟨p8, 0, none⟩ : Addr).add 1) = some (.slice (⟨none, 0, 0⟩ : Sv).a (⟨none, 0, 0⟩ : Sv).n (⟨none, 0, 0⟩ : Sv).c) := fun h' hs => by rw [add_plain, (hs.blk P7.1 fun h => h).cl]; rfl
  have hl2 : ∀ h' : Heap, Grow h7 h' → cl h' ((⟨p8, 0, none⟩ : Addr).add 2) = some (.int .i64 1) := fun h' hs => by rw [add_plain, (hs.blk P7.1 fun h => h).cl]; rfl
  refine ⟨fun p q h16 => ∃ b10 b11, p = ⟨b10, 0, none⟩ ∧ q = ⟨b11, 0, none⟩ ∧ b10 ≠ b11 ∧ h1.size ≤ b10 ∧ h1.size ≤ b11 ∧ Ses h1 lab4 h16 hp (T1 a b) ∧ PtAt lab4 h16 b10 0 ⟨none, 0, 0⟩ 1 [] ∧ PtAt lab4 h16 b11 0 ⟨none, 0, 0⟩ 1 [],
    ⟨fun h' => Grow h7 h', Fr.refl _ _, 0, ⟨none, 0, 0⟩, 1, hl0, hl1, hl2, 0, ⟨none, 0, 0⟩, 1, hl0, hl1, hl2, ?_, ?_⟩, ?_⟩
  · refine newPt (al := 0) (sp := ⟨none, 0, 0⟩) (tg := 0) fun h8 k8 g8 z8 => ⟨g8, newPt (al := 0) (sp := ⟨none, 0, 0⟩) (tg := 0) fun h9 k9 g9 z9 => ⟨g8.trans g9, ?_⟩⟩
    refine stoPt (al := 0) (sp := ⟨none, 0, 0⟩) (tg := 1) (g9.blk k8 fun h => h) rfl fun h10 k10 f10 => ⟨(g8.trans g9).trans' f10 fun i hi e => by omega, ?_⟩
    refine stoPt (al := 0) (sp := ⟨none, 0, 0⟩) (tg := 1) (f10.blk k9 (by omega)) rfl fun h11 k11 f11 => ?_
    have G : Grow h7 h11 := ((g8.trans g9).trans' f10 fun i hi e => by omega).trans' f11 fun i hi e => by omega
    exact ⟨h7.size, h8.size, rfl, rfl, by omega, hge7, by omega, x7.grow G, ⟨f11.blk k10 (by omega), x7.no (Nat.le_refl _), IntsC.nil _ _, by simp⟩, ⟨k11, x7.no (by omega), IntsC.nil _ _, by simp⟩⟩
  · refine newPt (al := 0) (sp := ⟨none, 0, 0⟩) (tg := 0) fun h8 k8 g8 z8 => ⟨g8, newPt (al := 0) (sp := ⟨none, 0, 0⟩) (tg := 0) fun h9 k9 g9 z9 => ⟨g8.trans g9, ?_⟩⟩
    refine stoPt (al := 0) (sp := ⟨none, 0, 0⟩) (tg := 1) k9 rfl fun h10 k10 f10 => ⟨(g8.trans g9).trans' f10 fun i hi e => by omega, ?_⟩
    refine stoPt (al := 0) (sp := ⟨none, 0, 0⟩) (tg := 1) (f10.blk (g9.blk k8 fun h => h) (by omega)) rfl fun h11 k11 f11 => ?_
    have G : Grow h7 h11 := ((g8.trans g9).trans' f10 fun i hi e => by omega).trans' f11 fun i hi e => by omega
    exact ⟨h8.size, h7.size, rfl, rfl, by omega, by omega, hge7, x7.grow G, ⟨f11.blk k10 (by omega), x7.no (by omega), IntsC.nil _ _, by simp⟩, ⟨k11, x7.no (Nat.le_refl _), IntsC.nil _ _, by simp⟩⟩
  rintro _ _ h16 ⟨b10', b11, rfl, rfl, hne, hg10, hg11, x16, P16, Q16⟩
  refine path2 x16 P16 Q16 hne hg10 hg11 fun h20 sp sq x20 P20 Q20 => ?_
  refine rdPt P20.1 ?_
  refine cal_of (borrow_ses x20 (few_T1 a b) P20.2.2.1 P20.2.2.2 uq) ?_
  rintro _ h21 ⟨lab21, t21, x21, hm⟩
  rw [b1] at x21 hm
  obtain ⟨so, rfl, io⟩ := hm
  refine ⟨_, rfl, _, rfl, _, so, _, rfl, _, rfl, _, rfl, ?_⟩
  refine minePt (al := 0) (sp := so) (tg := 2) fun h23 k23 g23 => ?_
  have R23 : PtAt lab21 h23 h21.size 0 so 2 [0] := ⟨k23, x21.no (Nat.le_refl _), (io.weak fun b hb _ => till_nomut hb).fr g23 fun _ _ h => h, by simp⟩
  have x23 := x21.grow g23
  have Q23 := (Q20.op t21).grow g23
  generalize h21.size = p12 at *
  refine rdPt Q23.1 ?_
  refine cal_of (borrow_ses x23 b2 Q23.2.2.1 Q23.2.2.2 true) ?_
  rintro _ h24 ⟨lab24, t24, x24, hm⟩
  rw [b3] at x24 hm
  obtain ⟨so2, rfl, io2⟩ := hm
  refine ⟨_, rfl, _, rfl, _, so2, _, rfl, _, rfl, _, rfl, ?_⟩
  refine minePt (al := 0) (sp := so2) (tg := 3) fun h26 k26 g26 => ?_
  have V26 : PtAt lab24 h26 h24.size 0 so2 3 [1] := ⟨k26, x24.no (Nat.le_refl _), (io2.weak fun b hb _ => till_nomut hb).fr g26 fun _ _ h => h, by simp⟩
  have x26 := x24.grow g26
  have Q26 := (Q23.op t24).grow g26
  have R26 := (R23.op t24).grow g26
  generalize h24.size = p14 at *
  refine ⟨fun g h30 => ∃ lab', g = 0 ∧ Ses h1 lab' h30 hp C ∧ PtAt lab' h30 p12 0 so 2 [0], ⟨fun hw => ?_, fun hw => ?_⟩, ?_⟩
  · refine ⟨fun h' => Grow h26 h', Fr.refl _ _, 0, sq, 1, fun h' hs => by rw [(hs.blk Q26.1 fun h => h).cl]; rfl, fun h' hs => by rw [add_plain, (hs.blk Q26.1 fun h => h).cl]; rfl, fun h' hs => by rw [add_plain, (hs.blk Q26.1 fun h => h).cl]; rfl, ?_⟩
    refine cal_of (num_spec a) ?_
    rintro _ h27 ⟨g27, rfl⟩
    refine ⟨_, _, _, ⟨none, 0, 0⟩, _, ⟨none, 0, 0⟩, _, rfl, g27, ?_⟩
    refine cal_of (write_ses' (n := 10) (xv := ⟨2, a, ⟨#[]⟩, ⟨none, 0, 0⟩, 0, ⟨none, 0, 0⟩, 0⟩) (x26.grow g27) b4 b5 (Q26.grow g27).2.2.1 (by simp) (num_at _ _ _ a) (few_tN a) b6) ?_
    rintro _ h28 ⟨lab28, t28, x28, rfl⟩
    rw [b7 hw] at x28 ⊢
    exact ⟨_, rfl, lab28, rfl, x28, (R26.grow g27).op t28⟩
  · refine rdPt V26.1 ?_
    refine cal_of (take_ses x26 b4 V26.2.2.1 V26.2.2.2) ?_
    rintro _ h29 ⟨lab29, t29, x29, hm⟩
    rw [b8 hw] at x29 hm
    obtain ⟨u3, rfl, hu3⟩ := hm
    exact ⟨_, rfl, _, rfl, _, _, _, u3.ps, _, u3.pa, _, rfl, _, rfl, _, rfl, lab29, rfl, x29, R26.op t29⟩
  rintro _ h30 ⟨lab30, rfl, x30, R30⟩
  refine rdPt R30.1 ?_
  refine cal_of (read_ses x30 b9 R30.2.2.1 R30.2.2.2) ?_
  rintro _ h31 ⟨t31, x31, hm⟩
  rw [b10] at x31 hm
  obtain ⟨w, rfl, hw⟩ := hm
  have hwn := hw.n
  refine ⟨_, rfl, _, rfl, _, _, _, w.ps, _, w.pa, _, rfl, _, rfl, _, rfl, ?_⟩
  refine mineV (v := w) fun h33 k33 g33 => ?_
  obtain ⟨_, _, _, gg, _⟩ := x31
  refine ⟨fun b => b = true, ⟨fun _ => ldI_i (x := w.n) (by rw [add_plain, k33.cl]; rfl) (by rw [hwn]; simp), fun e => (by simp at e)⟩, ?_⟩
  rintro _ rfl
  exact ⟨rfl, (f1.trans gg).trans g33⟩
end Go.Proofs.Ytggacajnmgligaa

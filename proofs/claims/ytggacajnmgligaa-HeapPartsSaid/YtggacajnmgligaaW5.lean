/-
  HeapRights, walked: the walk.
-/
import Derived.Test.YtggacajnmgligaaW4
namespace Go.Proofs.Ytggacajnmgligaa
open Go Go.Lf
set_option linter.unusedVariables false

theorem few_T1 (a b : Int) : Few (T1 a b) := few_of (by kernel_rfl)
section
variable {lab lab' : Nat → Lb} {h0 h h' : Heap} {hp : Nat} {S : Hs}
theorem two_calm {t : Vl} {u : Vv} {n : Nat} (hno : ∀ b, n ≤ b → lab b = .no) (x : VAt false (fun c => n ≤ c) h t (anyA fun c => n ≤ c) u) : Calm lab h t u :=
  x.weak (fun b hb _ => nomut (hno b hb)) (fun h => h) fun σ b hb _ => nomut (hno b hb)
/-- a path of one number laid -/
theorem path1 {b : Nat} {al tg : Int} {z : Int} {K : Heap → Prop} (x : Ses h0 lab h hp S) (k : PtAt lab h b al ⟨none, 0, 0⟩ tg []) (hb : h0.size ≤ b)
    (kk : ∀ h' sp, Ses h0 lab h' hp S → PtAt lab h' b al sp tg [z] → Fr (fun c => c = b) h h' → K h') : newS 3 #[.int .i64 z] 1 h fun s1 h1 => sto h1 ((⟨b, 0, none⟩ : Addr).add 1) (.slice s1.a s1.n s1.c) K := by
  rintro s1 h1 rfl rfl
  have f1 : Grow h (h.push (.cells #[.int .i64 z] 3)) := Fr.push _ _ _
  have k1 : blk (h.push (.cells #[.int .i64 z] 3)) h.size #[.int .i64 z] := blk.new _ _ _
  have s1 : (h.push (.cells #[.int .i64 z] 3)).size = h.size + 1 := by simp
  generalize h.push (.cells #[.int .i64 z] 3) = h1 at *
  have kb := f1.blk k.1 fun h => h
  have hlt := k.1.lt
  rw [add_plain]
  refine sto_i kb (by simp) ?_
  have kb2 : blk (sc h1 ⟨b, 0 + 1, none⟩ (.slice (some ⟨h.size, 0, none⟩) 1 1)) b (pvs al ⟨some ⟨h.size, 0, none⟩, 1, 1⟩ tg) := kb.sc 1 _
  have f2 : Fr (fun c => c = b) h1 (sc h1 ⟨b, 0 + 1, none⟩ (.slice (some ⟨h.size, 0, none⟩) 1 1)) := Fr.scb _ _ _ _
  generalize sc h1 ⟨b, 0 + 1, none⟩ (.slice (some ⟨h.size, 0, none⟩) 1 1) = h2 at *
  have k2 := f2.blk k1 (by omega)
  refine kk h2 ⟨some ⟨h.size, 0, none⟩, 1, 1⟩ ((x.grow f1).own f2 fun c hc => by rw [hc]; exact ⟨k.2.1, hb⟩) ⟨kb2, k.2.1, ⟨⟨rfl, fun i hi => ?_⟩, Nat.le_refl _⟩, by simp⟩ ((f1.mono fun _ _ h => h.elim).trans f2)
  have hi0 : i = 0 := by simpa using hi
  subst hi0
  exact ⟨_, rfl, nomut (x.no (Nat.le_refl _)), by rw [add_plain, k2.cl]; rfl⟩
theorem PtAt.fr {T : Nat → Prop} {b : Nat} {al tg : Int} (x : PtAt lab h b al ⟨none, 0, 0⟩ tg []) (f : Fr T h h') (hT : ¬ T b) : PtAt lab h' b al ⟨none, 0, 0⟩ tg [] := ⟨f.blk x.1 hT, x.2.1, IntsC.nil _ _, by simp⟩
end
theorem rights_walk (a b : Int) (uq wr : Bool) (part : Int) (h : Heap) : CallsH Try.prog 4 #[.agg #[.int .u64 a, .int .u64 b, .bool uq, .bool wr, .int .i64 part]] h (fun v h' => v = .bool true ∧ Grow h h') := by
  apply F4
  unfold L4
  rintro p1 h1 rfl rfl
  have f1 : Grow h (h.push (.cells #[.int .u64 a, .int .u64 b, .bool uq, .bool wr, .int .i64 part] 44)) := Fr.push _ _ _
  have k1 : blk (h.push (.cells #[.int .u64 a, .int .u64 b, .bool uq, .bool wr, .int .i64 part] 44)) h.size #[.int .u64 a, .int .u64 b, .bool uq, .bool wr, .int .i64 part] := blk.new _ _ _
  generalize h.push (.cells #[.int .u64 a, .int .u64 b, .bool uq, .bool wr, .int .i64 part] 44) = h1 at *
  refine ⟨a, by rw [k1.cl]; rfl, b, by rw [add_plain, k1.cl]; rfl, uq, by rw [add_plain, k1.cl]; rfl, wr, by rw [add_plain, k1.cl]; rfl, part, by rw [add_plain, k1.cl]; rfl, ?_⟩
  refine cal_of (new_ses 4 true) ?_
  rintro _ h2 ⟨lab, rfl, x2⟩
  refine ⟨_, rfl, ?_⟩
  generalize hhp : h1.size = hp at x2 ⊢
  refine cal_of (two_spec a b h2) ?_
  rintro _ h3 ⟨g3, u, rfl, hu⟩
  refine ⟨_, _, _, u.ps, _, u.pa, _, rfl, ?_⟩
  have x3 := x2.grow g3
  refine cal_of (alloc_ses x3 (few_new 4 true) (two_calm (fun b hb => x2.no hb) hu) (few_tT a b)) ?_
  rintro _ h4 ⟨lab4, t4, hm⟩
  rw [if_neg (by decide)] at hm
  obtain ⟨x4, rfl⟩ := hm
  refine ⟨_, rfl, _, rfl, _, ⟨none, 0, 0⟩, _, rfl, _, rfl, _, rfl, ?_⟩
  refine minePt (al := 0) (sp := ⟨none, 0, 0⟩) (tg := 1) fun h6 k6 g6 => ?_
  have P6 : PtAt lab4 h6 h4.size 0 ⟨none, 0, 0⟩ 1 [] := ⟨k6, x4.no (Nat.le_refl _), IntsC.nil _ _, by simp⟩
  have x6 := x4.grow g6
  refine cal_of (watched_spec h6) ?_
  rintro _ h7 ⟨g7, rfl⟩
  refine ⟨_, rfl, fun e => (by cases e), fun _ => ?_⟩
  have x7 := x6.grow g7
  have P7 := P6.grow g7
  have hge4 : h1.size ≤ h4.size := by obtain ⟨_, _, _, g, _⟩ := x4; exact g.size
  have hlt4 : h4.size < h7.size := P7.1.lt
  generalize h4.size = p9 at *
  refine rdPt P7.1 ?_
  refine minePt (al := 0) (sp := ⟨none, 0, 0⟩) (tg := 1) fun h9 k9 g9 => ?_
  have x9 := x7.grow g9
  have P9 := P7.grow g9
  have Q9 : PtAt lab4 h9 h7.size 0 ⟨none, 0, 0⟩ 1 [] := ⟨k9, x7.no (Nat.le_refl _), IntsC.nil _ _, by simp⟩
  have hne : ¬ p9 = h7.size := by omega
  have hge7 : h1.size ≤ h7.size := by omega
  generalize h7.size = p11 at *
  refine ⟨fun h12 => ∃ sp pa, Ses h1 lab4 h12 hp (T1 a b) ∧ PtAt lab4 h12 p9 0 ⟨none, 0, 0⟩ 1 [] ∧ PtAt lab4 h12 p11 0 sp 1 pa ∧ (pa = [] ∨ pa = [0] ∨ pa = [1]), ?_, ?_⟩
  · refine ifb_iff (q := 0 < part) (by simp) (fun hpos => ?_) (fun _ => ⟨⟨none, 0, 0⟩, [], x9, P9, Q9, .inl rfl⟩)
    refine path1 x9 Q9 hge7 fun h11 sp x11 Q11 f11 => ⟨sp, _, x11, P9.fr f11 hne, Q11, .inr ?_⟩
    rw [Int.tmod_eq_emod_of_nonneg (by omega)]
    rcases (show part % 2 = 0 ∨ part % 2 = 1 by omega) with e | e
    · rw [e]; exact .inl rfl
    · rw [e]; exact .inr rfl
  rintro h12 ⟨sp, pa, x12, P12, Q12, hpa⟩
  obtain ⟨B, C, b1, b2, b3, b4, b5, b6, b7, b8, b9⟩ := rt_facts a b uq wr hpa
  refine rdPt Q12.1 ?_
  refine cal_of (borrow_ses x12 (few_T1 a b) Q12.2.2.1 Q12.2.2.2 uq) ?_
  rintro _ h13 ⟨lab13, t13, x13, hm⟩
  rw [b1] at x13 hm
  obtain ⟨so, rfl, io⟩ := hm
  refine ⟨_, rfl, _, rfl, _, so, _, rfl, _, rfl, _, rfl, ?_⟩
  refine minePt (al := 0) (sp := so) (tg := 2) fun h15 k15 g15 => ?_
  have R15 : PtAt lab13 h15 h13.size 0 so 2 pa := ⟨k15, x13.no (Nat.le_refl _), (io.weak fun b hb _ => till_nomut hb).fr g15 fun _ _ h => h, Q12.2.2.2⟩
  have x15 := x13.grow g15
  have P15 := (P12.op t13).grow g15
  generalize h13.size = p12 at *
  refine ⟨fun g h19 => ∃ lab', g = 0 ∧ Ses h1 lab' h19 hp C ∧ PtAt lab' h19 p12 0 so 2 pa, ⟨fun hw => ?_, fun hw => ?_⟩, ?_⟩
  · refine ⟨fun h' => Grow h15 h', Fr.refl _ _, 0, ⟨none, 0, 0⟩, 1, fun h' hs => by rw [(hs.blk P15.1 fun h => h).cl]; rfl, fun h' hs => by rw [add_plain, (hs.blk P15.1 fun h => h).cl]; rfl, fun h' hs => by rw [add_plain, (hs.blk P15.1 fun h => h).cl]; rfl, ?_⟩
    refine cal_of (two_spec b a h15) ?_
    rintro _ h16 ⟨g16, u2, rfl, hu2⟩
    refine ⟨_, _, _, u2.ps, _, u2.pa, _, rfl, g16, ?_⟩
    refine cal_of (write_ses' (n := 10) (x15.grow g16) b2 b3 (P15.grow g16).2.2.1 (by simp) (two_calm (fun b hb => x15.no hb) hu2) (few_tT b a) b4) ?_
    rintro _ h17 ⟨lab17, t17, x17, rfl⟩
    rw [b5 hw] at x17 ⊢
    exact ⟨_, rfl, lab17, rfl, x17, (R15.grow g16).op t17⟩
  · refine rdPt P15.1 ?_
    refine cal_of (read_ses x15 b2 P15.2.2.1 P15.2.2.2) ?_
    rintro _ h18 ⟨t18, x18, hm⟩
    rw [b6 hw] at x18 hm
    obtain ⟨u3, rfl, hu3⟩ := hm
    exact ⟨_, rfl, _, rfl, _, _, _, u3.ps, _, u3.pa, _, rfl, _, rfl, _, rfl, lab13, rfl, x18, R15.op t18⟩
  rintro _ h19 ⟨lab19, rfl, x19, R19⟩
  refine rdPt R19.1 ?_
  refine cal_of (read_ses x19 b7 R19.2.2.1 R19.2.2.2) ?_
  rintro v h20 ⟨t20, x20, hm⟩
  have hres : ∃ w : Vv, v = .tuple #[.agg (vvs w), .int .i64 (if (uq || wr) = true then 2 else 0)] := by
    cases huw : (uq || wr) with
    | true =>
      rw [b8 huw] at hm
      exact ⟨zVv, hm⟩
    | false =>
      obtain ⟨D, y, e⟩ := b9 huw
      rw [e] at hm
      obtain ⟨w, e', _⟩ := hm
      exact ⟨w, e'⟩
  obtain ⟨w, rfl⟩ := hres
  refine ⟨_, rfl, _, rfl, _, _, _, w.ps, _, w.pa, _, rfl, _, rfl, _, rfl, ?_⟩
  refine mineV (v := w) fun h22 k22 g22 => ?_
  obtain ⟨_, _, _, gg, _⟩ := x20
  refine ⟨fun z => z = if (uq || wr) = true then 2 else 0, ⟨fun e => by rw [e]; rfl, fun e => by rw [e]; rfl⟩, ?_⟩
  rintro _ rfl
  refine ⟨?_, (f1.trans gg).trans g22⟩
  simp
end Go.Proofs.Ytggacajnmgligaa

/-
  The guard, walked.
-/
import Derived.Test.YtggacajnmgligaaW1
namespace Go.Proofs.Ytggacajnmgligaa
open Go Go.Lf
set_option linter.unusedVariables false

abbrev tN (n : Int) : Vl := .mk 2 n ⟨#[]⟩ [] 0 [] 0
theorem few_tN (n : Int) : few (tN n) := few_mk.2 ⟨by simp, by simp, fun a ha => by cases ha⟩
/-- the states of the guard -/
abbrev G1 : Hs := ⟨[⟨true, tN 7, [⟨1, [], true⟩]⟩], 1, 1, 4, true⟩
abbrev G2 : Hs := ⟨[⟨true, tN 7, [⟨1, [], true⟩, ⟨2, [], true⟩]⟩], 2, 1, 4, true⟩
theorem g_alloc : allocS ⟨[], 0, 0, 4, true⟩ (tN 7) = G1 := rfl
theorem wh7 : wholeV (tN 7) = true := by rw [whole_mk]; rfl
theorem g_borrow : borrowS G1 0 [] 1 true = (G2, .ok 2) := by
  have : useGet G1 0 [] 1 true = (G1, .ok (tN 7)) := by
    have : useS G1 0 [] 1 true = .ok G1 := rfl
    unfold useGet
    rw [this]
    show (G1, getW G1 0 []) = _
    have : getW G1 0 [] = if wholeV (tN 7) = true then .ok (tN 7) else .error 3 := rfl
    rw [this, if_pos wh7]
  unfold borrowS
  rw [this]
  rfl
theorem g_read (tg : Int) (S S' : Hs) (h : useS S 0 [] tg false = .ok S') (h2 : getW S' 0 [] = if wholeV (tN 7) = true then .ok (tN 7) else .error 3) : useGet S 0 [] tg false = (S', .ok (tN 7)) := by
  unfold useGet
  rw [h]
  show (S', getW S' 0 []) = _
  rw [h2, if_pos wh7]
theorem g_read1 : useGet G2 0 [] 2 false = (G2, .ok (tN 7)) := g_read 2 G2 G2 rfl rfl
abbrev G3 : Hs := ⟨[⟨true, tN 7, [⟨1, [], true⟩]⟩], 2, 1, 4, true⟩
theorem g_read2 : useGet G2 0 [] 1 false = (G3, .ok (tN 7)) := g_read 1 G2 G3 rfl rfl
theorem g_read3 : useGet G3 0 [] 2 false = (G3, .error 2) := rfl
theorem few_G1 : Few G1 := ⟨by decide, by decide, by decide, by decide, by decide, by simp⟩
theorem few_G2 : Few G2 := ⟨by decide, by decide, by decide, by decide, by decide, by simp⟩
theorem few_G3 : Few G3 := ⟨by decide, by decide, by decide, by decide, by decide, by simp⟩
theorem few_new (most : Int) (w : Bool) : Few ⟨[], 0, 0, most, w⟩ := ⟨by simp, by simp, by simp, by simp, by simp, fun a ha => by cases ha⟩
theorem Told.n {lab : Nat → Lb} {lo : Nat} {h : Heap} {n : Int} {u : Vv} (x : Told lab lo h (tN n) u) : u.n = n := (vAt_iff.1 x).2.1
theorem watched_spec (h : Heap) : CallsH Try.prog 9 #[] h (fun v h' => Grow h h' ∧ v = .bool true) := by
  apply F9
  unfold L9
  refine cal_of (new_ses 4 true) ?_
  rintro _ h1 ⟨lab, rfl, x1⟩
  refine ⟨_, rfl, ?_⟩
  generalize h.size = hp at *
  refine cal_of (num_spec 7) ?_
  rintro _ h2 ⟨g2, rfl⟩
  refine ⟨_, _, _, ⟨none, 0, 0⟩, _, ⟨none, 0, 0⟩, _, rfl, ?_⟩
  refine cal_of (alloc_ses (x1.grow g2) (few_new 4 true) (num_at _ _ _ 7) (few_tN 7)) ?_
  rintro _ h3 ⟨lab3, t3, hm⟩
  rw [if_neg (by decide)] at hm
  obtain ⟨x3, rfl⟩ := hm
  rw [g_alloc] at x3
  refine ⟨_, rfl, _, rfl, _, ⟨none, 0, 0⟩, _, rfl, _, rfl, _, rfl, ?_⟩
  refine minePt (al := 0) (sp := ⟨none, 0, 0⟩) (tg := 1) fun h5 k5 g5 => ⟨fun e => (by cases e), fun _ => ?_⟩
  have P5 : PtAt lab3 h5 h3.size 0 ⟨none, 0, 0⟩ 1 [] := ⟨k5, x3.no (Nat.le_refl _), IntsC.nil _ _, by simp⟩
  have x5 := x3.grow g5
  generalize h3.size = p2 at *
  refine rdPt k5 ?_
  refine cal_of (borrow_ses x5 few_G1 P5.2.2.1 P5.2.2.2 true) ?_
  rintro _ h6 ⟨lab6, t6, x6, hm⟩
  rw [g_borrow] at x6 hm
  obtain ⟨so, rfl, io⟩ := hm
  refine ⟨_, rfl, _, rfl, _, so, _, rfl, _, rfl, _, rfl, ?_⟩
  have P6 := P5.op t6
  refine minePt (al := 0) (sp := so) (tg := 2) fun h8 k8 g8 => ?_
  have Q8 : PtAt lab6 h8 h6.size 0 so 2 [] := ⟨k8, x6.no (Nat.le_refl _), (io.weak fun b hb _ => till_nomut hb).fr g8 fun _ _ h => h, by simp⟩
  have P8 := P6.grow g8
  have x8 := x6.grow g8
  generalize h6.size = p4 at *
  refine rdPt k8 ?_
  refine cal_of (read_ses x8 few_G2 Q8.2.2.1 Q8.2.2.2) ?_
  rintro _ h9 ⟨t9, x9, hm⟩
  rw [g_read1] at x9 hm
  obtain ⟨u, rfl, hu⟩ := hm
  have hun := hu.n
  refine ⟨_, rfl, _, rfl, _, _, _, u.ps, _, u.pa, _, rfl, _, rfl, _, rfl, ?_⟩
  refine mineV (v := u) fun h11 k11 g11 => ?_
  have P11 := (P8.op t9).grow g11
  have Q11 := (Q8.op t9).grow g11
  have x11 := x9.grow g11
  have l6 : lab6 h9.size = .no := x9.no (Nat.le_refl _)
  generalize h9.size = p6 at *
  refine rdPt P11.1 ?_
  refine cal_of (read_ses x11 few_G2 P11.2.2.1 P11.2.2.2) ?_
  rintro _ h12 ⟨t12, x12, hm⟩
  rw [g_read2] at x12 hm
  obtain ⟨u2, rfl, hu2⟩ := hm
  refine ⟨_, rfl, _, rfl, _, _, _, u2.ps, _, u2.pa, _, rfl, _, rfl, _, rfl, ?_⟩
  refine mineV (v := u2) fun h14 k14 g14 => ?_
  have k6 := g14.blk (t12.1.blk k11 (nomut l6)) fun h => h
  have Q14 := (Q11.op t12).grow g14
  have x14 := x12.grow g14
  refine rdPt Q14.1 ?_
  refine cal_of (read_ses x14 few_G3 Q14.2.2.1 Q14.2.2.2) ?_
  rintro _ h15 ⟨t15, x15, hm⟩
  rw [g_read3] at x15 hm
  dsimp only at hm
  subst hm
  refine ⟨_, rfl, _, rfl, _, _, _, ⟨none, 0, 0⟩, _, ⟨none, 0, 0⟩, _, rfl, _, rfl, _, rfl, ?_⟩
  refine mineV (v := zVv) fun h17 k17 g17 => ?_
  have k6' := g17.blk (t15.1.blk k6 (nomut l6)) fun h => h
  have x17 := x15.grow g17
  refine ⟨fun b => b = true, ⟨fun _ => ldI_i (x := u.n) (by rw [add_plain, k6'.cl]; rfl) (by rw [hun]; rfl), fun e => (by simp at e)⟩, ?_⟩
  rintro _ rfl
  refine ⟨fun b h' => b = true ∧ Grow h h', ⟨fun _ => cal_of (live_ses x17) ?_, fun e => (by simp at e)⟩, fun _ h18 ⟨e, g⟩ => ⟨g, by rw [e]⟩⟩
  rintro _ _ ⟨rfl, rfl⟩
  obtain ⟨_, _, _, g, _⟩ := x17
  exact ⟨_, rfl, rfl, g⟩
end Go.Proofs.Ytggacajnmgligaa

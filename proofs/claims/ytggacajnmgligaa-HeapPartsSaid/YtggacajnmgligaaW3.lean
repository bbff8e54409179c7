/-
  HeapFrees, walked.
-/
import Derived.Test.YtggacajnmgligaaH12
import Derived.Test.YtggacajnmgligaaW2
namespace Go.Proofs.Ytggacajnmgligaa
open Go Go.Lf
set_option linter.unusedVariables false

def fewB (S : Hs) : Bool := decide (S.l.length ≤ 1000000) && decide (0 ≤ S.tags) && decide (S.tags ≤ 1000000) && decide (-1000000 ≤ S.live) && decide (S.live ≤ 1000000) && S.l.all (fun a => decide (a.st.length ≤ 1000000))
theorem few_of {S : Hs} (h : fewB S = true) : Few S := by
  unfold fewB at h
  simp only [Bool.and_eq_true, decide_eq_true_eq, List.all_eq_true] at h
  obtain ⟨⟨⟨⟨⟨h1, h2⟩, h3⟩, h4⟩, h5⟩, h6⟩ := h
  exact ⟨h1, h2, h3, h4, h5, h6⟩
def okB (S : Hs) : Bool := decide ((liveN S : Int) ≤ S.live + 1000000) && decide (S.live ≤ 1000000)
theorem ok_of {S : Hs} (h : okB S = true) : OkL S := by
  unfold okB at h
  simp only [Bool.and_eq_true, decide_eq_true_eq] at h
  exact h
section
variable {h0 h h' : Heap} {lab : Nat → Lb} {hp : Nat} {S : Hs} {T : Nat → Prop}
theorem Ses.own (x : Ses h0 lab h hp S) (f : Fr T h h') (hT : ∀ b, T b → lab b = .no ∧ h0.size ≤ b) : Ses h0 lab h' hp S := by
  obtain ⟨s, bs, x, g0, l0⟩ := x
  exact ⟨s, bs, x.fr f fun b hb => (hT b hb).1, g0.trans' f fun i hi e => by have := (hT i e).2; omega, l0⟩
end
abbrev bV (i : Int) : Vl := .mk 6 0 ⟨#[]⟩ [] i [] 0
theorem few_bV (i : Int) : few (bV i) := few_mk.2 ⟨by simp, by simp, fun a ha => by cases ha⟩
theorem bV_at {h : Heap} (o : Bool) (Q : Nat → Prop) (A : List Nat → Nat → Prop) (i : Int) : VAt o Q h (bV i) A ⟨6, 0, ⟨#[]⟩, ⟨none, 0, 0⟩, i, ⟨none, 0, 0⟩, 0⟩ :=
  vAt_iff.2 ⟨rfl, rfl, rfl, rfl, rfl, IntsC.nil _ _, rfl, fun j hj => absurd hj (Nat.not_lt_zero _)⟩
/-- a chain of Boxes -/
def CS (n : Int) : Nat → Hs
  | 0 => allocS ⟨[], 0, 0, 20, true⟩ (tN n)
  | k + 1 => allocS (CS n k) (bV k)
theorem cs_facts (n : Int) (k : Nat) : (CS n k).l.length = k + 1 ∧ (CS n k).tags = k + 1 ∧ (CS n k).live = k + 1 ∧ (CS n k).most = 20 ∧ (CS n k).watch = true ∧ ∀ a ∈ (CS n k).l, a.st.length ≤ 1 := by
  induction k with
  | zero =>
    refine ⟨rfl, rfl, rfl, rfl, rfl, fun a ha => ?_⟩
    simp [CS, allocS] at ha
    subst ha; simp
  | succ k ih =>
    obtain ⟨h1, h2, h3, h4, h5, h6⟩ := ih
    refine ⟨by simp [CS, allocS, h1], by simp [CS, allocS, h2], by simp [CS, allocS, h3], h4, h5, fun a ha => ?_⟩
    simp only [CS, allocS, List.mem_append, List.mem_cons, List.not_mem_nil, or_false] at ha
    rcases ha with ha | rfl
    · exact h6 a ha
    · simp only [h5, if_true, List.length_cons, List.length_nil]; omega
theorem cs_few (n : Int) (k : Nat) (hk : k ≤ 10) : Few (CS n k) := by
  obtain ⟨h1, h2, h3, h4, h5, h6⟩ := cs_facts n k
  exact ⟨by omega, by omega, by omega, by omega, by omega, fun a ha => by have := h6 a ha; omega⟩
/-- what comes of it -/
theorem cs_end (n : Int) (k : Nat) (h1 : 1 ≤ k) (h2 : k ≤ 6) : ∃ B F : Hs, borrowS (CS n k) 0 [] 1 false = (B, .ok (k + 2)) ∧ Few B ∧ B.live = k + 1 ∧ liveN B ≤ 10 ∧ OkL B ∧ freeS 10 B k = (F, 0) ∧ Few F ∧ F.live = 0 ∧ liveN F ≤ 10 ∧ OkL F ∧ useGet F 0 [] (k + 2) false = (F, .error 1) ∧ (freeS 10 F k).2 = 1 := by
  have hc : k = 1 ∨ k = 2 ∨ k = 3 ∨ k = 4 ∨ k = 5 ∨ k = 6 := by omega
  rcases hc with rfl | rfl | rfl | rfl | rfl | rfl
  · exact ⟨(borrowS (CS n 1) 0 [] 1 false).1, (freeS 10 (borrowS (CS n 1) 0 [] 1 false).1 1).1, by kernel_rfl, few_of (by kernel_rfl), by kernel_rfl, of_decide_eq_true (by kernel_rfl), ok_of (by kernel_rfl), by kernel_rfl, few_of (by kernel_rfl), by kernel_rfl, of_decide_eq_true (by kernel_rfl), ok_of (by kernel_rfl), by kernel_rfl, by kernel_rfl⟩
  · exact ⟨(borrowS (CS n 2) 0 [] 1 false).1, (freeS 10 (borrowS (CS n 2) 0 [] 1 false).1 2).1, by kernel_rfl, few_of (by kernel_rfl), by kernel_rfl, of_decide_eq_true (by kernel_rfl), ok_of (by kernel_rfl), by kernel_rfl, few_of (by kernel_rfl), by kernel_rfl, of_decide_eq_true (by kernel_rfl), ok_of (by kernel_rfl), by kernel_rfl, by kernel_rfl⟩
  · exact ⟨(borrowS (CS n 3) 0 [] 1 false).1, (freeS 10 (borrowS (CS n 3) 0 [] 1 false).1 3).1, by kernel_rfl, few_of (by kernel_rfl), by kernel_rfl, of_decide_eq_true (by kernel_rfl), ok_of (by kernel_rfl), by kernel_rfl, few_of (by kernel_rfl), by kernel_rfl, of_decide_eq_true (by kernel_rfl), ok_of (by kernel_rfl), by kernel_rfl, by kernel_rfl⟩
  · exact ⟨(borrowS (CS n 4) 0 [] 1 false).1, (freeS 10 (borrowS (CS n 4) 0 [] 1 false).1 4).1, by kernel_rfl, few_of (by kernel_rfl), by kernel_rfl, of_decide_eq_true (by kernel_rfl), ok_of (by kernel_rfl), by kernel_rfl, few_of (by kernel_rfl), by kernel_rfl, of_decide_eq_true (by kernel_rfl), ok_of (by kernel_rfl), by kernel_rfl, by kernel_rfl⟩
  · exact ⟨(borrowS (CS n 5) 0 [] 1 false).1, (freeS 10 (borrowS (CS n 5) 0 [] 1 false).1 5).1, by kernel_rfl, few_of (by kernel_rfl), by kernel_rfl, of_decide_eq_true (by kernel_rfl), ok_of (by kernel_rfl), by kernel_rfl, few_of (by kernel_rfl), by kernel_rfl, of_decide_eq_true (by kernel_rfl), ok_of (by kernel_rfl), by kernel_rfl, by kernel_rfl⟩
  · exact ⟨(borrowS (CS n 6) 0 [] 1 false).1, (freeS 10 (borrowS (CS n 6) 0 [] 1 false).1 6).1, by kernel_rfl, few_of (by kernel_rfl), by kernel_rfl, of_decide_eq_true (by kernel_rfl), ok_of (by kernel_rfl), by kernel_rfl, few_of (by kernel_rfl), by kernel_rfl, of_decide_eq_true (by kernel_rfl), ok_of (by kernel_rfl), by kernel_rfl, by kernel_rfl⟩
theorem deep_wrap (d : Int) : ∃ k : Nat, IntKind.i64.wrap (1 + IntKind.i64.wrap ((IntKind.u64.wrap d).tmod 6)) = k ∧ 1 ≤ k ∧ k ≤ 6 := by
  have h1 : 0 ≤ IntKind.u64.wrap d := by rw [IntKind.wrap_u64]; omega
  rw [Int.tmod_eq_emod_of_nonneg h1]
  generalize IntKind.u64.wrap d = x at *
  rw [wrap64_id (x := x % 6) (by omega) (by omega), wrap64_id (by omega) (by omega)]
  exact ⟨(1 + x % 6).toNat, by omega, by omega, by omega⟩
theorem frees_walk (n d : Int) (h : Heap) : CallsH Try.prog 3 #[.int .u64 n, .int .i64 d] h (fun v h' => v = .bool true ∧ Grow h h') := by
  apply F3
  unfold L3
  obtain ⟨k, hk, hk1, hk2⟩ := deep_wrap d
  rw [hk]
  have hg0 : Grow h h := Fr.refl _ _
  refine cal_of (new_ses 20 true) ?_
  rintro _ h1 ⟨lab, rfl, x1⟩
  refine ⟨_, rfl, ?_⟩
  have hz0 : h.size ≤ h.size := Nat.le_refl _
  generalize h.size = hp at x1 ⊢
  refine cal_of (watched_spec h1) ?_
  rintro _ h2 ⟨g2, rfl⟩
  refine ⟨_, rfl, fun e => (by cases e), fun _ => ?_⟩
  refine cal_of (num_spec n) ?_
  rintro _ h3 ⟨g3, rfl⟩
  refine ⟨_, _, _, ⟨none, 0, 0⟩, _, ⟨none, 0, 0⟩, _, rfl, ?_⟩
  refine cal_of (alloc_ses ((x1.grow g2).grow g3) (few_new 20 true) (num_at _ _ _ n) (few_tN n)) ?_
  rintro _ h4 ⟨lab4, t4, hm⟩
  rw [if_neg (by decide)] at hm
  obtain ⟨x4, rfl⟩ := hm
  refine ⟨_, rfl, _, rfl, _, ⟨none, 0, 0⟩, _, rfl, _, rfl, _, rfl, ?_⟩
  refine minePt (al := 0) (sp := ⟨none, 0, 0⟩) (tg := 1) fun h6 k6 g6 => ?_
  refine rdPt k6 ?_
  refine minePt (al := 0) (sp := ⟨none, 0, 0⟩) (tg := 1) fun h8 k8 g8 => ?_
  have x6 := x4.grow g6
  have x8 := x6.grow g8
  have K6 := g8.blk k6 fun h => h
  have P8 : PtAt lab4 h8 h6.size 0 ⟨none, 0, 0⟩ 1 [] := ⟨k8, x6.no (Nat.le_refl _), IntsC.nil _ _, by simp⟩
  have l6 : lab4 h4.size = .no := x4.no (Nat.le_refl _)
  have hge6 : h.size ≤ h4.size := by obtain ⟨_, _, _, g, _⟩ := x4; exact g.size
  have hne : h4.size ≠ h6.size := by have := k6.lt; omega
  generalize h4.size = p6 at *
  generalize h6.size = p8 at *
  refine ⟨fun ok i h' => ∃ (j : Nat) (lab' : Nat → Lb), ok = true ∧ i = j ∧ j ≤ k ∧ Ses h lab' h' hp (CS n j) ∧ blk h' p6 (pvs j ⟨none, 0, 0⟩ (j + 1)) ∧ lab' p6 = .no ∧ PtAt lab' h' p8 0 ⟨none, 0, 0⟩ 1 [], fun _ i _ => k - i.toNat, ⟨0, lab4, rfl, rfl, Nat.zero_le _, x8, K6, l6, P8⟩, ?_⟩
  rintro _ _ h9 ⟨j, lab9, rfl, rfl, hj, x9, k9, l9, P9⟩
  obtain ⟨c1, c2, c3, c4, c5, c6⟩ := cs_facts n j
  refine ifb_iff (q := j < k) (by simp) (fun hlt => ⟨fun e => (by cases e), fun _ => ?_⟩) (fun hge => ?_)
  · refine ldI_i (x := j) (by rw [k9.cl]; rfl) ?_
    refine cal_of (alloc_ses (v := ⟨6, 0, ⟨#[]⟩, ⟨none, 0, 0⟩, j, ⟨none, 0, 0⟩, 0⟩) x9 (cs_few n j (by omega)) (bV_at _ _ _ j) (few_bV j)) ?_
    rintro _ h10 ⟨lab10, t10, hm⟩
    rw [if_neg (by rw [c3, c4]; omega)] at hm
    obtain ⟨x10, rfl⟩ := hm
    refine ⟨_, rfl, _, rfl, _, ⟨none, 0, 0⟩, _, rfl, _, rfl, _, rfl, ?_⟩
    have k10 := t10.1.blk k9 (nomut l9)
    have l10 : lab10 p6 = .no := by rw [t10.2 p6 k9.lt (nomut l9)]; exact l9
    have P10 := P9.op t10
    rw [c1, c2]
    refine stoPt (al := ((j + 1 : Nat) : Int)) (sp := ⟨none, 0, 0⟩) (tg := (j : Int) + 1 + 1) k10 rfl fun h11 k11 f11 => ?_
    rw [wrap_succ hlt (by omega)]
    refine ⟨⟨j + 1, lab10, rfl, rfl, hlt, x10.own f11 (fun b hb => by rw [hb]; exact ⟨l10, hge6⟩), k11, l10, ⟨f11.blk P10.1 (fun e => hne e.symm), P10.2.1, IntsC.nil _ _, by simp⟩⟩, by dsimp only; omega⟩
  obtain rfl : j = k := by omega
  obtain ⟨B, F, b1, b2, b3, b4, b5, b6, b7, b8, b9, b10, b11, b12⟩ := cs_end n j hk1 hk2
  refine rdPt P9.1 ?_
  refine cal_of (borrow_ses x9 (cs_few n j (by omega)) P9.2.2.1 P9.2.2.2 false) ?_
  rintro _ h12 ⟨lab12, t12, x12, hm⟩
  rw [b1] at x12 hm
  obtain ⟨so, rfl, io⟩ := hm
  refine ⟨_, rfl, _, rfl, _, so, _, rfl, _, rfl, _, rfl, ?_⟩
  have k12 := t12.1.blk k9 (nomut l9)
  have l12 : lab12 p6 = .no := by rw [t12.2 p6 k9.lt (nomut l9)]; exact l9
  refine minePt (al := 0) (sp := so) (tg := (j : Int) + 2) fun h14 k14 g14 => ?_
  have Q14 : PtAt lab12 h14 h12.size 0 so (j + 2) [] := ⟨k14, x12.no (Nat.le_refl _), (io.weak fun b hb _ => till_nomut hb).fr g14 fun _ _ h => h, by simp⟩
  have x14 := x12.grow g14
  generalize h12.size = p10 at *
  have K14 := g14.blk k12 fun h => h
  refine cal_of (live_ses x14) ?_
  rintro _ _ ⟨rfl, rfl⟩
  refine ⟨_, rfl, ldI_i (x := j) (by rw [K14.cl]; rfl) ?_⟩
  refine cal_of (free_ok 10 h lab12 h14 hp B j x14 b4 b5) ?_
  rintro _ h16 ⟨lab16, t16, x16, rfl, -, -⟩
  rw [b6] at x16 ⊢
  refine ⟨_, rfl, ?_⟩
  have Q16 := Q14.op t16
  have K16 := t16.1.blk K14 (nomut l12)
  have l16 : lab16 p6 = .no := by rw [t16.2 p6 K14.lt (nomut l12)]; exact l12
  refine rdPt Q16.1 ?_
  refine cal_of (read_ses x16 b7 Q16.2.2.1 Q16.2.2.2) ?_
  rintro _ h17 ⟨t17, x17, hm⟩
  rw [b11] at x17 hm
  dsimp only at hm
  subst hm
  refine ⟨_, rfl, _, rfl, _, _, _, ⟨none, 0, 0⟩, _, ⟨none, 0, 0⟩, _, rfl, _, rfl, _, rfl, ?_⟩
  have K17 := t17.1.blk K16 (nomut l16)
  refine mineV (v := zVv) fun h19 k19 g19 => ?_
  have K19 := g19.blk K17 fun h => h
  have x19 := x17.grow g19
  rw [b3, wrap64_id (x := (j : Int) + 1) (by omega) (by omega)]
  refine ⟨fun b h' => b = true ∧ h' = h19, ⟨fun _ => cal_of (live_ses x19) ?_, fun e => ?_⟩, ?_⟩
  · rintro _ _ ⟨rfl, rfl⟩
    exact ⟨_, rfl, by rw [b8]; rfl, rfl⟩
  · simp at e
  rintro _ h20 ⟨rfl, rfl⟩
  refine ⟨fun b h' => b = true ∧ Grow h h', ⟨fun _ => ldI_i (x := j) (by rw [K19.cl]; rfl) ?_, fun e => (by cases e)⟩, fun _ h22 ⟨e, g⟩ => ⟨by rw [e], g⟩⟩
  refine cal_of (free_ok 10 h lab16 h20 hp F j x19 b9 b10) ?_
  rintro _ h23 ⟨lab23, t23, x23, rfl, -, -⟩
  rw [b12]
  obtain ⟨_, _, _, g, _⟩ := x23
  exact ⟨_, rfl, rfl, g⟩
end Go.Proofs.Ytggacajnmgligaa

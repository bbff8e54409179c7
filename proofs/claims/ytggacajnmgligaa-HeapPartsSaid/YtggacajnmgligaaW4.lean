/-
  HeapRights, walked.
-/
import Derived.Test.YtggacajnmgligaaH14
import Derived.Test.YtggacajnmgligaaW3
namespace Go.Proofs.Ytggacajnmgligaa
open Go Go.Lf
set_option linter.unusedVariables false

theorem liveN_same {S : Hs} {j : Nat} (h : j < S.l.length) (hl : S.l[j].live = true) {a' : Al} (ha : a'.live = true) : liveN { S with l := S.l.set j a' } = liveN S := by
  unfold liveN
  have hpos : 0 < S.l.countP (fun a => a.live) := List.countP_pos_iff.2 ⟨_, List.getElem_mem h, hl⟩
  dsimp only
  rw [List.countP_set h]
  simp only [hl, ha, if_true]
  omega
theorem useAl_live {a a' : Al} {pa : List Int} {tg : Int} {w : Bool} (h : useAl a pa tg w = some a') : a'.live = a.live := by
  unfold useAl at h
  split at h
  · cases h
  · split at h
    · cases h
    · split at h
      · cases h
      · simp only [Option.some.injEq] at h
        subst h; rfl
theorem useS_liveN {S S' : Hs} {al tg : Int} {pa : List Int} {w : Bool} (h : useS S al pa tg w = .ok S') : liveN S' = liveN S ∧ S'.live = S.live := by
  unfold useS at h
  split at h
  · cases h
  · rename_i a ha
    split at h
    · simp only [Except.ok.injEq] at h
      subst h; exact ⟨rfl, rfl⟩
    · split at h
      · cases h
      · rename_i a' ha'
        simp only [Except.ok.injEq] at h
        subst h
        obtain ⟨j, rfl, h2, rfl, hl⟩ := atS_some ha
        rw [Int.toNat_natCast]
        exact ⟨liveN_same h2 hl (by rw [useAl_live ha']; exact hl), rfl⟩
section
variable {lab : Nat → Lb} {h0 h : Heap} {hp : Nat} {S : Hs}
theorem write_ses' (x : Ses h0 lab h hp S) (hS : Few S) (hO : OkL S) {al tg : Int} {sp : Sv} {pa : List Int} (hpt : IntsC (fun b => ¬ Mut (lab b)) h sp pa) (hpl : pa.length ≤ 1000000) {xt : Vl} {xv : Vv} (hx : Calm lab h xt xv) (hfx : few xt) {n : Nat} (hn : liveN S ≤ n) :
    CallsH Try.prog 17 #[ptr hp, .agg (pvs al sp tg), .agg (vvs xv)] h (fun v h' => ∃ lab', Stp lab h lab' h' ∧ Ses h0 lab' h' hp (writeS n S al pa tg xt).1 ∧ v = .int .i64 (writeS n S al pa tg xt).2) := by
  refine write_ses x hS hpt hpl hx hfx fun S1 a hu ha => ?_
  obtain ⟨e1, e2⟩ := useS_liveN hu
  obtain ⟨j, rfl, h2, rfl, hl⟩ := atS_some ha
  rw [Int.toNat_natCast]
  have e3 := liveN_same (S := S1) h2 hl (a' := { S1.l[j] with v := putV S1.l[j].v (natsOf pa) xt }) hl
  refine ⟨Nat.le_trans (Nat.le_of_eq e3) (by omega), ?_, ?_⟩
  · refine Int.le_trans (Int.ofNat_le.2 (Nat.le_of_eq (e3.trans e1))) ?_
    show _ ≤ S1.live + 1000000
    rw [e2]; exact hO.1
  · show S1.live ≤ 1000000
    rw [e2]; exact hO.2
end
/-- a struct of two numbers -/
abbrev tT (a b : Int) : Vl := .mk 5 0 ⟨#[83]⟩ [tN a, tN b] 0 [] 0
theorem few_tT (a b : Int) : few (tT a b) := few_mk.2 ⟨by simp, by simp, fun x hx => by
  simp only [List.mem_cons, List.not_mem_nil, or_false] at hx
  rcases hx with rfl | rfl
  · exact few_tN a
  · exact few_tN b⟩
theorem two_spec (a b : Int) (h : Heap) : CallsH Try.prog 16 #[.int .u64 a, .int .u64 b] h (fun v h' => Grow h h' ∧ ∃ u, v = .agg (vvs u) ∧ VAt false (fun c => h.size ≤ c) h' (tT a b) (anyA fun c => h.size ≤ c) u) := by
  apply F16
  unfold L16
  refine newV (v := zVv) fun h1 k1 f1 z1 => ?_
  refine cal_of (num_spec a) ?_
  rintro _ h2 ⟨g2, rfl⟩
  refine ⟨_, _, _, ⟨none, 0, 0⟩, _, ⟨none, 0, 0⟩, _, rfl, ?_⟩
  refine cal_of (num_spec b) ?_
  rintro _ h3 ⟨g3, rfl⟩
  refine ⟨_, _, _, ⟨none, 0, 0⟩, _, ⟨none, 0, 0⟩, _, rfl, ?_⟩
  rintro s9 h4 rfl rfl
  have g4 : Grow h3 (h3.push (.cells #[.int .i64 2, .int .u64 a, .string (⟨#[]⟩ : ByteArray), .slice none 0 0, .int .i64 0, .slice none 0 0, .int .i64 0, .int .i64 2, .int .u64 b, .string (⟨#[]⟩ : ByteArray), .slice none 0 0, .int .i64 0, .slice none 0 0, .int .i64 0] 33)) := Fr.push _ _ _
  have k4 : blk (h3.push (.cells #[.int .i64 2, .int .u64 a, .string (⟨#[]⟩ : ByteArray), .slice none 0 0, .int .i64 0, .slice none 0 0, .int .i64 0, .int .i64 2, .int .u64 b, .string (⟨#[]⟩ : ByteArray), .slice none 0 0, .int .i64 0, .slice none 0 0, .int .i64 0] 33)) h3.size _ := blk.new _ _ _
  generalize h3.push (.cells #[.int .i64 2, .int .u64 a, .string (⟨#[]⟩ : ByteArray), .slice none 0 0, .int .i64 0, .slice none 0 0, .int .i64 0, .int .i64 2, .int .u64 b, .string (⟨#[]⟩ : ByteArray), .slice none 0 0, .int .i64 0, .slice none 0 0, .int .i64 0] 33) = h4 at *
  have s1 := f1.size
  have s2 := g2.size
  have s3 := g3.size
  refine stoV (v := ⟨5, 0, ⟨#[83]⟩, ⟨some ⟨h3.size, 0, none⟩, 2, 2⟩, 0, ⟨none, 0, 0⟩, 0⟩) (g4.blk (g3.blk (g2.blk k1 fun h => h) fun h => h) fun h => h) rfl fun h5 k5 f5 => rd7 (Vv7.blk k5) ?_
  have K4 := f5.blk k4 (by omega)
  refine ⟨(((f1.trans g2).trans g3).trans g4).trans' f5 fun i hi e => by omega, _, rfl, vAt_iff.2 ⟨rfl, rfl, rfl, rfl, rfl, IntsC.nil _ _, rfl, fun j hj => ?_⟩⟩
  have hj2 : j < 2 := hj
  have hge : h.size ≤ h3.size := by omega
  match j, hj2 with
  | 0, _ =>
    refine ⟨⟨h3.size, 0, none⟩, ⟨2, a, ⟨#[]⟩, ⟨none, 0, 0⟩, 0, ⟨none, 0, 0⟩, 0⟩, rfl, hge, fun e => (by cases e), fun m w hw => ?_, num_at _ _ _ a⟩
    have hm : m < 7 := (Array.getElem?_eq_some_iff.1 hw).1
    rw [add_plain, add_plain, K4.cl]
    match m, hm with
    | 0, _ => exact hw
    | 1, _ => exact hw
    | 2, _ => exact hw
    | 3, _ => exact hw
    | 4, _ => exact hw
    | 5, _ => exact hw
    | 6, _ => exact hw
  | 1, _ =>
    refine ⟨⟨h3.size, 0, none⟩, ⟨2, b, ⟨#[]⟩, ⟨none, 0, 0⟩, 0, ⟨none, 0, 0⟩, 0⟩, rfl, hge, fun e => (by cases e), fun m w hw => ?_, num_at _ _ _ b⟩
    have hm : m < 7 := (Array.getElem?_eq_some_iff.1 hw).1
    rw [add_plain, add_plain, K4.cl]
    match m, hm with
    | 0, _ => exact hw
    | 1, _ => exact hw
    | 2, _ => exact hw
    | 3, _ => exact hw
    | 4, _ => exact hw
    | 5, _ => exact hw
    | 6, _ => exact hw
/-- what comes of it -/
abbrev T1 (a b : Int) : Hs := allocS ⟨[], 0, 0, 4, true⟩ (tT a b)
theorem rt_facts (a b : Int) (u w : Bool) {pa : List Int} (hpa : pa = [] ∨ pa = [0] ∨ pa = [1]) : ∃ B C : Hs, borrowS (T1 a b) 0 pa 1 u = (B, .ok 2) ∧ Few B ∧ OkL B ∧ liveN B ≤ 10 ∧ (w = true → writeS 10 B 0 [] 1 (tT b a) = (C, 0)) ∧ (w = false → useGet B 0 [] 1 false = (C, .ok (tT a b))) ∧ Few C ∧
    ((u || w) = true → useGet C 0 pa 2 false = (C, .error 2)) ∧ ((u || w) = false → ∃ D y, useGet C 0 pa 2 false = (D, .ok y)) := by
  rcases hpa with rfl | rfl | rfl <;> cases u <;> cases w
  · exact ⟨(borrowS (T1 a b) 0 [] 1 false).1, (useGet (borrowS (T1 a b) 0 [] 1 false).1 0 [] 1 false).1, by kernel_rfl, few_of (by kernel_rfl), ok_of (by kernel_rfl), of_decide_eq_true (by kernel_rfl), fun e => (by cases e), fun _ => by kernel_rfl, few_of (by kernel_rfl), fun e => (by cases e), fun _ => ⟨(useGet (useGet (borrowS (T1 a b) 0 [] 1 false).1 0 [] 1 false).1 0 [] 2 false).1, tT a b, by kernel_rfl⟩⟩
  · exact ⟨(borrowS (T1 a b) 0 [] 1 false).1, (writeS 10 (borrowS (T1 a b) 0 [] 1 false).1 0 [] 1 (tT b a)).1, by kernel_rfl, few_of (by kernel_rfl), ok_of (by kernel_rfl), of_decide_eq_true (by kernel_rfl), fun _ => by kernel_rfl, fun e => (by cases e), few_of (by kernel_rfl), fun _ => by kernel_rfl, fun e => (by cases e)⟩
  · exact ⟨(borrowS (T1 a b) 0 [] 1 true).1, (useGet (borrowS (T1 a b) 0 [] 1 true).1 0 [] 1 false).1, by kernel_rfl, few_of (by kernel_rfl), ok_of (by kernel_rfl), of_decide_eq_true (by kernel_rfl), fun e => (by cases e), fun _ => by kernel_rfl, few_of (by kernel_rfl), fun _ => by kernel_rfl, fun e => (by cases e)⟩
  · exact ⟨(borrowS (T1 a b) 0 [] 1 true).1, (writeS 10 (borrowS (T1 a b) 0 [] 1 true).1 0 [] 1 (tT b a)).1, by kernel_rfl, few_of (by kernel_rfl), ok_of (by kernel_rfl), of_decide_eq_true (by kernel_rfl), fun _ => by kernel_rfl, fun e => (by cases e), few_of (by kernel_rfl), fun _ => by kernel_rfl, fun e => (by cases e)⟩
  · exact ⟨(borrowS (T1 a b) 0 [0] 1 false).1, (useGet (borrowS (T1 a b) 0 [0] 1 false).1 0 [] 1 false).1, by kernel_rfl, few_of (by kernel_rfl), ok_of (by kernel_rfl), of_decide_eq_true (by kernel_rfl), fun e => (by cases e), fun _ => by kernel_rfl, few_of (by kernel_rfl), fun e => (by cases e), fun _ => ⟨(useGet (useGet (borrowS (T1 a b) 0 [0] 1 false).1 0 [] 1 false).1 0 [0] 2 false).1, tN a, by kernel_rfl⟩⟩
  · exact ⟨(borrowS (T1 a b) 0 [0] 1 false).1, (writeS 10 (borrowS (T1 a b) 0 [0] 1 false).1 0 [] 1 (tT b a)).1, by kernel_rfl, few_of (by kernel_rfl), ok_of (by kernel_rfl), of_decide_eq_true (by kernel_rfl), fun _ => by kernel_rfl, fun e => (by cases e), few_of (by kernel_rfl), fun _ => by kernel_rfl, fun e => (by cases e)⟩
  · exact ⟨(borrowS (T1 a b) 0 [0] 1 true).1, (useGet (borrowS (T1 a b) 0 [0] 1 true).1 0 [] 1 false).1, by kernel_rfl, few_of (by kernel_rfl), ok_of (by kernel_rfl), of_decide_eq_true (by kernel_rfl), fun e => (by cases e), fun _ => by kernel_rfl, few_of (by kernel_rfl), fun _ => by kernel_rfl, fun e => (by cases e)⟩
  · exact ⟨(borrowS (T1 a b) 0 [0] 1 true).1, (writeS 10 (borrowS (T1 a b) 0 [0] 1 true).1 0 [] 1 (tT b a)).1, by kernel_rfl, few_of (by kernel_rfl), ok_of (by kernel_rfl), of_decide_eq_true (by kernel_rfl), fun _ => by kernel_rfl, fun e => (by cases e), few_of (by kernel_rfl), fun _ => by kernel_rfl, fun e => (by cases e)⟩
  · exact ⟨(borrowS (T1 a b) 0 [1] 1 false).1, (useGet (borrowS (T1 a b) 0 [1] 1 false).1 0 [] 1 false).1, by kernel_rfl, few_of (by kernel_rfl), ok_of (by kernel_rfl), of_decide_eq_true (by kernel_rfl), fun e => (by cases e), fun _ => by kernel_rfl, few_of (by kernel_rfl), fun e => (by cases e), fun _ => ⟨(useGet (useGet (borrowS (T1 a b) 0 [1] 1 false).1 0 [] 1 false).1 0 [1] 2 false).1, tN b, by kernel_rfl⟩⟩
  · exact ⟨(borrowS (T1 a b) 0 [1] 1 false).1, (writeS 10 (borrowS (T1 a b) 0 [1] 1 false).1 0 [] 1 (tT b a)).1, by kernel_rfl, few_of (by kernel_rfl), ok_of (by kernel_rfl), of_decide_eq_true (by kernel_rfl), fun _ => by kernel_rfl, fun e => (by cases e), few_of (by kernel_rfl), fun _ => by kernel_rfl, fun e => (by cases e)⟩
  · exact ⟨(borrowS (T1 a b) 0 [1] 1 true).1, (useGet (borrowS (T1 a b) 0 [1] 1 true).1 0 [] 1 false).1, by kernel_rfl, few_of (by kernel_rfl), ok_of (by kernel_rfl), of_decide_eq_true (by kernel_rfl), fun e => (by cases e), fun _ => by kernel_rfl, few_of (by kernel_rfl), fun _ => by kernel_rfl, fun e => (by cases e)⟩
  · exact ⟨(borrowS (T1 a b) 0 [1] 1 true).1, (writeS 10 (borrowS (T1 a b) 0 [1] 1 true).1 0 [] 1 (tT b a)).1, by kernel_rfl, few_of (by kernel_rfl), ok_of (by kernel_rfl), of_decide_eq_true (by kernel_rfl), fun _ => by kernel_rfl, fun e => (by cases e), few_of (by kernel_rfl), fun _ => by kernel_rfl, fun e => (by cases e)⟩
end Go.Proofs.Ytggacajnmgligaa

/-
  SolveNils, walked.
-/
import Derived.Test.YtgbmihnainbgiaaDoorS8
namespace Go.Proofs.YtgbmihnainbgiaaDoor
open Go Go.Lf

theorem list_nil (h : Heap) (r : Int) : CallsH Tryd.prog 8 #[.pointer none, .int .i64 r] h (fun v h' => h = h' ∧ v = .slice none 0 0) := by
  apply F8
  unfold L8
  refine cal_of (region_nil h r) ?_
  rintro _ _ ⟨rfl, rfl⟩
  exact ⟨_, rfl, fun _ => ⟨rfl, rfl⟩, fun e => (by cases e)⟩
theorem count_nil (h : Heap) (r : Int) : CallsH Tryd.prog 11 #[.pointer none, .int .i64 r] h (fun v h' => h = h' ∧ v = .int .i64 0) := by
  apply F11
  unfold L11
  refine ⟨fun n h4 => n = 0 ∧ h = h4, ?_, ?_⟩
  · refine cal_of (region_nil h r) ?_
    rintro _ _ ⟨rfl, rfl⟩
    exact ⟨_, rfl, fun e => (by cases e), fun _ => ⟨rfl, rfl⟩⟩
  · rintro _ _ ⟨rfl, rfl⟩
    exact ⟨rfl, rfl⟩

theorem nils_walk (n W r e : Int) (h : Heap) : CallsH Tryd.prog 4 #[.agg #[.int .i64 n, .int .i64 W, .int .i64 r, .int .i64 e]] h (fun v h' => v = .bool true ∧ Grow h h') := by
  apply F4
  unfold L4
  rintro p1 h1 rfl rfl
  have f1 : Grow h (h.push (.cells #[.int .i64 n, .int .i64 W, .int .i64 r, .int .i64 e] 35)) := Fr.push _ _ _
  have kb := blk.new h #[.int .i64 n, .int .i64 W, .int .i64 r, .int .i64 e] 35
  generalize h.push (.cells #[.int .i64 n, .int .i64 W, .int .i64 r, .int .i64 e] 35) = h1 at *
  refine ldI_i (x := n) (by rw [kb.cl]; rfl) (ldI_i (x := W) (by rw [add_plain, kb.cl]; rfl) (ldI_i (x := r) (by rw [add_plain, kb.cl]; rfl) (ldI_i (x := e) (by rw [add_plain, kb.cl]; rfl) ?_)))
  refine ⟨fun h' => Grow h1 h', ⟨fun hb => ?_, fun _ => Fr.refl _ _⟩, fun h3 f3 => ?_⟩
  · have hno : ¬ newOk n W := by
      intro hk
      unfold newOk at hk
      simp at hb
      omega
    refine cal_of (new_spec h1 n W) ?_
    rintro v h2 ⟨hbad, -⟩
    obtain ⟨rfl, rfl⟩ := hbad hno
    exact ⟨_, rfl, _, rfl, _, rfl, _, rfl, _, rfl, fun e => (by cases e), fun _ => Fr.refl _ _⟩
  refine cal_of (solved_spec h3) ?_
  rintro _ h4 ⟨rfl, f4⟩
  refine ⟨_, rfl, ?_⟩
  refine ⟨fun b h' => b = true ∧ h4 = h', ⟨fun _ => ?_, fun e => (by cases e)⟩, ?_⟩
  · refine cal_of (put_nil h4 r e) ?_
    rintro _ _ ⟨rfl, rfl⟩
    exact ⟨_, rfl, rfl, rfl⟩
  rintro _ _ ⟨rfl, rfl⟩
  refine ⟨fun b h' => b = true ∧ h4 = h', ⟨fun _ => ?_, fun e => (by cases e)⟩, ?_⟩
  · refine cal_of (outlives_nil h4 r e) ?_
    rintro _ _ ⟨rfl, rfl⟩
    exact ⟨_, rfl, rfl, rfl⟩
  rintro _ _ ⟨rfl, rfl⟩
  refine ⟨fun b h' => b = true ∧ h4 = h', ⟨fun _ => ?_, fun e => (by cases e)⟩, ?_⟩
  · refine cal_of (has_nil h4 r e) ?_
    rintro _ _ ⟨rfl, rfl⟩
    exact ⟨_, rfl, rfl, rfl⟩
  rintro _ _ ⟨rfl, rfl⟩
  refine ⟨fun b h' => b = true ∧ h4 = h', ⟨fun _ => ?_, fun e => (by cases e)⟩, ?_⟩
  · refine cal_of (list_nil h4 r) ?_
    rintro _ _ ⟨rfl, rfl⟩
    exact ⟨⟨none, 0, 0⟩, rfl, rfl, rfl⟩
  rintro _ _ ⟨rfl, rfl⟩
  refine ⟨fun b h' => b = true ∧ h4 = h', ⟨fun _ => ?_, fun e => (by cases e)⟩, ?_⟩
  · refine cal_of (count_nil h4 r) ?_
    rintro _ _ ⟨rfl, rfl⟩
    exact ⟨_, rfl, rfl, rfl⟩
  rintro _ _ ⟨rfl, rfl⟩
  exact ⟨rfl, (f1.trans f3).trans f4⟩
end Go.Proofs.YtgbmihnainbgiaaDoor

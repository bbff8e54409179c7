/-
  Memory that isn't one; a value that is small.
-/
import Derived.Test.YtggacajnmgligaaW2
namespace Go.Proofs.Ytggacajnmgligaa
open Go Go.Lf
set_option linter.unusedVariables false

section
variable {h : Heap} {al tg : Int} {sp : Sv} {v : Vv}
theorem nil_at (i : Int) : CallsH Try.prog 31 #[.pointer none, .int .i64 i] h (fun v h' => h = h' ∧ v = .pointer none) := by
  apply F31
  unfold L31
  refine ⟨fun b => b = true, ⟨fun _ => rfl, fun e => (by simp at e)⟩, ?_⟩
  rintro _ rfl
  refine ⟨fun b => b = true, ⟨fun _ => rfl, fun e => (by cases e)⟩, ?_⟩
  rintro _ rfl
  exact ⟨fun _ => ⟨rfl, rfl⟩, fun e => (by cases e)⟩
theorem nil_use (w : Bool) : CallsH Try.prog 28 #[.pointer none, .agg (pvs al sp tg), .bool w] h (fun v h' => Grow h h' ∧ v = .tuple #[.pointer none, .int .i64 1]) := by
  apply F28
  unfold L28
  refine newPt fun h1 k1 f1 z1 => ldI_i (x := al) (by rw [k1.cl]; rfl) (cal_of (nil_at al) ?_)
  rintro _ _ ⟨rfl, rfl⟩
  exact ⟨_, rfl, fun _ => ⟨f1, rfl⟩, fun e => (by cases e)⟩
theorem nil_alloc : CallsH Try.prog 10 #[.pointer none, .agg (vvs v)] h (fun r h' => Grow h h' ∧ r = .tuple #[.agg (pvs 0 ⟨none, 0, 0⟩ 0), .bool false]) := by
  apply F10
  unfold L10
  refine newV (v := v) fun h1 k1 f1 z1 => newPt (al := 0) (sp := ⟨none, 0, 0⟩) (tg := 0) fun h2 k2 f2 z2 => ?_
  refine ⟨fun b => b = true, ⟨fun _ => rfl, fun e => (by cases e)⟩, ?_⟩
  rintro _ rfl
  refine ⟨fun _ => stoPt (al := 0) (sp := ⟨none, 0, 0⟩) (tg := 0) k2 rfl fun h3 k3 f3 => rdPt k3 ⟨(f1.trans f2).trans' f3 fun i hi e => by omega, rfl⟩, fun e => (by cases e)⟩
theorem nil_base (i : Int) : CallsH Try.prog 23 #[.pointer none, .int .i64 i] h (fun r h' => Grow h h' ∧ r = .tuple #[.agg (pvs 0 ⟨none, 0, 0⟩ 0), .int .i64 1]) := by
  apply F23
  unfold L23
  refine newPt (al := 0) (sp := ⟨none, 0, 0⟩) (tg := 0) fun h1 k1 f1 z1 => cal_of (nil_at i) ?_
  rintro _ _ ⟨rfl, rfl⟩
  exact ⟨_, rfl, fun _ => stoPt (al := 0) (sp := ⟨none, 0, 0⟩) (tg := 0) k1 rfl fun h3 k3 f3 => rdPt k3 ⟨f1.trans' f3 fun i hi e => by omega, rfl⟩, fun e => (by cases e)⟩
theorem nil_read : CallsH Try.prog 15 #[.pointer none, .agg (pvs al sp tg)] h (fun r h' => Grow h h' ∧ r = .tuple #[.agg (vvs zVv), .int .i64 1]) := by
  apply F15
  unfold L15
  refine newPt fun h1 k1 f1 z1 => newV (v := zVv) fun h2 k2 f2 z2 => rdPt (f2.blk k1 fun h => h) (cal_of (nil_use false) ?_)
  rintro _ h3 ⟨f3, rfl⟩
  refine ⟨_, rfl, _, rfl, _, rfl, _, rfl, _, rfl, fun _ => ?_, fun e => (by cases e)⟩
  exact stoV (v := zVv) (f3.blk k2 fun h => h) rfl fun h4 k4 f4 => rd7 (Vv7.blk k4) ⟨((f1.trans f2).trans f3).trans' f4 fun i hi e => by omega, rfl⟩
theorem nil_take : CallsH Try.prog 18 #[.pointer none, .agg (pvs al sp tg)] h (fun r h' => Grow h h' ∧ r = .tuple #[.agg (vvs zVv), .int .i64 1]) := by
  apply F18
  unfold L18
  refine newPt fun h1 k1 f1 z1 => newV (v := zVv) fun h2 k2 f2 z2 => rdPt (f2.blk k1 fun h => h) (cal_of (nil_use true) ?_)
  rintro _ h3 ⟨f3, rfl⟩
  refine ⟨_, rfl, _, rfl, _, rfl, _, rfl, _, rfl, fun _ => ?_, fun e => (by cases e)⟩
  exact stoV (v := zVv) (f3.blk k2 fun h => h) rfl fun h4 k4 f4 => rd7 (Vv7.blk k4) ⟨((f1.trans f2).trans f3).trans' f4 fun i hi e => by omega, rfl⟩
theorem nil_borrow (w : Bool) : CallsH Try.prog 12 #[.pointer none, .agg (pvs al sp tg), .bool w] h (fun r h' => Grow h h' ∧ r = .tuple #[.agg (pvs 0 ⟨none, 0, 0⟩ 0), .int .i64 1]) := by
  apply F12
  unfold L12
  refine newPt fun h1 k1 f1 z1 => newPt (al := 0) (sp := ⟨none, 0, 0⟩) (tg := 0) fun h2 k2 f2 z2 => rdPt (f2.blk k1 fun h => h) (cal_of (nil_use w) ?_)
  rintro _ h3 ⟨f3, rfl⟩
  refine ⟨_, rfl, _, rfl, _, rfl, _, rfl, _, rfl, fun _ => ?_, fun e => (by cases e)⟩
  exact stoPt (al := 0) (sp := ⟨none, 0, 0⟩) (tg := 0) (f3.blk k2 fun h => h) rfl fun h4 k4 f4 => rdPt k4 ⟨((f1.trans f2).trans f3).trans' f4 fun i hi e => by omega, rfl⟩
theorem nil_peek : CallsH Try.prog 24 #[.pointer none, .agg (pvs al sp tg)] h (fun r h' => Grow h h' ∧ r = .tuple #[.agg (vvs zVv), .int .i64 1]) := by
  apply F24
  unfold L24
  refine newPt fun h1 k1 f1 z1 => newV (v := zVv) fun h2 k2 f2 z2 => ldI_i (x := al) (by rw [(f2.blk k1 fun h => h).cl]; rfl) (cal_of (nil_at al) ?_)
  rintro _ _ ⟨rfl, rfl⟩
  refine ⟨_, rfl, fun _ => ?_, fun e => (by cases e)⟩
  exact stoV (v := zVv) k2 rfl fun h4 k4 f4 => rd7 (Vv7.blk k4) ⟨(f1.trans f2).trans' f4 fun i hi e => by omega, rfl⟩
theorem nil_write : CallsH Try.prog 17 #[.pointer none, .agg (pvs al sp tg), .agg (vvs v)] h (fun r h' => Grow h h' ∧ r = .int .i64 1) := by
  apply F17
  unfold L17
  refine newPt fun h1 k1 f1 z1 => newV (v := v) fun h2 k2 f2 z2 => rdPt (f2.blk k1 fun h => h) (cal_of (nil_use true) ?_)
  rintro _ h3 ⟨f3, rfl⟩
  exact ⟨_, rfl, _, rfl, _, rfl, _, rfl, _, rfl, fun _ => ⟨(f1.trans f2).trans f3, rfl⟩, fun e => (by cases e)⟩
theorem nil_free (i : Int) : CallsH Try.prog 14 #[.pointer none, .int .i64 i] h (fun r h' => Grow h h' ∧ r = .int .i64 1) := by
  apply F14
  unfold L14
  refine cal_of (nil_at i) ?_
  rintro _ _ ⟨rfl, rfl⟩
  exact ⟨_, rfl, fun _ => ⟨Fr.refl _ _, rfl⟩, fun e => (by cases e)⟩
theorem nil_drop (h6 : v.k ≠ 6) (h5 : v.k ≠ 5) : CallsH Try.prog 25 #[.pointer none, .agg (vvs v)] h (fun r h' => Grow h h' ∧ r = .int .i64 0) := by
  apply F25
  unfold L25
  refine newV (v := v) fun h1 k1 f1 z1 => ldI_i (x := v.k) (by rw [k1.cl]; rfl) ⟨fun e => absurd (by simpa using e) h6, fun _ => ldI_i (x := v.k) (by rw [k1.cl]; rfl) ⟨fun _ => ⟨f1, rfl⟩, fun e => absurd (by simpa using e) h5⟩⟩
theorem nil_live : CallsH Try.prog 13 #[.pointer none] h (fun r h' => Grow h h' ∧ r = .int .i64 0) := by
  apply F13
  unfold L13
  exact ⟨fun _ => ⟨Fr.refl _ _, rfl⟩, fun e => (by cases e)⟩
theorem nil_stack (i : Int) : CallsH Try.prog 26 #[.pointer none, .int .i64 i] h (fun r h' => Grow h h' ∧ r = .slice none 0 0) := by
  apply F26
  unfold L26
  refine cal_of (nil_at i) ?_
  rintro _ _ ⟨rfl, rfl⟩
  exact ⟨_, rfl, fun _ => ⟨Fr.refl _ _, rfl⟩, fun e => (by cases e)⟩
/-- whether it is or not, it is told -/
theorem small_any (d : Nat) : ∀ (o : Bool) (Q : Nat → Prop) (A : List Nat → Nat → Prop) (t : Vl) (v : Vv) (h : Heap), d ≤ 1000 → VAt o Q h t A v → CallsH Try.prog 22 #[.agg (vvs v), .int .i64 d] h (fun r h' => Grow h h' ∧ ∃ b, r = .bool b) := by
  induction d with
  | zero =>
    intro o Q A t v h _ hv
    apply F22
    unfold L22
    refine newV (v := v) fun h1 k1 f1 z1 => ?_
    refine ⟨fun b => b = true, ⟨fun _ => rfl, fun e => (by cases e)⟩, ?_⟩
    rintro _ rfl
    refine ⟨fun b => b = true, ⟨fun _ => rfl, fun e => (by cases e)⟩, ?_⟩
    rintro _ rfl
    refine ⟨fun b => b = true, ⟨fun _ => rfl, fun e => (by cases e)⟩, ?_⟩
    rintro _ rfl
    exact ⟨fun _ => ⟨f1, _, rfl⟩, fun e => (by cases e)⟩
  | succ d ih =>
    rintro o Q A ⟨k, n, nm, ts, al, pa, tg⟩ v h hd hv
    obtain ⟨e1, e2, e3, e4, e5, e6, e7, e8⟩ := vAt_iff.1 hv
    apply F22
    unfold L22
    refine newV (v := v) fun h1 k1 f1 z1 => ?_
    have hps : cl h1 ((⟨h.size, 0, none⟩ : Addr).add 3) = some (.slice v.ps.a v.ps.n v.ps.c) := by rw [add_plain, k1.cl]; rfl
    refine ⟨fun b => b = true ∨ ts.length ≤ 5, ⟨fun e => .inl rfl, fun e => ldS_i (s := v.ps) hps ?_⟩, ?_⟩
    · rw [e7]
      by_cases h5 : ts.length ≤ 5
      · exact .inr h5
      · exact .inl (decide_eq_true (by omega))
    intro x13 h13
    refine ⟨fun b => b = true ∨ ts.length ≤ 5, ⟨fun e => .inl rfl, fun e => ⟨v.nm, by rw [add_plain, k1.cl]; rfl, h13.elim (fun h => (by rw [h] at e; cases e)) .inr⟩⟩, ?_⟩
    intro x19 h19
    refine ⟨fun b => b = true ∨ ts.length ≤ 5, ⟨fun e => .inl rfl, fun e => ldS_i (s := v.pa) (by rw [add_plain, add_plain, k1.cl]; rfl) (h19.elim (fun h => (by rw [h] at e; cases e)) .inr)⟩, ?_⟩
    intro x26 h26
    refine ⟨fun _ => ⟨f1, _, rfl⟩, fun e => ?_⟩
    have h5 : ts.length ≤ 5 := h26.elim (fun h => (by rw [h] at e; cases e)) id
    refine ⟨fun i h' => ∃ j : Nat, i = j ∧ j ≤ ts.length ∧ Grow h1 h', fun i _ => ts.length - i.toNat, ⟨0, rfl, Nat.zero_le _, Fr.refl _ _⟩, ?_⟩
    rintro _ h2 ⟨j, rfl, hj, f2⟩
    have k2 := f2.blk k1 fun h => h
    have hps2 : cl h2 ((⟨h.size, 0, none⟩ : Addr).add 3) = some (.slice v.ps.a v.ps.n v.ps.c) := by rw [add_plain, k2.cl]; rfl
    refine ldS_i (s := v.ps) hps2 ?_
    refine ifb_iff (q := j < ts.length) (by rw [e7]; simp) (fun hlt => ?_) (fun _ => ⟨f1.trans f2, _, rfl⟩)
    obtain ⟨p, u, q1, q2, q3, q4, q5⟩ := e8 j hlt
    have g2 := f1.trans f2
    refine ldS_i (s := v.ps) hps2 ⟨p, q1, by omega, by rw [e7]; omega, ?_⟩
    rw [Int.toNat_natCast]
    refine rd7 (q4.fr g2 fun h => h) ?_
    rw [wrap64_id (by omega) (by omega), show ((d + 1 : Nat) : Int) - 1 = (d : Nat) by omega]
    refine cal_of (ih o Q (shA A j) ts[j] u h2 (by omega) (q5.grow g2)) ?_
    rintro _ h3 ⟨f3, b, rfl⟩
    refine ⟨_, rfl, fun _ => ⟨g2.trans f3, _, rfl⟩, fun _ => ?_⟩
    rw [wrap_succ hlt (by omega)]
    exact ⟨⟨j + 1, rfl, hlt, f2.trans f3⟩, by dsimp only; omega⟩
end
end Go.Proofs.Ytggacajnmgligaa

/-
  What is small; what more that is told does.
-/
import Derived.Test.YtgbmihnainbgiaaDoorS7
namespace Go.Proofs.YtgbmihnainbgiaaDoor
open Go Go.Lf

theorem OpsAt.head {h : Heap} {s : Sv} {ops : List Opn} (x : OpsAt h s ops) {m : Nat} (hm : m ≤ ops.length) : OpsAt h ⟨s.a, m, s.c⟩ (ops.take m) := by
  have hc := x.cap
  have hl := x.len
  refine ⟨by rw [List.length_take]; dsimp only; omega, by dsimp only; omega, fun i hi => ?_⟩
  have hi' : i < ops.length := by rw [List.length_take] at hi; omega
  obtain ⟨p, e, c1, c2, c3⟩ := x.at_ i hi'
  exact ⟨p, e, by simpa using c1, by simpa using c2, by simpa using c3⟩
def flat3 (ops : List Opn) : List Value := ops.flatMap fun o => [.bool o.1, .int .i64 o.2.1, .int .i64 o.2.2]
theorem flat3_len : ∀ ops : List Opn, (flat3 ops).length = ops.length * 3
  | [] => rfl
  | p :: ps => by
    have := flat3_len ps
    simp only [flat3, List.flatMap_cons, List.length_append, List.length_cons, List.length_nil] at this ⊢
    omega
theorem flat3_get : ∀ (ops : List Opn) (i : Nat) (hi : i < ops.length), (flat3 ops)[i * 3]? = some (.bool ops[i].1) ∧ (flat3 ops)[i * 3 + 1]? = some (.int .i64 ops[i].2.1) ∧ (flat3 ops)[i * 3 + 2]? = some (.int .i64 ops[i].2.2)
  | p :: ps, 0, _ => by simp [flat3]
  | p :: ps, i + 1, hi => by
    have := flat3_get ps i (by simpa using hi)
    simp only [flat3, List.flatMap_cons] at this ⊢
    rw [show (i + 1) * 3 = i * 3 + 3 by omega]
    simpa using this
theorem own_ops {h : Heap} {B : Nat} {s : Sv} {ops : List Opn} (o : Own h B 3 s (flat3 ops)) : OpsAt h s ops := by
  have hl : s.n = ops.length := by have := o.len; rw [flat3_len] at this; omega
  refine ⟨hl, ?_, fun i hi => ?_⟩
  · rcases o.mem with ⟨_, e1, e2⟩ | ⟨g, cur, _, _, _, e, _⟩
    · omega
    · exact e
  · have hr := o.row
    rcases o.mem with ⟨_, e, _⟩ | ⟨g, cur, e, _⟩
    · omega
    · rw [e] at hr
      obtain ⟨f1, f2, f3⟩ := flat3_get ops i hi
      have r1 := hr _ _ f1
      have r2 := hr _ _ f2
      have r3 := hr _ _ f3
      simp only [add_plain, Nat.zero_add] at r1 r2 r3
      exact ⟨_, e, by simpa using r1, by simpa [add_plain] using r2, by simpa [add_plain] using r3⟩

/-- the more is told, the more is in regions -/
theorem tol_le {x1 x2 : Sh} {O1 P1 O2 P2 : Nat → Nat → Prop} {N1 N2 : Nat} {d1 d2 : Sd} (t1 : Tol x1 O1 P1 N1 d1) (t2 : Tol x2 O2 P2 N2 d2) (hn : x1.n = x2.n) (hW : x1.W = x2.W) (hO : ∀ a b, O1 a b → O2 a b) (hP : ∀ r e, P1 r e → P2 r e) {r e : Nat} (hr : r < x1.n) (he : e < 64 * x1.nw)
    (h : d1.S r e = true) : d2.S r e = true := by
  have hnw : x1.nw = x2.nw := by unfold Sh.nw; rw [hW]
  have c := t2.cl e (by rw [← hnw]; exact he)
  exact t1.least e he (fun r => d2.S r e) ⟨fun r hr hp => c.1 r (by rw [← hn]; exact hr) (hP r e hp), fun a b ha hb ho hS => c.2 a b (by rw [← hn]; exact ha) (by rw [← hn]; exact hb) (hO a b ho) hS⟩ r hr h

def smallB (n W : Int) (l : Nat) : Bool := ((((decide (0 ≤ n)) && (decide (n ≤ 12))) && (decide (0 ≤ W))) && (decide (W ≤ 150))) && (decide (((l : Nat) : Int) ≤ 60))
theorem small_iff {n W : Int} {l : Nat} : smallB n W l = true ↔ 0 ≤ n ∧ n ≤ 12 ∧ 0 ≤ W ∧ W ≤ 150 ∧ l ≤ 60 := by
  simp [smallB]
  omega
theorem small_spec (n W : Int) (s : Sv) (h : Heap) : CallsH Tryd.prog 6 #[.int .i64 n, .int .i64 W, .slice s.a s.n s.c] h (fun v h' => h = h' ∧ v = .bool (smallB n W s.n)) := by
  apply F6
  unfold L6
  exact ⟨rfl, rfl⟩
end Go.Proofs.YtgbmihnainbgiaaDoor

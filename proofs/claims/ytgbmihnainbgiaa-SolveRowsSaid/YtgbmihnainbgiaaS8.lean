/-
  SolveTurns, SolveGrows: walked.
-/
import Derived.Test.YtgbmihnainbgiaaS7
namespace Go.Proofs.Ytgbmihnainbgiaa
open Go Go.Lf

theorem OpsAt.head {h : Heap} {s : Sv} {ops : List Opn} (x : OpsAt h s ops) {m : Nat} (hm : m ≤ ops.length) : OpsAt h ⟨s.a, m, s.c⟩ (ops.take m) := by
  have hc := x.cap
  have hl := x.len
  refine ⟨by rw [List.length_take]; dsimp only; omega, by dsimp only; omega, fun i hi => ?_⟩
  have hi' : i < ops.length := by rw [List.length_take] at hi; omega
  obtain ⟨p, e, c1, c2, c3⟩ := x.at_ i hi'
  exact ⟨p, e, by simpa using c1, by simpa using c2, by simpa using c3⟩
def flat3 (ops : List Opn) : List Value := ops.flatMap fun o => [.bool o.1, .int .i64 o.2.1, .int .i64 o.2.2]
theorem flat3_len : ∀ ops : List Opn, (flat3 ops).length = ops.length * 3
  | [] => rfl
  | p :: ps => by
    have := flat3_len ps
    simp only [flat3, List.flatMap_cons, List.length_append, List.length_cons, List.length_nil] at this ⊢
    omega
theorem flat3_get : ∀ (ops : List Opn) (i : Nat) (hi : i < ops.length), (flat3 ops)[i * 3]? = some (.bool ops[i].1) ∧ (flat3 ops)[i * 3 + 1]? = some (.int .i64 ops[i].2.1) ∧ (flat3 ops)[i * 3 + 2]? = some (.int .i64 ops[i].2.2)
  | p :: ps, 0, _ => by simp [flat3]
  | p :: ps, i + 1, hi => by
    have := flat3_get ps i (by simpa using hi)
    simp only [flat3, List.flatMap_cons] at this ⊢
    rw [show (i + 1) * 3 = i * 3 + 3 by omega]
    simpa using this
theorem own_ops {h : Heap} {B : Nat} {s : Sv} {ops : List Opn} (o : Own h B 3 s (flat3 ops)) : OpsAt h s ops := by
  have hl : s.n = ops.length := by have := o.len; rw [flat3_len] at this; omega
  refine ⟨hl, ?_, fun i hi => ?_⟩
  · rcases o.mem with ⟨_, e1, e2⟩ | ⟨g, cur, _, _, _, e, _⟩
    · omega
    · exact e
  · have hr := o.row
    rcases o.mem with ⟨_, e, _⟩ | ⟨g, cur, e, _⟩
    · omega
    · rw [e] at hr
      obtain ⟨f1, f2, f3⟩ := flat3_get ops i hi
      have r1 := hr _ _ f1
      have r2 := hr _ _ f2
      have r3 := hr _ _ f3
      simp only [add_plain, Nat.zero_add] at r1 r2 r3
      exact ⟨_, e, by simpa using r1, by simpa [add_plain] using r2, by simpa [add_plain] using r3⟩

/-- the more is told, the more is in regions -/
theorem tol_le {x1 x2 : Sh} {O1 P1 O2 P2 : Nat → Nat → Prop} {N1 N2 : Nat} {d1 d2 : Sd} (t1 : Tol x1 O1 P1 N1 d1) (t2 : Tol x2 O2 P2 N2 d2) (hn : x1.n = x2.n) (hW : x1.W = x2.W) (hO : ∀ a b, O1 a b → O2 a b) (hP : ∀ r e, P1 r e → P2 r e) {r e : Nat} (hr : r < x1.n) (he : e < 64 * x1.nw)
    (h : d1.S r e = true) : d2.S r e = true := by
  have hnw : x1.nw = x2.nw := by unfold Sh.nw; rw [hW]
  have c := t2.cl e (by rw [← hnw]; exact he)
  exact t1.least e he (fun r => d2.S r e) ⟨fun r hr hp => c.1 r (by rw [← hn]; exact hr) (hP r e hp), fun a b ha hb ho hS => c.2 a b (by rw [← hn]; exact ha) (by rw [← hn]; exact hb) (hO a b ho) hS⟩ r hr h

def smallB (n W : Int) (l : Nat) : Bool := ((((decide (0 ≤ n)) && (decide (n ≤ 12))) && (decide (0 ≤ W))) && (decide (W ≤ 150))) && (decide (((l : Nat) : Int) ≤ 60))
theorem small_iff {n W : Int} {l : Nat} : smallB n W l = true ↔ 0 ≤ n ∧ n ≤ 12 ∧ 0 ≤ W ∧ W ≤ 150 ∧ l ≤ 60 := by
  simp [smallB]
  omega
theorem small_spec (n W : Int) (s : Sv) (h : Heap) : CallsH Try.prog 7 #[.int .i64 n, .int .i64 W, .slice s.a s.n s.c] h (fun v h' => h = h' ∧ v = .bool (smallB n W s.n)) := by
  apply F7
  unfold L7
  exact ⟨rfl, rfl⟩

theorem turns_walk (n W : Int) (s : Sv) (ops : List Opn) (h : Heap) (X : OpsAt h s ops) :
    CallsH Try.prog 3 #[.int .i64 n, .int .i64 W, .slice s.a s.n s.c] h (fun v h' => v = .bool true ∧ Grow h h') := by
  apply F3
  unfold L3
  refine cal_of (solved_spec h) ?_
  rintro _ h1 ⟨rfl, f1⟩
  refine ⟨_, rfl, ?_⟩
  refine ⟨fun b h' => b = !smallB n W s.n ∧ h1 = h', ⟨fun e => (by cases e), fun _ => ?_⟩, ?_⟩
  · refine cal_of (small_spec n W s h1) ?_
    rintro _ _ ⟨rfl, rfl⟩
    exact ⟨_, rfl, rfl, rfl⟩
  rintro _ _ ⟨rfl, rfl⟩
  refine ⟨fun _ => ?_, fun eb => ?_⟩
  · refine cal_of (solved_spec h1) ?_
    rintro _ h4 ⟨rfl, f4⟩
    exact ⟨_, rfl, rfl, f1.trans f4⟩
  obtain ⟨b1, b2, b3, b4, b5⟩ := small_iff.1 (show smallB n W s.n = true by simpa using eb)
  obtain ⟨n, rfl⟩ := Int.eq_ofNat_of_zero_le b1
  obtain ⟨W, rfl⟩ := Int.eq_ofNat_of_zero_le b3
  have hsl := X.len
  refine ⟨fun l y h5 => ∃ i : Nat, y = (i : Int) - 1 ∧ i ≤ ops.length ∧ Own h5 h1.size 3 l (flat3 ((ops.drop i).reverse)) ∧ Grow h1 h5, fun _ y _ => (y + 1).toNat, ⟨ops.length, by rw [wrap64_id (by omega) (by omega)]; omega, by omega, by rw [List.drop_length]; exact Own.nil _ _ _, Fr.refl _ _⟩, ?_⟩
  rintro l y h5 ⟨i1, rfl, hi1, o5, g5⟩
  refine ifb_dec (fun hlt => ?_) (fun hge => ?_)
  · obtain ⟨i, rfl⟩ : ∃ i, i1 = i + 1 := ⟨i1 - 1, by omega⟩
    have hil : i < ops.length := by omega
    have hyi : ((i + 1 : Nat) : Int) - 1 = (i : Int) := by omega
    rw [hyi]
    have hwi : IntKind.i64.wrap ((i : Int) - 1) = (i : Int) - 1 := by rw [wrap64_id (by omega) (by omega)]
    obtain ⟨p, ep, c1, c2, c3⟩ := (X.grow (f1.trans g5)).at_ i hil
    refine ixS_i ep (by omega) (by omega) ?_
    rw [Int.toNat_natCast]
    refine ⟨_, _, _, c1, c2, c3, ?_⟩
    have hdr : (ops.drop i).reverse = (ops.drop (i + 1)).reverse ++ [ops[i]] := by
      rw [List.drop_eq_getElem_cons hil, List.reverse_cons]
    have hln : l.n ≤ ops.length := by have := o5.len; rw [flat3_len] at this; simp at this; omega
    refine app1 (B := h1.size) (sz := 3) rfl o5 rfl (by simp [Value.oneCell']) g5.size (by omega) (by omega) ?_
    intro s' h7 _ o7 f7 _
    refine ⟨⟨i, hwi, by omega, ?_, own_grown o5 g5 f7⟩, by rw [hwi]; (try dsimp only); omega⟩
    rw [hdr]
    have : flat3 ((ops.drop (i + 1)).reverse ++ [ops[i]]) = flat3 ((ops.drop (i + 1)).reverse) ++ [.bool ops[i].1, .int .i64 ops[i].2.1, .int .i64 ops[i].2.2] := by simp [flat3]
    rw [this]
    exact o7
  have : i1 = 0 := by omega
  subst this
  rw [List.drop_zero] at o5
  refine cal_of (told_spec (X.grow (f1.trans g5)) (n := n) (W := W) (by omega) (by omega) (by omega)) ?_
  rintro _ h8 ⟨x1, d1, u1, v1, rfl, A1⟩
  refine ⟨_, rfl, _, rfl, _, rfl, _, rfl, u1, rfl, _, rfl, v1, rfl, _, rfl, _, rfl, ?_⟩
  refine cal_of (told_spec ((own_ops o5).grow A1.gr) (n := n) (W := W) (by omega) (by omega) (by simp; omega)) ?_
  rintro _ h9 ⟨x2, d2, u2, v2, rfl, A2⟩
  refine ⟨_, rfl, _, rfl, _, rfl, _, rfl, u2, rfl, _, rfl, v2, rfl, _, rfl, _, rfl, fun e => (by cases e), fun _ => ?_⟩
  have g9 := ((f1.trans g5).trans A1.gr).trans A2.gr
  have hn12 : x1.n = x2.n := by rw [A1.hn, A2.hn]
  have hW12 : x1.W = x2.W := by rw [A1.hW, A2.hW]
  have h1n := A1.hn
  have h1W := A1.hW
  have h2W := A2.hW
  refine ⟨fun y h10 => ∃ r : Nat, y = r ∧ r ≤ n ∧ Grow h9 h10, fun y _ => (n - y).toNat, ⟨0, rfl, by omega, Fr.refl _ _⟩, ?_⟩
  rintro y h10 ⟨r, rfl, hr, g10⟩
  refine ifb_dec (fun hlt => ?_) (fun _ => ⟨rfl, g9.trans g10⟩)
  have hrn : r < n := by omega
  have hwr : IntKind.i64.wrap ((r : Int) + 1) = ((r + 1 : Nat) : Int) := by rw [wrap64_id (by omega) (by omega)]; omega
  refine ⟨fun y h11 => ∃ e : Nat, y = e ∧ e ≤ W ∧ Grow h10 h11, fun y _ => (W - y).toNat, ⟨0, rfl, by omega, Fr.refl _ _⟩, ?_⟩
  rintro y h11 ⟨e, rfl, he, g11⟩
  refine ifb_dec (fun hlt => ?_) (fun hge => ⟨⟨r + 1, hwr, by omega, g10.trans g11⟩, by rw [hwr]; (try dsimp only); omega⟩)
  have heW : e < W := by omega
  have hwe : IntKind.i64.wrap ((e : Int) + 1) = ((e + 1 : Nat) : Int) := by rw [wrap64_id (by omega) (by omega)]; omega
  refine cal_of (has_spec (A1.ok.grow (A2.gr.trans (g10.trans g11))) (by omega) r e) ?_
  rintro _ _ ⟨rfl, rfl⟩
  refine ⟨_, rfl, ?_⟩
  refine cal_of (has_spec (A2.ok.grow (g10.trans g11)) (by omega) r e) ?_
  rintro _ _ ⟨rfl, rfl⟩
  refine ⟨_, rfl, ?_⟩
  have hnw : e < 64 * x1.nw := by unfold Sh.nw; omega
  have eq : hasD x1 d1 r e = hasD x2 d2 r e := by
    unfold hasD
    rw [hn12, hW12]
    congr 1
    exact Bool.eq_iff_iff.2 ⟨tol_le A1.tol A2.tol hn12 hW12 (fun a b ⟨o, h1, h2⟩ => ⟨o, List.mem_reverse.2 h1, h2⟩) (fun a b ⟨o, h1, h2⟩ => ⟨o, List.mem_reverse.2 h1, h2⟩) (by omega) hnw,
      tol_le A2.tol A1.tol hn12.symm hW12.symm (fun a b ⟨o, h1, h2⟩ => ⟨o, List.mem_reverse.1 h1, h2⟩) (fun a b ⟨o, h1, h2⟩ => ⟨o, List.mem_reverse.1 h1, h2⟩) (by omega) (by unfold Sh.nw at hnw ⊢; rw [← hW12]; exact hnw)⟩
  rw [eq]
  refine ⟨fun hne => by simp at hne, fun _ => ⟨⟨e + 1, hwe, by omega, g11⟩, by rw [hwe]; (try dsimp only); omega⟩⟩

theorem grows_walk (n W : Int) (s : Sv) (ops : List Opn) (h : Heap) (X : OpsAt h s ops) :
    CallsH Try.prog 4 #[.int .i64 n, .int .i64 W, .slice s.a s.n s.c] h (fun v h' => v = .bool true ∧ Grow h h') := by
  apply F4
  unfold L4
  refine cal_of (solved_spec h) ?_
  rintro _ h1 ⟨rfl, f1⟩
  refine ⟨_, rfl, ?_⟩
  refine ⟨fun b h' => b = !smallB n W s.n ∧ h1 = h', ⟨fun e => (by cases e), fun _ => ?_⟩, ?_⟩
  · refine cal_of (small_spec n W s h1) ?_
    rintro _ _ ⟨rfl, rfl⟩
    exact ⟨_, rfl, rfl, rfl⟩
  rintro _ _ ⟨rfl, rfl⟩
  refine ⟨fun _ => ?_, fun eb => ?_⟩
  · refine cal_of (solved_spec h1) ?_
    rintro _ h4 ⟨rfl, f4⟩
    exact ⟨_, rfl, rfl, f1.trans f4⟩
  obtain ⟨b1, b2, b3, b4, b5⟩ := small_iff.1 (show smallB n W s.n = true by simpa using eb)
  obtain ⟨n, rfl⟩ := Int.eq_ofNat_of_zero_le b1
  obtain ⟨W, rfl⟩ := Int.eq_ofNat_of_zero_le b3
  have hsl := X.len
  have hsc := X.cap
  have hcut : IntKind.i64.wrap ((((s.n : Nat) : Int)).tdiv 2) = ((ops.length / 2 : Nat) : Int) := by
    rw [Int.tdiv_eq_ediv_of_nonneg (by omega), wrap64_id (by omega) (by omega)]
    omega
  rw [hcut]
  refine slS_head (by omega) ?_
  refine cal_of (told_spec ((X.grow f1).head (m := ops.length / 2) (by omega)) (n := n) (W := W) (by omega) (by omega) (by simp; omega)) ?_
  rintro _ h8 ⟨x1, d1, u1, v1, rfl, A1⟩
  refine ⟨_, rfl, _, rfl, _, rfl, _, rfl, u1, rfl, _, rfl, v1, rfl, _, rfl, _, rfl, ?_⟩
  refine cal_of (told_spec (X.grow (f1.trans A1.gr)) (n := n) (W := W) (by omega) (by omega) (by omega)) ?_
  rintro _ h9 ⟨x2, d2, u2, v2, rfl, A2⟩
  refine ⟨_, rfl, _, rfl, _, rfl, _, rfl, u2, rfl, _, rfl, v2, rfl, _, rfl, _, rfl, fun e => (by cases e), fun _ => ?_⟩
  have g9 := (f1.trans A1.gr).trans A2.gr
  have hn12 : x1.n = x2.n := by rw [A1.hn, A2.hn]
  have hW12 : x1.W = x2.W := by rw [A1.hW, A2.hW]
  have h1n := A1.hn
  have h1W := A1.hW
  have h2W := A2.hW
  refine ⟨fun y h10 => ∃ r : Nat, y = r ∧ r ≤ n ∧ Grow h9 h10, fun y _ => (n - y).toNat, ⟨0, rfl, by omega, Fr.refl _ _⟩, ?_⟩
  rintro y h10 ⟨r, rfl, hr, g10⟩
  refine ifb_dec (fun hlt => ?_) (fun _ => ⟨rfl, g9.trans g10⟩)
  have hrn : r < n := by omega
  have hwr : IntKind.i64.wrap ((r : Int) + 1) = ((r + 1 : Nat) : Int) := by rw [wrap64_id (by omega) (by omega)]; omega
  refine ⟨fun y h11 => ∃ e : Nat, y = e ∧ e ≤ W ∧ Grow h10 h11, fun y _ => (W - y).toNat, ⟨0, rfl, by omega, Fr.refl _ _⟩, ?_⟩
  rintro y h11 ⟨e, rfl, he, g11⟩
  refine ifb_dec (fun hlt => ?_) (fun hge => ⟨⟨r + 1, hwr, by omega, g10.trans g11⟩, by rw [hwr]; (try dsimp only); omega⟩)
  have heW : e < W := by omega
  have hwe : IntKind.i64.wrap ((e : Int) + 1) = ((e + 1 : Nat) : Int) := by rw [wrap64_id (by omega) (by omega)]; omega
  have hnw : e < 64 * x1.nw := by unfold Sh.nw; omega
  refine cal_of (has_spec (A1.ok.grow (A2.gr.trans (g10.trans g11))) (by omega) r e) ?_
  rintro _ _ ⟨rfl, rfl⟩
  refine ⟨_, rfl, fun b h' => b = false ∧ h11 = h', ⟨fun et => ?_, fun _ => ⟨rfl, rfl⟩⟩, ?_⟩
  · refine cal_of (has_spec (A2.ok.grow (g10.trans g11)) (by omega) r e) ?_
    rintro _ _ ⟨rfl, rfl⟩
    have : hasD x2 d2 r e = true := by
      unfold hasD at et ⊢
      rw [← hn12, ← hW12]
      obtain ⟨e1, e2⟩ := Bool.and_eq_true_iff.1 et
      rw [e1, Bool.true_and]
      exact tol_le A1.tol A2.tol hn12 hW12 (fun a b ⟨o, h1, h2⟩ => ⟨o, List.mem_of_mem_take h1, h2⟩) (fun a b ⟨o, h1, h2⟩ => ⟨o, List.mem_of_mem_take h1, h2⟩) (by omega) hnw e2
    exact ⟨true, by rw [this], rfl, rfl⟩
  rintro _ _ ⟨rfl, rfl⟩
  exact ⟨fun e => (by cases e), fun _ => ⟨⟨e + 1, hwe, by omega, g11⟩, by rw [hwe]; (try dsimp only); omega⟩⟩
end Go.Proofs.Ytgbmihnainbgiaa

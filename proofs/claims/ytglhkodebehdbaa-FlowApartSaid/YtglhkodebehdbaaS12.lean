/-
  What the statements share: whether a problem is small, whether facts flow, whether an answer is the document's.
-/
import Derived.Test.YtglhkodebehdbaaS11
namespace Go.Proofs.Ytglhkodebehdbaa
open Go Go.Lf

/-- what a small problem is held to -/
structure Pb.Sm (p : Pb) : Prop where
  s : p.s.length ≤ 30
  g : p.g.length ≤ 40
  k : p.k.length ≤ 40
  e : p.e.length ≤ 20
  w : p.w ≤ 70
  s1 : ∀ l ∈ p.s, l.length ≤ 8
  g1 : ∀ l ∈ p.g, l.length ≤ 8
  k1 : ∀ l ∈ p.k, l.length ≤ 8
theorem Pb.Sm.bd {p : Pb} (x : p.Sm) : p.Bd :=
  ⟨by have := x.s; omega, by have := x.g; omega, by have := x.k; omega, fun l hl => by have := x.s1 l hl; omega, fun l hl => by have := x.g1 l hl; omega, fun l hl => by have := x.k1 l hl; omega, by have := x.e; omega⟩

theorem lists_of_blk {h : Heap} {g : Nat} {cs : Array Value} (k : blk h g cs) (ts : List (Sv × List Int)) (n : Nat) (hn : n = ts.length) (hc : cs.toList = ts.map fun t => t.1.v) (hx : ∀ t ∈ ts, IntsAt h t.1 t.2) : ListsAt h ⟨some ⟨g, 0, none⟩, n, n⟩ (ts.map fun t => t.2) := by
  refine ⟨by simp [hn], fun i hi => ?_⟩
  have hi' : i < ts.length := by simpa using hi
  refine ⟨_, rfl, ts[i].1, ?_, ?_⟩
  · have : cs[i]? = cs.toList[i]? := by simp
    rw [add_plain, k.cl, Nat.zero_add, Nat.mul_one, this, hc]
    simp [hi']
  · simpa using hx _ (List.getElem_mem hi')
theorem ints_of_blk {h : Heap} {g : Nat} {cs : Array Value} (k : blk h g cs) (xs : List Int) (n : Nat) (hn : n = xs.length) (hc : cs.toList = ints xs) : IntsAt h ⟨some ⟨g, 0, none⟩, n, n⟩ xs := by
  refine ⟨hn, fun i hi => ⟨_, rfl, ?_⟩⟩
  have : cs[i]? = cs.toList[i]? := by simp
  rw [add_plain, k.cl, Nat.zero_add, Nat.mul_one, this, hc]
  simp [ints, hi]

section
variable {h : Heap} {a0 : Sv} {a1 : Int} {a2 a3 a4 : Sv} {p : Pb}
theorem small_spec (x : PbAt h a0 a1 a2 a3 a4 p) :
    CallsH Try.prog 10 #[pbV a0 a1 a2 a3 a4] h (fun v h' => ∃ b, v = .bool b ∧ Grow h h' ∧ (b = true → p.Sm)) := by
  apply F10
  unfold L10
  rintro p1 h1 rfl rfl
  have f1 : Grow h (h.push (.cells (pbC a0 a1 a2 a3 a4) 25)) := Fr.push _ _ _
  have kb := blk.new h (pbC a0 a1 a2 a3 a4) 25
  have e1 : h.push (.cells #[.slice a0.a a0.n a0.c, .int .i64 a1, .slice a2.a a2.n a2.c, .slice a3.a a3.n a3.c, .slice a4.a a4.n a4.c] 25) = h.push (.cells (pbC a0 a1 a2 a3 a4) 25) := rfl
  rw [e1]
  have hs1 : (h.push (.cells (pbC a0 a1 a2 a3 a4) 25)).size = h.size + 1 := by simp
  generalize h.push (.cells (pbC a0 a1 a2 a3 a4) 25) = h1 at *
  refine ldS_i (s := a0) (by rw [kb.cl]; rfl) ?_
  have n0 := x.s.len
  have n2 := x.g.len
  have n3 := x.k.len
  have n4 := x.e.len
  have hw := x.w
  refine ⟨fun b => b = false → p.s.length ≤ 30 ∧ p.g.length ≤ 40, ⟨fun _ e => (by cases e), fun e0 => ldS_i (s := a2) (by rw [add_plain, kb.cl]; rfl) fun e => ?_⟩, fun x15 q1 => ?_⟩
  · have := of_decide_eq_false e0; have := of_decide_eq_false e; omega
  refine ⟨fun b => b = false → (p.s.length ≤ 30 ∧ p.g.length ≤ 40) ∧ p.k.length ≤ 40, ⟨fun _ e => (by cases e), fun e0 => ldS_i (s := a3) (by rw [add_plain, kb.cl]; rfl) fun e => ⟨q1 e0, ?_⟩⟩, fun x21 q2 => ?_⟩
  · have := of_decide_eq_false e; omega
  refine ⟨fun b => b = false → ((p.s.length ≤ 30 ∧ p.g.length ≤ 40) ∧ p.k.length ≤ 40) ∧ p.e.length ≤ 20, ⟨fun _ e => (by cases e), fun e0 => ldS_i (s := a4) (by rw [add_plain, kb.cl]; rfl) fun e => ⟨q2 e0, ?_⟩⟩, fun x27 q3 => ?_⟩
  · have := of_decide_eq_false e; omega
  refine ⟨fun b => b = false → (((p.s.length ≤ 30 ∧ p.g.length ≤ 40) ∧ p.k.length ≤ 40) ∧ p.e.length ≤ 20) ∧ p.w ≤ 70, ⟨fun _ e => (by cases e), fun e0 => ldI_i (x := a1) (by rw [add_plain, kb.cl]; rfl) fun e => ⟨q3 e0, ?_⟩⟩, fun x32 q4 => ?_⟩
  · have := of_decide_eq_false e; omega
  refine ⟨fun _ => ⟨false, rfl, f1, fun e => (by cases e)⟩, fun e32 => ?_⟩
  obtain ⟨⟨⟨⟨b1, b2⟩, b3⟩, b4⟩, b5⟩ := q4 e32
  refine ldS_i (s := a0) (by rw [kb.cl]; rfl) (ldS_i (s := a2) (by rw [add_plain, kb.cl]; rfl) (ldS_i (s := a3) (by rw [add_plain, kb.cl]; rfl) ?_))
  rintro s39 h2 rfl rfl
  have f2 : Grow h1 (h1.push (.cells #[.slice a0.a a0.n a0.c, .slice a2.a a2.n a2.c, .slice a3.a a3.n a3.c] 22)) := Fr.push _ _ _
  have k2 := blk.new h1 #[.slice a0.a a0.n a0.c, .slice a2.a a2.n a2.c, .slice a3.a a3.n a3.c] 22
  generalize h1.push (.cells #[.slice a0.a a0.n a0.c, .slice a2.a a2.n a2.c, .slice a3.a a3.n a3.c] 22) = h2 at *
  have g2 := f1.trans f2
  have row : ∀ i : Nat, i < 3 → ∃ (u : Sv) (ls : List (List Int)), cl h2 ⟨h1.size, i, none⟩ = some (.slice u.a u.n u.c) ∧ ListsAt h u ls ∧ ls.length ≤ 40 ∧ ls = (if i = 0 then p.s else if i = 1 then p.g else p.k) := by
    intro i hi
    match i, hi with
    | 0, _ => exact ⟨a0, p.s, by rw [k2.cl]; rfl, x.s, by omega, rfl⟩
    | 1, _ => exact ⟨a2, p.g, by rw [k2.cl]; rfl, x.g, by omega, rfl⟩
    | 2, _ => exact ⟨a3, p.k, by rw [k2.cl]; rfl, x.k, by omega, rfl⟩
  refine ⟨fun y => ∃ i : Nat, y = i ∧ i ≤ 3 ∧ ∀ j, j < i → ∀ l ∈ (if j = 0 then p.s else if j = 1 then p.g else p.k), l.length ≤ 8, fun y => (3 - y).toNat, ⟨0, rfl, by omega, fun j h => by omega⟩, ?_⟩
  rintro y ⟨i, rfl, hi, hall⟩
  refine ifb_dec (fun hlt => ?_) (fun hge => ?_)
  · have hi3 : i < 3 := by have : (i : Int) < ((3 : Nat) : Int) := hlt; omega
    have hwi : IntKind.i64.wrap ((i : Int) + 1) = ((i + 1 : Nat) : Int) := by rw [wrap64_id (by omega) (by omega)]; omega
    obtain ⟨u, ls, cu, xl, hll, hls⟩ := row i hi3
    have hln := xl.len
    refine ⟨fun z => ∃ k : Nat, z = k ∧ k ≤ ls.length ∧ ∀ l ∈ ls.take k, l.length ≤ 8, fun z => (ls.length - z).toNat, ⟨0, rfl, by omega, fun l hl => by simp at hl⟩, ?_⟩
    rintro z ⟨k, rfl, hk, hal⟩
    refine ixS_i rfl (by omega) hlt (ldS_i (s := u) (by rw [Int.toNat_natCast, Nat.mul_one, add_plain, Nat.zero_add]; exact cu) ?_)
    refine ifb_dec (fun hlt' => ?_) (fun hge => ?_)
    · have hkl : k < ls.length := by omega
      have hwk : IntKind.i64.wrap ((k : Int) + 1) = ((k + 1 : Nat) : Int) := by rw [wrap64_id (by omega) (by omega)]; omega
      refine ixS_i rfl (by omega) hlt (ldS_i (s := u) (by rw [Int.toNat_natCast, Nat.mul_one, add_plain, Nat.zero_add]; exact cu) ?_)
      refine ListsAt.getg xl g2 hkl fun t yt => ?_
      have htn := yt.len
      refine ifb_dec (fun _ => ⟨false, rfl, g2, fun e => (by cases e)⟩) (fun hle => ⟨⟨k + 1, hwk, by omega, fun l hl => ?_⟩, by rw [hwk]; (try dsimp only); omega⟩)
      rw [List.take_succ_eq_append_getElem hkl] at hl
      rcases List.mem_append.1 hl with hl | hl
      · exact hal l hl
      · simp only [List.mem_singleton] at hl
        rw [hl]; omega
    · have hk : k = ls.length := by omega
      subst hk
      rw [List.take_length] at hal
      refine ⟨⟨i + 1, hwi, by omega, fun j hj => ?_⟩, by rw [hwi]; (try dsimp only); omega⟩
      by_cases ej : j = i
      · subst ej; rw [← hls]; exact hal
      · exact hall j (by omega)
  · have hi3 : i = 3 := by have : ¬ (i : Int) < ((3 : Nat) : Int) := hge; omega
    subst hi3
    exact ⟨true, rfl, g2, fun _ => ⟨b1, b2, b3, b4, b5, hall 0 (by omega), hall 1 (by omega), hall 2 (by omega)⟩⟩
end

theorem flowed_spec (h : Heap) : CallsH Try.prog 9 #[] h (fun v h' => v = .bool true ∧ Grow h h') := by
  apply F9
  unfold L9
  rintro s4 h1 rfl rfl s5 h2 rfl rfl s6 h3 rfl rfl s7 h4 rfl rfl s8 h5 rfl rfl s9 h6 rfl rfl s10 h7 rfl rfl
  have f1 : Grow h (h.push (.cells #[.int .i64 1] 3)) := Fr.push _ _ _
  have k1 := ints_of_blk (blk.new h #[.int .i64 1] 3) [1] 1 rfl rfl
  have z1 : (h.push (.cells #[.int .i64 1] 3)).size = h.size + 1 := by simp
  generalize h.push (.cells #[.int .i64 1] 3) = h1 at *
  have f2 : Grow h1 (h1.push (.cells #[.int .i64 2] 3)) := Fr.push _ _ _
  have k2 := ints_of_blk (blk.new h1 #[.int .i64 2] 3) [2] 1 rfl rfl
  generalize h1.push (.cells #[.int .i64 2] 3) = h2 at *
  have f3 : Grow h2 (h2.push (.cells #[Value.slice (some ⟨h.size, 0, none⟩) 1 1, .slice (some ⟨h1.size, 0, none⟩) 1 1, .slice none 0 0] 23)) := Fr.push _ _ _
  have k3 := lists_of_blk (blk.new h2 #[Value.slice (some ⟨h.size, 0, none⟩) 1 1, .slice (some ⟨h1.size, 0, none⟩) 1 1, .slice none 0 0] 23) [(⟨some ⟨h.size, 0, none⟩, 1, 1⟩, [1]), (⟨some ⟨h1.size, 0, none⟩, 1, 1⟩, [2]), (⟨none, 0, 0⟩, [])] 3 rfl rfl (fun t ht => by
    simp only [List.mem_cons, List.not_mem_nil, or_false] at ht
    rcases ht with rfl | rfl | rfl
    · exact k1.keep (f2.trans f3) fun _ _ h => h
    · exact k2.keep f3 fun _ _ h => h
    · exact IntsAt.nil _ _ _)
  generalize h2.push (.cells #[Value.slice (some ⟨h.size, 0, none⟩) 1 1, .slice (some ⟨h1.size, 0, none⟩) 1 1, .slice none 0 0] 23) = h3 at *
  have f4 : Grow h3 (h3.push (.cells #[.int .i64 0] 3)) := Fr.push _ _ _
  have k4 := ints_of_blk (blk.new h3 #[.int .i64 0] 3) [0] 1 rfl rfl
  generalize h3.push (.cells #[.int .i64 0] 3) = h4 at *
  have f5 : Grow h4 (h4.push (.cells #[Value.slice (some ⟨h3.size, 0, none⟩) 1 1] 23)) := Fr.push _ _ _
  have k5 := lists_of_blk (blk.new h4 #[Value.slice (some ⟨h3.size, 0, none⟩) 1 1] 23) [(⟨some ⟨h3.size, 0, none⟩, 1, 1⟩, [0])] 1 rfl rfl (fun t ht => by
    simp only [List.mem_singleton] at ht
    subst ht
    exact k4.keep f5 fun _ _ h => h)
  generalize h4.push (.cells #[Value.slice (some ⟨h3.size, 0, none⟩) 1 1] 23) = h5 at *
  have f6 : Grow h5 (h5.push (.cells #[.int .i64 0] 3)) := Fr.push _ _ _
  have k6 := ints_of_blk (blk.new h5 #[.int .i64 0] 3) [0] 1 rfl rfl
  generalize h5.push (.cells #[.int .i64 0] 3) = h6 at *
  have f7 : Grow h6 (h6.push (.cells #[Value.slice none 0 0, .slice (some ⟨h5.size, 0, none⟩) 1 1] 23)) := Fr.push _ _ _
  have k7 := lists_of_blk (blk.new h6 #[Value.slice none 0 0, .slice (some ⟨h5.size, 0, none⟩) 1 1] 23) [(⟨none, 0, 0⟩, []), (⟨some ⟨h5.size, 0, none⟩, 1, 1⟩, [0])] 2 rfl rfl (fun t ht => by
    simp only [List.mem_cons, List.not_mem_nil, or_false] at ht
    rcases ht with rfl | rfl
    · exact IntsAt.nil _ _ _
    · exact k6.keep f7 fun _ _ h => h)
  generalize h6.push (.cells #[Value.slice none 0 0, .slice (some ⟨h5.size, 0, none⟩) 1 1] 23) = h7 at *
  have X : PbAt h7 ⟨some ⟨h2.size, 0, none⟩, 3, 3⟩ 1 ⟨some ⟨h4.size, 0, none⟩, 1, 1⟩ ⟨some ⟨h6.size, 0, none⟩, 2, 2⟩ ⟨none, 0, 0⟩ ⟨[[1], [2], []], 1, [[0]], [[], [0]], []⟩ :=
    ⟨k3.keep (f4.trans (f5.trans (f6.trans f7))) fun _ _ h => h, rfl, k5.keep (f6.trans f7) fun _ _ h => h, k7, IntsAt.nil _ _ _⟩
  have B : (⟨[[1], [2], []], 1, [[0]], [[], [0]], []⟩ : Pb).Bd := ⟨by simp, by simp, by simp, by simp, by simp, by simp, by simp⟩
  have g7 := f1.trans (f2.trans (f3.trans (f4.trans (f5.trans (f6.trans f7)))))
  refine cal_of (forward_spec X B) ?_
  rintro _ h8 ⟨f8, -, hok⟩
  obtain ⟨W, ba, tb, rb, S, rfl, ok, A, ls⟩ := hok (by decide)
  have hW : W = 1 := by have := ok.w; dsimp only at this; omega
  subst hW
  have L := ls 0 (by omega)
  have s1 : S 1 0 = true := by simpa using L.cl.go 0 (by simp) (by simp [lv, gen, at_]) 1 (by simp [at_])
  have cl : ClF ⟨[[1], [2], []], 1, [[0]], [[], [0]], []⟩ 0 (fun i => decide (i = 1)) := by
    refine ⟨fun _ h => by simp at h, fun i hi hl y hy => ?_⟩
    have hi : i < 3 := hi
    match i, hi with
    | 0, _ => simp [at_] at hy; subst hy; rfl
    | 1, _ => simp [lv, gen, kil, at_] at hl
    | 2, _ => simp [at_] at hy
  have s0 : S 0 0 = false := by
    cases e : S 0 0 with
    | false => rfl
    | true => have := L.least _ cl 0 (by simp) e; simp at this
  have s2 : S 2 0 = false := by
    cases e : S 2 0 with
    | false => rfl
    | true => have := L.least _ cl 2 (by simp) e; simp at this
  refine ⟨_, rfl, _, rfl, _, rfl, _, rfl, _, rfl, ?_⟩
  refine ⟨fun b h9 => b = true ∧ h8 = h9, ⟨fun _ => ?_, fun e => (by cases e)⟩, ?_⟩
  · refine cal_of (ansHas_spec A (by omega) (by omega) 1 0) ?_
    rintro _ _ ⟨rfl, rfl⟩
    exact ⟨_, rfl, by simp [hasS, s1], rfl⟩
  rintro _ _ ⟨rfl, rfl⟩
  refine ⟨fun b h9 => b = true ∧ h8 = h9, ⟨fun _ => ?_, fun e => (by cases e)⟩, ?_⟩
  · refine cal_of (ansHas_spec A (by omega) (by omega) 0 0) ?_
    rintro _ _ ⟨rfl, rfl⟩
    exact ⟨_, rfl, by simp [hasS, s0], rfl⟩
  rintro _ _ ⟨rfl, rfl⟩
  refine ⟨fun b h9 => b = true ∧ h8 = h9, ⟨fun _ => ?_, fun e => (by cases e)⟩, ?_⟩
  · refine cal_of (ansHas_spec A (by omega) (by omega) 2 0) ?_
    rintro _ _ ⟨rfl, rfl⟩
    exact ⟨_, rfl, by simp [hasS, s2], rfl⟩
  rintro _ _ ⟨rfl, rfl⟩
  exact ⟨rfl, g7.trans f8⟩
end Go.Proofs.Ytglhkodebehdbaa

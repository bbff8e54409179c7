/-
  Which instructions may be come to: the program's way and the document's.
-/
import Derived.Test.YtifjmbbnpkgmaaaM3
import Derived.Test.YtifjmbbnpkgmaaaLiftW
namespace Go.Proofs.Ytifjmbbnpkgmaaa
open Go Go.Lf Go.Lf.Rd
set_option linter.unusedVariables false

def edgesOf (l : List Iv) (i : Nat) : List (Nat × Nat) := ((succL l i).filter fun x : Int => decide (0 ≤ x) && decide (x < (l.length : Int))).map fun x : Int => (i, x.toNat)
def edges (l : List Iv) : List (Nat × Nat) := (List.range l.length).flatMap (edgesOf l)
theorem edges_in {l : List Iv} : ∀ p ∈ edges l, p.1 < l.length ∧ p.2 < l.length := by
  intro p hp
  obtain ⟨i, hi, hp⟩ := List.mem_flatMap.1 hp
  obtain ⟨x, hx, rfl⟩ := List.mem_map.1 hp
  have := (List.mem_filter.1 hx).2
  simp only [Bool.and_eq_true, decide_eq_true_eq] at this
  exact ⟨List.mem_range.1 hi, by dsimp only; omega⟩
theorem edges_mem {l : List Iv} {i : Nat} (hi : i < l.length) {x : Int} (hx : x ∈ succL l i) (h0 : 0 ≤ x) (h1 : x < l.length) : (i, x.toNat) ∈ edges l :=
  List.mem_flatMap.2 ⟨i, List.mem_range.2 hi, List.mem_map.2 ⟨x, List.mem_filter.2 ⟨hx, by simp [h0, h1]⟩, rfl⟩⟩
theorem edges_back {l : List Iv} {p : Nat × Nat} (hp : p ∈ edges l) : p.1 < l.length ∧ ∃ x ∈ succL l p.1, 0 ≤ x ∧ x < l.length ∧ x.toNat = p.2 := by
  obtain ⟨i, hi, hp⟩ := List.mem_flatMap.1 hp
  obtain ⟨x, hx, rfl⟩ := List.mem_map.1 hp
  have := (List.mem_filter.1 hx).2
  simp only [Bool.and_eq_true, decide_eq_true_eq] at this
  exact ⟨List.mem_range.1 hi, x, (List.mem_filter.1 hx).1, this.1, this.2, rfl⟩
theorem succ_len (l : List Iv) (i : Nat) : (succL l i).length ≤ 2 := by
  unfold succL
  split
  · unfold succV
    split
    · simp
    · split
      · split <;> simp
      · split <;> simp
  · simp
/-- what may be come to -/
def reachF (l : List Iv) : Nat → Bool := iterC (edges l) 0 l.length
section
variable {h : Heap}
/-- the worklist: who is met, who is still to be looked at -/
structure WlOk (l : List Iv) (M : Nat → Bool) (T : List Nat) (at_ : Nat) : Prop where
  mem : ∀ j, M j = true ↔ j ∈ T
  lt : ∀ j ∈ T, j < l.length
  nd : T.Nodup
  zero : 0 ∈ T
  rch : ∀ j ∈ T, reachF l j = true
  le : at_ ≤ T.length
  done : ∀ i ∈ T.take at_, ∀ x ∈ succL l i, 0 ≤ x → x < l.length → M x.toNat = true
def natI (l : List Nat) : List Value := l.map fun a : Nat => .int .i64 a
theorem natI_ints (l : List Nat) : natI l = ints (l.map fun a : Nat => (a : Int)) := by simp [natI, ints]
theorem nodup_len : ∀ {n : Nat} {T : List Nat}, T.Nodup → (∀ j ∈ T, j < n) → T.length ≤ n
  | 0, [], _, _ => Nat.le_refl _
  | 0, a :: T, _, h => absurd (h a (by simp)) (Nat.not_lt_zero _)
  | n + 1, T, h1, h2 => by
    by_cases hm : n ∈ T
    · have h3 := nodup_len (n := n) (h1.erase n) fun j hj => by
        have := (h1.mem_erase_iff).1 hj
        have := h2 j this.2
        omega
      rw [List.length_erase_of_mem hm] at h3
      omega
    · have h3 := nodup_len (n := n) h1 fun j hj => by
        have h4 := h2 j hj
        have : j ≠ n := fun e => hm (e ▸ hj)
        omega
      omega
theorem reach_spec {b : Nat} {nm : ByteArray} {pa : Int} {lo co : Sv} {l : List Iv} (B : blk h b (bvs nm pa lo co)) (x : CodeAt h co l) (hl : l.length ≤ 1000) :
    CallsH Try.prog 10 #[.pointer (some ⟨b, 0, none⟩)] h (fun v h' => Grow h h' ∧ ∃ s : Sv, v = .slice s.a s.n s.c ∧ s.n = l.length ∧ (l = [] ∨ ∃ g, s.a = some ⟨g, 0, none⟩ ∧ h.size ≤ g ∧ BoolsAt h' g l.length (reachF l))) := by
  apply F10
  unfold L10
  have hn := x.len
  have hco : ∀ {h'}, Grow h h' → cl h' ((⟨b, 0, none⟩ : Addr).add 3) = some (.slice co.a co.n co.c) := fun g => by rw [add_plain, (g.blk B fun h => h).cl]; rfl
  refine ⟨fun c => c = decide (l.length = 0), ⟨fun e => (by cases e), fun _ => ⟨_, rfl, ldS_i (s := co) (hco (Fr.refl _ _)) ?_⟩⟩, ?_⟩
  · rw [hn]
    show (_ == _) = decide _
    rw [Bool.eq_iff_iff]; simp
  rintro _ rfl
  refine ifb_dec (fun h0 => ⟨Fr.refl _ _, ⟨none, 0, 0⟩, rfl, h0.symm, .inl (List.eq_nil_of_length_eq_zero h0)⟩) (fun h0 => ?_)
  refine ⟨_, rfl, ldS_i (s := co) (hco (Fr.refl _ _)) ?_⟩
  refine ⟨by omega, by omega, by omega, by omega, ?_⟩
  rintro s23 h1 rfl rfl
  simp only [Int.toNat_natCast]
  rw [hn]
  have M1 := made_bools (E := 4) h l.length
  have f1 : Grow h (h.push (.cells (madeCells (Value.bool false).cells (l.length * 1)) 4)) := Fr.push _ _ _
  have z1 : (h.push (.cells (madeCells (Value.bool false).cells (l.length * 1)) 4)).size = h.size + 1 := by simp
  generalize h.push (.cells (madeCells (Value.bool false).cells (l.length * 1)) 4) = h1 at *
  refine ixS_i rfl (by omega) (by show (0 : Int) < ((l.length : Nat) : Int); omega) ?_
  refine M1.put (k := 0) (by omega) true fun h2 M2 f2 => ?_
  have g2 : Grow h h2 := f1.trans' f2 fun i hi e => by omega
  have s2 := f2.size
  rintro s26 h3 rfl rfl
  have k3 := blk.new h2 #[Value.int .i64 0] 3
  have f3 : Grow h2 (h2.push (.cells #[Value.int .i64 0] 3)) := Fr.push _ _ _
  have z3 : (h2.push (.cells #[Value.int .i64 0] 3)).size = h2.size + 1 := by simp
  generalize h2.push (.cells #[Value.int .i64 0] 3) = h3 at *
  have M3 := M2.frame f3 fun h => h
  have o3 : Own h3 h2.size 1 ⟨some ⟨h2.size, 0, none⟩, 1, 1⟩ (natI [0]) := ⟨rfl, .inr ⟨h2.size, _, rfl, Nat.le_refl _, k3, Nat.le_refl _, by simp, rfl⟩⟩
  have hr0 : reachF l 0 = true := iter_self _
  refine ⟨fun T i h' => ∃ (M : Nat → Bool) (tl : List Nat) (a : Nat), i = a ∧ Grow h h' ∧ BoolsAt h' h.size l.length M ∧ Own h' h2.size 1 T (natI tl) ∧ WlOk l M tl a, fun _ i _ => l.length - i.toNat,
    ⟨_, [0], 0, rfl, g2.trans f3, M3, o3, ⟨fun j => by by_cases e : j = 0 <;> simp [e], fun j hj => by simp at hj; omega, by simp, by simp, fun j hj => by simp at hj; rw [hj]; exact hr0, by simp, fun i hi => by simp at hi⟩⟩, ?_⟩
  rintro T _ h4 ⟨M, tl, a, rfl, g4, M4, o4, W⟩
  have hnT : T.n = tl.length := by have := o4.len; simp [natI] at this; omega
  have htl := nodup_len W.nd W.lt
  refine ifb_iff (q := a < tl.length) (by rw [hnT]; simp) (fun hlt => ?_) (fun hge => ?_)
  rotate_left
  · refine ⟨g4, ⟨some ⟨h.size, 0, none⟩, l.length, l.length⟩, rfl, rfl, .inr ⟨h.size, rfl, Nat.le_refl _, M4.congr fun j hj => ?_⟩⟩
    have hae : a = tl.length := by have := W.le; omega
    cases hM : M j with
    | true => exact (W.rch j ((W.mem j).1 hM)).symm
    | false =>
      cases hR : reachF l j with
      | false => rfl
      | true =>
        have := iter_least (qs := edges l) (C := M) (a := 0) (fun p hp h1 => ?_) ((W.mem 0).2 W.zero) l.length j hR
        · rw [hM] at this; cases this
        · obtain ⟨q1, y, q2, q3, q4, q5⟩ := edges_back hp
          have := W.done p.1 (by rw [hae, List.take_length]; exact (W.mem _).1 h1) y q2 q3 q4
          rwa [q5] at this
  rw [natI_ints] at o4
  obtain ⟨p, ep, cp⟩ := (own_ints o4).at_ a (by simpa using hlt)
  simp only [List.getElem_map] at cp
  refine ⟨p, ep, by omega, by rw [hnT]; omega, _, by rw [Int.toNat_natCast]; exact cp, ?_⟩
  have hi0 : tl[a] < l.length := W.lt _ (List.getElem_mem hlt)
  have hri : reachF l tl[a] = true := W.rch _ (List.getElem_mem hlt)
  have hMi : M tl[a] = true := (W.mem _).2 (List.getElem_mem hlt)
  have hcls := iter_closed (qs := edges l) (n := l.length) (a := 0) (by omega) edges_in
  generalize hti : tl[a] = ti at *
  refine cal_of (succ_spec (g4.blk B fun h => h) (x.grow g4) hi0) ?_
  rintro _ h5 ⟨s38, rfl, g5, x5, own5⟩
  refine ⟨s38, rfl, ?_⟩
  have hsl := succ_len l ti
  have hn38 := x5.len
  have s4 := g4.size
  have hTlt : ∀ b, T.own b → h2.size ≤ b ∧ b < h4.size := fun b hb => o4.ge hb
  rw [← natI_ints] at o4
  have hMlt := M4.lt
  refine ⟨fun T' k h' => ∃ (j : Nat) (M' : Nat → Bool) (tl' : List Nat), k = j ∧ j ≤ (succL l ti).length ∧ Grow h h' ∧ IntsAt h' s38 (succL l ti) ∧ BoolsAt h' h.size l.length M' ∧ Own h' h2.size 1 T' (natI tl') ∧
      WlOk l M' tl' a ∧ tl'[a]? = some ti ∧ (∀ b, T'.own b → ¬ s38.own b) ∧ (∀ q, M q = true → M' q = true) ∧ ∀ q (hq : q < (succL l ti).length), q < j → 0 ≤ (succL l ti)[q] → (succL l ti)[q] < l.length → M' (succL l ti)[q].toNat = true,
    fun _ k _ => (succL l ti).length - k.toNat, ⟨0, M, tl, rfl, Nat.zero_le _, g4.trans g5, x5, M4.frame g5 (fun h => h), o4.frame g5 (fun _ _ h => h), W, by rw [← hti]; exact List.getElem?_eq_getElem hlt, fun b hb e => by have := (own5 b e).1; have := (hTlt b hb).2; omega, fun _ h => h, fun q _ h => absurd h (Nat.not_lt_zero _)⟩, ?_⟩
  rintro T' _ h6 ⟨j, M', tl', rfl, hj, g6, x6, M6, o6, W6, hti6, hdis, hsup, hdone⟩
  have hnT' : T'.n = tl'.length := by have := o6.len; simp [natI] at this; omega
  have htl' := nodup_len W6.nd W6.lt
  refine ifb_iff (q := j < (succL l ti).length) (by rw [hn38]; simp) (fun hjl => ?_) (fun hjg => ?_)
  rotate_left
  · have hje : j = (succL l ti).length := by omega
    have hal : a < tl'.length := by
      rcases Nat.lt_or_ge a tl'.length with h | h
      · exact h
      · rw [List.getElem?_eq_none h] at hti6; cases hti6
    rw [wrap_succ hlt (by omega)]
    refine ⟨⟨M', tl', a + 1, rfl, g6, M6, o6, ⟨W6.mem, W6.lt, W6.nd, W6.zero, W6.rch, hal, fun i hi y hy h0 h1 => ?_⟩⟩, by dsimp only; omega⟩
    rw [List.take_succ_eq_append_getElem hal, List.mem_append] at hi
    rcases hi with hi | hi
    · exact W6.done i hi y hy h0 h1
    · rw [List.getElem?_eq_getElem hal, Option.some.injEq] at hti6
      rw [hti6] at hi
      obtain rfl : i = ti := by simpa using hi
      obtain ⟨q, hq, rfl⟩ := List.mem_iff_getElem.1 hy
      exact hdone q hq (by omega) h0 h1
  rw [wrap_succ hjl (by omega)]
  obtain ⟨p2, ep2, cp2⟩ := x6.at_ j hjl
  generalize hy : (succL l ti)[j] = y at *
  refine ⟨fun T2 h10 => ∃ (M2 : Nat → Bool) (tl2 : List Nat), Grow h h10 ∧ IntsAt h10 s38 (succL l ti) ∧ BoolsAt h10 h.size l.length M2 ∧ Own h10 h2.size 1 T2 (natI tl2) ∧ WlOk l M2 tl2 a ∧ tl2[a]? = some ti ∧ (∀ b, T2.own b → ¬ s38.own b) ∧ (∀ q, M' q = true → M2 q = true) ∧ (0 ≤ y → y < l.length → M2 y.toNat = true), ?_, ?_⟩
  rotate_left
  · rintro T2 h10 ⟨M2, tl2, q1, q2, q3, q4, q5, q6, q7, q8, q9⟩
    refine ⟨⟨j + 1, M2, tl2, rfl, hjl, q1, q2, q3, q4, q5, q6, q7, fun q hq => q8 q (hsup q hq), fun q hq hqj h0 h1 => ?_⟩, by dsimp only; omega⟩
    rcases Nat.lt_or_ge q j with hl | hl
    · exact q8 _ (hdone q hq hl h0 h1)
    · obtain rfl : q = j := by omega
      rw [hy] at h0 h1 ⊢
      exact q9 h0 h1
  refine ⟨p2, ep2, by omega, by rw [hn38]; omega, _, by rw [Int.toNat_natCast]; exact cp2, ?_⟩
  refine ⟨fun c => c = true ↔ (0 ≤ y ∧ y < l.length ∧ M' y.toNat = false), ⟨fun e => ?_, fun e => ?_⟩, ?_⟩
  · simp only [Bool.and_eq_true, decide_eq_true_eq] at e
    refine ixS_i rfl e.1 e.2 (ldB_i (x := M' y.toNat) (by rw [add_plain, Nat.mul_one, Nat.zero_add]; exact M6.cell (by omega)) ?_)
    cases M' y.toNat <;> simp [e.1, e.2]
  · simp only [Bool.and_eq_false_iff, decide_eq_false_iff_not] at e
    constructor
    · intro h; cases h
    · rintro ⟨q1, q2, -⟩
      rcases e with e | e
      · exact absurd q1 e
      · exact absurd q2 e
  rintro c hc
  refine ⟨fun e => ?_, fun e => ?_⟩
  · obtain ⟨y0, y1, yM⟩ := hc.1 e
    refine ixS_i rfl y0 y1 ?_
    rw [add_plain, Nat.mul_one, Nat.zero_add]
    refine M6.put (k := y.toNat) (by omega) true fun h7 M7 f7 => ?_
    have s6 := g6.size
    have hT6 : ∀ b, T'.own b → b ≠ h.size := fun b hb e => by have := (o6.ge hb).1; omega
    have hs6 : ∀ b, s38.own b → b ≠ h.size := fun b hb e => by have := (own5 b hb).1; omega
    have o7 := o6.frame f7 fun b hb e => hT6 b hb e
    have x7 := x6.frame f7 fun b hb e => hs6 b hb e
    have g7 : Grow h h7 := g6.trans' f7 fun i hi e => by omega
    have hyv : (y : Int) = ((y.toNat : Nat) : Int) := by omega
    have s7 := f7.size
    have s2' : h2.size ≤ h6.size := by
      rcases o6.mem with ⟨_, _, _⟩ | ⟨g, cur, _, q, k, _⟩
      · have := (W6.zero); have : 0 < tl'.length := List.length_pos_of_mem this; omega
      · have := k.lt; omega
    refine app1 rfl o7 rfl (by simp [Value.oneCell']) (by omega) (by omega) (by omega) fun s' h9 e9 o9 f9 own9 => ?_
    have s9 := f9.size
    have hmemT : y.toNat ∉ tl' := fun h => by rw [(W6.mem _).2 h] at yM; cases yM
    have hedge : (ti, y.toNat) ∈ edges l := edges_mem hi0 (by rw [← hy]; exact List.getElem_mem hjl) y0 y1
    refine ⟨_, tl' ++ [y.toNat], g7.trans' f9 fun i hi e => by have := (o7.ge e).1; have := g2.size; omega, x7.frame f9 fun b hb e => hdis b e hb, M7.frame f9 fun e => by have := (o7.ge e).1; have := g2.size; omega, ?_, ?_, ?_, ?_, ?_, ?_⟩
    · have e : natI (tl' ++ [y.toNat]) = natI tl' ++ #[Value.int .i64 y].toList := by unfold natI; rw [List.map_append]; simp only [List.map_cons, List.map_nil, ← hyv]
      rw [e]; exact o9
    · refine ⟨fun q => ?_, fun q hq => ?_, ?_, by simp [W6.zero], fun q hq => ?_, by simp; have := W6.le; omega, fun i hi z hz h0 h1 => ?_⟩
      · by_cases eq_ : q = y.toNat
        · simp [eq_]
        · simp [eq_, W6.mem]
      · rcases List.mem_append.1 hq with hq | hq
        · exact W6.lt q hq
        · obtain rfl : q = y.toNat := by simpa using hq
          omega
      · exact List.nodup_append.2 ⟨W6.nd, by simp, fun u hu v hv e => by simp at hv; subst e; subst hv; exact hmemT hu⟩
      · rcases List.mem_append.1 hq with hq | hq
        · exact W6.rch q hq
        · obtain rfl : q = y.toNat := by simpa using hq
          exact hcls _ hedge hri
      · rw [List.take_append_of_le_length W6.le] at hi
        have := W6.done i hi z hz h0 h1
        by_cases eq_ : z.toNat = y.toNat
        · simp [eq_]
        · simp [eq_, this]
    · rw [List.getElem?_append_left]
      · exact hti6
      · rcases Nat.lt_or_ge a tl'.length with h | h
        · exact h
        · rw [List.getElem?_eq_none h] at hti6; cases hti6
    · intro b hb hb2
      rcases own9 b hb with q | q
      · exact hdis b q hb2
      · have h38 : b < h6.size := by
          obtain ⟨a', ea', eb'⟩ := hb2
          obtain ⟨p', e', c'⟩ := x6.at_ j hjl
          have := cl_lt c'
          rw [add_block] at this
          rw [ea'] at e'
          obtain rfl : a' = p' := by simpa using e'
          rw [← eb']; exact this
        omega
    · intro q hq
      by_cases eq_ : q = y.toNat
      · simp [eq_]
      · simp [eq_, hq]
    · intro _ _; simp
  · refine ⟨M', tl', g6, x6, M6, o6, W6, hti6, hdis, fun _ h => h, fun h0 h1 => ?_⟩
    cases hM : M' y.toNat with
    | true => rfl
    | false => rw [hc.2 ⟨h0, h1, hM⟩] at e; cases e
theorem edges_take {l : List Iv} {i : Nat} (hi : i < l.length) : (List.range (i + 1)).flatMap (edgesOf l) = (List.range i).flatMap (edgesOf l) ++ edgesOf l i := by
  rw [List.range_succ, List.flatMap_append]; simp
/-- the steps of one instruction -/
theorem fold_off (i : Nat) : ∀ (qs : List (Nat × Nat)) (C : Nat → Bool), (∀ p ∈ qs, p.1 = i) → C i = false → qs.foldl stepC C = C
  | [], _, _, _ => rfl
  | p :: qs, C, h, hC => by
    have e : stepC C p = C := by
      unfold stepC
      rw [h p (by simp), hC]; rfl
    rw [List.foldl_cons, e]
    exact fold_off i qs C (fun q hq => h q (by simp [hq])) hC
theorem refReach_spec {co : Sv} {l : List Iv} (x : CodeAt h co l) (hl : l.length ≤ 1000) :
    CallsH Try.prog 11 #[.slice co.a co.n co.c] h (fun v h' => Grow h h' ∧ ∃ s : Sv, v = .slice s.a s.n s.c ∧ s.n = l.length ∧ ∃ g, s.a = some ⟨g, 0, none⟩ ∧ h.size ≤ g ∧ SetAt h' g l.length (reachF l)) := by
  apply F11
  unfold L11
  have hn := x.len
  refine ⟨by omega, by omega, by omega, by omega, ?_⟩
  rintro s10 h1 rfl rfl
  simp only [Int.toNat_natCast]
  have fp := Fr.push (fun _ => False) h (.cells (madeCells (Value.int .i64 0).cells (co.n * 1)) 3)
  have kb := blk.new h (madeCells (Value.int .i64 0).cells (co.n * 1)) 3
  have S0 : SetAt (h.push (.cells (madeCells (Value.int .i64 0).cells (co.n * 1)) 3)) h.size l.length (fun _ => false) :=
    ⟨_, kb, fun k hk => by rw [made_get _ rfl, if_pos (by omega)]; rfl⟩
  have z1 : (h.push (.cells (madeCells (Value.int .i64 0).cells (co.n * 1)) 3)).size = h.size + 1 := by simp
  generalize h.push (.cells (madeCells (Value.int .i64 0).cells (co.n * 1)) 3) = h1 at *
  refine ⟨fun h3 => Grow h h3 ∧ h1.size ≤ h3.size ∧ SetAt h3 h.size l.length (iterC (edges l) 0 0), ?_, ?_⟩
  · refine ifb_iff (q := 0 < l.length) (by rw [hn]; simp) (fun h0 => ?_) (fun h0 => ?_)
    · refine ixS_i rfl (by omega) (by show (0 : Int) < ((co.n : Nat) : Int); omega) ?_
      refine S0.put 0 h0 fun h2 S2 f2 => ⟨fp.trans' f2 fun i hi e => by omega, f2.size, ?_⟩
      obtain ⟨cs, k1, k2⟩ := S2
      exact ⟨cs, k1, fun k hk => by rw [k2 k hk]; simp [iterC]⟩
    · refine ⟨fp, Nat.le_refl _, ?_⟩
      obtain ⟨cs, k1, k2⟩ := S0
      exact ⟨cs, k1, fun k hk => by omega⟩
  rintro h3 ⟨g3, z3, S3⟩
  refine ⟨fun y h4 => ∃ m : Nat, y = m ∧ m ≤ l.length ∧ Grow h h4 ∧ h1.size ≤ h4.size ∧ SetAt h4 h.size l.length (iterC (edges l) 0 m), fun y _ => l.length - y.toNat, ⟨0, rfl, Nat.zero_le _, g3, z3, S3⟩, ?_⟩
  rintro _ h4 ⟨m, rfl, hm, g4, z4, S4⟩
  rw [hn]
  refine ifb_iff (q := m < l.length) (by simp) (fun hml => ?_) (fun hmg => ?_)
  rotate_left
  · obtain rfl : m = l.length := by omega
    exact ⟨g4, ⟨some ⟨h.size, 0, none⟩, l.length, l.length⟩, rfl, rfl, h.size, rfl, Nat.le_refl _, S4⟩
  rw [wrap_succ hml (by omega)]
  refine ⟨fun y h5 => ∃ i : Nat, y = i ∧ i ≤ l.length ∧ Grow h h5 ∧ h1.size ≤ h5.size ∧ SetAt h5 h.size l.length (((List.range i).flatMap (edgesOf l)).foldl stepC (iterC (edges l) 0 m)), fun y _ => l.length - y.toNat, ⟨0, rfl, Nat.zero_le _, g4, z4, S4⟩, ?_⟩
  rintro _ h5 ⟨i, rfl, hi, g5, z5, S5⟩
  refine ifb_iff (q := i < l.length) (by simp) (fun hil => ?_) (fun hig => ?_)
  rotate_left
  · obtain rfl : i = l.length := by omega
    exact ⟨⟨m + 1, rfl, hml, g5, z5, S5⟩, by dsimp only; omega⟩
  rw [wrap_succ hil (by omega)]
  have hst : ((List.range (i + 1)).flatMap (edgesOf l)).foldl stepC (iterC (edges l) 0 m) = (edgesOf l i).foldl stepC (((List.range i).flatMap (edgesOf l)).foldl stepC (iterC (edges l) 0 m)) := by rw [edges_take hil, List.foldl_append]
  generalize ((List.range i).flatMap (edgesOf l)).foldl stepC (iterC (edges l) 0 m) = C at *
  have hcall := refSucc_spec (x.grow g5) hil
  rw [hn] at hcall
  refine cal_of hcall ?_
  rintro _ h6 ⟨s30, rfl, f6, x6, own6⟩
  refine ⟨s30, rfl, ?_⟩
  have hsl := succ_len l i
  have hn30 := x6.len
  -- what its steps come to
  have hfoldT : ∀ k, k ≤ (succL l i).length → ∀ D : Nat → Bool, D i = true → ((((succL l i).take k).filter fun x : Int => decide (0 ≤ x) && decide (x < (l.length : Int))).map fun x : Int => (i, x.toNat)).foldl stepC D i = true := by
    intro k _ D hD
    exact fold_le _ _ hD
  refine ⟨fun y h7 => ∃ k : Nat, y = k ∧ k ≤ (succL l i).length ∧ Grow h h7 ∧ h1.size ≤ h7.size ∧ IntsAt h7 s30 (succL l i) ∧ (k = 0 ∨ C i = true) ∧ SetAt h7 h.size l.length (((((succL l i).take k).filter fun x : Int => decide (0 ≤ x) && decide (x < (l.length : Int))).map fun x : Int => (i, x.toNat)).foldl stepC C),
    fun y _ => (succL l i).length - y.toNat, ⟨0, rfl, Nat.zero_le _, g5.trans f6, by have := f6.size; omega, x6, .inl rfl, ?_⟩, ?_⟩
  · obtain ⟨cs, k1, k2⟩ := S5
    exact ⟨cs, f6.blk k1 fun h => h, k2⟩
  rintro _ h7 ⟨k, rfl, hk, g7, z7, x7, hkC, S7⟩
  generalize hD : ((((succL l i).take k).filter fun x : Int => decide (0 ≤ x) && decide (x < (l.length : Int))).map fun x : Int => (i, x.toNat)).foldl stepC C = D at *
  have hDi : D i = C i := by
    rcases hkC with rfl | hC
    · rw [← hD]; rfl
    · rw [hC, ← hD]; exact hfoldT k hk C hC
  refine ⟨fun c => c = true ↔ (k < (succL l i).length ∧ C i = true), ⟨fun e => ?_, fun e => ?_⟩, ?_⟩
  · have hkl : k < (succL l i).length := by rw [hn30] at e; have := of_decide_eq_true e; omega
    refine ixS_i rfl (by omega) (by show (i : Int) < ((l.length : Nat) : Int); omega) (ldI_i (by rw [add_plain, Int.toNat_natCast, Nat.mul_one, Nat.zero_add]; exact S7.get i hil) ?_)
    rw [hDi]
    cases C i <;> simp [hkl]
  · have hkl : ¬ k < (succL l i).length := by rw [hn30] at e; have := of_decide_eq_false e; omega
    simp [hkl]
  rintro c hc
  refine ⟨fun e => ?_, fun e => ?_⟩
  rotate_left
  · have hno : ¬ (k < (succL l i).length ∧ C i = true) := fun h => by rw [hc.2 h] at e; cases e
    refine ⟨⟨i + 1, rfl, hil, g7, z7, ?_⟩, by dsimp only; omega⟩
    rw [hst]
    cases hC : C i with
    | false =>
      have e1 : (edgesOf l i).foldl stepC C = C := fold_off i _ _ (fun p hp => by obtain ⟨x, _, rfl⟩ := List.mem_map.1 hp; rfl) hC
      have hk0 : k = 0 := hkC.resolve_right (by rw [hC]; simp)
      rw [e1]
      subst hk0
      have : D = C := by rw [← hD]; rfl
      rw [← this]; exact S7
    | true =>
      have hke : k = (succL l i).length := by
        rcases Nat.lt_or_ge k (succL l i).length with h | h
        · exact absurd ⟨h, hC⟩ hno
        · omega
      subst hke
      rw [List.take_length] at hD
      unfold edgesOf
      rw [hD]; exact S7
  obtain ⟨hkl, hC⟩ := hc.1 e
  have hDi' : D i = true := by rw [hDi, hC]
  obtain ⟨p, ep, cp⟩ := x7.at_ k hkl
  rw [wrap_succ hkl (by omega)]
  have htk : ((((succL l i).take (k + 1)).filter fun x : Int => decide (0 ≤ x) && decide (x < (l.length : Int))).map fun x : Int => (i, x.toNat)).foldl stepC C = if (decide (0 ≤ (succL l i)[k]) && decide ((succL l i)[k] < (l.length : Int))) = true then stepC D (i, ((succL l i)[k]).toNat) else D := by
    rw [List.take_succ_eq_append_getElem hkl, List.filter_append, List.map_append, List.foldl_append, hD, List.filter_cons, List.filter_nil]
    split <;> rfl
  generalize (succL l i)[k] = y at *
  refine ⟨fun h9 => Grow h h9 ∧ h1.size ≤ h9.size ∧ IntsAt h9 s30 (succL l i) ∧ SetAt h9 h.size l.length (if (decide (0 ≤ y) && decide (y < (l.length : Int))) = true then stepC D (i, y.toNat) else D), ?_, ?_⟩
  rotate_left
  · rintro h9 ⟨q1, q2, q3, q4⟩
    exact ⟨⟨k + 1, rfl, hkl, q1, q2, q3, .inr hC, by rw [htk]; exact q4⟩, by dsimp only; omega⟩
  have cp' : cl h7 (p.add (((k : Nat) : Int).toNat * 1)) = some (.int .i64 y) := by rw [Int.toNat_natCast]; exact cp
  refine ⟨p, ep, by omega, by rw [hn30]; omega, y, cp', ?_⟩
  refine ⟨fun c => c = (decide (0 ≤ y) && decide (y < (l.length : Int))), ⟨fun e => ⟨p, ep, by omega, by rw [hn30]; omega, y, cp', by rw [e]; rfl⟩, fun e => by rw [e]; rfl⟩, ?_⟩
  rintro _ rfl
  refine ⟨fun e => ?_, fun e => ?_⟩
  · rw [if_pos e]
    simp only [Bool.and_eq_true, decide_eq_true_eq] at e
    refine ⟨p, ep, by omega, by rw [hn30]; omega, y, cp', ixS_i rfl e.1 (by exact e.2) ?_⟩
    rw [add_plain, Nat.mul_one, Nat.zero_add]
    refine S7.put y.toNat (by omega) fun h8 S8 f8 => ⟨g7.trans' f8 fun i hi e => by omega, by have := f8.size; omega, x7.frame f8 fun b hb e => ?_, ?_⟩
    · have := (own6 b hb).1; have := g5.size; omega
    · unfold stepC
      rw [if_pos hDi']
      exact S8
  · rw [if_neg (by rw [e]; simp)]
    exact ⟨g7, z7, x7, S7⟩
end
end Go.Proofs.Ytifjmbbnpkgmaaa

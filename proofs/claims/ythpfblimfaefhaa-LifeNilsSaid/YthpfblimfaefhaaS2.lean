/-
  New: a relation of which nothing is known.
-/
import Derived.Test.YthpfblimfaefhaaS1
namespace Go.Proofs.Ythpfblimfaefhaa
open Go Go.Lf

/-- while New makes row after row: `x` rows are there -/
structure NewI (n B x : Nat) (h0 h : Heap) (s : Sv) (rb : Nat → Nat) : Prop where
  st : blk h B #[.int .i64 n, .slice s.a s.n s.c]
  own : Own h (B + 1) 1 s ((List.range x).map fun i => .slice (some ⟨rb i, 0, none⟩) (n + 1) (n + 1))
  row : ∀ i, i < x → B < rb i ∧ ¬ s.own (rb i) ∧ ∃ cs : Array Value, blk h (rb i) cs ∧ ∀ j, j ≤ n → cs[j]? = some (.bool (decide (i = j) || decide (i = 0)))
  inj : ∀ i j, i < x → j < x → rb i = rb j → i = j
  fr : Grow h0 h
  base : B = h0.size

theorem new_bad (n : Int) (h : Heap) (hn : ¬ (0 ≤ n ∧ n ≤ 300)) : CallsH Try.prog 22 #[.int .i64 n] h (fun v h' => h = h' ∧ v = .tuple #[.pointer none, .int .i64 14]) := by
  apply F22
  unfold L22
  exact ifb_iff (q := ¬ (0 ≤ n ∧ n ≤ 300)) (by simp; omega) (fun _ => ⟨rfl, rfl⟩) (fun h => absurd hn h)

theorem new_spec (n : Nat) (h : Heap) (hn : n ≤ 300) : CallsH Try.prog 22 #[.int .i64 n] h (fun v h' =>
    ∃ br bo c rb, v = .tuple #[.pointer (some ⟨br, 0, none⟩), .int .i64 0] ∧ RelOk br bo c rb n (fun i j => decide (i = j) || decide (i = 0)) h' ∧ Grow h h' ∧ ∀ b, RelB br bo rb n b → h.size ≤ b) := by
  apply F22
  unfold L22
  refine ifb_iff (q := ¬ (0 ≤ (n : Int) ∧ (n : Int) ≤ 300)) (by simp; omega) (fun h => absurd ⟨by omega, by omega⟩ h) (fun _ => ?_)
  have hw : IntKind.i64.wrap ((n : Int) + 1) = (n : Int) + 1 := wrap64_id (by omega) (by omega)
  simp only [hw]
  rintro p h1 rfl rfl
  refine ⟨fun x h2 => ∃ k : Nat, x = k ∧ k ≤ n + 1 ∧ ∃ s rb, NewI n h.size k h h2 s rb, fun x _ => (n + 1 - x).toNat, ?_, ?_⟩
  · refine ⟨0, rfl, by omega, ⟨none, 0, 0⟩, fun _ => 0, blk.new _ _ _, Own.nil _ _ _, fun i hi => by omega, fun i j hi => by omega, Fr.push _ _ _, rfl⟩
  · rintro x h2 ⟨k, rfl, hk, s, rb, I⟩
    refine ifb_dec (fun hlt => ?_) (fun hge => ?_)
    · -- a row
      refine ⟨by omega, by omega, by omega, by omega, ?_⟩
      rintro s24 h3 rfl rfl
      refine ixS_i rfl (by omega) (by show (k : Int) < (((n : Int) + 1).toNat : Int); omega) ?_
      simp only [add_plain, Nat.zero_add, Int.toNat_natCast, Nat.mul_one]
      have e1 : ((n : Int) + 1).toNat = n + 1 := by omega
      simp only [e1]
      have kb := blk.new h2 (madeCells (Value.bool false).cells (n + 1)) 4
      have hsz : (madeCells (Value.bool false).cells (n + 1)).size = n + 1 := size_madeCells _ _
      refine sto_i kb (by rw [hsz]; omega) ?_
      have kb1 := kb.sc k (.bool true)
      have f1 : Fr (fun _ => False) h2 (sc (h2.push (.cells (madeCells (Value.bool false).cells (n + 1)) 4)) ⟨h2.size, k, none⟩ (.bool true)) :=
        (Fr.push (fun _ => False) h2 _).trans' (Fr.sc (T := fun b => b = h2.size) _ (p := ⟨h2.size, k, none⟩) rfl _) (fun i hi e => by omega)
      generalize hh4 : sc (h2.push (.cells (madeCells (Value.bool false).cells (n + 1)) 4)) ⟨h2.size, k, none⟩ (.bool true) = h4 at *
      -- the inner loop
      refine ⟨fun y h5 => ∃ q : Nat, y = q ∧ q ≤ n + 1 ∧ Fr (fun b => b = h2.size) h4 h5 ∧ ∃ cs : Array Value, blk h5 h2.size cs ∧ ∀ j, j ≤ n → cs[j]? = some (.bool (decide (k = j) || (decide (j < q) && decide (k = 0)))), fun y _ => (n + 1 - y).toNat, ?_, ?_⟩
      · refine ⟨0, rfl, by omega, Fr.refl _ _, _, kb1, fun j hj => ?_⟩
        rw [Array.getElem?_setIfInBounds, made_get _ rfl, hsz]
        by_cases e : k = j
        · have : k < n + 1 := by omega
          simp [e, show j < n + 1 by omega]
        · simp [e, show j < n + 1 by omega]
      · rintro y h5 ⟨q, rfl, hq, f5, cs, kc, hcs⟩
        refine ifb_dec (fun hqlt => ?_) (fun hqge => ?_)
        · have hqlt : q < n + 1 := by have : (q : Int) < ((n + 1 : Nat) : Int) := hqlt; omega
          refine ixS_i rfl (by omega) (by show (q : Int) < ((n + 1 : Nat) : Int); omega) ?_
          simp only [add_plain, Nat.zero_add, Int.toNat_natCast]
          have hcq := hcs q (by omega)
          refine ldB_i (by rw [kc.cl]; exact hcq) (ixS_i rfl (by omega) (by show (q : Int) < ((n + 1 : Nat) : Int); omega) ?_)
          simp only [add_plain, Nat.zero_add]
          refine sto_i kc ((Array.getElem?_eq_some_iff.1 hcq).1) ?_
          have hwq : IntKind.i64.wrap ((q : Int) + 1) = ((q + 1 : Nat) : Int) := by rw [wrap64_id (by omega) (by omega)]; omega
          refine ⟨⟨q + 1, hwq, by omega, f5.trans (Fr.scb _ _ _ _), _, kc.sc q _, fun j hj => ?_⟩, by rw [hwq]; omega⟩
          rw [Array.getElem?_setIfInBounds]
          by_cases e : q = j
          · subst e
            have hl := (Array.getElem?_eq_some_iff.1 hcq).1
            have e0 : ((k : Int) == 0) = decide (k = 0) := by rw [Bool.eq_iff_iff]; simp
            simp [hl, e0]
          · rw [if_neg e, hcs j hj]
            have e3 : decide (j < q + 1) = decide (j < q) := by rw [Bool.eq_iff_iff]; simp; omega
            rw [e3]
        · -- the row is done: it is appended
          have hqe : q = n + 1 := by have : ¬ (q : Int) < ((n + 1 : Nat) : Int) := hqge; omega
          subst hqe
          have f25 : Fr (fun _ => False) h2 h5 := f1.trans' f5 (fun i hi e => by omega)
          have st5 := f25.blk I.st (fun h => h)
          refine ldS_i (s := s) (by rw [st5.cl]; rfl) ?_
          have o5 := I.own.frame f25 (fun _ _ h => h)
          have hlen : s.n = k := by have := I.own.len; simp at this; omega
          have hB5 : h.size < h5.size := st5.lt
          refine app1 (B := h.size + 1) (sz := 1) rfl o5 rfl (by simp [Value.oneCell']) (by omega) (by omega) (by omega) ?_
          intro s' h8 e1 o8 f8 hown
          have st8 := f8.blk st5 (fun ho => by have := (o5.ge ho).1; omega)
          refine sto_i st8 (by show 1 < 2; omega) ?_
          have hwk : IntKind.i64.wrap ((k : Int) + 1) = ((k + 1 : Nat) : Int) := by rw [wrap64_id (by omega) (by omega)]; omega
          have f9 : Fr (fun b => b = h.size) h8 (sc h8 ⟨h.size, 1, none⟩ (.slice s'.a s'.n s'.c)) := Fr.scb _ _ _ _
          have hge : h.size ≤ h2.size := I.fr.size
          have hnew : ¬ s.own h2.size := fun ho => by have := (I.own.ge ho).2; omega
          have h25 : h2.size < h5.size := kc.lt
          refine ⟨⟨k + 1, hwk, by omega, s', fun i => if i < k then rb i else h2.size, ?_⟩, by rw [hwk]; omega⟩
          refine ⟨st8.sc 1 _, ?_, fun i hi => ?_, fun i j hi hj => ?_, ?_, rfl⟩
          · have := o8.frame f9 (fun b hb e => by have := (o8.ge hb).1; omega)
            rw [List.range_succ, List.map_append]
            have e2 : (List.range k).map (fun i => Value.slice (some ⟨if i < k then rb i else h2.size, 0, none⟩) (n + 1) (n + 1)) = (List.range k).map (fun i => Value.slice (some ⟨rb i, 0, none⟩) (n + 1) (n + 1)) :=
              List.map_congr_left fun i hi => by rw [if_pos (List.mem_range.1 hi)]
            rw [e2]
            simpa using this
          · by_cases e : i < k
            · obtain ⟨r1, r2, cs', r3, r4⟩ := I.row i e
              simp only [e, if_true]
              have l2 := r3.lt
              refine ⟨r1, fun ho => ?_, cs', f9.blk (f8.blk (f25.blk r3 (fun h => h)) r2) (by omega), r4⟩
              rcases hown _ ho with h' | h'
              · exact r2 h'
              · omega
            · have e' : i = k := by omega
              subst e'
              simp only [e, if_false]
              refine ⟨by have := (I.st).lt; omega, fun ho => ?_, cs, f9.blk (f8.blk kc hnew) (by have := (I.st).lt; omega), fun j hj => by rw [hcs j hj]; simp [show j < n + 1 by omega]⟩
              rcases hown _ ho with h' | h'
              · exact hnew h'
              · omega
          · intro e
            by_cases e1 : i < k <;> by_cases e2 : j < k <;> simp only [e1, e2, if_true, if_false] at e
            · exact I.inj i j e1 e2 e
            · obtain ⟨_, _, cs', r3, _⟩ := I.row i e1; have := r3.lt; omega
            · obtain ⟨_, _, cs', r3, _⟩ := I.row j e2; have := r3.lt; omega
            · omega
          · exact ((I.fr.trans f25).trans' f8 (fun i hi ho => by have := (o5.ge ho).1; omega)).trans' f9 (fun i hi e => by omega)
    · -- all rows are there
      have hke : k = n + 1 := by omega
      subst hke
      have hlen : s.n = n + 1 := by have := I.own.len; simp at this; omega
      rcases I.own.mem with ⟨_, e, _⟩ | ⟨g, cur, ea, hg, kg, hcap, hcs, ht⟩
      · omega
      · refine ⟨h.size, g, s.c, rb, rfl, ⟨?_, ⟨cur, kg, fun i hi => ⟨n + 1, ?_⟩⟩, fun i hi => ?_, by omega, fun i hi => ?_, fun i j hi hj => I.inj i j (by omega) (by omega)⟩, I.fr, ?_⟩
        · have := I.st; rw [ea, hlen] at this; exact this
        · have : ((List.range (n + 1)).map fun i => Value.slice (some ⟨rb i, 0, none⟩) (n + 1) (n + 1))[i]? = some (.slice (some ⟨rb i, 0, none⟩) (n + 1) (n + 1)) := by
            simp [List.getElem?_range (show i < n + 1 by omega)]
          rw [← ht, List.getElem?_take] at this
          split at this
          · simpa using this
          · cases this
        · obtain ⟨_, _, cs', r3, r4⟩ := I.row i (by omega)
          exact ⟨cs', r3, r4⟩
        · obtain ⟨r1, r2, _⟩ := I.row i (by omega)
          exact ⟨by omega, fun e => r2 ⟨_, ea, e.symm⟩⟩
        · rintro b (rfl | rfl | ⟨i, hi, rfl⟩)
          · omega
          · omega
          · have := (I.row i (by omega)).1; omega
end Go.Proofs.Ythpfblimfaefhaa

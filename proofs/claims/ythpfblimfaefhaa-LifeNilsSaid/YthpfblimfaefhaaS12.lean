/-
  Clone: a table of its own, with the same in it.
-/
import Derived.Test.YthpfblimfaefhaaS4
namespace Go.Proofs.Ythpfblimfaefhaa
open Go Go.Lf

theorem Own.empty (h : Heap) (sz : Nat) (E : TypeId) : Own (h.push (.cells #[] E)) h.size sz ⟨some ⟨h.size, 0, none⟩, 0, 0⟩ [] :=
  ⟨by simp, .inr ⟨h.size, #[], rfl, Nat.le_refl _, blk.new _ _ _, Nat.le_refl _, by simp, by simp⟩⟩

def bools (f : Nat → Bool) (k : Nat) : List Value := (List.range k).map fun j => .bool (f j)
theorem cloneRow_spec {h : Heap} {g k cr : Nat} {f : Nat → Bool} (hk : k ≤ 1000) (hc : ∀ j, j < k → cl h ⟨g, j, none⟩ = some (.bool (f j))) :
    CallsH Try.prog 24 #[.slice (some ⟨g, 0, none⟩) k cr] h (fun v h' => ∃ s : Sv, v = s.v ∧ s.n = k ∧ Own h' h.size 1 s (bools f k) ∧ Grow h h') := by
  have F := @F24 ⟨some ⟨g, 0, none⟩, k, cr⟩ h
  refine F ?_
  unfold L24
  refine ⟨fun e => (by cases e), fun _ => ?_⟩
  rintro s5 h1 rfl rfl
  have f1 : Grow h (h.push (.cells #[] 4)) := Fr.push _ _ _
  have hs1 : (h.push (.cells #[] 4)).size = h.size + 1 := by simp
  refine appS_own (B := h.size) (xs := []) (news := bools f k) rfl (Own.empty h 1 4) (by simp [bools]) ?_ ?_ (by omega) (by simp; omega) (by simp; omega) ?_
  · intro j v hv
    simp only [bools, List.getElem?_map, Option.map_eq_some_iff] at hv
    obtain ⟨a, ha, rfl⟩ := hv
    have hj : j < k := by rcases Nat.lt_or_ge j k with h | h; exact h; rw [List.getElem?_eq_none (by simpa using h)] at ha; cases ha
    rw [List.getElem?_range hj] at ha
    cases ha
    rw [add_plain]
    exact f1.clk (by rw [Nat.zero_add]; exact hc j hj) (fun h => h)
  · intro u hu
    simp only [bools, List.mem_map] at hu
    obtain ⟨_, _, rfl⟩ := hu
    rfl
  · intro s' h' e1 o f2 _
    refine ⟨s', rfl, by rw [e1]; simp, by simpa using o, f1.trans' f2 fun i hi ho => ?_⟩
    obtain ⟨a, e, eb⟩ := ho
    simp only [Option.some.injEq] at e
    subst e
    have eb' : h.size = i := eb
    omega

/-- while Clone takes row after row: `x` rows are there -/
structure CloI (n B x : Nat) (m : Nat → Nat → Bool) (h0 h : Heap) (s : Sv) (rb cp : Nat → Nat) : Prop where
  st : blk h B #[.int .i64 n, .slice s.a s.n s.c]
  own : Own h (B + 1) 1 s ((List.range x).map fun i => .slice (some ⟨rb i, 0, none⟩) (n + 1) (cp i))
  row : ∀ i, i < x → B < rb i ∧ ¬ s.own (rb i) ∧ ∃ cs : Array Value, blk h (rb i) cs ∧ ∀ j, j ≤ n → cs[j]? = some (.bool (m i j))
  inj : ∀ i j, i < x → j < x → rb i = rb j → i = j
  fr : Grow h0 h
  base : B = h0.size

section
variable {br bo c : Nat} {rb : Nat → Nat} {n : Nat} {m : Nat → Nat → Bool} {h : Heap}
theorem clone_nil : CallsH Try.prog 13 #[.pointer none] h (fun v h' => h = h' ∧ v = .pointer none) := by
  apply F13
  unfold L13
  exact ⟨fun _ => ⟨rfl, rfl⟩, fun e => (by cases e)⟩

theorem clone_spec (x : RelOk br bo c rb n m h) (hn : n ≤ 300) : CallsH Try.prog 13 #[.pointer (some ⟨br, 0, none⟩)] h (fun v h' =>
    ∃ br' bo' c' rb', v = .pointer (some ⟨br', 0, none⟩) ∧ RelOk br' bo' c' rb' n m h' ∧ Grow h h' ∧ ∀ b, RelB br' bo' rb' n b → h.size ≤ b) := by
  apply F13
  unfold L13
  refine ⟨fun e => (by cases e), fun _ => nn_i (ldI_i x.cn ?_)⟩
  rintro p h1 rfl rfl
  have f1 : Grow h (h.push (.cells #[.int .i64 n, .slice none 0 0] 54)) := Fr.push _ _ _
  have x1 := x.frame f1 (fun _ _ h => h)
  have k1 := blk.new h #[.int .i64 n, .slice none 0 0] 54
  generalize h.push (.cells #[.int .i64 n, .slice none 0 0] 54) = h1 at *
  refine nn_i (ldS_i (s := ⟨some ⟨bo, 0, none⟩, n + 1, c⟩) (by rw [add_plain]; exact x1.co) ?_)
  refine ⟨fun y h2 => ∃ k : Nat, y = k ∧ k ≤ n + 1 ∧ ∃ s rb' cp, CloI n h.size k m h h2 s rb' cp, fun y _ => (n + 1 - y).toNat, ?_, ?_⟩
  · exact ⟨0, rfl, by omega, ⟨none, 0, 0⟩, fun _ => 0, fun _ => 0, k1, Own.nil _ _ _, fun i hi => by omega, fun i j hi => by omega, f1, rfl⟩
  rintro y h2 ⟨k, rfl, hk, s, rb', cp, I⟩
  have x2 := x.frame I.fr (fun _ _ h => h)
  refine ifb_dec (fun hlt => ?_) (fun hge => ?_)
  · have hlt : k < n + 1 := by have : (k : Int) < ((n + 1 : Nat) : Int) := hlt; omega
    refine ixS_i rfl (by omega) (by show (k : Int) < ((n + 1 : Nat) : Int); omega) ?_
    obtain ⟨cr, hcr⟩ := x2.cr k (by omega)
    refine ldS_i (s := ⟨some ⟨rb k, 0, none⟩, n + 1, cr⟩) (by simpa only [add_plain, Nat.zero_add, Int.toNat_natCast, Nat.mul_one] using hcr) ?_
    refine ⟨Grow h2, Fr.refl _ _, s, fun h' g => ?_, ?_⟩
    · rw [add_plain]
      exact g.clk (by rw [I.st.cl]; rfl) (fun h => h)
    refine cal_of (cloneRow_spec (g := rb k) (k := n + 1) (cr := cr) (f := m k) (by omega) fun j hj => x2.cb k j (by omega) (by omega)) ?_
    rintro _ h3 ⟨u, rfl, un, ou, g3⟩
    refine ⟨u, rfl, g3, ?_⟩
    have o3 := I.own.frame g3 (fun _ _ h => h)
    have st3 := g3.blk I.st (fun h => h)
    have hlen : s.n = k := by have := I.own.len; simp at this; omega
    have hB3 : h.size < h3.size := st3.lt
    rcases ou.mem with ⟨_, e, _⟩ | ⟨g, cur, ea, hg, kg, hcap, hcs, ht⟩
    · omega
    have hrow : ∀ j, j ≤ n → cur[j]? = some (.bool (m k j)) := by
      intro j hj
      have : (bools (m k) (n + 1))[j]? = some (.bool (m k j)) := by simp [bools, List.getElem?_range (show j < n + 1 by omega)]
      rw [← ht, List.getElem?_take] at this
      split at this
      · simpa using this
      · cases this
    have hg3 := kg.lt
    have hnew : ¬ s.own g := fun ho => by have := (I.own.ge ho).2; omega
    rintro s1 h4 rfl rfl
    have e4 : Grow h3 (h3.push (.cells #[.slice u.a u.n u.c] 51)) := Fr.push _ _ _
    refine ⟨g3.trans e4, ?_⟩
    refine app1 (E := 51) (vs := #[.slice u.a u.n u.c]) (h := h3) (B := h.size + 1) (sz := 1) rfl o3 rfl (by simp [Value.oneCell']) (by omega) (by omega) (by omega) ?_ _ _ rfl rfl
    intro s' h8 e1 o8 f8 hown
    have st8 := f8.blk st3 (fun ho => by have := (o3.ge ho).1; omega)
    rw [add_plain]
    refine sto_i st8 (by show 1 < 2; omega) ?_
    have hwk : IntKind.i64.wrap ((k : Int) + 1) = ((k + 1 : Nat) : Int) := by rw [wrap64_id (by omega) (by omega)]; omega
    have f9 : Fr (fun b => b = h.size) h8 (sc h8 ⟨h.size, 0 + 1, none⟩ (.slice s'.a s'.n s'.c)) := Fr.scb _ _ _ _
    have hge : h.size < h2.size := I.st.lt
    refine ⟨⟨k + 1, hwk, by omega, s', fun i => if i < k then rb' i else g, fun i => if i < k then cp i else u.c, ?_⟩, by rw [hwk]; (try dsimp only); omega⟩
    refine ⟨st8.sc 1 _, ?_, fun i hi => ?_, fun i j hi hj => ?_, ?_, rfl⟩
    · have := o8.frame f9 (fun b hb e => by have := (o8.ge hb).1; omega)
      rw [List.range_succ, List.map_append]
      have e2 : (List.range k).map (fun i => Value.slice (some ⟨if i < k then rb' i else g, 0, none⟩) (n + 1) (if i < k then cp i else u.c)) = (List.range k).map (fun i => Value.slice (some ⟨rb' i, 0, none⟩) (n + 1) (cp i)) :=
        List.map_congr_left fun i hi => by rw [if_pos (List.mem_range.1 hi), if_pos (List.mem_range.1 hi)]
      rw [e2]
      rw [ea, un] at this
      simpa using this
    · by_cases e : i < k
      · obtain ⟨r1, r2, cs', r3, r4⟩ := I.row i e
        simp only [e, if_true]
        have l2 := r3.lt
        refine ⟨r1, fun ho => ?_, cs', f9.blk (f8.blk (g3.blk r3 (fun h => h)) r2) (by omega), r4⟩
        rcases hown _ ho with h' | h'
        · exact r2 h'
        · have := g3.size; omega
      · have e' : i = k := by omega
        subst e'
        simp only [e, if_false]
        refine ⟨by omega, fun ho => ?_, cur, f9.blk (f8.blk kg hnew) (by omega), hrow⟩
        rcases hown _ ho with h' | h'
        · exact hnew h'
        · omega
    · intro e
      by_cases e1 : i < k <;> by_cases e2 : j < k <;> simp only [e1, e2, if_true, if_false] at e
      · exact I.inj i j e1 e2 e
      · obtain ⟨_, _, cs', r3, _⟩ := I.row i e1; have := r3.lt; omega
      · obtain ⟨_, _, cs', r3, _⟩ := I.row j e2; have := r3.lt; omega
      · omega
    · exact ((I.fr.trans g3).trans' f8 (fun i hi ho => by have := (o3.ge ho).1; omega)).trans' f9 (fun i hi e => by omega)
  · have hke : k = n + 1 := by have : ¬ (k : Int) < ((n + 1 : Nat) : Int) := hge; omega
    subst hke
    have hlen : s.n = n + 1 := by have := I.own.len; simp at this; omega
    rcases I.own.mem with ⟨_, e, _⟩ | ⟨g, cur, ea, hg, kg, hcap, hcs, ht⟩
    · omega
    · refine ⟨h.size, g, s.c, rb', rfl, ⟨?_, ⟨cur, kg, fun i hi => ⟨cp i, ?_⟩⟩, fun i hi => ?_, by omega, fun i hi => ?_, fun i j hi hj => I.inj i j (by omega) (by omega)⟩, I.fr, ?_⟩
      · have := I.st; rw [ea, hlen] at this; exact this
      · have : ((List.range (n + 1)).map fun i => Value.slice (some ⟨rb' i, 0, none⟩) (n + 1) (cp i))[i]? = some (.slice (some ⟨rb' i, 0, none⟩) (n + 1) (cp i)) := by
          simp [List.getElem?_range (show i < n + 1 by omega)]
        rw [← ht, List.getElem?_take] at this
        split at this
        · simpa using this
        · cases this
      · obtain ⟨_, _, cs', r3, r4⟩ := I.row i (by omega)
        exact ⟨cs', r3, r4⟩
      · obtain ⟨r1, r2, _⟩ := I.row i (by omega)
        exact ⟨by omega, fun e => r2 ⟨_, ea, e.symm⟩⟩
      · rintro b (rfl | rfl | ⟨i, hi, rfl⟩)
        · omega
        · omega
        · have := (I.row i (by omega)).1; omega
end
end Go.Proofs.Ythpfblimfaefhaa

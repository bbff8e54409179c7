/-
  Effects that may come in any order, each told once: facts on what each leaves that stay whatever comes besides, blocks of their own.
-/
import Derived.Test.YtggacajnmgligaaLiftH
namespace Go.Lf
open Go
set_option linter.unusedVariables false

/-- how the heap goes on beside: a preorder that grows -/
structure Pre (T : Heap → Heap → Prop) : Prop where
  refl : ∀ h, T h h
  trans : ∀ a b c, T a b → T b c → T a c
  size : ∀ a b, T a b → a.size ≤ b.size

theorem Pre.eq : Pre (fun a b : Heap => a = b) := ⟨fun _ => rfl, fun _ _ _ x y => x.trans y, fun _ _ x => by rw [x]; exact Nat.le_refl _⟩

/-- an operation of a group: its number, its slot, may it take blocks, the operations whose variables it shows (its own first), its slot's value, what is known behind it (with the heap's size ahead of it and behind it) -/
structure GOp where
  i : Nat
  d : Nat
  e : Bool
  dep : List Nat
  sv : List Value → Value
  ok : List Value → Nat → Nat → Heap → Prop

def pI : Value → Int
  | .int _ n => n
  | _ => 0
def pB : Value → Bool
  | .bool b => b
  | _ => false
def pP : Value → Option Addr
  | .pointer p => p
  | _ => none
def pA : Value → Addr
  | .pointer (some p) => p
  | _ => ⟨0, 0, none⟩
def pS : Value → Sv
  | .slice a n c => ⟨a, n, c⟩
  | _ => ⟨none, 0, 0⟩
def pT : Value → ByteArray
  | .string s => s
  | _ => ⟨#[]⟩
def pF : Value → Nat
  | .float _ n => n
  | _ => 0
def pM : Value → Option Nat
  | .map r => r
  | _ => none
def pC (k : Nat) : Value → Value
  | .agg cs => (cs[k]?).getD undef
  | _ => undef
def nth (l : List Value) (k : Nat) : Value := (l[k]?).getD undef

def upd {α : Type} (X : Nat → α) (i : Nat) (u : α) (k : Nat) : α := bif Nat.beq k i then u else X k
theorem upd_same {α : Type} (X : Nat → α) (i : Nat) (u : α) : upd X i u i = u := by simp [upd, Nat.beq_refl]
theorem upd_other {α : Type} (X : Nat → α) {i k : Nat} (u : α) (h : k ≠ i) : upd X i u k = X k := by
  have : Nat.beq k i = false := by cases hb : Nat.beq k i with | false => rfl | true => exact absurd (Nat.eq_of_beq_eq_true hb) h
  simp [upd, this]
theorem dep_upd (X : Nat → Value) {i : Nat} (u : Value) {dep : List Nat} (h : i ∉ dep) : dep.map (upd X i u) = dep.map X :=
  List.map_congr_left fun k hk => upd_other X u fun e => h (e ▸ hk)

def slotsOf (as : List GOp) (X : Nat → Value) : List (Nat × Value) := as.map fun g => (g.d, g.sv (g.dep.map X))
def AllG : List GOp → (GOp → Prop) → Prop
  | [], _ => True
  | g :: r, p => p g ∧ AllG r p
theorem allG_iff {l : List GOp} {p : GOp → Prop} : AllG l p ↔ ∀ g ∈ l, p g := by
  induction l with
  | nil => simp [AllG]
  | cons g r ih => simp [AllG, ih]

def fullE (a : Act) : List (Nat × Value) := a.tmps.toList.zipIdx.map fun p => (p.2, p.1)
theorem lk_full (l : List Value) : ∀ (k t : Nat), lk ((l.zipIdx k).map fun p => (p.2, p.1)) t = if t < k then none else l[t - k]? := by
  induction l with
  | nil => intro k t; simp [lk]
  | cons v l ih =>
    intro k t
    simp only [List.zipIdx_cons, List.map_cons, lk]
    cases hb : Nat.beq k t with
    | true =>
      have := Nat.eq_of_beq_eq_true hb
      subst this
      simp
    | false =>
      have hne : k ≠ t := fun e => by subst e; simp [Nat.beq_refl] at hb
      rw [cond_false, ih (k + 1) t]
      by_cases h1 : t < k
      · rw [if_pos h1, if_pos (by omega)]
      · rw [if_neg h1, if_neg (by omega)]
        have : t - k = (t - (k + 1)) + 1 := by omega
        rw [this, List.getElem?_cons_succ]
theorem lk_app (E F : List (Nat × Value)) (t : Nat) : lk (E ++ F) t = (lk E t).or (lk F t) := by
  induction E with
  | nil => simp [lk]
  | cons p E ih =>
    obtain ⟨s, v⟩ := p
    simp only [List.cons_append, lk]
    cases Nat.beq s t <;> simp [ih]
theorem lk_mem {E : List (Nat × Value)} {t : Nat} {v : Value} (h : lk E t = some v) : (t, v) ∈ E := by
  induction E with
  | nil => simp [lk] at h
  | cons p E ih =>
    obtain ⟨s, u⟩ := p
    simp only [lk] at h
    cases hb : Nat.beq s t with
    | true =>
      rw [hb, cond_true] at h
      have := Nat.eq_of_beq_eq_true hb
      subst this
      simp only [Option.some.injEq] at h
      subst h
      simp
    | false =>
      rw [hb, cond_false] at h
      exact List.mem_cons_of_mem _ (ih h)

abbrev GI := List (Nat × Nat × List Nat × List Nat)
/-- what a program can check of a group -/
def grpOk (ops : Array Oper) (listed : Array Bool) (n : Nat) (keys : List Nat) (idx : GI) : Bool :=
  let is := idx.map fun p => p.1
  let wac := is.map fun i => (i, wacc i ops.toList #[])
  let anc (k i : Nat) : Bool := wac.any fun p => p.1 == k && p.2.getD i false
  idx.all (fun p => decide (p.1 < ops.size) && !listed.getD p.1 true && decide (p.2.1 < n) && !keys.contains p.2.1 &&
    (p.2.2.1.all fun k => k == p.1 || anc k p.1) && (p.2.2.2.all fun k => k != p.1 && anc k p.1) &&
    (match ops[p.1]? with
     | none => false
     | some o => o.after.all fun e => !Region.binds .any e || listed.getD e.on false || (is.contains e.on && decide (e.on < p.1)))) &&
  decide is.Nodup && decide (idx.map fun p => p.2.1).Nodup &&
  (List.range ops.size).all fun j => is.contains j || listed.getD j true || is.all fun i => anc i j

/-- blocks of one's own -/
def disA (p : Nat × Nat) : List (Nat × Nat) → Prop
  | [] => True
  | q :: r => (p.2 ≤ q.1 ∨ q.2 ≤ p.1) ∧ disA p r
def Dis (s0 s1 : Nat) : List (Nat × Nat) → Prop
  | [] => True
  | p :: r => (s0 ≤ p.1 ∧ p.1 ≤ p.2 ∧ p.2 ≤ s1 ∧ disA p r) ∧ Dis s0 s1 r
theorem disA_of {p : Nat × Nat} : ∀ {l : List (Nat × Nat)}, (∀ q ∈ l, p.2 ≤ q.1 ∨ q.2 ≤ p.1) → disA p l
  | [], _ => trivial
  | q :: r, h => ⟨h q (by simp), disA_of fun q hq => h q (by simp [hq])⟩

section
variable {P : Program} {ops : Array Oper} {N : Act → World → Prop} {n fuel : Nat} {E : List (Nat × Value)} {h0 : Heap} {w0 : World} {T : Heap → Heap → Prop}

def GRun (P : Program) (ops : Array Oper) (n : Nat) (E : List (Nat × Value)) (h0 : Heap) (w0 : World) (T : Heap → Heap → Prop) (g : GOp) (as : List GOp) : Prop :=
  ∃ o, ops[g.i]? = some o ∧ o.dst = some g.d ∧ (∀ l lo hi h h', T h h' → g.ok l lo hi h → g.ok l lo hi h') ∧
    ∀ (X : Nat → Value) (B : Nat → Nat × Nat) (a : Act) (w : World) (h : Heap) (Ef : List (Nat × Value)), St n (slotsOf as X ++ (E ++ Ef)) h w0 a w → T h0 h → AllG as (fun g => g.ok (g.dep.map X) (B g.i).1 (B g.i).2 h) →
      OL P ops (fun a' w' => ∃ u h', St n ((g.d, g.sv (g.dep.map (upd X g.i u))) :: (slotsOf as X ++ (E ++ Ef))) h' w0 a' w' ∧ T h h' ∧ g.ok (g.dep.map (upd X g.i u)) h.size h'.size h') [o] a w
def GRuns (P : Program) (ops : Array Oper) (n : Nat) (E : List (Nat × Value)) (h0 : Heap) (w0 : World) (T : Heap → Heap → Prop) : List (GOp × List GOp) → Prop
  | [] => True
  | p :: r => GRun P ops n E h0 w0 T p.1 p.2 ∧ GRuns P ops n E h0 w0 T r
theorem gruns_mem {G : List (GOp × List GOp)} (h : GRuns P ops n E h0 w0 T G) : ∀ p ∈ G, GRun P ops n E h0 w0 T p.1 p.2 := by
  induction G with
  | nil => intro p hp; cases hp
  | cons q r ih =>
    intro p hp
    rcases List.mem_cons.1 hp with e | e
    · subst e; exact h.1
    · exact ih h.2 p e

def setAll (l : Array Bool) (is : List Nat) : Array Bool := is.foldl (fun l i => l.setIfInBounds i true) l
theorem setAll_size (is : List Nat) : ∀ l : Array Bool, (setAll l is).size = l.size := by
  induction is with
  | nil => intro l; rfl
  | cons i is ih => intro l; simp only [setAll, List.foldl_cons] at ih ⊢; rw [ih]; simp
theorem setAll_get (is : List Nat) : ∀ (l : Array Bool) (j : Nat), j < l.size → (setAll l is)[j]? = if j ∈ is then some true else l[j]? := by
  induction is with
  | nil => intro l j hj; simp [setAll]
  | cons i is ih =>
    intro l j hj
    have e : setAll l (i :: is) = setAll (l.setIfInBounds i true) is := rfl
    rw [e, ih _ j (by simpa using hj), Array.getElem?_setIfInBounds]
    by_cases h1 : j ∈ is
    · simp [h1]
    · by_cases h2 : i = j
      · subst h2; simp [hj]
      · have h3 : ¬ j = i := fun e => h2 e.symm
        simp [h1, h2, h3]

theorem countP_set {is : List Nat} (hn : is.Nodup) {i : Nat} (hi : i ∈ is) {l : Array Bool} (hlt : i < l.size) (hl : l.getD i false = false) :
    is.countP (fun k => !l.getD k false) = is.countP (fun k => !(l.setIfInBounds i true).getD k false) + 1 := by
  induction is with
  | nil => cases hi
  | cons k is ih =>
    obtain ⟨hk, hn'⟩ := List.nodup_cons.1 hn
    simp only [List.countP_cons]
    rcases List.mem_cons.1 hi with e | e
    · subst e
      have : ∀ k ∈ is, (!l.getD k false) = (!(l.setIfInBounds i true).getD k false) := fun k hk' => by
        have hne : i ≠ k := fun e => hk (by rw [e]; exact hk')
        rw [getD_set_ne false hne]
      rw [List.countP_congr (q := fun k => !(l.setIfInBounds i true).getD k false) (fun k hk' => by rw [this k hk'])]
      have e2 : (l.setIfInBounds i true).getD i false = true := by simp [hlt]
      rw [e2, hl]
      simp
    · have hne : i ≠ k := fun e' => hk (by rw [← e']; exact e)
      rw [ih hn' e, getD_set_ne false hne]
      omega

theorem least_un {is : List Nat} {l : Array Bool} (h : is.countP (fun k => !l.getD k false) ≠ 0) : ∃ i ∈ is, l.getD i false = false ∧ ∀ k ∈ is, k < i → l.getD k false = true := by
  have : ∃ i, i ∈ is ∧ l.getD i false = false := by
    rcases Nat.eq_zero_or_pos (is.countP (fun k => !l.getD k false)) with e | e
    · exact absurd e h
    · obtain ⟨i, hi, hp⟩ := List.countP_pos_iff.1 e
      exact ⟨i, hi, by simpa using hp⟩
  obtain ⟨i, hi⟩ := this
  induction i using Nat.strongRecOn with
  | _ i ih =>
    by_cases hk : ∀ k ∈ is, k < i → l.getD k false = true
    · exact ⟨i, hi.1, hi.2, hk⟩
    · have : ∃ k, k ∈ is ∧ k < i ∧ l.getD k false = false := by
        apply Classical.byContradiction
        intro hc
        refine hk fun k h1 h2 => ?_
        cases hb : l.getD k false with
        | true => rfl
        | false => exact absurd ⟨k, h1, h2, hb⟩ hc
      obtain ⟨k, h1, h2, h3⟩ := this
      exact ih k h2 ⟨h1, h3⟩

theorem inj_map {α : Type} {f : α → Nat} : ∀ {l : List α}, (l.map f).Nodup → ∀ a ∈ l, ∀ b ∈ l, f a = f b → a = b
  | [], _, a, ha, _, _, _ => by cases ha
  | x :: l, hn, a, ha, b, hb, e => by
    simp only [List.map_cons, List.nodup_cons] at hn
    rcases List.mem_cons.1 ha with h1 | h1
    · rcases List.mem_cons.1 hb with h2 | h2
      · rw [h1, h2]
      · have := List.mem_map_of_mem (f := f) h2
        rw [← e, h1] at this
        exact absurd this hn.1
    · rcases List.mem_cons.1 hb with h2 | h2
      · have := List.mem_map_of_mem (f := f) h1
        rw [e, h2] at this
        exact absurd this hn.1
      · exact inj_map hn.2 a h1 b h2 e
theorem getD_tf {l : Array Bool} {j : Nat} (hj : j < l.size) : l.getD j true = l.getD j false := by simp [hj]

structure GSt (h0 : Heap) (w0 : World) (T : Heap → Heap → Prop) (n : Nat) (E : List (Nat × Value)) (G : List GOp) (X : Nat → Value) (B : Nat → Nat × Nat) (listed : Array Bool) (a : Act) (w : World) : Prop where
  base : St n E w.heap w0 a w
  t : T h0 w.heap
  slot : ∀ g ∈ G, listed.getD g.i false = true → a.tmps[g.d]? = some (g.sv (g.dep.map X))
  ok : ∀ g ∈ G, listed.getD g.i false = true → g.ok (g.dep.map X) (B g.i).1 (B g.i).2 w.heap
  rng : ∀ g ∈ G, listed.getD g.i false = true → h0.size ≤ (B g.i).1 ∧ (B g.i).1 ≤ (B g.i).2 ∧ (B g.i).2 ≤ w.heap.size
  dis : ∀ g ∈ G, ∀ k ∈ G, g.i ≠ k.i → listed.getD g.i false = true → listed.getD k.i false = true → (B g.i).2 ≤ (B k.i).1 ∨ (B k.i).2 ≤ (B g.i).1

theorem GSt.mk0 {a : Act} {w : World} {G : List GOp} {listed : Array Bool} (Pr : Pre T) (S : St n E h0 w0 a w) (hG : ∀ g ∈ G, listed.getD g.i false = false) : GSt h0 w0 T n E G (fun _ => undef) (fun _ => (0, 0)) listed a w := by
  refine ⟨by rw [S.heap]; exact S, by rw [S.heap]; exact Pr.refl _, fun g hg h => ?_, fun g hg h => ?_, fun g hg h => ?_, fun g hg k _ _ h => ?_⟩ <;> (rw [hG g hg] at h; cases h)

/-- a group -/
theorem AN.group {a : Act} {w : World} {listed : Array Bool} (T : Heap → Heap → Prop) (Pr : Pre T) (G : List (GOp × List GOp)) (idx : GI) (keys : List Nat) (S : St n E h0 w0 a w)
    (hidx : (G.map fun p => (p.1.i, p.1.d, p.1.dep, p.2.map fun g => g.i)) = idx) (hkeys : (E.map fun p => p.1) = keys) (hg : grpOk ops listed n keys idx = true)
    (has : ∀ p ∈ G, ∀ g ∈ p.2, g ∈ G.map fun p => p.1)
    (hrun : GRuns P ops n E h0 w0 T G)
    (hfin : ∀ (X : Nat → Value) (B : Nat → Nat × Nat) (a : Act) (w : World) (h : Heap), St n (slotsOf (G.map fun p => p.1) X ++ E) h w0 a w → T h0 h → AllG (G.map fun p => p.1) (fun g => g.ok (g.dep.map X) (B g.i).1 (B g.i).2 h) →
      Dis h0.size h.size ((G.filter fun p => p.1.e).map fun p => B p.1.i) → AN P ops N fuel (setAll listed (idx.map fun p => p.1)) a w) :
    AN P ops N (fuel + idx.length) listed a w := by
  intro C0 XX RR
  unfold grpOk at hg
  simp only [Bool.and_eq_true] at hg
  obtain ⟨⟨⟨hA, hN1⟩, hN2⟩, hcl⟩ := hg
  have hN1 := of_decide_eq_true hN1
  have hN2 := of_decide_eq_true hN2
  rw [List.all_eq_true] at hA hcl
  generalize hGs : (G.map fun p => p.1) = Gs at *
  have his : (idx.map fun p => p.1) = Gs.map fun g => g.i := by rw [← hidx, ← hGs]; simp [List.map_map, Function.comp_def]
  have hds : (idx.map fun p => p.2.1) = Gs.map fun g => g.d := by rw [← hidx, ← hGs]; simp [List.map_map, Function.comp_def]
  have hwac : ∀ k i, ((idx.map fun p => p.1).map fun i => (i, wacc i ops.toList #[])).any (fun p => p.1 == k && p.2.getD i false) = true → k ∈ (idx.map fun p => p.1) ∧ (wacc k ops.toList #[]).getD i false = true := by
    intro k i h
    rw [List.any_eq_true] at h
    obtain ⟨p, hp, hb⟩ := h
    obtain ⟨q, hq, rfl⟩ := List.mem_map.1 hp
    simp only [Bool.and_eq_true, beq_iff_eq] at hb
    obtain ⟨rfl, hb⟩ := hb
    exact ⟨hq, hb⟩
  have hmem : ∀ p ∈ G, (p.1.i, p.1.d, p.1.dep, p.2.map fun g => g.i) ∈ idx := fun p hp => by rw [← hidx]; exact List.mem_map.2 ⟨p, hp, rfl⟩
  have hGm : ∀ g ∈ Gs, ∃ as, (g, as) ∈ G := fun g hg => by
    rw [← hGs] at hg
    obtain ⟨p, hp, rfl⟩ := List.mem_map.1 hg
    exact ⟨p.2, hp⟩
  -- what is checked of each
  have facts : ∀ g as, (g, as) ∈ G → g.i < ops.size ∧ listed.getD g.i true = false ∧ g.d < n ∧ g.d ∉ keys ∧ (∀ k ∈ g.dep, k = g.i ∨ (k ∈ Gs.map (fun g => g.i) ∧ (wacc k ops.toList #[]).getD g.i false = true)) ∧
      (∀ k ∈ as, k.i ≠ g.i ∧ (wacc k.i ops.toList #[]).getD g.i false = true) ∧ ∃ o, ops[g.i]? = some o ∧ ∀ e ∈ o.after, Region.binds .any e = true → listed.getD e.on false = true ∨ (e.on ∈ Gs.map (fun g => g.i) ∧ e.on < g.i) := by
    intro g as hga
    have h := hA _ (hmem _ hga)
    simp only [Bool.and_eq_true, Bool.not_eq_true', decide_eq_true_eq] at h
    obtain ⟨⟨⟨⟨⟨⟨h1, h2⟩, h3⟩, h4⟩, h5⟩, h6⟩, h7⟩ := h
    rw [List.all_eq_true] at h5 h6
    refine ⟨h1, h2, h3, by simpa using h4, fun k hk => ?_, fun k hk => ?_, ?_⟩
    · have := h5 k hk
      simp only [Bool.or_eq_true, beq_iff_eq] at this
      refine this.imp id fun h => ?_
      have := hwac _ _ h
      rw [his] at this
      exact this
    · have := h6 k.i (List.mem_map.2 ⟨k, hk, rfl⟩)
      simp only [Bool.and_eq_true, bne_iff_ne, ne_eq] at this
      exact ⟨this.1, (hwac _ _ this.2).2⟩
    · cases ho : ops[g.i]? with
      | none => rw [ho] at h7; cases h7
      | some o =>
        rw [ho] at h7
        refine ⟨o, rfl, fun e he hb => ?_⟩
        have := Array.all_eq_true_iff_forall_mem.1 h7 e he
        simp only [Bool.or_eq_true, Bool.not_eq_true', hb, Bool.and_eq_true, decide_eq_true_eq] at this
        rcases this with (h | h) | h
        · cases h
        · exact .inl h
        · rw [← his]; exact .inr ⟨by simpa using h.1, h.2⟩
  have hcl' : ∀ j, j < ops.size → j ∉ Gs.map (fun g => g.i) → listed.getD j true = false → ∀ g ∈ Gs, (wacc g.i ops.toList #[]).getD j false = true := by
    intro j hj hn hl g hg
    have h := hcl j (List.mem_range.2 hj)
    rw [hl] at h
    simp only [Bool.or_eq_true] at h
    rcases h with (h | h) | h
    · rw [← his] at hn
      exact absurd (by simpa using h) hn
    · cases h
    · rw [List.all_eq_true] at h
      exact (hwac _ _ (h g.i (by rw [his]; exact List.mem_map.2 ⟨g, hg, rfl⟩))).2
  rw [his] at hN1 hfin
  rw [hds] at hN2
  have hiN : ∀ g ∈ Gs, ∀ k ∈ Gs, g.i = k.i → g = k := inj_map hN1
  have hdN : ∀ g ∈ Gs, ∀ k ∈ Gs, g.d = k.d → g = k := inj_map hN2
  have hkE : ∀ t v, lk E t = some v → t ∈ keys := fun t v h => by rw [← hkeys]; exact List.mem_map.2 ⟨_, lk_mem h, rfl⟩
  have hlen : idx.length = Gs.length := by rw [← hidx, ← hGs]; simp
  have szL := C0.size
  -- the walk
  have key : ∀ (m : Nat) (l : Array Bool) (X : Nat → Value) (B : Nat → Nat × Nat) (a : Act) (w : World), Closed ops l → (∀ j, j ∉ Gs.map (fun g => g.i) → l[j]? = listed[j]?) → (Gs.map fun g => g.i).countP (fun k => !l.getD k false) = m →
      GSt h0 w0 T n E Gs X B l a w → wpAny P .any ops (Qx N XX RR) (fuel + m) l a w := by
    intro m
    induction m with
    | zero =>
      intro l X B a w C hbt hc I
      have hall : ∀ g ∈ Gs, l.getD g.i false = true := fun g hg => by
        have := List.countP_eq_zero.1 hc g.i (List.mem_map.2 ⟨g, hg, rfl⟩)
        simpa using this
      have hsz : l.size = listed.size := by rw [C.size, szL]
      have hl : l = setAll listed (Gs.map fun g => g.i) := by
        apply Array.ext_getElem?
        intro j
        by_cases hj : j < listed.size
        · rw [setAll_get _ _ _ hj]
          by_cases hm : j ∈ Gs.map fun g => g.i
          · rw [if_pos hm]
            obtain ⟨g, hg, rfl⟩ := List.mem_map.1 hm
            have := hall g hg
            have hj' : g.i < l.size := by omega
            simp only [Array.getD_eq_getD_getElem?, Array.getElem?_eq_getElem hj', Option.getD_some] at this
            rw [Array.getElem?_eq_getElem hj', this]
          · rw [if_neg hm]; exact hbt j hm
        · rw [Array.getElem?_eq_none (by omega), Array.getElem?_eq_none (by rw [setAll_size]; omega)]
      have := hfin X B a w w.heap ⟨I.base.size, fun t v ht => ?_, I.base.defers, rfl, I.base.rest⟩ I.t (allG_iff.2 fun g hg => I.ok g hg (hall g hg)) ?_
      · rw [← hl] at this
        exact this C XX RR
      · rw [lk_app] at ht
        cases hs : lk (slotsOf Gs X) t with
        | some u =>
          rw [hs] at ht
          simp at ht
          subst ht
          obtain ⟨g, hg, e⟩ := List.mem_map.1 (lk_mem hs)
          simp only [Prod.mk.injEq] at e
          obtain ⟨rfl, rfl⟩ := e
          exact I.slot g hg (hall g hg)
        | none =>
          rw [hs] at ht
          exact I.base.at_ t v (by simpa using ht)
      · have : ∀ L : List (GOp × List GOp), (∀ p ∈ L, p.1 ∈ Gs) → (L.map fun p => p.1.i).Nodup → Dis h0.size w.heap.size (L.map fun p => B p.1.i) := by
          intro L
          induction L with
          | nil => intro _ _; trivial
          | cons p r ih =>
            intro hL hNd
            simp only [List.map_cons, List.nodup_cons] at hNd
            have hp := hL p (by simp)
            obtain ⟨r1, r2, r3⟩ := I.rng p.1 hp (hall _ hp)
            refine ⟨⟨r1, r2, r3, disA_of fun q hq => ?_⟩, ih (fun p hp => hL p (by simp [hp])) hNd.2⟩
            obtain ⟨q', hq2, rfl⟩ := List.mem_map.1 hq
            have hq' := hL q' (List.mem_cons_of_mem _ hq2)
            exact I.dis p.1 hp q'.1 hq' (fun e => hNd.1 (List.mem_map.2 ⟨q', hq2, e.symm⟩)) (hall _ hp) (hall _ hq')
        refine this (G.filter fun p => p.1.e) (fun p hp => by rw [← hGs]; exact List.mem_map.2 ⟨p, (List.mem_filter.1 hp).1, rfl⟩) ?_
        have e : (G.map fun p => p.1.i) = Gs.map fun g => g.i := by rw [← hGs]; simp [List.map_map, Function.comp_def]
        have hs : ((G.filter fun p => p.1.e).map fun p => p.1.i).Sublist (G.map fun p => p.1.i) := List.filter_sublist.map _
        exact (by rw [e]; exact hN1 : (G.map fun p => p.1.i).Nodup).sublist hs
    | succ m ih =>
      intro l X B a w C hbt hc I
      have hsz : l.size = listed.size := by rw [C.size, szL]
      have hl0 : ∀ j, j < listed.size → listed.getD j true = false → l.getD j false = true → j ∈ Gs.map fun g => g.i := fun j hj h1 h2 => by
        apply Classical.byContradiction
        intro hn
        have := hbt j hn
        simp only [Array.getD_eq_getD_getElem?] at h1 h2
        rw [this, Array.getElem?_eq_getElem hj] at h2
        rw [Array.getElem?_eq_getElem hj] at h1
        simp only [Option.getD_some] at h1 h2
        rw [h1] at h2
        cases h2
      have hlm : ∀ j, listed.getD j false = true → j ∉ Gs.map (fun g => g.i) → l.getD j false = true := fun j h1 hn => by
        have := hbt j hn
        simp only [Array.getD_eq_getD_getElem?] at h1 ⊢
        rw [this]; exact h1
      have hnotin : ∀ j, listed.getD j false = true → j ∉ Gs.map (fun g => g.i) := fun j h1 hn => by
        obtain ⟨g, hg, rfl⟩ := List.mem_map.1 hn
        obtain ⟨as, hga⟩ := hGm g hg
        have := (facts g as hga).2.1
        rw [getDft this] at h1
        cases h1
      -- one that is not listed
      have hun := least_un (is := Gs.map fun g => g.i) (l := l) (by omega)
      refine ⟨fun hr => ?_, fun j hj => ?_⟩
      · obtain ⟨i, hi, hi0, hlt⟩ := hun
        obtain ⟨g, hg, rfl⟩ := List.mem_map.1 hi
        obtain ⟨as, hga⟩ := hGm g hg
        obtain ⟨f1, f2, _, _, _, _, o, ho, haf⟩ := facts g as hga
        have : g.i ∈ Region.ready .any ops l := by
          rw [mem_ready]
          refine ⟨by rw [getD_tf (by rw [C.size]; exact f1)]; exact hi0, o, ho, fun e he hb => ?_⟩
          rcases haf e he hb with h | ⟨h, h'⟩
          · exact hlm _ h (hnotin _ h)
          · exact hlt _ h h'
        rw [hr] at this
        cases this
      · -- it is one of the group
        obtain ⟨hjun, oj, hoj, hall⟩ := mem_ready.1 hj
        have hjs : j < ops.size := (Array.getElem?_eq_some_iff.1 hoj).1
        have Cj := C.set hj
        have hjG : j ∈ Gs.map fun g => g.i := by
          apply Classical.byContradiction
          intro hn
          obtain ⟨i, hi, hi0, _⟩ := hun
          obtain ⟨g, hg, rfl⟩ := List.mem_map.1 hi
          have hlj : listed.getD j true = false := by
            have := hbt j hn
            simp only [Array.getD_eq_getD_getElem?] at hjun ⊢
            rw [← this]; exact hjun
          have hw := hcl' j hjs hn hlj g hg
          have hne : j ≠ g.i := fun e => hn (by rw [e]; exact hi)
          have := Cj.wacc (i := g.i) (by rw [getD_set_ne false hne]; exact hi0) ops.toList #[] (by simp) (by simp) j hw
          have hjl : j < l.size := by rw [C.size]; exact hjs
          simp [hjl] at this
        obtain ⟨g, hg, rfl⟩ := List.mem_map.1 hjG
        obtain ⟨as, hga⟩ := hGm g hg
        obtain ⟨f1, f2, f3, f4, f5, f6, _⟩ := facts g as hga
        -- what it looks at is listed
        have hanc : ∀ k, (wacc k ops.toList #[]).getD g.i false = true → k ≠ g.i → l.getD k false = true := fun k hk hne => by
          cases hb : l.getD k false with
          | true => rfl
          | false =>
            have := Cj.wacc (i := k) (by rw [getD_set_ne false (Ne.symm hne)]; exact hb) ops.toList #[] (by simp) (by simp) g.i hk
            have hjl : g.i < l.size := by rw [C.size]; exact hjs
            simp [hjl] at this
        obtain ⟨o, ho, hd, hst, hr⟩ := gruns_mem hrun _ hga
        have hasG : ∀ k ∈ as, k ∈ Gs := fun k hk => has (g, as) hga k hk
        have hasl : ∀ k ∈ as, l.getD k.i false = true := fun k hk => hanc k.i (f6 k hk).2 (f6 k hk).1
        have hS : St n (slotsOf as X ++ (E ++ fullE a)) w.heap w0 a w := by
          refine ⟨I.base.size, fun t v ht => ?_, I.base.defers, rfl, I.base.rest⟩
          rw [lk_app, lk_app] at ht
          cases hs : lk (slotsOf as X) t with
          | some u =>
            rw [hs] at ht
            simp at ht
            subst ht
            obtain ⟨k, hk, e⟩ := List.mem_map.1 (lk_mem hs)
            simp only [Prod.mk.injEq] at e
            obtain ⟨rfl, rfl⟩ := e
            exact I.slot k (hasG k hk) (hasl k hk)
          | none =>
            rw [hs] at ht
            cases he : lk E t with
            | some u =>
              rw [he] at ht
              simp at ht
              subst ht
              exact I.base.at_ t u he
            | none =>
              rw [he] at ht
              simp only [Option.none_or] at ht
              unfold fullE at ht
              rw [lk_full] at ht
              simpa using ht
        have hrr := hr X B a w w.heap (fullE a) hS I.t (allG_iff.2 fun k hk => I.ok k (hasG k hk) (hasl k hk))
        refine wpOp_mono (fun a' w' h' => ?_) (wpOp_of_OL (N := N) (X := XX) (R := RR) ho hrr)
        obtain ⟨u, h', S', ht, hok⟩ := h'
        have hh := S'.heap
        subst hh
        have hjl : g.i < l.size := by rw [C.size]; exact hjs
        -- the other ones' variables stay
        have hdep : ∀ k ∈ Gs, k.i ≠ g.i → l.getD k.i false = true → k.dep.map (upd X g.i u) = k.dep.map X := fun k hk hne hkl => by
          refine dep_upd X u fun hm => ?_
          obtain ⟨as', hga'⟩ := hGm k hk
          rcases (facts k as' hga').2.2.2.2.1 g.i hm with e | ⟨_, e⟩
          · exact hne e.symm
          · have := C.wacc (i := g.i) (getDft hjun) ops.toList #[] (by simp) (by simp) k.i e
            rw [hkl] at this
            cases this
        have hlk : ∀ k, k ≠ g.i → (l.setIfInBounds g.i true).getD k false = l.getD k false := fun k hne => getD_set_ne false (Ne.symm hne)
        have keep : ∀ t v, t ≠ g.d → a.tmps[t]? = some v → a'.tmps[t]? = some v := fun t v hne hv => by
          have : lk ((g.d, g.sv (g.dep.map (upd X g.i u))) :: (slotsOf as X ++ (E ++ fullE a))) t = some v := by
            have hb : Nat.beq g.d t = false := by cases hb : Nat.beq g.d t with | false => rfl | true => exact absurd (Nat.eq_of_beq_eq_true hb).symm hne
            simp only [lk, hb, cond_false]
            rw [lk_app]
            cases hs : lk (slotsOf as X) t with
            | some u' =>
              have := hS.at_ t u' (by rw [lk_app, hs]; rfl)
              rw [hv] at this
              rw [Option.some_or]
              exact this.symm
            | none =>
              rw [Option.none_or, lk_app]
              cases he : lk E t with
              | some u' =>
                have := I.base.at_ t u' he
                rw [hv] at this
                rw [Option.some_or]
                exact this.symm
              | none =>
                rw [Option.none_or]
                unfold fullE
                rw [lk_full]
                simpa using hv
          exact S'.at_ t v this
        refine ih (l.setIfInBounds g.i true) (upd X g.i u) (upd B g.i (w.heap.size, w'.heap.size)) a' w' Cj (fun k hk => ?_) ?_ ?_
        · have hne : g.i ≠ k := fun e => hk (by rw [← e]; exact hjG)
          rw [Array.getElem?_setIfInBounds_ne hne]
          exact hbt k hk
        · have := countP_set hN1 hjG hjl (getDft hjun)
          omega
        · have hB : ∀ k, k ≠ g.i → upd B g.i (w.heap.size, w'.heap.size) k = B k := fun k hne => upd_other B _ hne
          have hsle := Pr.size _ _ ht
          have h0le := Pr.size _ _ I.t
          refine ⟨⟨S'.size, fun t v hv => ?_, S'.defers, rfl, S'.rest⟩, Pr.trans _ _ _ I.t ht, fun k hk hkl => ?_, fun k hk hkl => ?_, fun k hk hkl => ?_, fun k hk k' hk' hne h1 h2 => ?_⟩
          · refine keep t v (fun e => f4 (by rw [← e]; exact hkE t v hv)) (I.base.at_ t v hv)
          · by_cases e : k.i = g.i
            · obtain rfl := hiN k hk g hg e
              exact S'.at_ _ _ (by simp [lk, Nat.beq_refl])
            · rw [hlk _ e] at hkl
              rw [hdep k hk e hkl]
              exact keep _ _ (fun e' => e (by rw [hdN k hk g hg e'])) (I.slot k hk hkl)
          · by_cases e : k.i = g.i
            · obtain rfl := hiN k hk g hg e
              rw [upd_same]
              exact hok
            · rw [hlk _ e] at hkl
              rw [hdep k hk e hkl, hB _ e]
              obtain ⟨as', hga'⟩ := hGm k hk
              obtain ⟨_, _, _, hst', _⟩ := gruns_mem hrun _ hga'
              exact hst' _ _ _ _ _ ht (I.ok k hk hkl)
          · by_cases e : k.i = g.i
            · rw [e, upd_same]
              exact ⟨h0le, hsle, Nat.le_refl _⟩
            · rw [hlk _ e] at hkl
              rw [hB _ e]
              obtain ⟨r1, r2, r3⟩ := I.rng k hk hkl
              exact ⟨r1, r2, Nat.le_trans r3 hsle⟩
          · by_cases e : k.i = g.i
            · have e' : k'.i ≠ g.i := fun e' => hne (e.trans e'.symm)
              rw [hlk _ e'] at h2
              rw [e, upd_same, hB _ e']
              exact .inr (I.rng k' hk' h2).2.2
            · rw [hlk _ e] at h1
              by_cases e' : k'.i = g.i
              · rw [e', upd_same, hB _ e]
                exact .inl (I.rng k hk h1).2.2
              · rw [hlk _ e'] at h2
                rw [hB _ e, hB _ e']
                exact I.dis k hk k' hk' hne h1 h2
  have hc0 : (Gs.map fun g => g.i).countP (fun k => !listed.getD k false) = idx.length := by
    rw [hlen, ← List.length_map (f := fun g : GOp => g.i) (as := Gs), List.countP_eq_length]
    intro i hi
    obtain ⟨g, hg, rfl⟩ := List.mem_map.1 hi
    obtain ⟨as, hga⟩ := hGm g hg
    rw [getDft (facts g as hga).2.1]
    rfl
  exact key idx.length listed _ _ a w C0 (fun _ _ => rfl) hc0 (GSt.mk0 Pr S fun g hg => by
    obtain ⟨as, hga⟩ := hGm g hg
    exact getDft (facts g as hga).2.1)
end
end Go.Lf

/-
  Regions whose order is drawn, where loads stand beside effects, or several effects may come: a load is taken first if a condition on the heap that the prover chooses holds the cell, and every effect that could come ahead of it keeps the condition.
-/
import Derived.Test.YtggacajnmgligaaLiftA
import Derived.OrdersHeld
namespace Go.Lf
open Go

/-- may one of the loads `H` still wait behind the effects `E` that are listed? -/
def need (ops : Array Oper) (H E : List Nat) (listed : Array Bool) : Bool :=
  H.any fun i => E.all fun e => !(listed.getD e false && (wacc i ops.toList #[]).getD e false)

theorem need_set {ops : Array Oper} {H E : List Nat} {listed : Array Bool} {i : Nat} (hE : E.contains i = false) : need ops H E (listed.setIfInBounds i true) = need ops H E listed := by
  unfold need
  congr 1
  funext k
  have : ∀ e ∈ E, (listed.setIfInBounds i true).getD e false = listed.getD e false := fun e he => by
    have hne : i ≠ e := fun h => by subst h; simp [he] at hE
    rw [getD_set_ne false hne]
  rw [Bool.eq_iff_iff, List.all_eq_true, List.all_eq_true]
  exact ⟨fun h e he => by rw [← this e he]; exact h e he, fun h e he => by rw [this e he]; exact h e he⟩
theorem need_pending {ops : Array Oper} {H E : List Nat} {listed : Array Bool} {i : Nat} (C : Closed ops listed) (hi : i ∈ H) (hl : listed.getD i false = false) : need ops H E listed = true := by
  unfold need
  rw [List.any_eq_true]
  refine ⟨i, hi, ?_⟩
  rw [List.all_eq_true]
  intro e _
  cases hw : (wacc i ops.toList #[]).getD e false with
  | false => simp
  | true =>
    have := C.wacc hl ops.toList #[] (by simp) (by simp) e hw
    simp [this]

def wpAnyN (P : Program) (ops : Array Oper) (Q : Exit → Act → World → Prop) (H E : List Nat) (S : Heap → Prop) : Nat → Array Bool → Act → World → Prop
  | 0, listed, a, w => Region.ready .any ops listed = [] ∧ Q .normal a w
  | fuel + 1, listed, a, w =>
    (Region.ready .any ops listed = [] → Q .normal a w) ∧
    ∀ i ∈ Region.ready .any ops listed, wpOp P ops Q i (fun a' w' => (need ops H E (listed.setIfInBounds i true) = true → S w'.heap) ∧ wpAnyN P ops Q H E S fuel (listed.setIfInBounds i true) a' w') a w

section
variable {P : Program} {ops : Array Oper} {Q : Exit → Act → World → Prop} {H E : List Nat} {S : Heap → Prop}
theorem wpAny_of_N : ∀ (fuel : Nat) (listed : Array Bool) (a : Act) (w : World), wpAnyN P ops Q H E S fuel listed a w → wpAny P .any ops Q fuel listed a w
  | 0, _, _, _, h => h
  | fuel + 1, _, _, _, h => ⟨h.1, fun i hi => wpOp_mono (fun a' w' h' => wpAny_of_N fuel _ a' w' h'.2) (h.2 i hi)⟩

theorem wpAnyN_taken {pure : Bool} {i : Nat} {oi : Oper} {v : Value} (hi : ops[i]? = some oi) (hsel : ∀ (j : Nat) (o : Oper) cs b, ops[j]? = some o → o.op ≠ .select cs b)
    (hQ : ∀ c a w, Q (.panic c) (a.put oi.dst v) w → Q (.panic c) a w) (hE : E.contains i = false) :
    ∀ (fuel : Nat) (listed : Array Bool) (a : Act) (w : World), Closed ops listed →
      (∀ j oj, ops[j]? = some oj → j ≠ i → listed.getD j true = false → (∀ e ∈ oj.after, Region.binds .any e = true → e.on ≠ i) →
        oi.apart ops oj = true ∧ (pure = true ∨ calmOp P oj = true ∨ (wacc i ops.toList #[]).getD j false = true)) →
      i ∈ Region.ready .any ops listed → YieldsP P pure ops oi v a w → (need ops H E listed = true → S w.heap) →
      wpAnyN P ops Q H E S fuel (listed.setIfInBounds i true) (a.put oi.dst v) w → wpAnyN P ops Q H E S (fuel + 1) listed a w := by
  intro fuel
  induction fuel with
  | zero =>
    intro listed a w _ _ hr hy hS H
    refine ⟨fun h => (by rw [h] at hr; cases hr), fun j hj => ?_⟩
    by_cases hji : j = i
    · subst hji; exact hy.wpOp hi ⟨fun h => hS (by rwa [need_set hE] at h), H⟩
    · have := ready_mono hj hji
      rw [H.1] at this
      cases this
  | succ fuel ih =>
    intro listed a w C hfree hr hy hS HH
    refine ⟨fun h => (by rw [h] at hr; cases hr), fun j hj => ?_⟩
    by_cases hji : j = i
    · subst hji; exact hy.wpOp hi ⟨fun h => hS (by rwa [need_set hE] at h), HH⟩
    · have h1 := HH.2 j (ready_mono hj hji)
      obtain ⟨hjun, oj, hoj, hall⟩ := mem_ready.1 hj
      have hiun := getDft (mem_ready.1 hr).1
      have hnot : ∀ e ∈ oj.after, Region.binds .any e = true → e.on ≠ i := fun e he hb heq => by
        have h2 := hall e he hb
        rw [heq, hiun] at h2
        cases h2
      obtain ⟨hap, hcase⟩ := hfree j oj hoj hji hjun hnot
      have hc : pure = true ∨ calmOp P oj = true := by
        rcases hcase with h | h | h
        · exact .inl h
        · exact .inr h
        · exfalso
          have Cj := C.set hj
          have hij : (listed.setIfInBounds j true).getD i false = false := by rw [getD_set_ne false hji]; exact hiun
          have h2 := Cj.wacc hij ops.toList #[] (by simp) (by simp) j h
          have hlt : j < listed.size := by
            rw [C.size]; exact (Array.getElem?_eq_some_iff.1 hoj).1
          simp [hlt] at h2
      have h2 := wpOp_ahead hoj hap (fun cs b => hsel i oi cs b hi) (fun cs b => hsel j oj cs b hoj) hc hQ hy h1
      have hfree' : ∀ k ok, ops[k]? = some ok → k ≠ i → (listed.setIfInBounds j true).getD k true = false →
          (∀ e ∈ ok.after, Region.binds .any e = true → e.on ≠ i) → oi.apart ops ok = true ∧ (pure = true ∨ calmOp P ok = true ∨ (wacc i ops.toList #[]).getD k false = true) := fun k ok hk hki hun hno => by
        refine hfree k ok hk hki ?_ hno
        by_cases hjk : j = k
        · subst hjk; exact hjun
        · rw [getD_set_ne true hjk] at hun; exact hun
      have hnd : need ops H E ((listed.setIfInBounds i true).setIfInBounds j true) = need ops H E (listed.setIfInBounds j true) := by
        rw [← Array.setIfInBounds_comm _ _ hji, need_set hE]
      refine wpOp_mono (fun a' w' h3 => ⟨fun hn => h3.2.1 (by rw [hnd]; exact hn), ih (listed.setIfInBounds j true) a' w' (C.set hj) hfree' (ready_mono hr (Ne.symm hji)) h3.1 (fun hn => h3.2.1 (by rw [hnd]; exact hn)) ?_⟩) h2
      rw [Array.setIfInBounds_comm _ _ hji]
      exact h3.2.2

theorem wpAnyN_held {i : Nat} {oi : Oper} {v : Value} (hi : ops[i]? = some oi) (hsel : ∀ (j : Nat) (o : Oper) cs b, ops[j]? = some o → o.op ≠ .select cs b)
    (hQ : ∀ c a w, Q (.panic c) (a.put oi.dst v) w → Q (.panic c) a w) (hE : E.contains i = false) (hH : i ∈ H) :
    ∀ (fuel : Nat) (listed : Array Bool) (a : Act) (w : World), Closed ops listed →
      (∀ j oj, ops[j]? = some oj → j ≠ i → listed.getD j true = false → (∀ e ∈ oj.after, Region.binds .any e = true → e.on ≠ i) → oi.apart ops oj = true) →
      i ∈ Region.ready .any ops listed → YieldsIf P ops (fun w => S w.heap) oi v a → S w.heap →
      wpAnyN P ops Q H E S fuel (listed.setIfInBounds i true) (a.put oi.dst v) w → wpAnyN P ops Q H E S (fuel + 1) listed a w := by
  intro fuel
  induction fuel with
  | zero =>
    intro listed a w _ _ hr hy hS H
    refine ⟨fun h => (by rw [h] at hr; cases hr), fun j hj => ?_⟩
    by_cases hji : j = i
    · subst hji; exact hy.wpOp hi hS ⟨fun _ => hS, H⟩
    · have := ready_mono hj hji
      rw [H.1] at this
      cases this
  | succ fuel ih =>
    intro listed a w C hfree hr hy hS HH
    refine ⟨fun h => (by rw [h] at hr; cases hr), fun j hj => ?_⟩
    by_cases hji : j = i
    · subst hji; exact hy.wpOp hi hS ⟨fun _ => hS, HH⟩
    · have h1 := HH.2 j (ready_mono hj hji)
      obtain ⟨hjun, oj, hoj, hall⟩ := mem_ready.1 hj
      have hiun := getDft (mem_ready.1 hr).1
      have hnot : ∀ e ∈ oj.after, Region.binds .any e = true → e.on ≠ i := fun e he hb heq => by
        have h2 := hall e he hb
        rw [heq, hiun] at h2
        cases h2
      have h2 := wpOp_putIf hoj (hfree j oj hoj hji hjun hnot) (fun cs b => hsel i oi cs b hi) (fun cs b => hsel j oj cs b hoj) hQ hy h1
      have hfree' : ∀ k ok, ops[k]? = some ok → k ≠ i → (listed.setIfInBounds j true).getD k true = false →
          (∀ e ∈ ok.after, Region.binds .any e = true → e.on ≠ i) → oi.apart ops ok = true := fun k ok hk hki hun hno => by
        refine hfree k ok hk hki ?_ hno
        by_cases hjk : j = k
        · subst hjk; exact hjun
        · rw [getD_set_ne true hjk] at hun; exact hun
      have hij : (listed.setIfInBounds j true).getD i false = false := by rw [getD_set_ne false hji]; exact hiun
      have hnd : need ops H E ((listed.setIfInBounds i true).setIfInBounds j true) = true := by
        rw [← Array.setIfInBounds_comm _ _ hji, need_set hE]
        exact need_pending (C.set hj) hH hij
      refine wpOp_mono (fun a' w' h3 => ⟨fun _ => h3.2.1 hnd, ih (listed.setIfInBounds j true) a' w' (C.set hj) hfree' (ready_mono hr (Ne.symm hji)) h3.1 (h3.2.1 hnd) ?_⟩) h2
      rw [Array.setIfInBounds_comm _ _ hji]
      exact h3.2.2
end

def BN (P : Program) (ops : Array Oper) (H E : List Nat) (S : Heap → Prop) (N : Act → World → Prop) (fuel : Nat) (listed : Array Bool) (a : Act) (w : World) : Prop :=
  Closed ops listed → ∀ X R, wpAnyN P ops (Qx N X R) H E S fuel listed a w

theorem wpAnyN_stronger {P : Program} {ops : Array Oper} {Q : Exit → Act → World → Prop} {H E : List Nat} {S S' : Heap → Prop} (hSS : ∀ h, S' h → S h) : ∀ (fuel : Nat) (listed : Array Bool) (a : Act) (w : World), wpAnyN P ops Q H E S' fuel listed a w → wpAnyN P ops Q H E S fuel listed a w
  | 0, _, _, _, h => h
  | fuel + 1, _, _, _, h => ⟨h.1, fun i hi => wpOp_mono (fun a' w' h' => ⟨fun hn => hSS _ (h'.1 hn), wpAnyN_stronger hSS fuel _ a' w' h'.2⟩) (h.2 i hi)⟩
/-- the condition may be chosen anew, narrower -/
theorem BN.stronger {P : Program} {ops : Array Oper} {H E : List Nat} {S S' : Heap → Prop} {N : Act → World → Prop} {fuel : Nat} {listed : Array Bool} {a : Act} {w : World} (hSS : ∀ h, S' h → S h) (x : BN P ops H E S' N fuel listed a w) : BN P ops H E S N fuel listed a w :=
  fun C X R => wpAnyN_stronger hSS _ _ _ _ (x C X R)

/-- a cell that the condition holds -/
@[reducible] def hld (S : Heap → Prop) (p : Addr) (v : Value) : Prop := ∀ h, S h → cl h p = some v
@[reducible] def hlI (k : IntKind) (S : Heap → Prop) (p : Addr) (K : Int → Prop) : Prop := ∃ x, hld S p (.int k x) ∧ K x
@[reducible] def hlB (S : Heap → Prop) (p : Addr) (K : Bool → Prop) : Prop := ∃ x, hld S p (.bool x) ∧ K x
@[reducible] def hlP (S : Heap → Prop) (p : Addr) (K : Option Addr → Prop) : Prop := ∃ x, hld S p (.pointer x) ∧ K x
@[reducible] def hlS (S : Heap → Prop) (p : Addr) (K : Sv → Prop) : Prop := ∃ s : Sv, hld S p (.slice s.a s.n s.c) ∧ K s
@[reducible] def hlT (S : Heap → Prop) (p : Addr) (K : ByteArray → Prop) : Prop := ∃ x, hld S p (.string x) ∧ K x
@[reducible] def hlF (k : FloatKind) (S : Heap → Prop) (p : Addr) (K : Nat → Prop) : Prop := ∃ x, hld S p (.float k x) ∧ K x
@[reducible] def hlV (S : Heap → Prop) (p : Addr) (K : Value → Prop) : Prop := ∃ v, hld S p v ∧ K v

section
variable {P : Program} {ops : Array Oper} {N : Act → World → Prop} {a : Act} {w w0 : World} {H E : List Nat} {S : Heap → Prop}
variable {n d fuel : Nat} {Ev : List (Nat × Value)} {h : Heap} {o : Oper} {listed : Array Bool} {v : Value}

theorem W.regionN {id : Nat} {l : List Oper} {X : Nat → Act → World → Prop} {R : Act → World → Prop} (H E : List Nat) (S : Heap → Prop) (St_ : St n Ev h w0 a w) (hm : P.follows .mixedOrders = true)
    (k : ∀ w', St n Ev h w0 a w' → BN P l.toArray H E S N l.toArray.size (Array.replicate l.toArray.size false) a w') : W P (.region id l.toArray true) N X R a w := by
  refine wp_region_any hm (wpAny_of_N _ _ _ _ (k _ St_.drew ?_ X R))
  refine ⟨by simp, fun j oj _ hl => ?_⟩
  rw [repl_false] at hl
  cases hl

theorem BN.taken {pure : Bool} (i : Nat) (T : St n Ev h w0 a w) (hS : need ops H E listed = true → S h) (hi : ops[i]? = some o) (ht : takeable P pure ops listed i = true) (hE : E.contains i = false)
    (hy : YieldsP P pure ops o v a w) (hd : o.dst = some d) (hn : Nat.blt d n = true)
    (k : ∀ a', St n ((d, v) :: Ev) h w0 a' w → BN P ops H E S N fuel (listed.setIfInBounds i true) a' w) : BN P ops H E S N (fuel + 1) listed a w := by
  intro C X R
  obtain ⟨h1, h2, h3⟩ := takeable_spec hi ht
  refine wpAnyN_taken hi (Region.noSelect_spec h2) (fun _ _ _ h => h) hE fuel listed a w C h3 h1 hy (by rw [T.heap]; exact hS) ?_
  rw [hd]
  exact k _ (T.put (by simpa [Nat.blt_eq] using hn) v T.heap (Rest.refl w)) (C.set h1) X R
/-- a pure operation; `hS` as the walk knows it -/
theorem BN.pure (i : Nat) (T : St n Ev h w0 a w) (hS : need ops H E listed = true → S h) (hi : ops[i]? = some o) (ht : takeable P true ops listed i = true) (hE : E.contains i = false) (r : ∀ w', (execOp a.eval o).run P w' = .ok (.value v) w')
    (hd : o.dst = some d) (hn : Nat.blt d n = true) (g : GOk ops Ev o.guard)
    (k : ∀ a', St n ((d, v) :: Ev) h w0 a' w → BN P ops H E S N fuel (listed.setIfInBounds i true) a' w) : BN P ops H E S N (fuel + 1) listed a w :=
  BN.taken i T hS hi ht hE (.inl ⟨T.wanted g, fun w' _ => r w'⟩) hd hn k
theorem BN.load (i : Nat) (T : St n Ev h w0 a w) (hS : need ops H E listed = true → S h) (hi : ops[i]? = some o) (ht : takeable P false ops listed i = true) (hE : E.contains i = false) (r : ∀ w', Ext w w' → (execOp a.eval o).run P w' = .ok (.value v) w')
    (hd : o.dst = some d) (hn : Nat.blt d n = true) (g : GOk ops Ev o.guard)
    (k : ∀ a', St n ((d, v) :: Ev) h w0 a' w → BN P ops H E S N fuel (listed.setIfInBounds i true) a' w) : BN P ops H E S N (fuel + 1) listed a w :=
  BN.taken i T hS hi ht hE (.inl ⟨T.wanted g, fun w' hw' => r w' (hw'.resolve_left (by simp))⟩) hd hn k
theorem BN.not (i : Nat) (T : St n Ev h w0 a w) (hS : need ops H E listed = true → S h) (hi : ops[i]? = some o) (ht : takeable P true ops listed i = true) (hE : E.contains i = false)
    (hd : o.dst = some d) (hn : Nat.blt d n = true) (g : GNo ops Ev o.guard)
    (k : ∀ a', St n ((d, undef) :: Ev) h w0 a' w → BN P ops H E S N fuel (listed.setIfInBounds i true) a' w) : BN P ops H E S N (fuel + 1) listed a w :=
  BN.taken i T hS hi ht hE (.inr ⟨T.unwanted g, rfl⟩) hd hn k
/-- a load that the condition holds -/
theorem BN.held (i : Nat) (T : St n Ev h w0 a w) (hS : S h) (hi : ops[i]? = some o) (hf : ((Region.ready .any ops listed).contains i && Region.noSelect ops && Region.free .any ops listed i && H.contains i && !E.contains i) = true)
    (r : ∀ w', S w'.heap → (execOp a.eval o).run P w' = .ok (.value v) w')
    (hd : o.dst = some d) (hn : Nat.blt d n = true) (g : GOk ops Ev o.guard)
    (k : ∀ a', St n ((d, v) :: Ev) h w0 a' w → BN P ops H E S N fuel (listed.setIfInBounds i true) a' w) : BN P ops H E S N (fuel + 1) listed a w := by
  intro C X R
  simp only [Bool.and_eq_true, Bool.not_eq_true'] at hf
  obtain ⟨⟨⟨⟨h1, h2⟩, h3⟩, h4⟩, h5⟩ := hf
  have h1' : i ∈ Region.ready .any ops listed := by simpa using h1
  refine wpAnyN_held hi (Region.noSelect_spec h2) (fun _ _ _ h => h) h5 (by simpa using h4) fuel listed a w C (Region.free_spec hi h3) h1' (.inl ⟨T.wanted g, fun w' hw => r w' hw⟩) (by rw [T.heap]; exact hS) ?_
  rw [hd]
  exact k _ (T.put (by simpa [Nat.blt_eq] using hn) v T.heap (Rest.refl w)) (C.set h1') X R

theorem BN.eff (i : Nat) (hi : ops[i]? = some o) (hr : Region.ready .any ops listed = [i]) (hh : OL P ops (fun a' w' => (need ops H E (listed.setIfInBounds i true) = true → S w'.heap) ∧ BN P ops H E S N fuel (listed.setIfInBounds i true) a' w') [o] a w) : BN P ops H E S N (fuel + 1) listed a w := by
  intro C X R
  refine ⟨fun h0 => (by rw [hr] at h0; cases h0), fun j hj => ?_⟩
  rw [hr] at hj
  obtain rfl : j = i := by simpa using hj
  have hm : j ∈ Region.ready .any ops listed := by rw [hr]; simp
  exact wpOp_mono (fun a' w' h' => ⟨h'.1, h'.2 (C.set hm) X R⟩) (wpOp_of_OL (N := N) (X := X) (R := R) hi hh)
/-- one of several effects -/
def Eff1 (P : Program) (ops : Array Oper) (H E : List Nat) (S : Heap → Prop) (N : Act → World → Prop) (fuel : Nat) (listed : Array Bool) (a : Act) (w : World) (i : Nat) : Prop :=
  ∃ o, ops[i]? = some o ∧ OL P ops (fun a' w' => (need ops H E (listed.setIfInBounds i true) = true → S w'.heap) ∧ BN P ops H E S N fuel (listed.setIfInBounds i true) a' w') [o] a w
def Effs (P : Program) (ops : Array Oper) (H E : List Nat) (S : Heap → Prop) (N : Act → World → Prop) (fuel : Nat) (listed : Array Bool) (a : Act) (w : World) : List Nat → Prop
  | [] => True
  | i :: is => Eff1 P ops H E S N fuel listed a w i ∧ Effs P ops H E S N fuel listed a w is
theorem BN.effs (rs : List Nat) (hr : Region.ready .any ops listed = rs) (hne : rs.isEmpty = false) (hh : Effs P ops H E S N fuel listed a w rs) : BN P ops H E S N (fuel + 1) listed a w := by
  intro C X R
  refine ⟨fun h0 => (by rw [hr] at h0; subst h0; cases hne), fun j hj => ?_⟩
  rw [hr] at hj
  have hm : j ∈ Region.ready .any ops listed := by rw [hr]; exact hj
  have : ∀ l : List Nat, j ∈ l → Effs P ops H E S N fuel listed a w l → Eff1 P ops H E S N fuel listed a w j := by
    intro l
    induction l with
    | nil => intro hj; cases hj
    | cons i is ih =>
      intro hj hh
      rcases List.mem_cons.1 hj with rfl | hj
      · exact hh.1
      · exact ih hj hh.2
  obtain ⟨o, hi, hh⟩ := this rs hj hh
  exact wpOp_mono (fun a' w' h' => ⟨h'.1, h'.2 (C.set hm) X R⟩) (wpOp_of_OL (N := N) (X := X) (R := R) hi hh)
theorem BN.done (hr : Region.ready .any ops listed = []) (hN : N a w) : BN P ops H E S N fuel listed a w := fun _ _ _ => by
  cases fuel with
  | zero => exact ⟨hr, hN⟩
  | succ => exact ⟨fun _ => hN, by rw [hr]; simp⟩

theorem noNeed {b : Bool} {p : Prop} (h : b = false) (e : b = true) : p := by rw [h] at e; cases e
theorem hlRow {p : Addr} {cs : List Value} {w' : World} (hS : S w'.heap) (hr : ∀ h, S h → RowL h p 0 cs) : Row w'.heap p cs := (hr _ hS).toRow
end

section
variable {P : Program} {ops : Array Oper} {N : Act → World → Prop} {rest : List Oper} {a : Act} {w w0 : World} {n d : Nat} {E : List (Nat × Value)} {h : Heap}
variable {ty : TypeId} {ps : String} {af : Array Edge} {g : Option (Nat × Bool)} {t : TypeId}
theorem run_buildSlice0 {s b len : Nat} {zv : Option Value} {e : TypeId} {dd : Option Tmp} (hu : P.underlying t = some (.slice e)) (hz : tinfo P e = some (zv, s, b)) (h0 : len * s = 0) :
    (execOp a.eval ⟨dd, .buildSlice t len #[], ty, ps, af, g⟩).run P w = .ok (.value (.slice (some ⟨w.heap.size, 0, none⟩) len len)) { w with heap := w.heap.push (.cells #[] e) } := by
  simp only [execOp, Instr.buildSlice, Sem.run_bind, underlying_run hu, Result.andThen_ok, sizeOf_run hz, h0, Sem.run_pure, Sem.run_ite]
  have e0 : Array.range 0 = #[] := by rw [Array.range_eq_empty_iff]
  simp [newRow, Instr.fill, e0]
theorem ol_newS0 {s b len : Nat} {zv : Option Value} {e : TypeId} {K : Sv → Heap → Prop} (S : St n E h w0 a w) (H : newS e #[] len h K)
    (hu : P.underlying t = some (.slice e)) (hz : tinfo P e = some (zv, s, b)) (h0 : len * s = 0) (hn : Nat.blt d n = true) (hg : GOk ops E g)
    (k : ∀ (s : Sv) a' w' h', K s h' → St n ((d, s.v) :: E) h' w0 a' w' → OL P ops N rest a' w') : OL P ops N (⟨some d, .buildSlice t len #[], ty, ps, af, g⟩ :: rest) a w := by
  have r := run_buildSlice0 (P := P) (w := w) (a := a) (dd := some d) (ty := ty) (ps := ps) (af := af) (g := g) hu hz h0
  rw [S.heap] at r
  exact OL.val S r rfl hn rfl ⟨rfl, rfl, rfl⟩ hg fun a' S' => k ⟨some ⟨h.size, 0, none⟩, len, len⟩ a' _ _ (H _ _ rfl rfl) S'
end
end Go.Lf

/-
  A small calculus over the model, over any program: heap-level judgements, one step lemma an operation. Nothing here is trusted.
-/
import Derived.WalkKit
import Derived.KernelRfl
namespace Go.Lf
open Go

abbrev Heap := Array Obj

/-- a slice's value -/
structure Sv where
  a : Option Addr
  n : Nat
  c : Nat

abbrev Sv.v (s : Sv) : Value := .slice s.a s.n s.c

/-- the cell at an address of a heap -/
def cl (h : Heap) (a : Addr) : Option Value :=
  match h[a.block]? with
  | some (.cells c _ _) => if a.spot.isSome then none else c[a.off]?
  | _ => none

/-- may the cell not be written? -/
def fz (h : Heap) (a : Addr) : Bool :=
  match h[a.block]? with
  | some (.cells _ _ (lo, hi)) => lo ≤ a.off && a.off < hi
  | _ => false

/-- the heap with one cell turned -/
def putC (a : Addr) (v : Value) : Obj → Obj
  | .cells c elem frozen => .cells (if a.spot.isSome then c else c.setIfInBounds a.off v) elem frozen
  | o => o
def sc (h : Heap) (a : Addr) (v : Value) : Heap := h.modify a.block (putC a v)
theorem sc_get (h : Heap) (q : Addr) (v : Value) (b : Nat) : (sc h q v)[b]? = if q.block = b then (h[b]?).map (putC q v) else h[b]? := by
  unfold sc; rw [Array.getElem?_modify]
theorem sc_size (h : Heap) (q : Addr) (v : Value) : (sc h q v).size = h.size := by simp [sc]

theorem cell?_eq (w : World) (a : Addr) : w.cell? a = cl w.heap a := rfl
theorem frozen?_eq (w : World) (a : Addr) : w.frozen? a = fz w.heap a := rfl
theorem setCell_heap (w : World) (a : Addr) (v : Value) : (w.setCell a v).heap = sc w.heap a v := rfl

/-- all but heap and draws is as it was -/
structure Rest (w w' : World) : Prop where
  os : w'.os = w.os
  tape : w'.tape = w.tape
  output : w'.output = w.output

theorem Rest.refl (w : World) : Rest w w := ⟨rfl, rfl, rfl⟩
theorem Rest.trans {a b c : World} (h : Rest a b) (k : Rest b c) : Rest a c := ⟨k.os.trans h.os, k.tape.trans h.tape, k.output.trans h.output⟩

/-- a call at a heap -/
def CallsH (P : Program) (f : FuncId) (args : Array Value) (h : Heap) (R : Value → Heap → Prop) : Prop :=
  ∀ w : World, w.heap = h → Calls P f args w (fun e w' => ∃ v, e = .returned v ∧ R v w'.heap ∧ Rest w w')

theorem CallsH.mono {P : Program} {f : FuncId} {args : Array Value} {h : Heap} {R R' : Value → Heap → Prop} (c : CallsH P f args h R)
    (hr : ∀ v h', R v h' → R' v h') : CallsH P f args h R' :=
  fun w hw => (c w hw).mono fun _ _ ⟨v, e, r, t⟩ => ⟨v, e, hr _ _ r, t⟩

/-! ### The frame -/

def lk : List (Nat × Value) → Nat → Option Value
  | [], _ => none
  | (s, v) :: E, t => bif Nat.beq s t then some v else lk E t

/-- what an operand reads as -/
def evo (E : List (Nat × Value)) : Operand → Option Value
  | .tmp t => lk E t
  | .const v => some v
  | .global g => some (.pointer (some ⟨g, 0, none⟩))
  | .func f => some (.func (.func f) #[] #[])

def evs (E : List (Nat × Value)) : List Operand → Option (List Value)
  | [] => some []
  | x :: xs => match evo E x, evs E xs with
    | some v, some vs => some (v :: vs)
    | _, _ => none

structure St (n : Nat) (E : List (Nat × Value)) (h : Heap) (w0 : World) (a : Act) (w : World) : Prop where
  size : a.tmps.size = n
  at_ : ∀ t v, lk E t = some v → a.tmps[t]? = some v
  defers : a.defers = []
  heap : w.heap = h
  rest : Rest w0 w

theorem St.ev {n E h w0 a w} (S : St n E h w0 a w) {x : Operand} {v : Value} (hx : evo E x = some v) : a.eval x = v := by
  cases x with
  | tmp t => simp [Act.eval, Array.getD_eq_getD_getElem?, S.at_ t v hx]
  | const u => simpa [evo, Act.eval] using hx
  | global g => simpa [evo, Act.eval] using hx
  | func f => simpa [evo, Act.eval] using hx

theorem St.evl {n E h w0 a w} (S : St n E h w0 a w) : ∀ {xs : List Operand} {vs : List Value}, evs E xs = some vs → xs.map a.eval = vs
  | [], vs, hx => by simp [evs] at hx; simp [hx]
  | x :: xs, vs, hx => by
    simp only [evs] at hx
    split at hx
    · rename_i v us h1 h2
      simp at hx
      subst hx
      simp [S.ev h1, S.evl h2]
    · simp at hx

theorem St.put {n E h w0 a w} (S : St n E h w0 a w) {d : Nat} (hd : d < n) (v : Value) {w' : World} {h' : Heap} (hh : w'.heap = h') (hr : Rest w w') :
    St n ((d, v) :: E) h' w0 (a.put (some d) v) w' := by
  refine ⟨by simp [Act.put, S.size], fun t u ht => ?_, S.defers, hh, S.rest.trans hr⟩
  simp only [lk] at ht
  by_cases hdt : d = t
  · subst hdt
    have : Nat.beq d d = true := Nat.beq_refl d
    simp only [this, cond_true, Option.some.injEq] at ht
    subst ht
    simp [Act.put, S.size, hd]
  · have : Nat.beq d t = false := by cases hb : Nat.beq d t with | false => rfl | true => exact absurd (Nat.eq_of_beq_eq_true hb) hdt
    simp only [this, cond_false] at ht
    simp only [Act.put]
    rw [Array.getElem?_setIfInBounds_ne hdt]
    exact S.at_ t u ht

theorem St.put_none {n E h w0 a w} (S : St n E h w0 a w) (v : Value) {w' : World} {h' : Heap} (hh : w'.heap = h') (hr : Rest w w') :
    St n E h' w0 (a.put none v) w' := ⟨S.size, S.at_, S.defers, hh, S.rest.trans hr⟩

/-- fewer slots -/
def SubL (E : List (Nat × Value)) : List (Nat × Value) → Prop
  | [] => True
  | (t, v) :: r => lk E t = some v ∧ SubL E r

theorem St.sub {n E h w0 a w} (S : St n E h w0 a w) (E' : List (Nat × Value)) (hs : SubL E E') : St n E' h w0 a w := by
  refine ⟨S.size, fun t v ht => ?_, S.defers, S.heap, S.rest⟩
  refine S.at_ t v ?_
  induction E' with
  | nil => simp [lk] at ht
  | cons p r ih =>
    obtain ⟨s, u⟩ := p
    simp only [SubL] at hs
    simp only [lk] at ht
    cases hb : Nat.beq s t with
    | true =>
      simp only [hb, cond_true, Option.some.injEq] at ht
      have := Nat.eq_of_beq_eq_true hb
      subst this; subst ht
      exact hs.1
    | false =>
      simp only [hb, cond_false] at ht
      exact ih hs.2 ht

theorem St.hd {n E h w0 a w d v v'} (S : St n ((d, v) :: E) h w0 a w) (e : v = v') : St n ((d, v') :: E) h w0 a w := e ▸ S

/-! ### Code -/

def Qx (N : Act → World → Prop) (X : Nat → Act → World → Prop) (R : Act → World → Prop) : Exit → Act → World → Prop
  | .normal, a, w => N a w
  | .exit i, a, w => X i a w
  | .ret, a, w => R a w
  | _, _, _ => False

def W (P : Program) (c : Code) (N : Act → World → Prop) (X : Nat → Act → World → Prop) (R : Act → World → Prop) (a : Act) (w : World) : Prop :=
  c.wp P (Qx N X R) a w

def xput (id : Nat) (N : Act → World → Prop) (X : Nat → Act → World → Prop) : Nat → Act → World → Prop :=
  fun i a w => if i = id then N a w else X i a w

section
variable {P : Program} {N : Act → World → Prop} {X : Nat → Act → World → Prop} {R : Act → World → Prop} {a : Act} {w : World}

theorem W.skip (h : N a w) : W P .skip N X R a w := wp_skip h
theorem W.ret (h : R a w) : W P .ret N X R a w := wp_ret h
theorem W.exit_ {id : Nat} (h : X id a w) : W P (.exit id) N X R a w := wp_exit h
theorem xhit {id : Nat} (h : N a w) : xput id N X id a w := by simp [xput, h]
theorem xmiss {id i : Nat} (hi : Nat.beq i id = false) (h : X i a w) : xput id N X i a w := by
  have : i ≠ id := fun e => by subst e; simp [Nat.beq_refl] at hi
  simp [xput, this, h]
theorem W.seq {c d : Code} (h : W P c (W P d N X R) X R a w) : W P (.seq c d) N X R a w := by
  refine wp_seq (wp_mono (Q := Qx (W P d N X R) X R) h ?_)
  intro e a w he
  cases e <;> exact he
theorem W.mono {c : Code} {N' : Act → World → Prop} (h : W P c N' X R a w) (hn : ∀ a w, N' a w → N a w) : W P c N X R a w := by
  refine wp_mono (Q := Qx N' X R) h ?_
  intro e a w he
  cases e <;> first | exact hn _ _ he | exact he
/-- a join -/
theorem W.seqJ {c d : Code} (M : Act → World → Prop) (h : W P c M X R a w) (hm : ∀ a w, M a w → W P d N X R a w) : W P (.seq c d) N X R a w :=
  .seq (h.mono hm)
theorem W.block {id : Nat} {c : Code} (h : W P c N (xput id N X) R a w) : W P (.block id c) N X R a w := by
  refine wp_block (wp_mono (Q := Qx N (xput id N X) R) h ?_)
  intro e a w he
  cases e <;> exact he
theorem W.loop {c : Code} (I : Act → World → Prop) (μ : Act → World → Nat) (h0 : I a w)
    (round : ∀ a w, I a w → W P c (fun a' w' => I a' w' ∧ μ a' w' < μ a w) X R a w) : W P (.loop c) N X R a w := by
  refine wp_loop I μ h0 fun a w hI => wp_mono (Q := Qx (fun a' w' => I a' w' ∧ μ a' w' < μ a w) X R) (round a w hI) ?_
  intro e a w he
  cases e <;> exact he
/-- a loop whose relation and measure hang on a state `s` that the frame shows -/
theorem W.loopS {c : Code} {σ : Type} (T : σ → Act → World → Prop) (μ : σ → Nat) (s0 : σ) (h0 : T s0 a w)
    (round : ∀ s a w, T s a w → W P c (fun a' w' => ∃ s', T s' a' w' ∧ μ s' < μ s) X R a w) : W P (.loop c) N X R a w := by
  intro b k cs
  have key : ∀ n s a w, μ s = n → T s a w →
      ∃ e a' w', Qx N X R e a' w' ∧ Arrives P (lone (b.at a (.code c :: .inLoop c :: k)) cs w) b k cs e a' w' := by
    intro n
    induction n using Nat.strongRecOn with
    | _ n ih =>
      intro s a w hn hT
      obtain ⟨e, a₁, w₁, hq, harr⟩ := round s a w hT b (.inLoop c :: k) cs
      cases e with
      | normal =>
        obtain ⟨s', t', hlt⟩ := hq
        obtain ⟨e₂, a₂, w₂, hq₂, harr₂⟩ := ih (μ s') (hn ▸ hlt) s' a₁ w₁ rfl t'
        exact ⟨e₂, a₂, w₂, hq₂, .of_steps (Steps.trans harr (.one step_inLoop)) harr₂⟩
      | exit id => exact ⟨.exit id, a₁, w₁, hq, .pass (x := .inLoop c) rfl (fun _ _ => .inl (by simp)) harr⟩
      | goto l => exact hq.elim
      | ret => exact ⟨.ret, a₁, w₁, hq, .pass (x := .inLoop c) rfl (fun _ _ => .inl (by simp)) harr⟩
      | panic ch => exact hq.elim
      | outgrown => exact hq.elim
  obtain ⟨e, a', w', hq, harr⟩ := key _ s0 a w rfl h0
  exact ⟨e, a', w', hq, .of_steps (.one step_loop) harr⟩

theorem W.cond {n E h w0} (S : St n E h w0 a w) {c : Operand} {x y : Code} {b : Bool} (hc : evo E c = some (.bool b))
    (ht : b = true → W P x N X R a w) (hf : b = false → W P y N X R a w) : W P (.cond c x y) N X R a w :=
  wp_cond_split (S.ev hc) ht hf
end

/-! ### Regions in the text's order -/

def OL (P : Program) (ops : Array Oper) (N : Act → World → Prop) (l : List Oper) (a : Act) (w : World) : Prop :=
  ∀ X R, wpList P ops (Qx N X R) l a w

/-- the guard lets the operation run -/
def GOk (ops : Array Oper) (E : List (Nat × Value)) : Option (Nat × Bool) → Prop
  | none => True
  | some (j, want) => ∃ t, (ops[j]?).bind (·.dst) = some t ∧ lk E t = some (.bool want)
/-- the guard does not -/
def GNo (ops : Array Oper) (E : List (Nat × Value)) : Option (Nat × Bool) → Prop
  | none => False
  | some (j, want) => ∃ t, (ops[j]?).bind (·.dst) = some t ∧ (lk E t = some (.bool (!want)) ∨ lk E t = some undef)

section
variable {P : Program} {N : Act → World → Prop} {X : Nat → Act → World → Prop} {R : Act → World → Prop} {a : Act} {w : World}
variable {ops : Array Oper} {rest : List Oper} {o : Oper} {n : Nat} {E : List (Nat × Value)} {h h' : Heap} {w0 w' : World}

theorem St.wanted (S : St n E h w0 a w) (g : GOk ops E o.guard) : Region.wanted o (yielded ops a.tmps) = true := by
  unfold Region.wanted
  cases hg : o.guard with
  | none => rfl
  | some p =>
    obtain ⟨j, want⟩ := p
    rw [hg] at g
    obtain ⟨t, ht, hl⟩ := g
    simp [yielded, ht, S.at_ t _ hl]

theorem St.unwanted (S : St n E h w0 a w) (g : GNo ops E o.guard) : Region.wanted o (yielded ops a.tmps) = false := by
  unfold Region.wanted
  cases hg : o.guard with
  | none => rw [hg] at g; exact g.elim
  | some p =>
    obtain ⟨j, want⟩ := p
    rw [hg] at g
    obtain ⟨t, ht, hl⟩ := g
    rcases hl with hl | hl
    · simp [yielded, ht, S.at_ t _ hl]
    · simp [yielded, ht, S.at_ t _ hl, undef]

theorem W.region {id : Nat} {l : List Oper} (hh : OL P l.toArray N l a w) : W P (.region id l.toArray false) N X R a w :=
  wp_region_lit (hh X R)

theorem OL.nil (hh : N a w) : OL P ops N [] a w := fun _ _ => hh

theorem OL.val {v : Value} {d : Nat} (S : St n E h w0 a w) (r : (execOp a.eval o).run P w = .ok (.value v) w') (hd : o.dst = some d) (hn : Nat.blt d n = true)
    (hh : w'.heap = h') (hR : Rest w w') (g : GOk ops E o.guard)
    (k : ∀ a', St n ((d, v) :: E) h' w0 a' w' → OL P ops N rest a' w') : OL P ops N (o :: rest) a w := by
  intro X R
  unfold wpList
  rw [if_pos (S.wanted g)]
  refine .inl ?_
  unfold Oper.wp
  rw [r]
  simp only [Oper.upon, hd]
  exact k _ (S.put (by simpa [Nat.blt_eq] using hn) v hh hR) X R

/-- an operation that is not wanted -/
theorem OL.not {d : Nat} (S : St n E h w0 a w) (hd : o.dst = some d) (hn : Nat.blt d n = true) (g : GNo ops E o.guard)
    (k : ∀ a', St n ((d, undef) :: E) h w0 a' w → OL P ops N rest a' w) : OL P ops N (o :: rest) a w := by
  intro X R
  unfold wpList
  rw [if_neg (by simp [S.unwanted g]), hd]
  exact k _ (S.put (by simpa [Nat.blt_eq] using hn) undef S.heap (Rest.refl w)) X R

/-- an operation without a value -/
theorem OL.eff (S : St n E h w0 a w) (r : (execOp a.eval o).run P w = .ok .skip w') (hd : o.dst = none)
    (hh : w'.heap = h') (hR : Rest w w') (g : GOk ops E o.guard)
    (k : ∀ a', St n E h' w0 a' w' → OL P ops N rest a' w') : OL P ops N (o :: rest) a w := by
  intro X R
  unfold wpList
  rw [if_pos (S.wanted g)]
  refine .inl ?_
  unfold Oper.wp
  rw [r]
  simp only [Oper.upon, hd]
  exact k _ (S.put_none undef hh hR) X R

/-- a call of a Go function -/
theorem OL.call {f : FuncId} {args : Array Value} {J : Value → Heap → Prop} {d : Nat} (S : St n E h w0 a w) (r : (execOp a.eval o).run P w = .ok (.enter f args) w)
    (hd : o.dst = some d) (hn : Nat.blt d n = true) (g : GOk ops E o.guard) (c : CallsH P f args h J)
    (k : ∀ v h' a' w', J v h' → St n ((d, v) :: E) h' w0 a' w' → OL P ops N rest a' w') : OL P ops N (o :: rest) a w := by
  intro X R
  unfold wpList
  rw [if_pos (S.wanted g)]
  refine .inl ?_
  unfold Oper.wp
  rw [r]
  simp only [Oper.upon]
  refine (c w S.heap).mono ?_
  rintro e w' ⟨v, rfl, hJ, hR⟩
  rw [hd]
  exact k v _ _ _ hJ (S.put (by simpa [Nat.blt_eq] using hn) v rfl hR) X R

theorem OL.call0 {f : FuncId} {args : Array Value} {J : Value → Heap → Prop} (S : St n E h w0 a w) (r : (execOp a.eval o).run P w = .ok (.enter f args) w)
    (hd : o.dst = none) (g : GOk ops E o.guard) (c : CallsH P f args h J)
    (k : ∀ v h' a' w', J v h' → St n E h' w0 a' w' → OL P ops N rest a' w') : OL P ops N (o :: rest) a w := by
  intro X R
  unfold wpList
  rw [if_pos (S.wanted g)]
  refine .inl ?_
  unfold Oper.wp
  rw [r]
  simp only [Oper.upon]
  refine (c w S.heap).mono ?_
  rintro e w' ⟨v, rfl, hJ, hR⟩
  rw [hd]
  exact k v _ _ _ hJ (S.put_none v rfl hR) X R

theorem wpList_mono {Q Q' : Exit → Act → World → Prop} (hq : ∀ e a w, Q e a w → Q' e a w) : ∀ {l : List Oper} {a : Act} {w : World}, wpList P ops Q l a w → wpList P ops Q' l a w
  | [], _, _, hh => hq _ _ _ hh
  | o :: rest, a, w, hh => by
    unfold wpList at *
    split
    · rename_i hw
      rw [if_pos hw] at hh
      rcases hh with hh | ⟨h1, a1, w1, h2⟩
      · refine .inl ?_
        unfold Oper.wp at *
        generalize (execOp a.eval o).run P w = r at *
        cases r with
        | ok x w' =>
          cases x <;> simp only [Oper.upon] at hh ⊢
          case value => exact wpList_mono hq hh
          case skip => exact wpList_mono hq hh
          case defer => exact wpList_mono hq hh
          case enter =>
            refine hh.mono ?_
            rintro e w'' he
            cases e with
            | returned v => exact wpList_mono hq he
            | panicked c => exact hq _ _ _ he
            | outgrown => obtain ⟨a1, w1, h2⟩ := he; exact ⟨a1, w1, hq _ _ _ h2⟩
          case row => exact hh.mono fun v w'' he => wpList_mono hq he
        | halt x w' => cases x <;> simp only [Oper.upon] at hh ⊢ <;> exact hq _ _ _ hh
      · exact .inr ⟨h1, a1, w1, hq _ _ _ h2⟩
    · rename_i hw
      rw [if_neg hw] at hh
      exact wpList_mono hq hh

/-- part of a region's operations, and what is known behind them -/
theorem wpList_append {Q : Exit → Act → World → Prop} {l2 : List Oper} : ∀ {l1 : List Oper} {a : Act} {w : World},
    wpList P ops (Exit.then (fun a w => wpList P ops Q l2 a w) Q) l1 a w → wpList P ops Q (l1 ++ l2) a w
  | [], _, _, hh => hh
  | o :: rest, a, w, hh => by
    simp only [List.cons_append]
    unfold wpList at *
    split
    · rename_i hw
      rw [if_pos hw] at hh
      rcases hh with hh | ⟨h1, a1, w1, h2⟩
      · refine .inl ?_
        unfold Oper.wp at *
        generalize (execOp a.eval o).run P w = r at *
        cases r with
        | ok x w' =>
          cases x <;> simp only [Oper.upon] at hh ⊢
          case value => exact wpList_append hh
          case skip => exact wpList_append hh
          case defer => exact wpList_append hh
          case enter =>
            refine hh.mono ?_
            rintro e w'' he
            cases e with
            | returned v => exact wpList_append he
            | panicked c => exact he
            | outgrown => exact he
          case row => exact hh.mono fun v w'' he => wpList_append he
        | halt x w' => cases x <;> simp only [Oper.upon] at hh ⊢ <;> exact hh
      · exact .inr ⟨h1, a1, w1, h2⟩
    · rename_i hw
      rw [if_neg hw] at hh
      exact wpList_append hh

theorem OL.cut {l1 l2 : List Oper} (M : Act → World → Prop) (h1 : OL P ops M l1 a w) (h2 : ∀ a w, M a w → OL P ops N l2 a w) : OL P ops N (l1 ++ l2) a w := by
  intro X R
  refine wpList_append (wpList_mono ?_ (h1 X R))
  intro e a w he
  cases e <;> first | exact h2 _ _ he X R | exact he
end
end Go.Lf

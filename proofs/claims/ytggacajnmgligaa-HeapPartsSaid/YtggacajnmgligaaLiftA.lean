/-
  The walk through a region whose order is drawn: take first what may be; an effect when nothing else may come.
-/
import Derived.Test.YtggacajnmgligaaLiftD2
namespace Go.Lf
open Go

def AN (P : Program) (ops : Array Oper) (N : Act → World → Prop) (fuel : Nat) (listed : Array Bool) (a : Act) (w : World) : Prop :=
  Closed ops listed → ∀ X R, wpAny P .any ops (Qx N X R) fuel listed a w

section
variable {P : Program} {ops : Array Oper} {N : Act → World → Prop} {X : Nat → Act → World → Prop} {R : Act → World → Prop} {a : Act} {w w0 : World}
variable {n d fuel : Nat} {E : List (Nat × Value)} {h : Heap} {o : Oper} {listed : Array Bool} {v : Value}

theorem St.drew (S : St n E h w0 a w) : St n E h w0 a { w with drawn := w.drawn + 1 } := ⟨S.size, S.at_, S.defers, S.heap, ⟨S.rest.os, S.rest.tape, S.rest.output⟩⟩

theorem repl_false (m j : Nat) : (Array.replicate m false).getD j false = false := by
  rw [Array.getD_eq_getD_getElem?, Array.getElem?_replicate]
  split <;> rfl
theorem W.regionD {id : Nat} {l : List Oper} (S : St n E h w0 a w) (hm : P.follows .mixedOrders = true)
    (k : ∀ w', St n E h w0 a w' → AN P l.toArray N l.toArray.size (Array.replicate l.toArray.size false) a w') : W P (.region id l.toArray true) N X R a w := by
  refine wp_region_any hm (k _ S.drew ?_ X R)
  refine ⟨by simp, fun j oj _ hl => ?_⟩
  rw [repl_false] at hl
  cases hl

theorem takeable_spec {pure : Bool} {i : Nat} (hi : ops[i]? = some o) (ht : takeable P pure ops listed i = true) :
    i ∈ Region.ready .any ops listed ∧ Region.noSelect ops = true ∧
    ∀ j oj, ops[j]? = some oj → j ≠ i → listed.getD j true = false → (∀ e ∈ oj.after, Region.binds .any e = true → e.on ≠ i) →
        o.apart ops oj = true ∧ (pure = true ∨ calmOp P oj = true ∨ (wacc i ops.toList #[]).getD j false = true) := by
  unfold takeable at ht
  simp only [hi, Bool.and_eq_true] at ht
  obtain ⟨⟨h1, h2⟩, h3⟩ := ht
  refine ⟨by simpa using h1, h2, fun j oj hj hne hun hno => ?_⟩
  rw [List.all_eq_true] at h3
  have h4 := h3 j (List.mem_range.2 (Array.getElem?_eq_some_iff.1 hj).1)
  simp only [hj, Bool.or_eq_true, beq_iff_eq, hne, false_or, hun, Bool.false_eq_true] at h4
  rcases h4 with h4 | h4
  · obtain ⟨e, he, hb⟩ := Array.any_eq_true'.1 h4
    simp only [Bool.and_eq_true, beq_iff_eq] at hb
    exact absurd hb.2 (hno e he hb.1)
  · simp only [Bool.and_eq_true, Bool.or_eq_true] at h4
    refine ⟨h4.1, ?_⟩
    rcases h4.2 with (h5 | h5) | h5
    · exact .inl h5
    · exact .inr (.inl h5)
    · exact .inr (.inr h5)

theorem AN.taken {pure : Bool} (i : Nat) (S : St n E h w0 a w) (hi : ops[i]? = some o) (ht : takeable P pure ops listed i = true)
    (hy : YieldsP P pure ops o v a w) (hd : o.dst = some d) (hn : Nat.blt d n = true)
    (k : ∀ a', St n ((d, v) :: E) h w0 a' w → AN P ops N fuel (listed.setIfInBounds i true) a' w) : AN P ops N (fuel + 1) listed a w := by
  intro C X R
  obtain ⟨h1, h2, h3⟩ := takeable_spec hi ht
  refine wpAny_taken hi (Region.noSelect_spec h2) (fun _ _ _ h => h) fuel listed a w C h3 h1 hy ?_
  rw [hd]
  exact k _ (S.put (by simpa [Nat.blt_eq] using hn) v S.heap (Rest.refl w)) (C.set h1) X R

/-- a pure operation -/
theorem AN.pure (i : Nat) (S : St n E h w0 a w) (hi : ops[i]? = some o) (ht : takeable P true ops listed i = true) (r : ∀ w', (execOp a.eval o).run P w' = .ok (.value v) w')
    (hd : o.dst = some d) (hn : Nat.blt d n = true) (g : GOk ops E o.guard)
    (k : ∀ a', St n ((d, v) :: E) h w0 a' w → AN P ops N fuel (listed.setIfInBounds i true) a' w) : AN P ops N (fuel + 1) listed a w :=
  AN.taken i S hi ht (.inl ⟨S.wanted g, fun w' _ => r w'⟩) hd hn k
/-- a load -/
theorem AN.load (i : Nat) (S : St n E h w0 a w) (hi : ops[i]? = some o) (ht : takeable P false ops listed i = true) (r : ∀ w', Ext w w' → (execOp a.eval o).run P w' = .ok (.value v) w')
    (hd : o.dst = some d) (hn : Nat.blt d n = true) (g : GOk ops E o.guard)
    (k : ∀ a', St n ((d, v) :: E) h w0 a' w → AN P ops N fuel (listed.setIfInBounds i true) a' w) : AN P ops N (fuel + 1) listed a w :=
  AN.taken i S hi ht (.inl ⟨S.wanted g, fun w' hw' => r w' (hw'.resolve_left (by simp))⟩) hd hn k
/-- one that is not wanted -/
theorem AN.not (i : Nat) (S : St n E h w0 a w) (hi : ops[i]? = some o) (ht : takeable P true ops listed i = true)
    (hd : o.dst = some d) (hn : Nat.blt d n = true) (g : GNo ops E o.guard)
    (k : ∀ a', St n ((d, undef) :: E) h w0 a' w → AN P ops N fuel (listed.setIfInBounds i true) a' w) : AN P ops N (fuel + 1) listed a w :=
  AN.taken i S hi ht (.inr ⟨S.unwanted g, rfl⟩) hd hn k

theorem wpOp_of_OL {i : Nat} {K : Act → World → Prop} (hi : ops[i]? = some o) (hh : OL P ops K [o] a w) : wpOp P ops (Qx N X R) i K a w := by
  have h1 := hh (fun _ _ _ => False) (fun _ _ => False)
  unfold wpOp
  simp only [hi]
  unfold wpList at h1
  split
  · rename_i hw
    rw [if_pos hw] at h1
    rcases h1 with h1 | ⟨_, a1, w1, h2⟩
    · refine .inl ?_
      unfold Oper.wp at *
      generalize (execOp a.eval o).run P w = r at *
      cases r with
      | ok x w' =>
        cases x <;> simp only [Oper.upon] at h1 ⊢
        case value => exact h1
        case skip => exact h1
        case defer => exact h1
        case enter =>
          refine h1.mono ?_
          rintro e w'' he
          cases e with
          | returned v => exact he
          | panicked c => exact he.elim
          | outgrown => obtain ⟨a1, w1, h2⟩ := he; exact h2.elim
        case row => exact h1.mono fun v w'' he => he
      | halt x w' => cases x <;> simp only [Oper.upon] at h1 ⊢ <;> exact h1.elim
    · exact h2.elim
  · rename_i hw
    rw [if_neg hw] at h1
    exact h1

/-- an effect, when nothing else may come -/
theorem AN.eff (i : Nat) (hi : ops[i]? = some o) (hr : Region.ready .any ops listed = [i]) (hh : OL P ops (fun a' w' => AN P ops N fuel (listed.setIfInBounds i true) a' w') [o] a w) : AN P ops N (fuel + 1) listed a w := by
  intro C X R
  refine ⟨fun h0 => (by rw [hr] at h0; cases h0), fun j hj => ?_⟩
  rw [hr] at hj
  obtain rfl : j = i := by simpa using hj
  have hm : j ∈ Region.ready .any ops listed := by rw [hr]; simp
  exact wpOp_mono (fun a' w' h' => h' (C.set hm) X R) (wpOp_of_OL (N := N) (X := X) (R := R) hi hh)

theorem AN.done (hr : Region.ready .any ops listed = []) (hN : N a w) : AN P ops N fuel listed a w := fun _ _ _ => wpAny_done hr hN fuel

theorem Ext.row {w w' : World} (hx : Ext w w') {p : Addr} {cs : List Value} (hr : Row w.heap p cs) : Row w'.heap p cs := fun j v hv => hx.cell _ _ (hr j v hv)
theorem St.row (S : St n E h w0 a w) {p : Addr} {cs : List Value} (hr : RowL h p 0 cs) : Row w.heap p cs := by rw [S.heap]; exact hr.toRow

/-- the parts of a literal -/
def evp (E : List (Nat × Value)) : List (Nat × Operand) → Option (List (Nat × Value))
  | [] => some []
  | (i, x) :: xs => match evo E x, evp E xs with
    | some v, some vs => some ((i, v) :: vs)
    | _, _ => none
theorem parts_list (S : St n E h w0 a w) : ∀ {ps : List (Nat × Operand)} {vs : List (Nat × Value)}, evp E ps = some vs → ps.map (fun (i, x) => (i, a.eval x)) = vs
  | [], vs, hx => by simp [evp] at hx; simp [hx]
  | (i, x) :: xs, vs, hx => by
    simp only [evp] at hx
    split at hx
    · rename_i v us h1 h2
      simp at hx
      subst hx
      simp [S.ev h1, parts_list S h2]
    · simp at hx
theorem parts_map (S : St n E h w0 a w) {ps : Array (Nat × Operand)} {vs : List (Nat × Value)} (hx : evp E ps.toList = some vs) : (ps.map fun (i, x) => (i, a.eval x)).toList = vs := by
  rw [Array.toList_map]
  exact parts_list S hx
end

section
variable {P : Program} {a : Act} {w : World} {d : Option Tmp} {ty : TypeId} {ps : String} {af : Array Edge} {g : Option (Nat × Bool)} {x y z : Operand} {v : Value} {t : TypeId}
theorem equalIn_snil {e : TypeId} {q : Option Addr} {m c m' c' : Nat} (ht : P.underlying t = some (.slice e)) : (Op.equal t (.slice q m c) (.slice none m' c')).run P w = .ok (q.isNone) w := by
  show (Op.equalIn (9999 + 1) t _ _).run P w = _
  rw [Op.equalIn]
  cases q <;> simp [underlying_run ht]
theorem run_eqlsn {e : TypeId} {q : Option Addr} {m c m' c' : Nat} {u'} (ht : P.underlying t = some (.slice e)) (hx : a.eval x = .slice q m c) (hy : a.eval y = .slice none m' c') : (execOp a.eval ⟨d, .binOp .eql t x y u', ty, ps, af, g⟩).run P w = .ok (.value (.bool q.isNone)) w := by
  simp [execOp, hx, hy, eqGuard, binOp, equalIn_snil ht]
theorem run_neqsn {e : TypeId} {q : Option Addr} {m c m' c' : Nat} {u'} (ht : P.underlying t = some (.slice e)) (hx : a.eval x = .slice q m c) (hy : a.eval y = .slice none m' c') : (execOp a.eval ⟨d, .binOp .neq t x y u', ty, ps, af, g⟩).run P w = .ok (.value (.bool q.isSome)) w := by
  cases q <;> simp [execOp, hx, hy, eqGuard, binOp, equalIn_snil ht]
theorem part_flat {cs : Array Value} {o : Nat} {v : Value} {td : TypeDesc} (hu : P.underlying t = some td) (hf : match td with | .struct _ | .array _ _ => False | _ => True) (hc : cs[o]? = some v) : (part t cs o).run P w = .ok v w := by
  unfold part isAgg
  simp only [Sem.run_bind, underlying_run hu, Result.andThen_ok]
  cases td <;> first | exact hf.elim | simp [hc]
theorem equalIn_int2 {k k' : IntKind} {x y : Int} (n : Nat) (hu : P.underlying t = some (.int k')) : (Op.equalIn (n + 1) t (.int k x) (.int k y)).run P w = .ok (x == y) w := by
  rw [Op.equalIn]
  simp [underlying_run hu]
theorem equal_A2 {e : TypeId} {k : IntKind} {zz : Option Value} {b : Nat} {x0 x1 y0 y1 : Int} (hu : P.underlying t = some (.array 2 e)) (he : P.underlying e = some (.int k)) (hz : tinfo P e = some (zz, 1, b)) :
    (Op.equal t (.agg #[.int k x0, .int k x1]) (.agg #[.int k y0, .int k y1])).run P w = .ok (x0 == y0 && x1 == y1) w := by
  show (Op.equalIn (9999 + 1) t _ _).run P w = _
  rw [Op.equalIn]
  have p0 := part_flat (w := w) (cs := #[.int k x0, .int k x1]) (o := 0) he trivial rfl
  have p1 := part_flat (w := w) (cs := #[.int k x0, .int k x1]) (o := 1) he trivial rfl
  have q0 := part_flat (w := w) (cs := #[.int k y0, .int k y1]) (o := 0) he trivial rfl
  have q1 := part_flat (w := w) (cs := #[.int k y0, .int k y1]) (o := 1) he trivial rfl
  have e0 := equalIn_int2 (w := w) (k := k) (x := x0) (y := y0) 9998 he
  have e1 := equalIn_int2 (w := w) (k := k) (x := x1) (y := y1) 9998 he
  cases hb0 : x0 == y0 <;> cases hb1 : x1 == y1 <;> simp [underlying_run hu, sizeOf_run hz, p0, p1, q0, q1, e0, e1, hb0, hb1, List.range']
theorem run_eqlA2 {e : TypeId} {k : IntKind} {zz : Option Value} {b : Nat} {x0 x1 y0 y1 : Int} {u'} (hu : P.underlying t = some (.array 2 e)) (he : P.underlying e = some (.int k)) (hz : tinfo P e = some (zz, 1, b)) (hm : P.eqGuardType P.depth t = false)
    (hx : a.eval x = .agg #[.int k x0, .int k x1]) (hy : a.eval y = .agg #[.int k y0, .int k y1]) : (execOp a.eval ⟨d, .binOp .eql t x y u', ty, ps, af, g⟩).run P w = .ok (.value (.bool (x0 == y0 && x1 == y1))) w := by
  simp [execOp, hx, hy, eqGuard, hm, binOp, equal_A2 hu he hz]
theorem run_neqA2 {e : TypeId} {k : IntKind} {zz : Option Value} {b : Nat} {x0 x1 y0 y1 : Int} {u'} (hu : P.underlying t = some (.array 2 e)) (he : P.underlying e = some (.int k)) (hz : tinfo P e = some (zz, 1, b)) (hm : P.eqGuardType P.depth t = false)
    (hx : a.eval x = .agg #[.int k x0, .int k x1]) (hy : a.eval y = .agg #[.int k y0, .int k y1]) : (execOp a.eval ⟨d, .binOp .neq t x y u', ty, ps, af, g⟩).run P w = .ok (.value (.bool (!(x0 == y0 && x1 == y1)))) w := by
  simp [execOp, hx, hy, eqGuard, hm, binOp, equal_A2 hu he hz]
theorem run_mf {fn : Fn} {c : Array Operand} {vs : Array Value} (hc : c.map a.eval = vs) : (execOp a.eval ⟨d, .makeFunc fn #[] c, ty, ps, af, g⟩).run P w = .ok (.value (.func fn #[] vs)) w := by
  simp [execOp, Instr.makeFunc, hc]
/-- a new variable -/
theorem run_alloc {e : TypeId} {zv : Value} {s b : Nat} (hz : tinfo P e = some (some zv, s, b)) :
    (execOp a.eval ⟨d, .alloc e, ty, ps, af, g⟩).run P w = .ok (.value (.pointer (some ⟨w.heap.size, 0, none⟩))) { w with heap := w.heap.push (.cells zv.cells e) } := by
  simp [execOp, Instr.alloc, zeroValue_run hz, newVar, newRow]
theorem run_eqlt {s u : ByteArray} {u'} (hx : a.eval x = .string s) (hy : a.eval y = .string u) : (execOp a.eval ⟨d, .binOp .eql t x y u', ty, ps, af, g⟩).run P w = .ok (.value (.bool (s.toList == u.toList))) w := by
  simp [execOp, hx, hy, eqGuard, binOp, Op.stringOp]
theorem run_neqt {s u : ByteArray} {u'} (hx : a.eval x = .string s) (hy : a.eval y = .string u) : (execOp a.eval ⟨d, .binOp .neq t x y u', ty, ps, af, g⟩).run P w = .ok (.value (.bool (s.toList != u.toList))) w := by
  simp [execOp, hx, hy, eqGuard, binOp, Op.stringOp, bne]
end

section
variable {P : Program} {ops : Array Oper} {N : Act → World → Prop} {rest : List Oper} {a : Act} {w w0 : World} {n d : Nat} {E : List (Nat × Value)} {h : Heap}
variable {ty : TypeId} {ps : String} {af : Array Edge} {g : Option (Nat × Bool)}
theorem ol_alloc {e : TypeId} {K : Addr → Heap → Prop} {zv : Value} {s b : Nat} {cs : Array Value} (S : St n E h w0 a w) (H : new e cs h K) (hz : tinfo P e = some (some zv, s, b)) (hc : zv.cells = cs) (hn : Nat.blt d n = true) (hg : GOk ops E g)
    (k : ∀ p a' w' h', K p h' → St n ((d, .pointer (some p)) :: E) h' w0 a' w' → OL P ops N rest a' w') : OL P ops N (⟨some d, .alloc e, ty, ps, af, g⟩ :: rest) a w := by
  subst hc
  have r := run_alloc (P := P) (w := w) (a := a) (d := some d) (ty := ty) (ps := ps) (af := af) (g := g) hz
  rw [S.heap] at r
  exact OL.val S r rfl hn rfl ⟨rfl, rfl, rfl⟩ hg fun a' S' => k _ a' _ _ (H _ _ rfl rfl) S'
theorem evs_map (S : St n E h w0 a w) {c : Array Operand} {vs : Array Value} (ha : evs E c.toList = some vs.toList) : c.map a.eval = vs := by
  have := S.evl ha
  apply Array.ext'
  simpa using this
end
end Go.Lf

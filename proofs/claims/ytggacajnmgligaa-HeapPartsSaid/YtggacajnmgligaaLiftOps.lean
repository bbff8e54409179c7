/-
  What each operation of the model does, as an equation on its run: over any program; the types' facts are premises that the kernel checks.
-/
import Derived.Test.YtggacajnmgligaaLift
namespace Go.Lf
open Go

/-- a type whose variables are one cell -/
def flatT (P : Program) (t : TypeId) : Bool :=
  match P.underlying t with
  | some (.struct _) | some (.array _ _) | none => false
  | _ => true
def aggT (P : Program) (t : TypeId) : Bool :=
  match P.underlying t with
  | some (.struct _) | some (.array _ _) => true
  | _ => false
/-- zero value, cells, bytes -/
def tinfo (P : Program) (t : TypeId) : Option (Option Value × Nat × Nat) := (P.info? t).map fun i => (i.zero, i.size, i.bytes)
/-- a field's place -/
def fieldT (P : Program) (s : TypeId) (i : Nat) : Option Nat :=
  match P.underlying s with
  | some (.struct fs) => match fs[i]? with
    | some f => match P.info? f.type with
      | some j => if j.size = 0 then none else some f.offset
      | none => none
    | none => none
  | _ => none
/-- a field's place and type -/
def fieldTT (P : Program) (s : TypeId) (i : Nat) : Option (Nat × TypeId) :=
  match P.underlying s with
  | some (.struct fs) => match fs[i]? with
    | some f => some (f.offset, f.type)
    | none => none
  | _ => none

section
variable {P : Program} {a : Act} {w : World} {d : Option Tmp} {ty : TypeId} {ps : String} {af : Array Edge} {g : Option (Nat × Bool)}
variable {x y z : Operand} {v u : Value} {t : TypeId} {k : IntKind} {m n : Int} {p : Addr}

theorem run_move (hx : a.eval x = v) : (execOp a.eval ⟨d, .move x, ty, ps, af, g⟩).run P w = .ok (.value v) w := by simp [execOp, hx]
theorem run_assign (hx : a.eval x = v) : (execOp a.eval ⟨d, .assign x, ty, ps, af, g⟩).run P w = .ok (.value v) w := by simp [execOp, hx]
theorem run_pick {b : Bool} (hc : a.eval z = .bool b) (h : a.eval (if b then x else y) = v) : (execOp a.eval ⟨d, .pick z x y, ty, ps, af, g⟩).run P w = .ok (.value v) w := by
  cases b <;> simp_all [execOp, asBool]

theorem flat_isAgg (ht : flatT P t = true) : (isAgg t).run P w = .ok false w := by
  unfold flatT at ht
  unfold isAgg underlying
  simp only [Sem.run_bind, run_program, Result.andThen_ok]
  cases hu : P.underlying t with
  | none => simp [hu] at ht
  | some d => cases d <;> simp_all
theorem agg_isAgg (ht : aggT P t = true) : (isAgg t).run P w = .ok true w := by
  unfold aggT at ht
  unfold isAgg underlying
  simp only [Sem.run_bind, run_program, Result.andThen_ok]
  cases hu : P.underlying t with
  | none => simp [hu] at ht
  | some d => cases d <;> simp_all
theorem tinfo_run {z : Option Value} {s b : Nat} (h : tinfo P t = some (z, s, b)) : ∃ i, P.info? t = some i ∧ i.zero = z ∧ i.size = s ∧ i.bytes = b := by
  unfold tinfo at h
  cases hi : P.info? t with
  | none => simp [hi] at h
  | some i => simp [hi] at h; exact ⟨i, rfl, h⟩
theorem sizeOf_run {z : Option Value} {s b : Nat} (h : tinfo P t = some (z, s, b)) : (sizeOf t).run P w = .ok s w := by
  obtain ⟨i, hi, _, hs, _⟩ := tinfo_run h
  simp [sizeOf, typeInfo, hi, hs]
theorem zeroValue_run {z : Value} {s b : Nat} (h : tinfo P t = some (some z, s, b)) : (zeroValue t).run P w = .ok z w := by
  obtain ⟨i, hi, hz, _, _⟩ := tinfo_run h
  simp [zeroValue, typeInfo, hi, hz]
theorem underlying_run {td : TypeDesc} (h : P.underlying t = some td) : (underlying t).run P w = .ok td w := by
  simp [underlying, h]

theorem run_ld (hx : a.eval x = .pointer (some p)) (ht : flatT P t = true) (hc : cl w.heap p = some v) :
    (execOp a.eval ⟨d, .load t x, ty, ps, af, g⟩).run P w = .ok (.value v) w := by
  have hc' : w.cell? p = some v := hc
  simp [execOp, hx, Instr.loadAt, Instr.sureAddr, loadVar, flat_isAgg ht, hc']

/-- a row of cells reads as this -/
def Row (h : Heap) (p : Addr) (cs : List Value) : Prop := ∀ j v, cs[j]? = some v → cl h (p.add j) = some v

theorem run_ldA {cs : List Value} {zz : Option Value} {b : Nat} (hx : a.eval x = .pointer (some p)) (ht : aggT P t = true) (hs : tinfo P t = some (zz, cs.length, b)) (hc : Row w.heap p cs) :
    (execOp a.eval ⟨d, .load t x, ty, ps, af, g⟩).run P w = .ok (.value (.agg cs.toArray)) w := by
  have := run_loadCells_list (P := P) (w := w) p cs hc
  simp [execOp, hx, Instr.loadAt, Instr.sureAddr, loadVar, agg_isAgg ht, sizeOf_run hs, this]

theorem run_st {z' : Option Value} {b : Nat} (hx : a.eval x = .pointer (some p)) (hy : a.eval y = v) (h1 : v.oneCell' = true) (hs : tinfo P t = some (z', 1, b))
    (hc : (cl w.heap p).isSome = true) (hf : fz w.heap p = false) :
    (execOp a.eval ⟨d, .store t x y, ty, ps, af, g⟩).run P w = .ok .skip (w.setCell p v) := by
  obtain ⟨u, hu⟩ := Option.isSome_iff_exists.1 hc
  have hu' : w.cell? p = some u := hu
  have hf' : w.frozen? p = false := hf
  have hcells : v.cells = #[v] := by cases v <;> simp_all [Value.cells, Value.oneCell']
  simp [execOp, hx, hy, Instr.storeAt, Instr.sureAddr, storeVar, sizeOf_run hs, hcells, storeCells, Addr.add, run_store _ _ _ _ _ h1, hu', hf']

/-- several cells stored -/
def scs (h : Heap) (p : Addr) : List Value → Nat → Heap
  | [], _ => h
  | v :: vs, i => scs (sc h (p.add i) v) p vs (i + 1)
/-- .. may they be? -/
def Free (h : Heap) (p : Addr) (m : Nat) : Prop := ∀ j, j < m → (cl h (p.add j)).isSome = true ∧ fz h (p.add j) = false

theorem isSome_set (c : Array Value) (i j : Nat) (v : Value) : (c.setIfInBounds i v)[j]?.isSome = c[j]?.isSome := by
  rw [Array.getElem?_setIfInBounds]
  split
  · rename_i e
    subst e
    by_cases hl : i < c.size <;> simp [hl]
  · rfl
theorem sc_shape (h : Heap) (q : Addr) (v : Value) (p : Addr) : (cl (sc h q v) p).isSome = (cl h p).isSome ∧ fz (sc h q v) p = fz h p := by
  unfold cl fz
  rw [sc_get]
  by_cases e : q.block = p.block
  · rw [if_pos e]
    cases hh : h[p.block]? with
    | none => simp
    | some o =>
      cases o <;> simp [putC]
      by_cases hs : q.spot.isSome <;> by_cases hp : p.spot.isSome <;> simp [hs, hp, isSome_set]
  · simp [e]

theorem storeCells_run {vs : List Value} : ∀ {i : Nat} {w : World} (_h1 : ∀ v ∈ vs, v.oneCell' = true) (_hf : ∀ j, j < vs.length → (cl w.heap (p.add (i + j))).isSome = true ∧ fz w.heap (p.add (i + j)) = false),
    ∃ w', (storeCells p vs i).run P w = .ok () w' ∧ w'.heap = scs w.heap p vs i ∧ Rest w w' := by
  induction vs with
  | nil => intro i w _ _; exact ⟨w, rfl, rfl, Rest.refl w⟩
  | cons v vs ih =>
    intro i w h1 hf
    have h0 := hf 0 (by simp)
    simp only [Nat.add_zero] at h0
    obtain ⟨u, hu⟩ := Option.isSome_iff_exists.1 h0.1
    have hu' : w.cell? (p.add i) = some u := hu
    have hf' : w.frozen? (p.add i) = false := h0.2
    obtain ⟨w', r, e, t⟩ := ih (i := i + 1) (w := w.setCell (p.add i) v) (fun v' hv' => h1 v' (List.mem_cons_of_mem _ hv')) (fun j hj => by
      have := hf (j + 1) (by simp; omega)
      have hs := sc_shape w.heap (p.add i) v (p.add (i + 1 + j))
      rw [setCell_heap, hs.1, hs.2]
      rw [show i + 1 + j = i + (j + 1) by omega]
      exact this)
    refine ⟨w', ?_, e, ⟨t.os, t.tape, t.output⟩⟩
    simp [storeCells, run_store _ _ _ _ _ (h1 v (by simp)), hu', hf', r]

theorem run_stA {cs : List Value} {z' : Option Value} {b : Nat} (hx : a.eval x = .pointer (some p)) (hy : a.eval y = .agg cs.toArray) (h1 : ∀ v ∈ cs, v.oneCell' = true) (hs : tinfo P t = some (z', cs.length, b))
    (hf : Free w.heap p cs.length) :
    ∃ w', (execOp a.eval ⟨d, .store t x y, ty, ps, af, g⟩).run P w = .ok .skip w' ∧ w'.heap = scs w.heap p cs 0 ∧ Rest w w' := by
  obtain ⟨w', r, e, t⟩ := storeCells_run (P := P) (p := p) (vs := cs) (i := 0) (w := w) h1 (fun j hj => by rw [Nat.zero_add]; exact hf j hj)
  exact ⟨w', by simp [execOp, hx, hy, Instr.storeAt, Instr.sureAddr, storeVar, sizeOf_run hs, Value.cells, r], e, t⟩

theorem run_fa {i off : Nat} (hx : a.eval x = .pointer (some p)) (hf : fieldT P t i = some off) :
    (execOp a.eval ⟨d, .fieldAddr t x i, ty, ps, af, g⟩).run P w = .ok (.value (.pointer (some (p.add off)))) w := by
  unfold fieldT at hf
  split at hf
  · rename_i fs hu
    split at hf
    · rename_i f hfi
      split at hf
      · rename_i j hj
        split at hf
        · cases hf
        · rename_i hz
          simp only [Option.some.injEq] at hf
          subst hf
          simp [execOp, hx, Instr.fieldAt, underlying_run hu, hfi, Instr.sureAddr, fieldPlace, sizeOf, typeInfo, hj, hz]
      · cases hf
    · cases hf
  · cases hf

theorem run_ixs {s : Option Addr} {len c : Nat} {e : TypeId} {sz b : Nat} {z' : Option Value} (hx : a.eval x = .slice s len c) (hy : a.eval y = .int k m) (hu : P.underlying t = some (.slice e)) (hs : tinfo P e = some (z', sz, b))
    (hp : s = some p) (h0 : 0 ≤ m) (h1 : m < len) :
    (execOp a.eval ⟨d, .indexAddr t x y, ty, ps, af, g⟩).run P w = .ok (.value (.pointer (some (p.add (m.toNat * sz))))) w := by
  subst hp
  simp [execOp, hx, hy, Instr.indexAt, asIntOf, underlying_run hu, h0, h1, sizeOf_run hs]

theorem run_ixa {len : Nat} {e : TypeId} {sz b : Nat} {z' : Option Value} (hx : a.eval x = .pointer (some p)) (hy : a.eval y = .int k m) (hu : P.underlying t = some (.array len e)) (hs : tinfo P e = some (z', sz, b))
    (h0 : 0 ≤ m) (h1 : m < len) :
    (execOp a.eval ⟨d, .indexAddr t x y, ty, ps, af, g⟩).run P w = .ok (.value (.pointer (some (p.add (m.toNat * sz))))) w := by
  simp [execOp, hx, hy, Instr.indexAt, asIntOf, underlying_run hu, Instr.sureAddr, h0, h1, sizeOf_run hs]

theorem run_nc (hx : a.eval x = .pointer (some p)) : (execOp a.eval ⟨d, .nilCheck x, ty, ps, af, g⟩).run P w = .ok (.value (.pointer (some p))) w := by
  simp [execOp, hx]

theorem run_ex {vs : Array Value} {i : Nat} (hx : a.eval x = .tuple vs) (hv : vs[i]? = some v) : (execOp a.eval ⟨d, .extract x i, ty, ps, af, g⟩).run P w = .ok (.value v) w := by
  simp [execOp, hx, Instr.extract, hv]

/-! arithmetic -/
theorem run_add {u'} (hx : a.eval x = .int k m) (hy : a.eval y = .int k n) : (execOp a.eval ⟨d, .binOp .add t x y u', ty, ps, af, g⟩).run P w = .ok (.value (.int k (k.wrap (m + n)))) w := by
  simp [execOp, hx, hy, eqGuard, binOp, Op.intArith]
theorem run_sub {u'} (hx : a.eval x = .int k m) (hy : a.eval y = .int k n) : (execOp a.eval ⟨d, .binOp .sub t x y u', ty, ps, af, g⟩).run P w = .ok (.value (.int k (k.wrap (m - n)))) w := by
  simp [execOp, hx, hy, eqGuard, binOp, Op.intArith]
theorem run_mul {u'} (hx : a.eval x = .int k m) (hy : a.eval y = .int k n) : (execOp a.eval ⟨d, .binOp .mul t x y u', ty, ps, af, g⟩).run P w = .ok (.value (.int k (k.wrap (m * n)))) w := by
  simp [execOp, hx, hy, eqGuard, binOp, Op.intArith]
theorem run_quo {u'} (hx : a.eval x = .int k m) (hy : a.eval y = .int k n) (h0 : n ≠ 0) : (execOp a.eval ⟨d, .binOp .quo t x y u', ty, ps, af, g⟩).run P w = .ok (.value (.int k (k.wrap (m.tdiv n)))) w := by
  simp [execOp, hx, hy, eqGuard, binOp, Op.intDiv, h0]
theorem run_rem {u'} (hx : a.eval x = .int k m) (hy : a.eval y = .int k n) (h0 : n ≠ 0) : (execOp a.eval ⟨d, .binOp .rem t x y u', ty, ps, af, g⟩).run P w = .ok (.value (.int k (m.tmod n))) w := by
  simp [execOp, hx, hy, eqGuard, binOp, Op.intDiv, h0]
def bitsI (op : BinOp) (k : IntKind) (x y : Int) : Int :=
  let a := BitVec.ofInt k.bits x
  let b := BitVec.ofInt k.bits y
  k.wrap (match op with | .and => (a &&& b).toNat | .or => (a ||| b).toNat | .xor => (a ^^^ b).toNat | _ => (a &&& ~~~b).toNat : Nat)
theorem run_bits {op : BinOp} {u'} (ho : op = .and ∨ op = .or ∨ op = .xor ∨ op = .andNot) (hx : a.eval x = .int k m) (hy : a.eval y = .int k n) :
    (execOp a.eval ⟨d, .binOp op t x y u', ty, ps, af, g⟩).run P w = .ok (.value (.int k (bitsI op k m n))) w := by
  rcases ho with rfl | rfl | rfl | rfl <;> simp [execOp, hx, hy, eqGuard, binOp, Op.intBits, bitsI]
theorem run_shl {k' : IntKind} {u'} (hx : a.eval x = .int k m) (hy : a.eval y = .int k' n) (h0 : 0 ≤ n) :
    (execOp a.eval ⟨d, .binOp .shl t x y u', ty, ps, af, g⟩).run P w = .ok (.value (.int k (k.wrap (m * 2 ^ (min n.toNat k.bits))))) w := by
  simp [execOp, hx, hy, eqGuard, binOp, Op.shift, Int.not_lt.2 h0]
theorem run_shr {k' : IntKind} {u'} (hx : a.eval x = .int k m) (hy : a.eval y = .int k' n) (h0 : 0 ≤ n) :
    (execOp a.eval ⟨d, .binOp .shr t x y u', ty, ps, af, g⟩).run P w = .ok (.value (.int k (m.fdiv (2 ^ (min n.toNat k.bits))))) w := by
  simp [execOp, hx, hy, eqGuard, binOp, Op.shift, Int.not_lt.2 h0]
def cmpI : BinOp → Int → Int → Bool
  | .eql, x, y => x == y
  | .neq, x, y => x != y
  | .lss, x, y => decide (x < y)
  | .leq, x, y => decide (x ≤ y)
  | .gtr, x, y => decide (y < x)
  | _, x, y => decide (y ≤ x)
theorem run_eql {u'} (hx : a.eval x = .int k m) (hy : a.eval y = .int k n) : (execOp a.eval ⟨d, .binOp .eql t x y u', ty, ps, af, g⟩).run P w = .ok (.value (.bool (m == n))) w := by
  simp [execOp, hx, hy, eqGuard, binOp, Op.intCmp]
theorem run_neq {u'} (hx : a.eval x = .int k m) (hy : a.eval y = .int k n) : (execOp a.eval ⟨d, .binOp .neq t x y u', ty, ps, af, g⟩).run P w = .ok (.value (.bool (m != n))) w := by
  simp [execOp, hx, hy, eqGuard, binOp, Op.intCmp]
theorem run_lss {u'} (hx : a.eval x = .int k m) (hy : a.eval y = .int k n) : (execOp a.eval ⟨d, .binOp .lss t x y u', ty, ps, af, g⟩).run P w = .ok (.value (.bool (decide (m < n)))) w := by
  simp [execOp, hx, hy, eqGuard, binOp, Op.intCmp]
theorem run_leq {u'} (hx : a.eval x = .int k m) (hy : a.eval y = .int k n) : (execOp a.eval ⟨d, .binOp .leq t x y u', ty, ps, af, g⟩).run P w = .ok (.value (.bool (decide (m ≤ n)))) w := by
  simp [execOp, hx, hy, eqGuard, binOp, Op.intCmp]
theorem run_gtr {u'} (hx : a.eval x = .int k m) (hy : a.eval y = .int k n) : (execOp a.eval ⟨d, .binOp .gtr t x y u', ty, ps, af, g⟩).run P w = .ok (.value (.bool (decide (n < m)))) w := by
  simp [execOp, hx, hy, eqGuard, binOp, Op.intCmp]
theorem run_geq {u'} (hx : a.eval x = .int k m) (hy : a.eval y = .int k n) : (execOp a.eval ⟨d, .binOp .geq t x y u', ty, ps, af, g⟩).run P w = .ok (.value (.bool (decide (n ≤ m)))) w := by
  simp [execOp, hx, hy, eqGuard, binOp, Op.intCmp]
/-! equality of bools, of pointers and slices with nil -/
theorem equalIn_bool {b c : Bool} (ht : P.underlying t = some .bool) : (Op.equal t (.bool b) (.bool c)).run P w = .ok (b == c) w := by
  show (Op.equalIn (9999 + 1) t _ _).run P w = _
  rw [Op.equalIn]
  simp [underlying_run ht]
theorem run_eqlb {b c : Bool} {u'} (ht : P.underlying t = some .bool) (hx : a.eval x = .bool b) (hy : a.eval y = .bool c) : (execOp a.eval ⟨d, .binOp .eql t x y u', ty, ps, af, g⟩).run P w = .ok (.value (.bool (b == c))) w := by
  simp [execOp, hx, hy, eqGuard, binOp, equalIn_bool ht]
theorem run_neqb {b c : Bool} {u'} (ht : P.underlying t = some .bool) (hx : a.eval x = .bool b) (hy : a.eval y = .bool c) : (execOp a.eval ⟨d, .binOp .neq t x y u', ty, ps, af, g⟩).run P w = .ok (.value (.bool (b != c))) w := by
  simp [execOp, hx, hy, eqGuard, binOp, equalIn_bool ht, bne]
theorem equalIn_pnil {e : TypeId} {q : Option Addr} (ht : P.underlying t = some (.pointer e)) : (Op.equal t (.pointer q) (.pointer none)).run P w = .ok (q.isNone) w := by
  show (Op.equalIn (9999 + 1) t _ _).run P w = _
  rw [Op.equalIn]
  cases q <;> simp [underlying_run ht]
theorem run_eqlpn {e : TypeId} {q : Option Addr} {u'} (ht : P.underlying t = some (.pointer e)) (hx : a.eval x = .pointer q) (hy : a.eval y = .pointer none) : (execOp a.eval ⟨d, .binOp .eql t x y u', ty, ps, af, g⟩).run P w = .ok (.value (.bool q.isNone)) w := by
  simp [execOp, hx, hy, eqGuard, binOp, equalIn_pnil ht]
theorem run_neqpn {e : TypeId} {q : Option Addr} {u'} (ht : P.underlying t = some (.pointer e)) (hx : a.eval x = .pointer q) (hy : a.eval y = .pointer none) : (execOp a.eval ⟨d, .binOp .neq t x y u', ty, ps, af, g⟩).run P w = .ok (.value (.bool q.isSome)) w := by
  cases q <;> simp [execOp, hx, hy, eqGuard, binOp, equalIn_pnil ht]
theorem run_not {b : Bool} (hx : a.eval x = .bool b) : (execOp a.eval ⟨d, .unOp .not t x, ty, ps, af, g⟩).run P w = .ok (.value (.bool !b)) w := by simp [execOp, hx, Op.unary]
theorem run_neg (hx : a.eval x = .int k m) : (execOp a.eval ⟨d, .unOp .neg t x, ty, ps, af, g⟩).run P w = .ok (.value (.int k (k.wrap (0 - m)))) w := by simp [execOp, hx, Op.unary, Op.intArith]
theorem run_cvi {src dst : TypeId} {sd : TypeDesc} {k' : IntKind} (hs : P.underlying src = some sd) (hd : P.underlying dst = some (.int k')) (hx : a.eval x = .int k m) :
    (execOp a.eval ⟨d, .convert src dst x, ty, ps, af, g⟩).run P w = .ok (.value (.int k' (k'.wrap m))) w := by
  simp [execOp, hx, convert, underlying_run hs, underlying_run hd, Conv.intToInt]
theorem run_lens {s : Option Addr} {len c : Nat} {e : TypeId} {ats : Array TypeId} (hx : a.eval x = .slice s len c) (ha : ats[0]? = some t) (hu : P.underlying t = some (.slice e)) :
    (execOp a.eval ⟨d, .call { callee := .builtin .len, args := #[x], argTypes := ats }, ty, ps, af, g⟩).run P w = .ok (.value (.int .i64 len)) w := by
  simp [execOp, resolve, invoke, builtin, Builtin.len_, hx, ha, underlying_run hu, goInt]
theorem run_lent {s : ByteArray} {ats : Array TypeId} (hx : a.eval x = .string s) (ha : ats[0]? = some t) (hu : P.underlying t = some .string) :
    (execOp a.eval ⟨d, .call { callee := .builtin .len, args := #[x], argTypes := ats }, ty, ps, af, g⟩).run P w = .ok (.value (.int .i64 s.size)) w := by
  simp [execOp, resolve, invoke, builtin, Builtin.len_, hx, ha, underlying_run hu, goInt]

structure IsFn (P : Program) (f : FuncId) : Prop where
  ex : ∃ fn, P.funcs[f]? = some fn ∧ fn.body.isNone = false ∧ (fn.name == "runtime.NumGoroutine") = false

theorem run_call {f : FuncId} {args : Array Operand} {vs : Array Value} {ats : Array TypeId} (hf : IsFn P f) (ha : args.map a.eval = vs) :
    (execOp a.eval ⟨d, .call { callee := .value (.func f), args := args, argTypes := ats }, ty, ps, af, g⟩).run P w = .ok (.enter f vs) w := by
  obtain ⟨fn, h1, h2, h3⟩ := hf.ex
  have h3' : ¬ fn.name = "runtime.NumGoroutine" := by simpa using h3
  have h2' : ¬ fn.body = none := fun e => by rw [e] at h2; cases h2
  simp [execOp, resolve, ha, Act.eval, Deferred.ofValue, invoke, callFunc, h1, h2', h3']

/-- memory made -/
theorem run_box {e : TypeId} (hx : a.eval x = v) :
    (execOp a.eval ⟨d, .box e x, ty, ps, af, g⟩).run P w = .ok (.value (.pointer (some ⟨w.heap.size, 0, none⟩))) { w with heap := w.heap.push (.cells v.cells e) } := by
  simp [execOp, hx, Instr.box, newVar, newRow]
end
end Go.Lf

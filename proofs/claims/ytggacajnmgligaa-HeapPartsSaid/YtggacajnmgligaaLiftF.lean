/-
  The propositions that a lifted function is read as: typed variables, the heap; what follows stands behind a variable K.
-/
import Derived.Test.YtggacajnmgligaaLiftMem
namespace Go.Lf
open Go

/-! ### Words -/
section
variable (h : Heap) (p : Addr) (K : Heap → Prop)
@[reducible] def ldI (k : IntKind) (h : Heap) (p : Addr) (K : Int → Prop) : Prop := ∃ x, cl h p = some (.int k x) ∧ K x
@[reducible] def ldB (h : Heap) (p : Addr) (K : Bool → Prop) : Prop := ∃ x, cl h p = some (.bool x) ∧ K x
@[reducible] def ldP (h : Heap) (p : Addr) (K : Option Addr → Prop) : Prop := ∃ x, cl h p = some (.pointer x) ∧ K x
@[reducible] def ldS (h : Heap) (p : Addr) (K : Sv → Prop) : Prop := ∃ x : Sv, cl h p = some x.v ∧ K x
@[reducible] def ldT (h : Heap) (p : Addr) (K : ByteArray → Prop) : Prop := ∃ x, cl h p = some (.string x) ∧ K x
@[reducible] def ldF (k : FloatKind) (h : Heap) (p : Addr) (K : Nat → Prop) : Prop := ∃ x, cl h p = some (.float k x) ∧ K x
@[reducible] def ldV (h : Heap) (p : Addr) (K : Value → Prop) : Prop := ∃ x, cl h p = some x ∧ K x
/-- several cells -/
@[reducible] def ldA (m : Nat) (h : Heap) (p : Addr) (K : List Value → Prop) : Prop := ∃ cs : List Value, cs.length = m ∧ Row h p cs ∧ K cs
@[reducible] def nn (p : Option Addr) (K : Addr → Prop) : Prop := ∃ a, p = some a ∧ K a
/-- the address of an element -/
@[reducible] def ixS (s : Sv) (i : Int) (K : Addr → Prop) : Prop := ∃ a, s.a = some a ∧ 0 ≤ i ∧ i < s.n ∧ K a
@[reducible] def ixA (len : Nat) (i : Int) (K : Prop) : Prop := 0 ≤ i ∧ i < len ∧ K
@[reducible] def sto (h : Heap) (p : Addr) (v : Value) (K : Heap → Prop) : Prop := (cl h p).isSome = true ∧ fz h p = false ∧ ∀ h', h' = sc h p v → K h'
@[reducible] def stoA (h : Heap) (p : Addr) (vs : List Value) (K : Heap → Prop) : Prop := (∀ v ∈ vs, v.oneCell' = true) ∧ Free h p vs.length ∧ ∀ h', h' = scs h p vs 0 → K h'
@[reducible] def new (E : TypeId) (cs : Array Value) (h : Heap) (K : Addr → Heap → Prop) : Prop := ∀ p h', p = ⟨h.size, 0, none⟩ → h' = h.push (.cells cs E) → K p h'
@[reducible] def newS (E : TypeId) (cs : Array Value) (len : Nat) (h : Heap) (K : Sv → Heap → Prop) : Prop := ∀ s h', s = (⟨some ⟨h.size, 0, none⟩, len, len⟩ : Sv) → h' = h.push (.cells cs E) → K s h'
@[reducible] def mkS (E : TypeId) (zero : Array Value) (sz bytes : Nat) (m n : Int) (h : Heap) (K : Sv → Heap → Prop) : Prop :=
  0 ≤ m ∧ m ≤ n ∧ (bytes : Int) * n ≤ 281474976710656 ∧ n ≤ 9223372036854775807 ∧ ∀ s h', s = (⟨some ⟨h.size, 0, none⟩, m.toNat, n.toNat⟩ : Sv) → h' = h.push (.cells (madeCells zero (n.toNat * sz)) E) → K s h'
@[reducible] def appS (E : TypeId) (zero : Array Value) (sz bytes : Nat) (h : Heap) (s x : Sv) (K : Sv → Heap → Prop) : Prop :=
  ∃ news : List Value, news.length = x.n * sz ∧ RowO h x.a news ∧ (∀ u ∈ news, u.oneCell' = true) ∧
    (s.n + x.n ≤ s.c → FreeO h s.a (s.n * sz) news.length ∧ ∀ s' h', s' = (⟨s.a, s.n + x.n, s.c⟩ : Sv) → h' = scsO h s.a (s.n * sz) news → K s' h') ∧
    (s.c < s.n + x.n → s.n + x.n ≤ 9223372036854775807 ∧ Builtin.nextslicecap (s.n + x.n) s.c * bytes ≤ 281474976710656 ∧ ∃ old : List Value, old.length = s.n * sz ∧ RowO h s.a old ∧
      ∀ c s' h', s.n + x.n ≤ c → s' = (⟨some ⟨h.size, 0, none⟩, s.n + x.n, c⟩ : Sv) → h' = h.push (.cells (old.toArray ++ news.toArray ++ Builtin.zeroCells zero (c - (s.n + x.n))) E) → K s' h')
@[reducible] def cal (P : Program) (f : FuncId) (args : Array Value) (h : Heap) (K : Value → Heap → Prop) : Prop := ∃ J, CallsH P f args h J ∧ ∀ v h', J v h' → K v h'
@[reducible] def ifb (b : Bool) (A B : Prop) : Prop := (b = true → A) ∧ (b = false → B)
/-- 'b && ..' -/
@[reducible] def andj (b : Bool) (m : (Bool → Heap → Prop) → Prop) (h : Heap) (K : Bool → Heap → Prop) : Prop := (b = true → m K) ∧ (b = false → K false h)
@[reducible] def orj (b : Bool) (m : (Bool → Heap → Prop) → Prop) (h : Heap) (K : Bool → Heap → Prop) : Prop := (b = true → K true h) ∧ (b = false → m K)
/-- the same where nothing is made or written -/
@[reducible] def andr (b : Bool) (m : (Bool → Prop) → Prop) (K : Bool → Prop) : Prop := (b = true → m K) ∧ (b = false → K false)
@[reducible] def orr (b : Bool) (m : (Bool → Prop) → Prop) (K : Bool → Prop) : Prop := (b = true → K true) ∧ (b = false → m K)
@[reducible] def asI (k : IntKind) (v : Value) (K : Int → Prop) : Prop := ∃ x, v = .int k x ∧ K x
@[reducible] def asB (v : Value) (K : Bool → Prop) : Prop := ∃ x, v = .bool x ∧ K x
@[reducible] def asP (v : Value) (K : Option Addr → Prop) : Prop := ∃ x, v = .pointer x ∧ K x
@[reducible] def asS (v : Value) (K : Sv → Prop) : Prop := ∃ x : Sv, v = x.v ∧ K x
@[reducible] def asT (v : Value) (K : ByteArray → Prop) : Prop := ∃ x, v = .string x ∧ K x
@[reducible] def asF (k : FloatKind) (v : Value) (K : Nat → Prop) : Prop := ∃ x, v = .float k x ∧ K x
@[reducible] def asV (v : Value) (K : Value → Prop) : Prop := K v
@[reducible] def asA (m : Nat) (v : Value) (K : List Value → Prop) : Prop := ∃ cs : List Value, v = .agg cs.toArray ∧ cs.length = m ∧ K cs
@[reducible] def asTup (v : Value) (K : Array Value → Prop) : Prop := ∃ vs, v = .tuple vs ∧ K vs
@[reducible] def elt (vs : Array Value) (i : Nat) (K : Value → Prop) : Prop := ∃ v, vs[i]? = some v ∧ K v
end

/-! ### The step from the proposition to the run: what stands behind 'H' is taken apart, the frame grows by one slot -/
section
variable {P : Program} {ops : Array Oper} {N : Act → World → Prop} {rest : List Oper} {a : Act} {w w0 : World} {n d : Nat} {E : List (Nat × Value)} {h : Heap}
variable {ty : TypeId} {ps : String} {af : Array Edge} {g : Option (Nat × Bool)} {x y : Operand} {v : Value} {t : TypeId} {k : IntKind} {p : Addr}

/-- a pure operation: its value hangs on operands alone -/
theorem OL.pure (S : St n E h w0 a w) {o : Oper} (r : (execOp a.eval o).run P w = .ok (.value v) w) (hd : o.dst = some d) (hn : Nat.blt d n = true) (hg : GOk ops E o.guard)
    (K : ∀ a', St n ((d, v) :: E) h w0 a' w → OL P ops N rest a' w) : OL P ops N (o :: rest) a w :=
  OL.val S r hd hn S.heap (Rest.refl w) hg K

theorem St.cl {p : Addr} {v : Value} (S : St n E h w0 a w) (hc : Lf.cl h p = some v) : Lf.cl w.heap p = some v := S.heap ▸ hc
end

/-! ### Guards -/
theorem GOk.mk {ops : Array Oper} {E : List (Nat × Value)} {j t : Nat} {want c : Bool} (hj : (ops[j]?).bind (·.dst) = some t) (hl : lk E t = some (.bool c)) (hb : c = want) : GOk ops E (some (j, want)) :=
  ⟨t, hj, by rw [hl, hb]⟩
theorem GNo.mk {ops : Array Oper} {E : List (Nat × Value)} {j t : Nat} {want c : Bool} (hj : (ops[j]?).bind (·.dst) = some t) (hl : lk E t = some (.bool c)) (hb : c = !want) : GNo ops E (some (j, want)) :=
  ⟨t, hj, .inl (by rw [hl, hb])⟩
theorem GNo.un {ops : Array Oper} {E : List (Nat × Value)} {j t : Nat} {want : Bool} (hj : (ops[j]?).bind (·.dst) = some t) (hl : lk E t = some undef) : GNo ops E (some (j, want)) :=
  ⟨t, hj, .inr hl⟩
section
variable {P : Program} {a : Act} {w : World} {d : Option Tmp} {ty : TypeId} {ps : String} {af : Array Edge} {g : Option (Nat × Bool)} {x y z : Operand} {v : Value} {c : Bool}
theorem run_nc' {r : Option Addr} {p : Addr} (hx : a.eval x = .pointer r) (e : r = some p) : (execOp a.eval ⟨d, .nilCheck x, ty, ps, af, g⟩).run P w = .ok (.value (.pointer (some p))) w :=
  run_nc (by rw [hx, e])
theorem run_pickT (hz : a.eval z = .bool c) (hc : c = true) (hx : a.eval x = v) : (execOp a.eval ⟨d, .pick z x y, ty, ps, af, g⟩).run P w = .ok (.value v) w :=
  run_pick hz (by simp [hc, hx])
theorem run_pickF (hz : a.eval z = .bool c) (hc : c = false) (hy : a.eval y = v) : (execOp a.eval ⟨d, .pick z x y, ty, ps, af, g⟩).run P w = .ok (.value v) w :=
  run_pick hz (by simp [hc, hy])
end
theorem OL.cutN {P : Program} {ops : Array Oper} {N : Act → World → Prop} {l : List Oper} {a : Act} {w : World} (k : Nat) (M : Act → World → Prop) (h1 : OL P ops M (l.take k) a w) (h2 : ∀ a w, M a w → OL P ops N (l.drop k) a w) : OL P ops N l a w := by
  have := OL.cut (l1 := l.take k) (l2 := l.drop k) M h1 h2
  rwa [List.take_append_drop] at this

/-- a literal row -/
def RowL (h : Heap) (p : Addr) : Nat → List Value → Prop
  | _, [] => True
  | i, v :: vs => cl h (p.add i) = some v ∧ RowL h p (i + 1) vs
theorem RowL.row {h : Heap} {p : Addr} : ∀ {vs : List Value} {i : Nat}, RowL h p i vs → ∀ j v, vs[j]? = some v → cl h (p.add (i + j)) = some v
  | [], _, _, _, _, hv => by simp at hv
  | u :: us, i, hr, 0, v, hv => by simp at hv; subst hv; exact hr.1
  | u :: us, i, hr, j + 1, v, hv => by
    have := RowL.row hr.2 j v (by simpa using hv)
    rwa [show i + 1 + j = i + (j + 1) by omega] at this
theorem RowL.toRow {h : Heap} {p : Addr} {vs : List Value} (hr : RowL h p 0 vs) : Row h p vs := fun j v hv => by
  have := hr.row j v hv
  rwa [Nat.zero_add] at this

/-! ### Memory, as the propositions say it -/
section
variable {P : Program} {ops : Array Oper} {N : Act → World → Prop} {rest : List Oper} {a : Act} {w w0 : World} {n d : Nat} {E : List (Nat × Value)} {h : Heap} {o : Oper}
variable {ty : TypeId} {ps : String} {af : Array Edge} {g : Option (Nat × Bool)} {x y : Operand} {v : Value} {t : TypeId} {k : IntKind} {p : Addr}

theorem ol_sto {z : Option Value} {b : Nat} {K : Heap → Prop} (S : St n E h w0 a w) (H : sto h p v K) (hx : evo E x = some (.pointer (some p))) (hy : evo E y = some v) (h1 : v.oneCell' = true) (hs : tinfo P t = some (z, 1, b)) (hg : GOk ops E g)
    (k : ∀ a' w' h', K h' → St n E h' w0 a' w' → OL P ops N rest a' w') : OL P ops N (⟨none, .store t x y, ty, ps, af, g⟩ :: rest) a w :=
  OL.eff S (run_st (S.ev hx) (S.ev hy) h1 hs (by rw [S.heap]; exact H.1) (by rw [S.heap]; exact H.2.1)) rfl (by rw [setCell_heap, S.heap]) ⟨rfl, rfl, rfl⟩ hg fun a' S' => k a' _ _ (H.2.2 _ rfl) S'

theorem ol_stoA {z : Option Value} {b : Nat} {cs : List Value} {K : Heap → Prop} (S : St n E h w0 a w) (H : stoA h p cs K) (hx : evo E x = some (.pointer (some p))) (hy : evo E y = some (.agg cs.toArray)) (hs : tinfo P t = some (z, cs.length, b)) (hg : GOk ops E g)
    (k : ∀ a' w' h', K h' → St n E h' w0 a' w' → OL P ops N rest a' w') : OL P ops N (⟨none, .store t x y, ty, ps, af, g⟩ :: rest) a w := by
  obtain ⟨w', r, e, t'⟩ := run_stA (P := P) (w := w) (d := none) (ty := ty) (ps := ps) (af := af) (g := g) (S.ev hx) (S.ev hy) H.1 hs (by rw [S.heap]; exact H.2.1)
  exact OL.eff S r rfl (by rw [e, S.heap]) t' hg fun a' S' => k a' _ _ (H.2.2 _ rfl) S'

theorem ol_box {e : TypeId} {K : Addr → Heap → Prop} {cs : Array Value} (S : St n E h w0 a w) (H : new e cs h K) (hx : evo E x = some v) (hc : v.cells = cs) (hn : Nat.blt d n = true) (hg : GOk ops E g)
    (k : ∀ p a' w' h', K p h' → St n ((d, .pointer (some p)) :: E) h' w0 a' w' → OL P ops N rest a' w') : OL P ops N (⟨some d, .box e x, ty, ps, af, g⟩ :: rest) a w := by
  subst hc
  have r := run_box (P := P) (w := w) (d := some d) (ty := ty) (ps := ps) (af := af) (g := g) (e := e) (S.ev hx)
  rw [S.heap] at r
  exact OL.val S r rfl hn rfl ⟨rfl, rfl, rfl⟩ hg fun a' S' => k _ a' _ _ (H _ _ rfl rfl) S'

theorem ol_newS {zv : Value} {s b len : Nat} {e : TypeId} {parts : Array (Nat × Operand)} {vs : List (Nat × Value)} {cs : Array Value} {K : Sv → Heap → Prop} (S : St n E h w0 a w) (H : newS e cs len h K)
    (hu : P.underlying t = some (.slice e)) (hz : tinfo P e = some (some zv, s, b)) (hl : ¬ len * s > 2 ^ 24) (hv : (parts.map fun (i, x) => (i, a.eval x)).toList = vs)
    (hf : Instr.fill (fun i => some (i * s, s)) ((Array.range (len * s)).map (zv.cells[· % zv.cells.size]!)) vs = some cs) (h0 : len * s ≠ 0) (hn : Nat.blt d n = true) (hg : GOk ops E g)
    (k : ∀ (s : Sv) a' w' h', K s h' → St n ((d, s.v) :: E) h' w0 a' w' → OL P ops N rest a' w') : OL P ops N (⟨some d, .buildSlice t len parts, ty, ps, af, g⟩ :: rest) a w := by
  have r := run_buildSlice (P := P) (w := w) (a := a) (d := some d) (ty := ty) (ps := ps) (af := af) (g := g) hu hz hl hv hf h0
  rw [S.heap] at r
  exact OL.val S r rfl hn rfl ⟨rfl, rfl, rfl⟩ hg fun a' S' => k ⟨some ⟨h.size, 0, none⟩, len, len⟩ a' _ _ (H _ _ rfl rfl) S'

theorem ol_mkS {zv : Value} {s b : Nat} {e : TypeId} {m m' : Int} {K : Sv → Heap → Prop} (S : St n E h w0 a w) (H : mkS e zv.cells s b m m' h K) (hu : P.underlying t = some (.slice e)) (hz : tinfo P e = some (some zv, s, b))
    (hx : evo E x = some (.int .i64 m)) (hy : evo E y = some (.int .i64 m')) (hn : Nat.blt d n = true) (hg : GOk ops E g)
    (k : ∀ (s : Sv) a' w' h', K s h' → St n ((d, s.v) :: E) h' w0 a' w' → OL P ops N rest a' w') :
    OL P ops N (⟨some d, .makeSlice t x y, ty, ps, af, g⟩ :: rest) a w := by
  obtain ⟨h1, h2, h3, h4, h5⟩ := H
  have r := run_mks (P := P) (w := w) (d := some d) (ty := ty) (ps := ps) (af := af) (g := g) hu hz (S.ev hx) (S.ev hy) h1 h2 h3 h4
  rw [S.heap] at r
  exact OL.val S r rfl hn rfl ⟨rfl, rfl, rfl⟩ hg fun a' S' => k ⟨some ⟨h.size, 0, none⟩, m.toNat, m'.toNat⟩ a' _ _ (h5 _ _ rfl rfl) S'

theorem ol_appS {zv : Value} {sz b : Nat} {e : TypeId} {s xs : Sv} {K : Sv → Heap → Prop} (S : St n E h w0 a w) (H : appS e zv.cells sz b h s xs K) (hu : P.underlying t = some (.slice e)) (hz : tinfo P e = some (some zv, sz, b))
    (hx : evo E x = some s.v) (hy : evo E y = some xs.v) (hn : Nat.blt d n = true) (hg : GOk ops E g)
    (k : ∀ (s' : Sv) a' w' h', K s' h' → St n ((d, s'.v) :: E) h' w0 a' w' → OL P ops N rest a' w') :
    OL P ops N (⟨some d, .call { callee := .builtin .append, args := #[x, y], argTypes := #[t, t] }, ty, ps, af, g⟩ :: rest) a w := by
  obtain ⟨news, hl, hr, h1, hfit, hgrow⟩ := H
  by_cases hroom : s.n + xs.n ≤ s.c
  · obtain ⟨f1, f2⟩ := hfit hroom
    obtain ⟨w', r, e1, t1⟩ := run_app_fits (P := P) (w := w) (d := some d) (ty := ty) (ps := ps) (af := af) (g := g) hu hz (S.ev hx) (S.ev hy) hl (by rw [S.heap]; exact hr) h1 hroom (by rw [S.heap]; exact f1)
    rw [S.heap] at e1
    exact OL.val S r rfl hn e1 t1 hg fun a' S' => k ⟨s.a, s.n + xs.n, s.c⟩ a' _ _ (f2 _ _ rfl rfl) S'
  · obtain ⟨g1, g2, old, g3, g4, g5⟩ := hgrow (by omega)
    obtain ⟨c, w', hc, r, e1, t1⟩ := run_app_grows (P := P) (w := w) (d := some d) (ty := ty) (ps := ps) (af := af) (g := g) hu hz (S.ev hx) (S.ev hy) hl (by rw [S.heap]; exact hr) g3 (by rw [S.heap]; exact g4) (by omega) g1 g2
    rw [S.heap] at e1 r
    exact OL.val S r rfl hn e1 t1 hg fun a' S' => k ⟨some ⟨h.size, 0, none⟩, s.n + xs.n, c⟩ a' _ _ (g5 c _ _ hc rfl rfl) S'

theorem ol_cal {f : FuncId} {args : Array Operand} {vs : Array Value} {ats : Array TypeId} {K : Value → Heap → Prop} (S : St n E h w0 a w) (H : cal P f vs h K) (hf : IsFn P f) (ha : evs E args.toList = some vs.toList) (hn : Nat.blt d n = true) (hg : GOk ops E g)
    (k : ∀ v a' w' h', K v h' → St n ((d, v) :: E) h' w0 a' w' → OL P ops N rest a' w') : OL P ops N (⟨some d, .call { callee := .value (.func f), args := args, argTypes := ats }, ty, ps, af, g⟩ :: rest) a w := by
  obtain ⟨J, hJ, hK⟩ := H
  have ha' : args.map a.eval = vs := by
    have := S.evl ha
    apply Array.ext'
    simpa using this
  exact OL.call S (run_call hf ha') rfl hn hg hJ fun v h' a' w' j s => k v a' w' h' (hK v h' j) s
theorem ol_cal0 {f : FuncId} {args : Array Operand} {vs : Array Value} {ats : Array TypeId} {K : Value → Heap → Prop} (S : St n E h w0 a w) (H : cal P f vs h K) (hf : IsFn P f) (ha : evs E args.toList = some vs.toList) (hg : GOk ops E g)
    (k : ∀ v a' w' h', K v h' → St n E h' w0 a' w' → OL P ops N rest a' w') : OL P ops N (⟨none, .call { callee := .value (.func f), args := args, argTypes := ats }, ty, ps, af, g⟩ :: rest) a w := by
  obtain ⟨J, hJ, hK⟩ := H
  have ha' : args.map a.eval = vs := by
    have := S.evl ha
    apply Array.ext'
    simpa using this
  exact OL.call0 S (run_call hf ha') rfl hg hJ fun v h' a' w' j s => k v a' w' h' (hK v h' j) s
end

/-! ### Entry and end -/
def mkE : Nat → List Value → List (Nat × Value)
  | _, [] => []
  | i, v :: vs => (i, v) :: mkE (i + 1) vs

theorem lk_mkE : ∀ (vs : List Value) (i t : Nat) (v : Value), lk (mkE i vs) t = some v → i ≤ t ∧ vs[t - i]? = some v
  | [], _, _, _, h => by simp [mkE, lk] at h
  | u :: us, i, t, v, h => by
    simp only [mkE, lk] at h
    cases hb : Nat.beq i t with
    | true =>
      have e := Nat.eq_of_beq_eq_true hb
      subst e
      simp only [hb, cond_true, Option.some.injEq] at h
      simp [h]
    | false =>
      have hne : i ≠ t := fun e => by subst e; simp [Nat.beq_refl] at hb
      simp only [hb, cond_false] at h
      obtain ⟨h1, h2⟩ := lk_mkE us (i + 1) t v h
      refine ⟨by omega, ?_⟩
      rw [show t - i = (t - (i + 1)) + 1 by omega]
      simpa using h2

/-- what a function hands back -/
def Ret (P : Program) (fn : Func) (R : Value → Heap → Prop) (w0 : World) (a : Act) (w : World) : Prop :=
  a.defers = [] ∧ ∃ v, (results fn a.tmps).run P w = .ok v w ∧ R v w.heap ∧ Rest w0 w

theorem CallsH.enter {P : Program} {f : FuncId} {fn : Func} {c : Code} {args : Array Value} {h : Heap} {R : Value → Heap → Prop} {E : List (Nat × Value)} {n : Nat} (hf : P.funcs[f]? = some fn) (hb : fn.body = some c)
    (hE : mkE 0 args.toList = E) (hnt : fn.ntmps = n) (hn : Nat.ble args.size n = true)
    (H : ∀ w0 a w, St n E h w0 a w → W P c (Ret P fn R w0) (fun _ _ _ => False) (Ret P fn R w0) a w) : CallsH P f args h R := by
  subst hnt
  intro w hw
  refine calls_of_wp hf hb (wp_mono (Q := Qx (Ret P fn R w) (fun _ _ _ => False) (Ret P fn R w)) (H w _ w ?_) ?_)
  · have hn' : args.size ≤ fn.ntmps := Nat.le_of_ble_eq_true hn
    refine ⟨by simp; omega, fun t v ht => ?_, rfl, hw, Rest.refl w⟩
    rw [← hE] at ht
    obtain ⟨_, h2⟩ := lk_mkE _ _ _ _ ht
    simp only [Nat.sub_zero, Array.getElem?_toList] at h2
    have hlt : t < args.size := (Array.getElem?_eq_some_iff.1 h2).1
    have h3 : args[t] = v := by simpa [Array.getElem?_eq_getElem hlt] using h2
    simp [Array.getElem?_append, hlt, h3]
  · intro e a w' he
    cases e with
    | normal => obtain ⟨h1, v, h2, h3, h4⟩ := he; exact ⟨h1, v, h2, v, rfl, h3, h4⟩
    | ret => obtain ⟨h1, v, h2, h3, h4⟩ := he; exact ⟨h1, v, h2, v, rfl, h3, h4⟩
    | exit id => exact he.elim
    | goto l => exact he.elim
    | panic c => exact he.elim
    | outgrown => exact he.elim

section
variable {P : Program} {fn : Func} {R : Value → Heap → Prop} {w0 : World} {a : Act} {w : World} {n : Nat} {E : List (Nat × Value)} {h : Heap}
theorem St.getD (S : St n E h w0 a w) {t : Nat} {v : Value} (ht : lk E t = some v) : a.tmps.getD t undef = v := by
  simp [Array.getD_eq_getD_getElem?, S.at_ t v ht]
theorem Ret.one (S : St n E h w0 a w) {t : Nat} {v : Value} (hr : fn.results = #[.tmp t]) (ht : lk E t = some v) (HR : R v h) : Ret P fn R w0 a w :=
  ⟨S.defers, v, by rw [results_tmp hr, S.getD ht], by rw [S.heap]; exact HR, S.rest⟩
theorem Ret.two (S : St n E h w0 a w) {t u : Nat} {v v' : Value} (hr : fn.results = #[.tmp t, .tmp u]) (ht : lk E t = some v) (hu : lk E u = some v') (HR : R (.tuple #[v, v']) h) : Ret P fn R w0 a w :=
  ⟨S.defers, .tuple #[v, v'], by rw [results_tmp2 hr, S.getD ht, S.getD hu], by rw [S.heap]; exact HR, S.rest⟩
theorem results_tmp3' {t u q : Tmp} (hr : fn.results = #[.tmp t, .tmp u, .tmp q]) (tmps : Array Value) (w : World) :
    (results fn tmps).run P w = .ok (.tuple #[tmps.getD t undef, tmps.getD u undef, tmps.getD q undef]) w := by simp [results, hr]
theorem results_tmp4' {t u q s : Tmp} (hr : fn.results = #[.tmp t, .tmp u, .tmp q, .tmp s]) (tmps : Array Value) (w : World) :
    (results fn tmps).run P w = .ok (.tuple #[tmps.getD t undef, tmps.getD u undef, tmps.getD q undef, tmps.getD s undef]) w := by simp [results, hr]
theorem Ret.three (S : St n E h w0 a w) {t u q : Nat} {v v' v'' : Value} (hr : fn.results = #[.tmp t, .tmp u, .tmp q]) (ht : lk E t = some v) (hu : lk E u = some v') (hq : lk E q = some v'') (HR : R (.tuple #[v, v', v'']) h) : Ret P fn R w0 a w :=
  ⟨S.defers, .tuple #[v, v', v''], by rw [results_tmp3' hr, S.getD ht, S.getD hu, S.getD hq], by rw [S.heap]; exact HR, S.rest⟩
theorem Ret.four (S : St n E h w0 a w) {t u q s : Nat} {v v' v'' v3 : Value} (hr : fn.results = #[.tmp t, .tmp u, .tmp q, .tmp s]) (ht : lk E t = some v) (hu : lk E u = some v') (hq : lk E q = some v'') (hs : lk E s = some v3) (HR : R (.tuple #[v, v', v'', v3]) h) : Ret P fn R w0 a w :=
  ⟨S.defers, .tuple #[v, v', v'', v3], by rw [results_tmp4' hr, S.getD ht, S.getD hu, S.getD hq, S.getD hs], by rw [S.heap]; exact HR, S.rest⟩
theorem Ret.none (S : St n E h w0 a w) (hr : fn.results = #[]) (HR : R (.tuple #[]) h) : Ret P fn R w0 a w :=
  ⟨S.defers, .tuple #[], by rw [results_none hr], by rw [S.heap]; exact HR, S.rest⟩
end
end Go.Lf

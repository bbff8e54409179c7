/-
  More operations: copy, parts of slices and strings, calls of function values, strings joined.
-/
import Derived.Test.YtggacajnmgligaaLiftH
namespace Go.Lf
open Go

/-! ### copy -/
@[reducible] def cpS (sz : Nat) (h : Heap) (d s : Sv) (K : Int → Heap → Prop) : Prop := ∃ news : List Value, news.length = min s.n d.n * sz ∧ RowO h s.a news ∧ (∀ u ∈ news, u.oneCell' = true) ∧
  (∀ p, d.a = some p → Free h p news.length) ∧ ∀ h', h' = (match d.a with | none => h | some p => scs h p news 0) → K ((min s.n d.n : Nat) : Int) h'
/-! ### parts of slices and strings -/
def slS (s : Sv) (sz : Nat) (lo hi : Int) (K : Sv → Prop) : Prop := 0 ≤ lo ∧ lo ≤ hi ∧ hi ≤ s.c ∧ ∀ s' : Sv, s'.a = (if s.c = lo.toNat then s.a else s.a.map (·.add (lo.toNat * sz))) → s'.n = hi.toNat - lo.toNat → s'.c = s.c - lo.toNat → K s'
theorem slS_ex {s : Sv} {sz : Nat} {lo hi : Int} {K : Sv → Prop} (H : slS s sz lo hi K) : ∃ s' : Sv, 0 ≤ lo ∧ lo ≤ hi ∧ hi ≤ s.c ∧ s'.v = .slice (if s.c = lo.toNat then s.a else s.a.map (·.add (lo.toNat * sz))) (hi.toNat - lo.toNat) (s.c - lo.toNat) ∧ K s' :=
  ⟨⟨_, _, _⟩, H.1, H.2.1, H.2.2.1, rfl, H.2.2.2 _ rfl rfl rfl⟩
@[reducible] def slT (s : ByteArray) (lo hi : Int) (K : ByteArray → Prop) : Prop := 0 ≤ lo ∧ lo ≤ hi ∧ hi ≤ s.size ∧ K (s.extract lo.toNat hi.toNat)
/-- a slot's value by another name -/
theorem St.named {n : Nat} {E : List (Nat × Value)} {h : Heap} {w0 w : World} {a : Act} {d : Nat} {v v' : Value} (S : St n ((d, v) :: E) h w0 a w) (e : v = v') : St n ((d, v') :: E) h w0 a w := e ▸ S

/-! ### function values -/
def calV (P : Program) (f : Value) (args : Array Value) (h : Heap) (K : Value → Heap → Prop) : Prop := ∃ fno caps, f = .func (.func fno) #[] caps ∧ IsFn P fno ∧ cal P fno (args ++ caps) h K

section
variable {P : Program} {a : Act} {w : World} {d : Option Tmp} {ty : TypeId} {ps : String} {af : Array Edge} {g : Option (Nat × Bool)} {x y z : Operand} {v : Value} {t : TypeId}

theorem run_copy {e : TypeId} {zz : Option Value} {sz by_ : Nat} {q s : Sv} {news : List Value} {t' : TypeId} (hu : P.underlying t = some (.slice e)) (hz : tinfo P e = some (zz, sz, by_))
    (hx : a.eval x = q.v) (hy : a.eval y = s.v) (hl : news.length = min s.n q.n * sz) (hn : RowO w.heap s.a news) (h1 : ∀ u ∈ news, u.oneCell' = true)
    (hf : ∀ p, q.a = some p → Free w.heap p news.length) :
    ∃ w', (execOp a.eval ⟨d, .call { callee := .builtin .copy, args := #[x, y], argTypes := #[t, t'] }, ty, ps, af, g⟩).run P w = .ok (.value (.int .i64 ((min s.n q.n : Nat) : Int))) w' ∧
      w'.heap = (match q.a with | none => w.heap | some p => scs w.heap p news 0) ∧ Rest w w' := by
  have hc := firstCells_run (P := P) (w := w) (len := s.n) (c := s.c) hl hn
  cases hq : q.a with
  | none =>
    refine ⟨w, ?_, rfl, Rest.refl w⟩
    simp [execOp, resolve, invoke, builtin, hx, hy, Builtin.copy_, underlying_run hu, sizeOf_run hz, Builtin.lenOf, hc, hq, goInt]
  | some p =>
    obtain ⟨w', r, e1, t1⟩ := storeCells_run (P := P) (p := p) (vs := news) (i := 0) (w := w) h1 (fun j hj => by rw [Nat.zero_add]; exact hf p hq j hj)
    refine ⟨w', ?_, by simpa using e1, t1⟩
    simp [execOp, resolve, invoke, builtin, hx, hy, Builtin.copy_, underlying_run hu, sizeOf_run hz, Builtin.lenOf, hc, hq, r, goInt]

section
variable {e : TypeId} {zz : Option Value} {sz by_ : Nat} {s s' : Sv} {lo hi : Int} {k k' : IntKind}
theorem run_slNN (hu : P.underlying t = some (.slice e)) (hz : tinfo P e = some (zz, sz, by_)) (hx : a.eval x = s.v) (c1 : (0 : Int) ≤ (s.n : Int)) (c2 : (s.n : Int) ≤ s.c)
    (es : s'.v = .slice (if s.c = (0 : Int).toNat then s.a else s.a.map (·.add ((0 : Int).toNat * sz))) ((s.n : Int).toNat - (0 : Int).toNat) (s.c - (0 : Int).toNat)) :
    (execOp a.eval ⟨d, .slice t x none none none, ty, ps, af, g⟩).run P w = .ok (.value s'.v) w := by
  rw [es]
  exact run_slc (l := 0) (h := s.n) hu hz hx rfl rfl (by omega) (by omega)
theorem run_slSN (hu : P.underlying t = some (.slice e)) (hz : tinfo P e = some (zz, sz, by_)) (hx : a.eval x = s.v) (hl : a.eval y = .int k lo) (c0 : 0 ≤ lo) (c1 : lo ≤ (s.n : Int)) (c2 : (s.n : Int) ≤ s.c)
    (es : s'.v = .slice (if s.c = lo.toNat then s.a else s.a.map (·.add (lo.toNat * sz))) ((s.n : Int).toNat - lo.toNat) (s.c - lo.toNat)) :
    (execOp a.eval ⟨d, .slice t x (some y) none none, ty, ps, af, g⟩).run P w = .ok (.value s'.v) w := by
  rw [es]
  exact run_slc (l := lo.toNat) (h := s.n) hu hz hx ⟨k, lo, hl, c0, rfl⟩ rfl (by omega) (by omega)
theorem run_slNS (hu : P.underlying t = some (.slice e)) (hz : tinfo P e = some (zz, sz, by_)) (hx : a.eval x = s.v) (hh : a.eval z = .int k hi) (c1 : 0 ≤ hi) (c2 : hi ≤ s.c)
    (es : s'.v = .slice (if s.c = (0 : Int).toNat then s.a else s.a.map (·.add ((0 : Int).toNat * sz))) (hi.toNat - (0 : Int).toNat) (s.c - (0 : Int).toNat)) :
    (execOp a.eval ⟨d, .slice t x none (some z) none, ty, ps, af, g⟩).run P w = .ok (.value s'.v) w := by
  rw [es]
  exact run_slc (l := 0) (h := hi.toNat) hu hz hx rfl ⟨k, hi, hh, c1, rfl⟩ (by omega) (by omega)
theorem run_slSS (hu : P.underlying t = some (.slice e)) (hz : tinfo P e = some (zz, sz, by_)) (hx : a.eval x = s.v) (hl : a.eval y = .int k lo) (hh : a.eval z = .int k' hi) (c0 : 0 ≤ lo) (c1 : lo ≤ hi) (c2 : hi ≤ s.c)
    (es : s'.v = .slice (if s.c = lo.toNat then s.a else s.a.map (·.add (lo.toNat * sz))) (hi.toNat - lo.toNat) (s.c - lo.toNat)) :
    (execOp a.eval ⟨d, .slice t x (some y) (some z) none, ty, ps, af, g⟩).run P w = .ok (.value s'.v) w := by
  rw [es]
  exact run_slc (l := lo.toNat) (h := hi.toNat) hu hz hx ⟨k, lo, hl, c0, rfl⟩ ⟨k', hi, hh, by omega, rfl⟩ (by omega) (by omega)
end
section
variable {s : ByteArray} {lo hi : Int} {k k' : IntKind}
theorem run_stSN (hu : P.underlying t = some .string) (hx : a.eval x = .string s) (hl : a.eval y = .int k lo) (c0 : 0 ≤ lo) (c1 : lo ≤ (s.size : Int)) :
    (execOp a.eval ⟨d, .slice t x (some y) none none, ty, ps, af, g⟩).run P w = .ok (.value (.string (s.extract lo.toNat (s.size : Int).toNat))) w := by
  simp [execOp, Instr.sliceAt, Instr.slice, underlying_run hu, hx, Instr.sliceBounds, Instr.sliceBound, hl, asIntOf, c0, c1]
theorem run_stNS (hu : P.underlying t = some .string) (hx : a.eval x = .string s) (hh : a.eval z = .int k hi) (c1 : 0 ≤ hi) (c2 : hi ≤ (s.size : Int)) :
    (execOp a.eval ⟨d, .slice t x none (some z) none, ty, ps, af, g⟩).run P w = .ok (.value (.string (s.extract (0 : Int).toNat hi.toNat))) w := by
  simp [execOp, Instr.sliceAt, Instr.slice, underlying_run hu, hx, Instr.sliceBounds, Instr.sliceBound, hh, asIntOf, c1, c2]
theorem run_stSS (hu : P.underlying t = some .string) (hx : a.eval x = .string s) (hl : a.eval y = .int k lo) (hh : a.eval z = .int k' hi) (c0 : 0 ≤ lo) (c1 : lo ≤ hi) (c2 : hi ≤ (s.size : Int)) :
    (execOp a.eval ⟨d, .slice t x (some y) (some z) none, ty, ps, af, g⟩).run P w = .ok (.value (.string (s.extract lo.toNat hi.toNat))) w := by
  have c3 : 0 ≤ hi := by omega
  have c4 : lo ≤ max hi 0 := by omega
  simp [execOp, Instr.sliceAt, Instr.slice, underlying_run hu, hx, Instr.sliceBounds, Instr.sliceBound, hl, hh, asIntOf, c0, c2, c3, c4]
end
theorem run_addt {s u : ByteArray} {u'} (hx : a.eval x = .string s) (hy : a.eval y = .string u) (hs : (s.size : Int) + (u.size : Int) ≤ 9223372036854775807) : (execOp a.eval ⟨d, .binOp .add t x y u', ty, ps, af, g⟩).run P w = .ok (.value (.string (s ++ u))) w := by
  simp [execOp, hx, hy, eqGuard, binOp, Op.stringOp, hs]
theorem run_callV {f : FuncId} {args : Array Operand} {as caps vs : Array Value} {ats : Array TypeId} (hf : IsFn P f) (hx : a.eval x = .func (.func f) #[] caps) (ha : args.map a.eval = as) (hv : as ++ caps = vs) :
    (execOp a.eval ⟨d, .call { callee := .value x, args := args, argTypes := ats }, ty, ps, af, g⟩).run P w = .ok (.enter f vs) w := by
  obtain ⟨fn, h1, h2, h3⟩ := hf.ex
  have h3' : ¬ fn.name = "runtime.NumGoroutine" := by simpa using h3
  have h2' : ¬ fn.body = none := fun e => by rw [e] at h2; cases h2
  subst hv
  simp [execOp, resolve, ha, hx, Deferred.ofValue, invoke, callFunc, h1, h2', h3']
end

section
variable {P : Program} {ops : Array Oper} {N : Act → World → Prop} {rest : List Oper} {a : Act} {w w0 : World} {n d : Nat} {E : List (Nat × Value)} {h : Heap} {o : Oper}
variable {ty : TypeId} {ps : String} {af : Array Edge} {g : Option (Nat × Bool)} {x y : Operand} {v : Value} {t t' : TypeId}
theorem ol_cpS {zv : Option Value} {sz b : Nat} {e : TypeId} {q s : Sv} {K : Int → Heap → Prop} (S : St n E h w0 a w) (H : cpS sz h q s K) (hu : P.underlying t = some (.slice e)) (hz : tinfo P e = some (zv, sz, b))
    (hx : evo E x = some q.v) (hy : evo E y = some s.v) (hn : Nat.blt d n = true) (hg : GOk ops E g)
    (k : ∀ (i : Int) a' w' h', K i h' → St n ((d, .int .i64 i) :: E) h' w0 a' w' → OL P ops N rest a' w') :
    OL P ops N (⟨some d, .call { callee := .builtin .copy, args := #[x, y], argTypes := #[t, t'] }, ty, ps, af, g⟩ :: rest) a w := by
  obtain ⟨news, hl, hr, h1, hf, hk⟩ := H
  obtain ⟨w', r, e1, t1⟩ := run_copy (P := P) (w := w) (d := some d) (ty := ty) (ps := ps) (af := af) (g := g) (t' := t') hu hz (S.ev hx) (S.ev hy) hl (by rw [S.heap]; exact hr) h1 (by rw [S.heap]; exact hf)
  rw [S.heap] at e1
  exact OL.val S r rfl hn rfl t1 hg fun a' S' => k _ a' _ _ (hk _ e1) S'
theorem ol_calV {args : Array Operand} {f : Value} {vs : Array Value} {ats : Array TypeId} {K : Value → Heap → Prop} (S : St n E h w0 a w) (H : calV P f vs h K) (hx : evo E x = some f) (ha : evs E args.toList = some vs.toList) (hn : Nat.blt d n = true) (hg : GOk ops E g)
    (k : ∀ v a' w' h', K v h' → St n ((d, v) :: E) h' w0 a' w' → OL P ops N rest a' w') : OL P ops N (⟨some d, .call { callee := .value x, args := args, argTypes := ats }, ty, ps, af, g⟩ :: rest) a w := by
  obtain ⟨fno, caps, rfl, hf, J, hJ, hK⟩ := H
  exact OL.call S (run_callV hf (S.ev hx) (evs_map S ha) rfl) rfl hn hg hJ fun v h' a' w' j s => k v a' w' h' (hK v h' j) s
theorem ol_calV0 {args : Array Operand} {f : Value} {vs : Array Value} {ats : Array TypeId} {K : Value → Heap → Prop} (S : St n E h w0 a w) (H : calV P f vs h K) (hx : evo E x = some f) (ha : evs E args.toList = some vs.toList) (hg : GOk ops E g)
    (k : ∀ v a' w' h', K v h' → St n E h' w0 a' w' → OL P ops N rest a' w') : OL P ops N (⟨none, .call { callee := .value x, args := args, argTypes := ats }, ty, ps, af, g⟩ :: rest) a w := by
  obtain ⟨fno, caps, rfl, hf, J, hJ, hK⟩ := H
  exact OL.call0 S (run_callV hf (S.ev hx) (evs_map S ha) rfl) rfl hg hJ fun v h' a' w' j s => k v a' w' h' (hK v h' j) s
end
end Go.Lf

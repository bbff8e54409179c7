/-
  Operations that make memory, or build values of many cells: equations on their runs.
-/
import Derived.Test.YtggacajnmgligaaLiftOps
namespace Go.Lf
open Go

section
variable {P : Program} {a : Act} {w : World} {d : Option Tmp} {ty : TypeId} {ps : String} {af : Array Edge} {g : Option (Nat × Bool)}
variable {x y z : Operand} {v u : Value} {t : TypeId} {k : IntKind} {m n : Int} {p : Addr}

/-- the places of a struct's fields -/
def placesL (P : Program) : List Field → Option (List (Nat × Nat))
  | [] => some []
  | f :: fs => match P.info? f.type, placesL P fs with
    | some i, some r => some ((f.offset, i.size) :: r)
    | _, _ => none
def placesT (P : Program) (t : TypeId) : Option (List (Nat × Nat)) :=
  match P.underlying t with
  | some (.struct fs) => placesL P fs.toList
  | _ => none

theorem places_run (w : World) : ∀ {fs : List Field} {r : List (Nat × Nat)}, placesL P fs = some r → (fs.mapM fun f => do pure (f.offset, ← sizeOf f.type) : Sem _).run P w = .ok r w
  | [], r, h => by simp [placesL] at h; simp [h]
  | f :: fs, r, h => by
    simp only [placesL] at h
    split at h
    · rename_i i r' hi hr
      simp only [Option.some.injEq] at h
      subst h
      have := places_run w hr
      simp [sizeOf, typeInfo, hi] at this ⊢
      simp [this]
    · cases h

theorem run_build {zv : Value} {s b : Nat} {pl : List (Nat × Nat)} {parts : Array (Nat × Operand)} {vs : List (Nat × Value)} {cs : Array Value}
    (hp : placesT P t = some pl) (hz : tinfo P t = some (some zv, s, b)) (hv : (parts.map fun (i, x) => (i, a.eval x)).toList = vs)
    (hf : Instr.fill (pl.toArray[·]?) zv.cells vs = some cs) :
    (execOp a.eval ⟨d, .build t parts, ty, ps, af, g⟩).run P w = .ok (.value (.agg cs)) w := by
  unfold placesT at hp
  split at hp
  · rename_i fs hu
    have hm := places_run w hp
    have hm' : (fs.mapM fun f => do pure (f.offset, ← sizeOf f.type) : Sem _).run P w = .ok pl.toArray w := by
      rw [Array.mapM_eq_mapM_toList, Sem.run_map, hm]
      rfl
    have hv' : (parts.map fun (i, x) => (i, a.eval x)) = vs.toArray := by rw [← hv]
    simp only [execOp, Instr.build, Sem.run_bind, zeroValue_run hz, underlying_run hu, Result.andThen_ok, hm', hv', hf, Sem.run_pure]
  · cases hp

theorem run_buildArr {zv : Value} {s b len : Nat} {e : TypeId} {ze : Option Value} {se be : Nat} {parts : Array (Nat × Operand)} {vs : List (Nat × Value)} {cs : Array Value}
    (hu : P.underlying t = some (.array len e)) (he : tinfo P e = some (ze, se, be)) (hz : tinfo P t = some (some zv, s, b)) (hv : (parts.map fun (i, x) => (i, a.eval x)).toList = vs)
    (hf : Instr.fill (fun i => some (i * se, se)) zv.cells vs = some cs) :
    (execOp a.eval ⟨d, .build t parts, ty, ps, af, g⟩).run P w = .ok (.value (.agg cs)) w := by
  have hv' : (parts.map fun (i, x) => (i, a.eval x)) = vs.toArray := by rw [← hv]
  simp only [execOp, Instr.build, Sem.run_bind, zeroValue_run hz, underlying_run hu, Result.andThen_ok, sizeOf_run he, hv', hf, Sem.run_pure]

theorem run_buildSlice {zv : Value} {s b len : Nat} {e : TypeId} {parts : Array (Nat × Operand)} {vs : List (Nat × Value)} {cs : Array Value}
    (hu : P.underlying t = some (.slice e)) (hz : tinfo P e = some (some zv, s, b)) (hl : ¬ len * s > 2 ^ 24) (hv : (parts.map fun (i, x) => (i, a.eval x)).toList = vs)
    (hf : Instr.fill (fun i => some (i * s, s)) ((Array.range (len * s)).map (zv.cells[· % zv.cells.size]!)) vs = some cs) (h0 : len * s ≠ 0) :
    (execOp a.eval ⟨d, .buildSlice t len parts, ty, ps, af, g⟩).run P w = .ok (.value (.slice (some ⟨w.heap.size, 0, none⟩) len len)) { w with heap := w.heap.push (.cells cs e) } := by
  have hv' : (parts.map fun (i, x) => (i, a.eval x)) = vs.toArray := by rw [← hv]
  simp only [execOp, Instr.buildSlice, Sem.run_bind, zeroValue_run hz, underlying_run hu, Result.andThen_ok, sizeOf_run hz, hv', if_neg hl, if_neg h0, hf, Sem.run_pure, Sem.run_ite]
  simp [newRow]

theorem run_mks {e : TypeId} {zv : Value} {s b : Nat} (hu : P.underlying t = some (.slice e)) (hz : tinfo P e = some (some zv, s, b)) (hx : a.eval x = .int .i64 m) (hy : a.eval y = .int .i64 n)
    (h0 : 0 ≤ m) (h1 : m ≤ n) (hb : (b : Int) * n ≤ 281474976710656) (h63 : n ≤ 9223372036854775807) :
    (execOp a.eval ⟨d, .makeSlice t x y, ty, ps, af, g⟩).run P w = .ok (.value (.slice (some ⟨w.heap.size, 0, none⟩) m.toNat n.toNat)) { w with heap := w.heap.push (.cells (madeCells zv.cells (n.toNat * s)) e) } := by
  obtain ⟨i, hi, hz', hs, hb'⟩ := tinfo_run hz
  subst hs; subst hb'
  have := run_make (P := P) w t e i zv hu hi hz' .i64 .i64 m n h0 h1 hb h63
  simp [execOp, hx, hy, this]

/-! append -/
/-- a row behind an address that may be nil -/
def RowO (h : Heap) (p : Option Addr) (cs : List Value) : Prop :=
  match p with
  | none => cs = []
  | some p => Row h p cs
def FreeO (h : Heap) (p : Option Addr) (off m : Nat) : Prop :=
  match p with
  | none => m = 0
  | some p => Free h (p.add off) m
def scsO (h : Heap) (p : Option Addr) (off : Nat) (vs : List Value) : Heap :=
  match p with
  | none => h
  | some p => scs h (p.add off) vs 0

theorem firstCells_run {q : Option Addr} {len c s m : Nat} {cs : List Value} (hl : cs.length = m * s) (hr : RowO w.heap q cs) :
    (Builtin.firstCells s m (.slice q len c)).run P w = .ok cs.toArray w := by
  cases q with
  | none => simp only [RowO] at hr; subst hr; exact run_firstCells_none (P := P) w s m len c
  | some q => exact run_firstCells_some (P := P) w s m q len c cs hl hr

/-- append of the cells of one slice to another, that has room -/
theorem run_app_fits {e : TypeId} {zz : Option Value} {sz by_ : Nat} {s xs : Sv} {news : List Value} (hu : P.underlying t = some (.slice e)) (hz : tinfo P e = some (zz, sz, by_))
    (hx : a.eval x = s.v) (hy : a.eval y = xs.v) (hl : news.length = xs.n * sz) (hn : RowO w.heap xs.a news) (h1 : ∀ u ∈ news, u.oneCell' = true)
    (hroom : s.n + xs.n ≤ s.c) (hf : FreeO w.heap s.a (s.n * sz) news.length) :
    ∃ w', (execOp a.eval ⟨d, .call { callee := .builtin .append, args := #[x, y], argTypes := #[t, t] }, ty, ps, af, g⟩).run P w = .ok (.value (.slice s.a (s.n + xs.n) s.c)) w' ∧
      w'.heap = scsO w.heap s.a (s.n * sz) news ∧ Rest w w' := by
  have hc := firstCells_run (P := P) (w := w) (len := xs.n) (c := xs.c) hl hn
  cases hq : s.a with
  | none =>
    refine ⟨w, ?_, by simp [scsO], Rest.refl w⟩
    simp [execOp, resolve, invoke, builtin, hx, hy, Builtin.append_, underlying_run hu, sizeOf_run hz, Builtin.lenOf, hroom, hc, hq]
  | some q =>
    rw [hq] at hf
    obtain ⟨w', r, e1, t1⟩ := storeCells_run (P := P) (p := q.add (s.n * sz)) (vs := news) (i := 0) (w := w) h1 (fun j hj => by rw [Nat.zero_add]; exact hf j hj)
    refine ⟨w', ?_, by simpa [scsO] using e1, t1⟩
    simp [execOp, resolve, invoke, builtin, hx, hy, Builtin.append_, underlying_run hu, sizeOf_run hz, Builtin.lenOf, hroom, hc, hq, r]

/-- .. that has none -/
theorem run_app_grows {e : TypeId} {zv : Value} {sz by_ : Nat} {s xs : Sv} {news old : List Value} (hu : P.underlying t = some (.slice e)) (hz : tinfo P e = some (some zv, sz, by_))
    (hx : a.eval x = s.v) (hy : a.eval y = xs.v) (hl : news.length = xs.n * sz) (hn : RowO w.heap xs.a news)
    (hlo : old.length = s.n * sz) (ho : RowO w.heap s.a old) (hroom : s.c < s.n + xs.n) (h63 : s.n + xs.n ≤ 9223372036854775807) (hb : Builtin.nextslicecap (s.n + xs.n) s.c * by_ ≤ 281474976710656) :
    ∃ c w', s.n + xs.n ≤ c ∧ (execOp a.eval ⟨d, .call { callee := .builtin .append, args := #[x, y], argTypes := #[t, t] }, ty, ps, af, g⟩).run P w = .ok (.value (.slice (some ⟨w.heap.size, 0, none⟩) (s.n + xs.n) c)) w' ∧
      w'.heap = w.heap.push (.cells (old.toArray ++ news.toArray ++ Builtin.zeroCells zv.cells (c - (s.n + xs.n))) e) ∧ Rest w w' := by
  obtain ⟨i, hi, hz', hs, hb'⟩ := tinfo_run hz
  subst hs; subst hb'
  refine ⟨grownCap w (s.n + xs.n) s.c e, w.drew.alloc (.cells (old.toArray ++ news.toArray ++ Builtin.zeroCells zv.cells (grownCap w (s.n + xs.n) s.c e - (s.n + xs.n))) e), grownCap_ge w _ _ e, ?_, rfl, ⟨rfl, rfl, rfl⟩⟩
  have hc := firstCells_run (P := P) (w := w.drew) (len := xs.n) (c := xs.c) hl hn
  have hd := firstCells_run (P := P) (w := w.drew) (len := s.n) (c := s.c) hlo ho
  have n1 : ¬ (s.n + xs.n ≤ s.c) := by omega
  have n2 : ¬ (281474976710656 < Builtin.nextslicecap (s.n + xs.n) s.c * i.bytes) := by omega
  have n3 : ¬ (9223372036854775807 < ((s.n : Int) + (xs.n : Int))) := by omega
  simp [execOp, resolve, invoke, builtin, hx, hy, Builtin.append_, underlying_run hu, sizeOf, typeInfo, zeroValue, hi, hz', Builtin.lenOf, n1, n2, n3, newRow, Question.forced, hc, hd, grownCap]
  congr 2
  apply Array.ext'
  simp [List.append_assoc]

/-! slices of slices and strings -/
theorem run_slc {e : TypeId} {zz : Option Value} {sz by_ : Nat} {s : Option Addr} {len c : Nat} {lo hi : Option Operand} {l h : Nat} (hu : P.underlying t = some (.slice e)) (hz : tinfo P e = some (zz, sz, by_))
    (hx : a.eval x = .slice s len c) (hlo : match lo with | none => l = 0 | some o => ∃ k i, a.eval o = .int k i ∧ 0 ≤ i ∧ i.toNat = l)
    (hhi : match hi with | none => h = len | some o => ∃ k i, a.eval o = .int k i ∧ 0 ≤ i ∧ i.toNat = h) (h1 : l ≤ h) (h2 : h ≤ c) :
    (execOp a.eval ⟨d, .slice t x lo hi none, ty, ps, af, g⟩).run P w = .ok (.value (.slice (if c = l then s else s.map (·.add (l * sz))) (h - l) (c - l))) w := by
  cases lo with
  | none =>
    cases hi with
    | none =>
      simp only at hlo hhi; subst hlo; subst hhi
      simp [execOp, Instr.sliceAt, Instr.slice, underlying_run hu, hx, Instr.sliceBounds, sizeOf_run hz]
    | some oh =>
      obtain ⟨k2, i2, e2, p2, q2⟩ := hhi
      simp only at hlo; subst hlo; subst q2
      have h2' : i2 ≤ (c : Int) := by omega
      simp [execOp, Instr.sliceAt, Instr.slice, underlying_run hu, hx, Instr.sliceBounds, Instr.sliceBound, e2, asIntOf, p2, h2', sizeOf_run hz]
  | some ol =>
    obtain ⟨k1, i1, e1, p1, q1⟩ := hlo
    cases hi with
    | none =>
      simp only at hhi; subst hhi; subst q1
      have h1' : i1 ≤ (h : Int) := by omega
      simp [execOp, Instr.sliceAt, Instr.slice, underlying_run hu, hx, Instr.sliceBounds, Instr.sliceBound, e1, asIntOf, p1, h1', sizeOf_run hz]
    | some oh =>
      obtain ⟨k2, i2, e2, p2, q2⟩ := hhi
      subst q1; subst q2
      have h2' : i2 ≤ (c : Int) := by omega
      simp [execOp, Instr.sliceAt, Instr.slice, underlying_run hu, hx, Instr.sliceBounds, Instr.sliceBound, e1, e2, asIntOf, p1, p2, h2', sizeOf_run hz]
      intro hh
      exact absurd hh (by omega)
end
end Go.Lf

/-
  Maps with texts as keys; results that lie in cells; a whole array as a slice.
-/
import Derived.Test.YtggacajnmgligaaLiftP
namespace Go.Lf
open Go

/-! ### results in cells -/
def RV (P : Program) (E : List (Nat × Value)) (h : Heap) : List ResultVar → List Value → Prop
  | [], vs => vs = []
  | .tmp t :: r, vs => ∃ v vs', vs = v :: vs' ∧ lk E t = some v ∧ RV P E h r vs'
  | .cell s t :: r, vs => ∃ v vs' p, vs = v :: vs' ∧ lk E s = some (.pointer (some p)) ∧
      ((∃ cs z b, v = .agg (List.toArray cs) ∧ aggT P t = true ∧ tinfo P t = some (z, cs.length, b) ∧ Row h p cs) ∨ (flatT P t = true ∧ cl h p = some v)) ∧ RV P E h r vs'
theorem RV.nil {P : Program} {E : List (Nat × Value)} {h : Heap} : RV P E h [] [] := rfl
theorem RV.tmp {P : Program} {E : List (Nat × Value)} {h : Heap} {t : Tmp} {r : List ResultVar} {v : Value} {vs : List Value} (a : lk E t = some v) (k : RV P E h r vs) : RV P E h (.tmp t :: r) (v :: vs) := ⟨v, vs, rfl, a, k⟩
theorem RV.cellA {P : Program} {E : List (Nat × Value)} {h : Heap} {s : Tmp} {t : TypeId} {r : List ResultVar} {cs : List Value} {vs : List Value} {p : Addr} {z : Option Value} {b : Nat}
    (a : lk E s = some (.pointer (some p))) (ht : aggT P t = true) (hi : tinfo P t = some (z, cs.length, b)) (hr : RowL h p 0 cs) (k : RV P E h r vs) : RV P E h (.cell s t :: r) (.agg cs.toArray :: vs) :=
  ⟨_, vs, p, rfl, a, .inl ⟨cs, z, b, rfl, ht, hi, hr.toRow⟩, k⟩
theorem RV.cellF {P : Program} {E : List (Nat × Value)} {h : Heap} {s : Tmp} {t : TypeId} {r : List ResultVar} {v : Value} {vs : List Value} {p : Addr}
    (a : lk E s = some (.pointer (some p))) (ht : flatT P t = true) (hc : cl h p = some v) (k : RV P E h r vs) : RV P E h (.cell s t :: r) (v :: vs) :=
  ⟨_, vs, p, rfl, a, .inr ⟨ht, hc⟩, k⟩
def rv1 (tmps : Array Value) : ResultVar → Sem Value
  | .tmp t => pure (tmps.getD t undef)
  | .cell b t => do loadVar t (← asAddr (tmps.getD b undef))
theorem RV.run {P : Program} {n : Nat} {E : List (Nat × Value)} {h : Heap} {w0 w : World} {a : Act} (S : St n E h w0 a w) : ∀ {l : List ResultVar} {vs : List Value}, RV P E h l vs →
    (l.mapM (rv1 a.tmps)).run P w = .ok vs w
  | [], vs, k => by simp only [RV] at k; subst k; simp
  | .tmp t :: r, vs, k => by
    obtain ⟨v, vs', rfl, h1, h2⟩ := k
    have := RV.run S h2
    rw [List.mapM_cons]
    have e : (rv1 a.tmps (.tmp t)).run P w = .ok v w := by
      show (pure (a.tmps.getD t undef) : Sem Value).run P w = _
      rw [S.getD h1]; rfl
    simp [e, this]
  | .cell s t :: r, vs, k => by
    obtain ⟨v, vs', p, rfl, h1, h2, h3⟩ := k
    have := RV.run S h3
    rw [List.mapM_cons]
    have hl : (loadVar t p).run P w = .ok v w := by
      rcases h2 with ⟨cs, z, b, rfl, q1, q2, q3⟩ | ⟨q1, q2⟩
      · have e := run_loadCells_list (P := P) (w := w) p cs (by rw [← S.heap] at q3; exact q3)
        simp [loadVar, agg_isAgg q1, sizeOf_run q2, e]
      · have hc' : w.cell? p = some v := by rw [cell?_eq, S.heap]; exact q2
        simp [loadVar, flat_isAgg q1, hc']
    have e : (rv1 a.tmps (.cell s t)).run P w = .ok v w := by
      show (do loadVar t (← asAddr (a.tmps.getD s undef)) : Sem Value).run P w = _
      rw [S.getD h1]; simp [asAddr, hl]
    simp [e, this]
def unl (vs : List Value) : Value := match vs with
  | [v] => v
  | _ => .tuple vs.toArray
theorem Ret.gen {P : Program} {fn : Func} {R : Value → Heap → Prop} {w0 : World} {a : Act} {w : World} {n : Nat} {E : List (Nat × Value)} {h : Heap} {l : List ResultVar} {vs : List Value} {v : Value}
    (S : St n E h w0 a w) (hr : fn.results.toList = l) (k : RV P E h l vs) (hv : unl vs = v) (HR : R v h) : Ret P fn R w0 a w := by
  refine ⟨S.defers, v, ?_, by rw [S.heap]; exact HR, S.rest⟩
  have e := RV.run S k
  have e0 : Go.results fn a.tmps = (do let vs ← fn.results.mapM (rv1 a.tmps); pure (if h : vs.size = 1 then vs[0] else .tuple vs)) := by
    unfold Go.results
    congr 1
  rw [e0, Array.mapM_eq_mapM_toList, hr, ← hv]
  simp only [Sem.run_bind, Sem.run_map, e, Result.andThen_ok]
  cases vs with
  | nil => simp [unl]
  | cons u us => cases us <;> simp [unl]

/-! ### a whole array as a slice -/
section
variable {P : Program} {a : Act} {w : World} {d : Option Tmp} {ty : TypeId} {ps : String} {af : Array Edge} {g : Option (Nat × Bool)} {x y : Operand} {t : TypeId} {n : Nat}
theorem run_saNN {e : TypeId} {zz : Option Value} {by_ sz : Nat} {p : Addr} (hu : P.underlying t = some (.array n e)) (hz : tinfo P e = some (zz, sz, by_)) (hx : a.eval x = .pointer (some p)) :
    (execOp a.eval ⟨d, .slice t x none none none, ty, ps, af, g⟩).run P w = .ok (.value (.slice (some p) n n)) w := by
  have : p.add 0 = p := by simp [Addr.add]
  simp [execOp, Instr.sliceAt, Instr.sureAddr, underlying_run hu, hx, Instr.sliceBounds, sizeOf_run hz, this]
end

/-! ### function values and nil -/
@[reducible] def askF (o : Option Bool) (K : Bool → Prop) : Prop := ∃ b, o = some b ∧ K b
def isNilF : Value → Option Bool
  | .nilFunc => some true
  | .func _ _ _ => some false
  | _ => none
section
variable {P : Program} {a : Act} {w : World} {d : Option Tmp} {ty : TypeId} {ps : String} {af : Array Edge} {g : Option (Nat × Bool)} {x y : Operand} {t : TypeId}
theorem equalIn_fnil {A : Array TypeId} {B : Array TypeId} {c : Bool} {v : Value} {b : Bool} (ht : P.underlying t = some (.func A B c)) (hv : isNilF v = some b) : (Op.equal t v .nilFunc).run P w = .ok b w := by
  show (Op.equalIn (9999 + 1) t v .nilFunc).run P w = _
  rw [Op.equalIn]
  simp only [Sem.run_bind, underlying_run ht, Result.andThen_ok]
  cases v <;> simp [isNilF] at hv <;> subst hv <;> rfl
theorem run_eqlfn {A : Array TypeId} {B : Array TypeId} {c : Bool} {v : Value} {b : Bool} {u'} (ht : P.underlying t = some (.func A B c)) (hx : a.eval x = v) (hy : a.eval y = .nilFunc) (hv : isNilF v = some b) : (execOp a.eval ⟨d, .binOp .eql t x y u', ty, ps, af, g⟩).run P w = .ok (.value (.bool b)) w := by
  have := equalIn_fnil (w := w) ht hv
  cases v <;> simp [isNilF] at hv <;> simp [execOp, hx, hy, eqGuard, binOp, this]
end

/-! ### maps -/
def mapEs (L : List MapEntry) : List (Value × Value) := L.map fun e => (e.key, e.val)
def strEs (es : List (ByteArray × Value)) : List (Value × Value) := es.map fun e => (.string e.1, e.2)
def lkE (k : ByteArray) : List (ByteArray × Value) → Option Value
  | [] => none
  | (q, v) :: r => if k = q then some v else lkE k r
/-- the map reads as these entries -/
def MapAt (h : Heap) (m : Value) (es : List (ByteArray × Value)) : Prop :=
  (m = .map none ∧ es = []) ∨ ∃ r L c, m = .map (some r) ∧ h[r]? = some (.map L c) ∧ mapEs L.toList = strEs es
@[reducible] def newM (h : Heap) (K : Nat → Heap → Prop) : Prop := ∀ m h', m = h.size → h' = h.push (.map #[] 0) → K m h'
@[reducible] def asM (v : Value) (K : Option Nat → Prop) : Prop := ∃ x, v = .map x ∧ K x
@[reducible] def ldM (h : Heap) (p : Addr) (K : Option Nat → Prop) : Prop := ∃ x, cl h p = some (.map x) ∧ K x
@[reducible] def hlM (S : Heap → Prop) (p : Addr) (K : Option Nat → Prop) : Prop := ∃ x, hld S p (.map x) ∧ K x
@[reducible] def lkS (h : Heap) (m : Value) (k : ByteArray) (z : Value) (K : Value → Prop) : Prop := ∃ es, MapAt h m es ∧ K ((lkE k es).getD z)
/-- a new key -/
@[reducible] def insS (h : Heap) (m : Value) (k : ByteArray) (v : Value) (K : Heap → Prop) : Prop :=
  ∃ r L c es, m = .map (some r) ∧ h[r]? = some (.map L c) ∧ mapEs L.toList = strEs es ∧ lkE k es = none ∧
    ∀ h' L' c', h' = h.setIfInBounds r (.map L' c') → mapEs L'.toList = strEs (es ++ [(k, v)]) → K h'
theorem ba_beq (a b : ByteArray) : (a == b) = decide (a = b) := by
  show (a.data == b.data) = _
  by_cases h : a = b
  · subst h; simp
  · have : ¬ a.data = b.data := fun e => h (ByteArray.ext e)
    rw [decide_eq_false h]
    simp [this]
theorem findNow_str (k : ByteArray) : ∀ (L : List MapEntry) (es : List (ByteArray × Value)) (i : Nat), mapEs L = strEs es →
    ∃ r, Instr.findNow .string (.string k) L i = some r ∧ (r.map (·.2)) = lkE k es
  | [], [], i, _ => ⟨none, rfl, rfl⟩
  | [], _ :: _, _, h => by simp [mapEs, strEs] at h
  | _ :: _, [], _, h => by simp [mapEs, strEs] at h
  | e :: L, (q, v) :: es, i, h => by
    simp only [mapEs, strEs, List.map_cons, List.cons.injEq, Prod.mk.injEq] at h
    obtain ⟨⟨h1, h2⟩, h3⟩ := h
    obtain ⟨r, e1, e2⟩ := findNow_str k L es (i + 1) h3
    unfold Instr.findNow
    rw [h1]
    simp only [Instr.sameNow, ba_beq]
    by_cases hk : k = q
    · subst hk
      simp [lkE, h2]
    · rw [decide_eq_false hk]
      simp only [lkE, if_neg hk]
      exact ⟨r, e1, e2⟩
theorem checkKey_str {P : Program} {w : World} {t : TypeId} (ht : P.underlying t = some .string) (b : Bool) (k : ByteArray) : (Instr.checkKey b 10000 t (.string k)).run P w = .ok () w := by
  unfold Instr.checkKey
  simp [underlying_run ht]
theorem findKey_str {P : Program} {w : World} {t : TypeId} (ht : P.underlying t = some .string) (k : ByteArray) {L : List MapEntry} {r : Option (Nat × Value)} (h : Instr.findNow .string (.string k) L 0 = some r) :
    (Instr.findKey t (.string k) L).run P w = .ok r w := by
  unfold Instr.findKey
  simp [underlying_run ht, h]
theorem getObj_map {P : Program} {w : World} {r : Nat} {L : Array MapEntry} {c : Nat} (hb : w.heap[r]? = some (.map L c)) : (getObj r).run P w = .ok (.map L c) w := by simp [getObj, Sem.run, hb]
theorem setObj_map {P : Program} {w : World} {r : Nat} {L : Array MapEntry} {c : Nat} (o : Obj) (hb : w.heap[r]? = some (.map L c)) : (setObj r o).run P w = .ok () { w with heap := w.heap.setIfInBounds r o } := by simp [setObj, Sem.run, hb]
section
variable {P : Program} {ops : Array Oper} {N : Act → World → Prop} {rest : List Oper} {a : Act} {w w0 : World} {n d : Nat} {E : List (Nat × Value)} {h : Heap} {o : Oper}
variable {ty : TypeId} {ps : String} {af : Array Edge} {g : Option (Nat × Bool)} {x y z : Operand} {v : Value} {t tk te : TypeId} {k : ByteArray} {p : Addr}
theorem ol_newM {K : Nat → Heap → Prop} (S : St n E h w0 a w) (H : newM h K) (hn : Nat.blt d n = true) (hg : GOk ops E g)
    (k : ∀ m a' w' h', K m h' → St n ((d, .map (some m)) :: E) h' w0 a' w' → OL P ops N rest a' w') : OL P ops N (⟨some d, .makeMap t none, ty, ps, af, g⟩ :: rest) a w := by
  have r : (execOp a.eval ⟨some d, .makeMap t none, ty, ps, af, g⟩).run P w = .ok (.value (.map (some h.size))) { w with heap := w.heap.push (.map #[] 0) } := by
    rw [← S.heap]
    simp [execOp, Instr.makeMap, newObj, Sem.run]
  exact OL.val S r rfl hn (by rw [← S.heap]) ⟨rfl, rfl, rfl⟩ hg fun a' S' => k _ a' _ _ (H _ _ rfl rfl) S'
theorem run_lkS {m : Value} {es : List (ByteArray × Value)} {zv : Value} {s b : Nat} (ht : P.underlying t = some (.map tk te)) (hk : P.underlying tk = some .string) (hz : tinfo P te = some (some zv, s, b)) (hx : a.eval x = m) (hy : a.eval y = .string k)
    (hm : MapAt w.heap m es) : (execOp a.eval ⟨some d, .lookup t x y false, ty, ps, af, g⟩).run P w = .ok (.value ((lkE k es).getD zv)) w := by
  rcases hm with ⟨rfl, rfl⟩ | ⟨r, L, c, rfl, hr, hL⟩
  · simp [execOp, hx, hy, Instr.lookup, underlying_run ht, checkKey_str hk, findKey_str hk k (L := []) (r := none) rfl, zeroValue_run hz, lkE]
  · obtain ⟨q, e1, e2⟩ := findNow_str k L.toList es 0 hL
    cases q with
    | none =>
      simp at e2
      simp [execOp, hx, hy, Instr.lookup, underlying_run ht, checkKey_str hk, getObj_map hr, findKey_str hk k e1, zeroValue_run hz, ← e2]
    | some iv =>
      simp at e2
      simp [execOp, hx, hy, Instr.lookup, underlying_run ht, checkKey_str hk, getObj_map hr, findKey_str hk k e1, ← e2]
theorem ol_lkS {m : Value} {zv : Value} {s b : Nat} {K : Value → Prop} (S : St n E h w0 a w) (H : lkS h m k zv K) (ht : P.underlying t = some (.map tk te)) (hk : P.underlying tk = some .string) (hz : tinfo P te = some (some zv, s, b)) (hx : evo E x = some m) (hy : evo E y = some (.string k))
    (hn : Nat.blt d n = true) (hg : GOk ops E g) (kk : ∀ v a', K v → St n ((d, v) :: E) h w0 a' w → OL P ops N rest a' w) : OL P ops N (⟨some d, .lookup t x y false, ty, ps, af, g⟩ :: rest) a w := by
  obtain ⟨es, hm, hK⟩ := H
  exact OL.val S (run_lkS ht hk hz (S.ev hx) (S.ev hy) (by rw [S.heap]; exact hm)) rfl hn S.heap (Rest.refl w) hg fun a' S' => kk _ a' hK S'
theorem ol_insS {m : Value} {K : Heap → Prop} (S : St n E h w0 a w) (H : insS h m k v K) (ht : P.underlying t = some (.map tk te)) (hk : P.underlying tk = some .string) (hx : evo E x = some m) (hy : evo E y = some (.string k)) (hv : evo E z = some v)
    (hg : GOk ops E g) (kk : ∀ a' w' h', K h' → St n E h' w0 a' w' → OL P ops N rest a' w') : OL P ops N (⟨none, .insert t x y z, ty, ps, af, g⟩ :: rest) a w := by
  obtain ⟨r, L, c, es, rfl, hr, hL, hno, hK⟩ := H
  rw [← S.heap] at hr
  obtain ⟨q, e1, e2⟩ := findNow_str k L.toList es 0 hL
  rw [hno] at e2
  have hq : q = none := by cases q with | none => rfl | some _ => simp at e2
  subst hq
  have run : (execOp a.eval ⟨none, .insert t x y z, ty, ps, af, g⟩).run P w = .ok .skip { w with heap := w.heap.setIfInBounds r (.map (L.push ⟨.string k, v, c⟩) (c + 1)) } := by
    simp [execOp, S.ev hx, S.ev hy, S.ev hv, Instr.mapUpdate, underlying_run ht, checkKey_str hk, getObj_map hr, findKey_str hk k e1, setObj_map _ hr]
  refine OL.eff S run rfl rfl ⟨rfl, rfl, rfl⟩ hg fun a' S' => kk a' _ _ (hK _ (L.push ⟨.string k, v, c⟩) (c + 1) (by rw [S.heap]) ?_) S'
  simp only [mapEs, strEs, Array.toList_push, List.map_append] at hL ⊢
  rw [hL]
  rfl
end
end Go.Lf

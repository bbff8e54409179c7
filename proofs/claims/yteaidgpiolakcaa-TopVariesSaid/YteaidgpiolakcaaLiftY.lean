/-
  Least and greatest of two; maps: how many entries, a key set, a key asked for, all entries in whatever order.
-/
import Derived.Test.YteaidgpiolakcaaLiftQ
namespace Go.Lf
open Go

section
variable {P : Program} {a : Act} {w : World} {d : Option Tmp} {ty : TypeId} {ps : String} {af : Array Edge} {g : Option (Nat × Bool)} {x y : Operand} {t t' : TypeId} {k : IntKind} {u v : Int}
theorem run_min (hx : a.eval x = .int k u) (hy : a.eval y = .int k v) : (execOp a.eval ⟨d, .call { callee := .builtin .min, args := #[x, y], argTypes := #[t, t'] }, ty, ps, af, g⟩).run P w = .ok (.value (.int k (if v < u then v else u))) w := by
  simp [execOp, resolve, invoke, builtin, hx, hy, Builtin.min_, Builtin.min2]
theorem run_max (hx : a.eval x = .int k u) (hy : a.eval y = .int k v) : (execOp a.eval ⟨d, .call { callee := .builtin .max, args := #[x, y], argTypes := #[t, t'] }, ty, ps, af, g⟩).run P w = .ok (.value (.int k (if v > u then v else u))) w := by
  simp [execOp, resolve, invoke, builtin, hx, hy, Builtin.max_, Builtin.max2]
end

/-! ### propositions -/
def updE (k : ByteArray) (v : Value) : List (ByteArray × Value) → List (ByteArray × Value)
  | [] => [(k, v)]
  | (q, u) :: r => if k = q then (k, v) :: r else (q, u) :: updE k v r
/-- an entry's stamp is its own -/
def Stamps (L : Array MapEntry) (c : Nat) : Prop := (L.toList.map (·.born)).Nodup ∧ ∀ e ∈ L, e.born < c
@[reducible] def lenM (h : Heap) (m : Value) (K : Int → Prop) : Prop := ∃ es, MapAt h m es ∧ K ((es.length : Nat) : Int)
@[reducible] def updS (h : Heap) (m : Value) (k : ByteArray) (v : Value) (K : Heap → Prop) : Prop :=
  ∃ r L c es, m = .map (some r) ∧ h[r]? = some (.map L c) ∧ mapEs L.toList = strEs es ∧
    ∀ h' L' c', h' = h.setIfInBounds r (.map L' c') → mapEs L'.toList = strEs (updE k v es) → (Stamps L c → Stamps L' c') → K h'
@[reducible] def lkO (h : Heap) (m : Value) (k : ByteArray) (z : Value) (K : Value → Bool → Prop) : Prop := ∃ es, MapAt h m es ∧ K ((lkE k es).getD z) (lkE k es).isSome
@[reducible] def rngM (h : Heap) (m : Value) (K : Nat → Heap → Prop) : Prop :=
  ∃ r L c, m = .map (some r) ∧ h[r]? = some (.map L c) ∧ ∀ it h', it = h.size → h' = h.push (.mapIter (some r) c #[] c) → K it h'
def leftM (L : Array MapEntry) (seen : Array Nat) : Array MapEntry := L.filter fun e => !seen.contains e.born
@[reducible] def nxtM (h : Heap) (it : Nat) (K : Array Value → Heap → Prop) : Prop :=
  ∃ r since seen L, h[it]? = some (.mapIter (some r) since seen since) ∧ h[r]? = some (.map L since) ∧ (∀ e ∈ L, e.born < since) ∧
    (leftM L seen = #[] → K #[.bool false] h) ∧
    ∀ e ∈ leftM L seen, ∀ h', h' = h.setIfInBounds it (.mapIter (some r) since (seen.push e.born) since) → K #[.bool true, e.key, e.val] h'
@[reducible] def entM (h : Heap) (it : Nat) (K : Value → Value → Prop) : Prop :=
  ∃ r since seen L c e, h[it]? = some (.mapIter (some r) since seen c) ∧ seen.back? = some e.born ∧ h[r]? = some (.map L c) ∧ L.find? (·.born == e.born) = some e ∧ K e.key e.val

/-! ### steps -/
theorem findNow_upd (k : ByteArray) (v : Value) : ∀ (L : List MapEntry) (es : List (ByteArray × Value)) (i : Nat), mapEs L = strEs es → ∀ j u, Instr.findNow .string (.string k) L i = some (some (j, u)) →
    ∃ q, j = i + q ∧ mapEs (L.modify q fun e => { e with key := .string k, val := v }) = strEs (updE k v es) ∧ (L[q]?).map (·.key) = some (.string k)
  | [], [], i, _ => by intro j u h; simp [Instr.findNow] at h
  | [], _ :: _, _, h => by simp [mapEs, strEs] at h
  | _ :: _, [], _, h => by simp [mapEs, strEs] at h
  | e :: L, (q, w) :: es, i, h => by
    intro j u hf
    simp only [mapEs, strEs, List.map_cons, List.cons.injEq, Prod.mk.injEq] at h
    obtain ⟨⟨h1, h2⟩, h3⟩ := h
    unfold Instr.findNow at hf
    rw [h1] at hf
    simp only [Instr.sameNow, ba_beq] at hf
    by_cases hk : k = q
    · subst hk
      simp at hf
      refine ⟨0, by omega, ?_, by simp [h1]⟩
      simp only [updE, if_pos, mapEs, strEs, List.modify_zero_cons, List.map_cons]
      exact congrArg _ h3
    · rw [decide_eq_false hk] at hf
      obtain ⟨p, e1, e2, e3⟩ := findNow_upd k v L es (i + 1) h3 j u hf
      refine ⟨p + 1, by omega, ?_, by simpa using e3⟩
      simp only [updE, if_neg hk, List.modify_succ_cons, mapEs, strEs, List.map_cons, h1, h2]
      exact congrArg _ e2
theorem updE_none (k : ByteArray) (v : Value) : ∀ es : List (ByteArray × Value), lkE k es = none → updE k v es = es ++ [(k, v)]
  | [], _ => rfl
  | (q, u) :: r, h => by
    unfold lkE at h
    by_cases hk : k = q
    · rw [if_pos hk] at h; cases h
    · rw [if_neg hk] at h
      simp only [updE, if_neg hk, List.cons_append, updE_none k v r h]
theorem strEs_len {L : List MapEntry} {es : List (ByteArray × Value)} (h : mapEs L = strEs es) : L.length = es.length := by
  have := congrArg List.length h
  simpa [mapEs, strEs] using this
theorem born_modify (L : List MapEntry) (q : Nat) (k v : Value) : (L.modify q fun e => { e with key := k, val := v }).map (·.born) = L.map (·.born) := by
  induction L generalizing q with
  | nil => simp
  | cons e L ih => cases q <;> simp [ih]
section
variable {P : Program} {ops : Array Oper} {N : Act → World → Prop} {rest : List Oper} {a : Act} {w w0 : World} {n d : Nat} {E : List (Nat × Value)} {h : Heap} {o : Oper}
variable {ty : TypeId} {ps : String} {af : Array Edge} {g : Option (Nat × Bool)} {x y z : Operand} {v : Value} {t tk te : TypeId} {k : ByteArray} {p : Addr}
theorem ol_lenM {m : Value} {K : Int → Prop} (S : St n E h w0 a w) (H : lenM h m K) (ht : P.underlying t = some (.map tk te)) (hx : evo E x = some m)
    (hn : Nat.blt d n = true) (hg : GOk ops E g) (kk : ∀ u a', K u → St n ((d, .int .i64 u) :: E) h w0 a' w → OL P ops N rest a' w) : OL P ops N (⟨some d, .call { callee := .builtin .len, args := #[x], argTypes := #[t] }, ty, ps, af, g⟩ :: rest) a w := by
  obtain ⟨es, hm, hK⟩ := H
  have r : (execOp a.eval ⟨some d, .call { callee := .builtin .len, args := #[x], argTypes := #[t] }, ty, ps, af, g⟩).run P w = .ok (.value (.int .i64 ((es.length : Nat) : Int))) w := by
    have hx' := S.ev hx
    rcases hm with ⟨rfl, rfl⟩ | ⟨r, L, c, rfl, hr, hL⟩
    · simp [execOp, resolve, invoke, builtin, hx', Builtin.len_, underlying_run ht, goInt]
    · rw [← S.heap] at hr
      have hl := strEs_len hL
      simp [execOp, resolve, invoke, builtin, hx', Builtin.len_, underlying_run ht, getObj_map hr, goInt]
      have hl' : L.size = es.length := by simpa using hl
      omega
  exact OL.val S r rfl hn S.heap (Rest.refl w) hg fun a' S' => kk _ a' hK S'
theorem ol_updS {m : Value} {K : Heap → Prop} (S : St n E h w0 a w) (H : updS h m k v K) (ht : P.underlying t = some (.map tk te)) (hk : P.underlying tk = some .string) (hx : evo E x = some m) (hy : evo E y = some (.string k)) (hv : evo E z = some v)
    (hg : GOk ops E g) (kk : ∀ a' w' h', K h' → St n E h' w0 a' w' → OL P ops N rest a' w') : OL P ops N (⟨none, .mapUpdate t x y z, ty, ps, af, g⟩ :: rest) a w := by
  obtain ⟨r, L, c, es, rfl, hr, hL, hK⟩ := H
  rw [← S.heap] at hr
  obtain ⟨q, e1, e2⟩ := findNow_str k L.toList es 0 hL
  cases q with
  | none =>
    have hno : lkE k es = none := by simpa using e2.symm
    have run : (execOp a.eval ⟨none, .mapUpdate t x y z, ty, ps, af, g⟩).run P w = .ok .skip { w with heap := w.heap.setIfInBounds r (.map (L.push ⟨.string k, v, c⟩) (c + 1)) } := by
      simp [execOp, S.ev hx, S.ev hy, S.ev hv, Instr.mapUpdate, underlying_run ht, checkKey_str hk, getObj_map hr, findKey_str hk k e1, setObj_map _ hr]
    refine OL.eff S run rfl rfl ⟨rfl, rfl, rfl⟩ hg fun a' S' => kk a' _ _ (hK _ (L.push ⟨.string k, v, c⟩) (c + 1) (by rw [S.heap]) ?_ ?_) S'
    · rw [updE_none k v es hno]
      simp only [mapEs, strEs, Array.toList_push, List.map_append] at hL ⊢
      rw [hL]
      rfl
    · rintro ⟨h1, h2⟩
      refine ⟨?_, fun e he => ?_⟩
      · rw [Array.toList_push, List.map_append]
        refine List.nodup_append.2 ⟨h1, by simp, ?_⟩
        intro b hb b' hb' e
        obtain ⟨e', he', rfl⟩ := List.mem_map.1 hb
        have := h2 e' (by simpa using he')
        simp at hb'
        omega
      · rcases Array.mem_push.1 he with he | rfl
        · have := h2 e he; omega
        · exact Nat.lt_succ_self _
  | some iu =>
    obtain ⟨j, u⟩ := iu
    obtain ⟨q, rfl, e3, e4⟩ := findNow_upd k v L.toList es 0 hL j u e1
    rw [Nat.zero_add] at e1
    have hkey : (L[q]?).map (·.key) = some (.string k) := by rw [← Array.getElem?_toList]; exact e4
    have run : (execOp a.eval ⟨none, .mapUpdate t x y z, ty, ps, af, g⟩).run P w = .ok .skip { w with heap := w.heap.setIfInBounds r (.map (L.modify q fun e => { e with key := .string k, val := v }) c) } := by
      simp [execOp, S.ev hx, S.ev hy, S.ev hv, Instr.mapUpdate, underlying_run ht, checkKey_str hk, getObj_map hr, findKey_str hk k e1, setObj_map _ hr, hkey, Instr.keyThatStays, Instr.sameBits, ba_beq]
    refine OL.eff S run rfl rfl ⟨rfl, rfl, rfl⟩ hg fun a' S' => kk a' _ _ (hK _ (L.modify q fun e => { e with key := .string k, val := v }) c (by rw [S.heap]) ?_ ?_) S'
    · rw [Array.toList_modify]; exact e3
    · rintro ⟨h1, h2⟩
      have hb := born_modify L.toList q (.string k) v
      refine ⟨by rw [Array.toList_modify, hb]; exact h1, fun e he => ?_⟩
      have : e.born ∈ (L.modify q fun e => { e with key := .string k, val := v }).toList.map (·.born) := List.mem_map.2 ⟨e, Array.mem_toList_iff.2 he, rfl⟩
      rw [Array.toList_modify, hb] at this
      obtain ⟨e', he', hbe⟩ := List.mem_map.1 this
      rw [← hbe]
      exact h2 e' (by simpa using he')
theorem ol_lkO {m : Value} {zv : Value} {s b : Nat} {K : Value → Bool → Prop} (S : St n E h w0 a w) (H : lkO h m k zv K) (ht : P.underlying t = some (.map tk te)) (hk : P.underlying tk = some .string) (hz : tinfo P te = some (some zv, s, b)) (hx : evo E x = some m) (hy : evo E y = some (.string k))
    (hn : Nat.blt d n = true) (hg : GOk ops E g) (kk : ∀ v u a', K v u → St n ((d, .tuple #[v, .bool u]) :: E) h w0 a' w → OL P ops N rest a' w) : OL P ops N (⟨some d, .lookup t x y true, ty, ps, af, g⟩ :: rest) a w := by
  obtain ⟨es, hm, hK⟩ := H
  have r : (execOp a.eval ⟨some d, .lookup t x y true, ty, ps, af, g⟩).run P w = .ok (.value (.tuple #[(lkE k es).getD zv, .bool (lkE k es).isSome])) w := by
    have hx' := S.ev hx
    have hy' := S.ev hy
    rcases hm with ⟨rfl, rfl⟩ | ⟨r, L, c, rfl, hr, hL⟩
    · simp [execOp, hx', hy', Instr.lookup, underlying_run ht, checkKey_str hk, findKey_str hk k (L := []) (r := none) rfl, zeroValue_run hz, lkE]
    · rw [← S.heap] at hr
      obtain ⟨q, e1, e2⟩ := findNow_str k L.toList es 0 hL
      cases q with
      | none =>
        simp at e2
        simp [execOp, hx', hy', Instr.lookup, underlying_run ht, checkKey_str hk, getObj_map hr, findKey_str hk k e1, zeroValue_run hz, ← e2]
      | some iv =>
        simp at e2
        simp [execOp, hx', hy', Instr.lookup, underlying_run ht, checkKey_str hk, getObj_map hr, findKey_str hk k e1, ← e2]
  exact OL.val S r rfl hn S.heap (Rest.refl w) hg fun a' S' => kk _ _ a' hK S'
theorem ol_rngM {m : Value} {K : Nat → Heap → Prop} (S : St n E h w0 a w) (H : rngM h m K) (ht : P.underlying t = some (.map tk te)) (hx : evo E x = some m)
    (hn : Nat.blt d n = true) (hg : GOk ops E g) (kk : ∀ it a' w' h', K it h' → St n ((d, .pointer (some ⟨it, 0, none⟩)) :: E) h' w0 a' w' → OL P ops N rest a' w') : OL P ops N (⟨some d, .range t x, ty, ps, af, g⟩ :: rest) a w := by
  obtain ⟨r, L, c, rfl, hr, hK⟩ := H
  rw [← S.heap] at hr
  have hx' := S.ev hx
  have run : (execOp a.eval ⟨some d, .range t x, ty, ps, af, g⟩).run P w = .ok (.value (.pointer (some ⟨h.size, 0, none⟩))) { w with heap := w.heap.push (.mapIter (some r) c #[] c) } := by
    have hs := congrArg Array.size S.heap
    simp [execOp, hx', Instr.range, underlying_run ht, getObj_map hr, newObj, Sem.run]
    try exact hs
  exact OL.val S run rfl hn (by rw [← S.heap]) ⟨rfl, rfl, rfl⟩ hg fun a' S' => kk _ a' _ _ (hK _ _ rfl rfl) S'
theorem getObj_it {r : Nat} {m : Option Nat} {s l : Nat} {q : Array Nat} (hb : w.heap[r]? = some (.mapIter m s q l)) : (getObj r).run P w = .ok (.mapIter m s q l) w := by simp [getObj, Sem.run, hb]
theorem setObj_it {r : Nat} {m : Option Nat} {s l : Nat} {q : Array Nat} (o : Obj) (hb : w.heap[r]? = some (.mapIter m s q l)) : (setObj r o).run P w = .ok () { w with heap := w.heap.setIfInBounds r o } := by simp [setObj, Sem.run, hb]
theorem next_run {it r since : Nat} {seen : Array Nat} {L : Array MapEntry} (h1 : w.heap[it]? = some (.mapIter (some r) since seen since)) (h2 : w.heap[r]? = some (.map L since)) (hb : ∀ e ∈ L, e.born < since) (ty : TypeId) :
    (leftM L seen = #[] → (Instr.next (.pointer (some ⟨it, 0, none⟩)) false ty).run P w = .ok (.tuple #[.bool false]) w) ∧
    (leftM L seen ≠ #[] → ∃ e ∈ leftM L seen, ∃ w', (Instr.next (.pointer (some ⟨it, 0, none⟩)) false ty).run P w = .ok (.tuple #[.bool true, e.key, e.val]) w' ∧ w'.heap = w.heap.setIfInBounds it (.mapIter (some r) since (seen.push e.born) since) ∧ Rest w w') := by
  have hc : (!seen.isEmpty && !L.isEmpty && L.all fun e => decide (e.born ≥ since)) = false := by
    cases hL : L.isEmpty with
    | true => simp
    | false =>
      have : (L.all fun e => decide (e.born ≥ since)) = false := by
        have hpos : 0 < L.size := by
          rcases Nat.eq_zero_or_pos L.size with h | h
          · rw [Array.isEmpty_iff_size_eq_zero.2 h] at hL; cases hL
          · exact h
        rw [Array.all_eq_false]
        have := hb L[0] (Array.getElem_mem hpos)
        exact ⟨0, hpos, by simpa using this⟩
      rw [this]; simp
  have hlb : ∀ e ∈ leftM L seen, e.born < since := fun e he => hb e (Array.mem_filter.1 he).1
  have hold : (leftM L seen).filter (fun e => decide (e.born < since)) = leftM L seen := Array.filter_eq_self.2 fun e he => by simpa using hlb e he
  have hnew : (leftM L seen).filter (fun e => decide (e.born ≥ since)) = #[] := by
    rw [Array.filter_eq_empty_iff]
    intro e he
    have := hlb e he
    simpa using this
  have hl : (L.filter fun e => !seen.contains e.born) = leftM L seen := rfl
  refine ⟨fun h => ?_, fun h => ?_⟩
  · unfold Instr.next
    simp only [Sem.run_bind, getObj_it h1, Result.andThen_ok, getObj_map h2, hc, hl, h]
    simp [Question.forced]
  · have hpos : 0 < (leftM L seen).size := by
      rcases Nat.eq_zero_or_pos (leftM L seen).size with q | q
      · exact absurd (Array.eq_empty_of_size_eq_zero q) h
      · exact q
    have hne : (leftM L seen).isEmpty = false := by simpa using h
    by_cases hle : (leftM L seen).size ≤ 1
    · refine ⟨(leftM L seen)[0], Array.getElem_mem hpos, { w with heap := w.heap.setIfInBounds it (.mapIter (some r) since (seen.push (leftM L seen)[0].born) since) }, ?_, rfl, ⟨rfl, rfl, rfl⟩⟩
      unfold Instr.next
      simp only [Sem.run_bind, getObj_it h1, Result.andThen_ok, getObj_map h2, hc, hl, hold, hnew, hne]
      simp [Question.forced, hle, hpos, setObj_it _ h1]
    · have hj : w.tape w.drawn (.mapNext (leftM L seen).size) % (leftM L seen).size < (leftM L seen).size := Nat.mod_lt _ hpos
      refine ⟨(leftM L seen)[w.tape w.drawn (.mapNext (leftM L seen).size) % (leftM L seen).size], Array.getElem_mem hj, { w.drew with heap := w.heap.setIfInBounds it (.mapIter (some r) since (seen.push (leftM L seen)[w.tape w.drawn (.mapNext (leftM L seen).size) % (leftM L seen).size].born) since) }, ?_, rfl, ⟨rfl, rfl, rfl⟩⟩
      have h1' : w.drew.heap[it]? = some (.mapIter (some r) since seen since) := h1
      unfold Instr.next
      simp only [Sem.run_bind, getObj_it h1, Result.andThen_ok, getObj_map h2, hc, hl, hold, hnew, hne]
      simp [Question.forced, Question.cut, hle, hj, setObj_it _ h1']
      rfl
theorem ol_nxtM {it : Nat} {K : Array Value → Heap → Prop} (S : St n E h w0 a w) (H : nxtM h it K) (hx : evo E x = some (.pointer (some ⟨it, 0, none⟩)))
    (hn : Nat.blt d n = true) (hg : GOk ops E g) (kk : ∀ V a' w' h', K V h' → St n ((d, .tuple V) :: E) h' w0 a' w' → OL P ops N rest a' w') : OL P ops N (⟨some d, .next x false, ty, ps, af, g⟩ :: rest) a w := by
  obtain ⟨r, since, seen, L, h1, h2, hb, hdone, hmore⟩ := H
  rw [← S.heap] at h1 h2
  have hx' := S.ev hx
  obtain ⟨n1, n2⟩ := next_run (P := P) h1 h2 hb ty
  by_cases hl : leftM L seen = #[]
  · have run : (execOp a.eval ⟨some d, .next x false, ty, ps, af, g⟩).run P w = .ok (.value (.tuple #[.bool false])) w := by
      simp [execOp, hx', n1 hl]
    exact OL.val S run rfl hn S.heap (Rest.refl w) hg fun a' S' => kk _ a' _ _ (hdone hl) S'
  · obtain ⟨e, he, w', r1, r2, r3⟩ := n2 hl
    have run : (execOp a.eval ⟨some d, .next x false, ty, ps, af, g⟩).run P w = .ok (.value (.tuple #[.bool true, e.key, e.val])) w' := by
      simp [execOp, hx', r1]
    rw [S.heap] at r2
    exact OL.val S run rfl hn r2 r3 hg fun a' S' => kk _ a' _ _ (hmore e he _ rfl) S'
theorem ol_entM {it : Nat} {K : Value → Value → Prop} (S : St n E h w0 a w) (H : entM h it K) (hx : evo E x = some (.pointer (some ⟨it, 0, none⟩)))
    (hn : Nat.blt d n = true) (hg : GOk ops E g) (kk : ∀ u v a', K u v → St n ((d, .tuple #[u, v]) :: E) h w0 a' w → OL P ops N rest a' w) : OL P ops N (⟨some d, .entry x, ty, ps, af, g⟩ :: rest) a w := by
  obtain ⟨r, since, seen, L, c, e, h1, h2, h3, h4, hK⟩ := H
  rw [← S.heap] at h1 h3
  have hx' := S.ev hx
  have run : (execOp a.eval ⟨some d, .entry x, ty, ps, af, g⟩).run P w = .ok (.value (.tuple #[e.key, e.val])) w := by
    simp [execOp, hx', Instr.entry, getObj_it h1, h2, getObj_map h3, h4]
  exact OL.val S run rfl hn S.heap (Rest.refl w) hg fun a' S' => kk _ _ a' hK S'
end
end Go.Lf

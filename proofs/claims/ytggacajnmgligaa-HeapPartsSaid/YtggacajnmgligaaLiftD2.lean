/-
  Which operations write nothing that was there; regions whose order is drawn.
-/
import Derived.Test.YtggacajnmgligaaLiftD
namespace Go.Lf
open Go

theorem calm_eqGuardIn {P : Program} {t : TypeId} {td : TypeDesc} (x y : Value) (ht : P.underlying t = some td) (hd : match td with | .struct _ | .array _ _ | .interface _ => False | _ => True) : calm P (Op.eqGuardIn Op.maxDepth t x y) := by
  show calm P (Op.eqGuardIn (9999 + 1) t x y)
  rw [Op.eqGuardIn]
  refine calm_underlying_bind ht ?_
  split
  · exact hd.elim
  · exact hd.elim
  · exact hd.elim
  · exact calm_pure _
theorem calm_eqGuard {P : Program} {t : TypeId} {td : TypeDesc} (op : BinOp) (a b : Operand) (x y : Value) (ht : P.underlying t = some td) (hd : match td with | .struct _ | .array _ _ | .interface _ => False | _ => True) : calm P (eqGuard op t a b x y) := by
  have hg := calm_eqGuardIn (P := P) x y ht hd
  unfold eqGuard
  repeat' (first | with_reducible exact calm_pure _ | with_reducible exact calm_unsupported _ | with_reducible exact hg | (with_reducible refine calm_ite _ _ _ ?_ ?_) | (with_reducible refine calm_bind' _ _ ?_ fun _ => ?_) | exact calm_program | split)
theorem calm_binOp {P : Program} {t : TypeId} (op : BinOp) (x y : Value) (hE : calm P (Op.equal t x y)) : calm P (binOp op t x y) := by
  unfold binOp
  split <;> repeat' (first | with_reducible exact calm_pure _ | with_reducible exact calm_stuck _ | with_reducible exact calm_unsupported _ | with_reducible exact calm_shift _ _ _ _ _ | with_reducible exact calm_intArith _ _ _ _ | with_reducible exact calm_intDiv _ _ _ _ | with_reducible exact calm_intBits _ _ _ _ | with_reducible exact calm_intCmp _ _ _ | with_reducible exact calm_floatArith _ _ _ _ | with_reducible exact calm_floatCmp _ _ _ _ | with_reducible exact calm_complexOp _ _ _ _ _ _ | with_reducible exact calm_stringOp _ _ _ | with_reducible exact hE | with_reducible exact calm_movedPointer _ _ _ | with_reducible exact calm_movedNumber _ _ _ | with_reducible exact calm_behindNumber _ | with_reducible exact calm_addrMod _ _ _ | with_reducible exact calm_underlying _ | (unfold Op.addrSub; refine calm_bind' _ _ (calm_twoPlaces _ _) fun _ => ?_; exact calm_pure _) | (unfold Op.addrCmp; refine calm_bind' _ _ (calm_twoPlaces _ _) fun _ => ?_; (split <;> first | exact calm_pure _ | exact calm_unsupported _)) | (with_reducible refine calm_ite _ _ _ ?_ ?_) | (with_reducible refine calm_bind' _ _ ?_ fun _ => ?_) | split)

/-- operations that write nothing that was there, by their kind -/
def calmOp (P : Program) (o : Oper) : Bool :=
  match o.op with
  | .move _ | .assign _ | .pick .. | .box .. | .load .. | .indexAddr .. | .extract .. => true
  | .fieldAddr s _ i => (fieldT P s i).isSome
  | .binOp _ t _ _ _ => match P.underlying t with
    | some (.int _) | some .bool => true
    | _ => false
  | .unOp .not _ _ => true
  | .convert s d _ => match P.underlying s, P.underlying d with
    | some (.int _), some (.int _) => true
    | _, _ => false
  | .nilCheck _ => true
  | .buildSlice .. => true
  | _ => false

/-- a value, or no end -/
def valOnly (P : Program) (s : Sem Next) : Prop := ∀ w, match s.run P w with
  | .ok (.value _) _ | .halt _ _ => True
  | _ => False

theorem valOnly_v {P : Program} (s : Sem Value) : valOnly P (do pure (.value (← s))) := by
  intro w
  have e : (do pure (Next.value (← s)) : Sem Next) = s.bind fun v => .pure (.value v) := rfl
  rw [e, Sem.run_bind']
  cases s.run P w <;> simp [Sem.run]
theorem calm_v {P : Program} {s : Sem Value} (h : calm P s) : calm P (do pure (.value (← s)) : Sem Next) := calm_bind' _ _ h fun _ => calm_pure _

theorem calm_part {P : Program} (t : TypeId) (cs : Array Value) (o : Nat) : calm P (part t cs o) := by
  unfold part
  repeat' (first | with_reducible exact calm_pure _ | with_reducible exact calm_stuck _ | with_reducible exact calm_isAgg _ | with_reducible exact calm_sizeOf _ | (with_reducible refine calm_bind' _ _ ?_ fun _ => ?_) | split)
theorem calm_followBlind {P : Program} : ∀ (l : List FieldStep) (t : TypeId) (x : Option Value), calm P (followBlind l t x)
  | [], _, _ => trivial
  | s :: rest, t, x => by
    unfold followBlind
    repeat' (first | with_reducible exact calm_pure _ | with_reducible exact calm_stuck _ | with_reducible exact calm_underlying _ | with_reducible exact calm_part _ _ _ | with_reducible exact calm_followBlind _ _ _ | (with_reducible refine calm_bind' _ _ ?_ fun _ => ?_) | split)
theorem calm_nilAhead {P : Program} : ∀ (n : Nat) (t : TypeId) (v : Value) (s : String), calm P (nilAhead n t v s)
  | 0, _, _, _ => trivial
  | n + 1, t, v, s => by
    unfold nilAhead
    repeat' (first | with_reducible exact calm_pure _ | with_reducible exact calm_stuck _ | with_reducible exact calm_underlying _ | with_reducible exact calm_typeInfo _ | with_reducible exact calm_followBlind _ _ _ | with_reducible exact calm_nilAhead _ _ _ _ | (with_reducible refine calm_bind' _ _ ?_ fun _ => ?_) | split)
theorem valOnly_bind {P : Program} {α : Type} (s : Sem α) {f : α → Sem Next} (h : ∀ a, valOnly P (f a)) : valOnly P (s.bind f) := by
  intro w
  rw [Sem.run_bind']
  cases s.run P w with
  | ok a w' => exact h a w'
  | halt => trivial
theorem valOnly_pure {P : Program} (v : Value) : valOnly P (pure (.value v)) := fun _ => trivial

theorem calmOp_calm {P : Program} {o : Oper} (h : calmOp P o = true) (ρ : Operand → Value) : calm P (execOp ρ o) ∧ valOnly P (execOp ρ o) := by
  obtain ⟨d, op, ty, ps, af, g⟩ := o
  unfold calmOp at h
  cases op <;> simp only at h <;> try (cases h; done)
  case move x => exact ⟨calm_pure _, fun w => trivial⟩
  case assign x => exact ⟨calm_pure _, fun w => trivial⟩
  case pick c a b => exact ⟨calm_bind' _ _ (calm_asBool _) fun _ => calm_pure _, valOnly_bind _ fun _ => valOnly_pure _⟩
  case box e v => exact ⟨calm_v (by unfold Instr.box; exact calm_bind' _ _ (calm_newVar _ _) fun _ => calm_pure _), valOnly_v _⟩
  case load t a => exact ⟨calm_v (by unfold Instr.loadAt; exact calm_bind' _ _ (calm_sureAddr _) fun _ => calm_loadVar _ _), valOnly_v _⟩
  case extract t i => exact ⟨calm_v (by unfold Instr.extract; repeat' (first | exact calm_pure _ | exact calm_stuck _ | split)), valOnly_v _⟩
  case indexAddr t x i =>
    refine ⟨calm_v ?_, valOnly_v _⟩
    unfold Instr.indexAt
    repeat' (first | with_reducible exact calm_pure _ | with_reducible exact calm_stuck _ | with_reducible exact calm_unsupported _ | with_reducible exact calm_asIntOf _ | with_reducible exact calm_underlying _ | with_reducible exact calm_sureAddr _ | with_reducible exact calm_sizeOf _ | with_reducible exact calm_boundsPanic _ _ _ _ | (with_reducible refine calm_ite _ _ _ ?_ ?_) | (with_reducible refine calm_bind' _ _ ?_ fun _ => ?_) | split | dsimp only)
  case fieldAddr s x i =>
    refine ⟨calm_v ?_, valOnly_v _⟩
    unfold fieldT at h
    unfold Instr.fieldAt
    split at h
    · rename_i fs hu
      refine calm_underlying_bind hu ?_
      split at h
      · rename_i f hf
        simp only [hf]
        refine calm_bind' _ _ (calm_sureAddr _) fun a => calm_bind' _ _ ?_ fun _ => calm_pure _
        split at h
        · rename_i j hj
          split at h
          · cases h
          · rename_i hz
            unfold fieldPlace sizeOf typeInfo
            show calm P ((match P.info? f.type with | some i => (Pure.pure i : Sem TypeInfo) | none => stuck "no such type") >>= _ >>= _)
            rw [hj]
            show calm P (if j.size = 0 then _ else _)
            rw [if_neg hz]
            exact calm_pure _
        · cases h
      · cases h
    · cases h
  case binOp op t x y u =>
    refine ⟨calm_v ?_, valOnly_v _⟩
    split at h
    · rename_i k hu
      exact calm_bind' _ _ (calm_eqGuard _ _ _ _ _ hu trivial) fun _ => calm_binOp _ _ _ (calm_equal_int _ _ hu)
    · rename_i hu
      exact calm_bind' _ _ (calm_eqGuard _ _ _ _ _ hu trivial) fun _ => calm_binOp _ _ _ (calm_equal_bool _ _ hu)
    · cases h
  case unOp op t x =>
    cases op <;> simp only at h <;> try (cases h; done)
    refine ⟨calm_v ?_, valOnly_v _⟩
    unfold Op.unary
    repeat' (first | exact calm_pure _ | exact calm_stuck _ | exact calm_unsupported _ | split)
  case convert s d x =>
    refine ⟨calm_v ?_, valOnly_v _⟩
    split at h
    · rename_i hs hd
      unfold convert
      refine calm_underlying_bind hs (calm_underlying_bind hd ?_)
      split <;> first
        | contradiction
        | (unfold Conv.intToInt; exact calm_pure _)
        | (unfold Conv.floatToInt; repeat' (first | with_reducible exact calm_pure _ | with_reducible exact calm_stuck _ | with_reducible exact calm_unsupported _ | with_reducible exact calm_choose _ | (with_reducible refine calm_ite _ _ _ ?_ ?_) | (with_reducible refine calm_bind' _ _ ?_ fun _ => ?_) | split | dsimp only))
        | exact calm_unsupported _
    · cases h
  case nilCheck x =>
    simp only [execOp]
    split
    · exact ⟨calm_runtimePanic _, fun w => by simp [runtimePanic]⟩
    · exact ⟨calm_runtimePanic _, fun w => by simp [runtimePanic]⟩
    · exact ⟨calm_runtimePanic _, fun w => by simp [runtimePanic]⟩
    · split
      · exact ⟨calm_runtimePanic _, fun w => by simp [runtimePanic]⟩
      · refine ⟨?_, ?_⟩
        · repeat' (first | with_reducible exact calm_pure _ | with_reducible exact calm_unsupported _ | with_reducible exact calm_program | with_reducible exact calm_nilAhead _ _ _ _ | (with_reducible refine calm_bind' _ _ ?_ fun _ => ?_) | (with_reducible refine calm_ite _ _ _ ?_ ?_))
        · refine valOnly_bind _ fun _ => valOnly_bind _ fun _ => ?_
          split
          · exact valOnly_bind _ fun _ => valOnly_pure _
          · exact valOnly_pure _
      · exact ⟨calm_pure _, fun w => trivial⟩
    · exact ⟨calm_pure _, fun w => trivial⟩
  case buildSlice t n ps =>
    refine ⟨calm_v ?_, valOnly_v _⟩
    unfold Instr.buildSlice newRow
    repeat' (first | with_reducible exact calm_pure _ | with_reducible exact calm_stuck _ | with_reducible exact calm_unsupported _ | with_reducible exact calm_underlying _ | with_reducible exact calm_newObj _ | with_reducible exact calm_zeroValue _ | with_reducible exact calm_sizeOf _ | (with_reducible refine calm_ite _ _ _ ?_ ?_) | (with_reducible refine calm_bind' _ _ ?_ fun _ => ?_) | split | dsimp only)
/-! ### Whatever order is drawn -/
/-- all that must come ahead of what is listed is listed -/
structure Closed (ops : Array Oper) (listed : Array Bool) : Prop where
  size : listed.size = ops.size
  closed : ∀ j oj, ops[j]? = some oj → listed.getD j false = true → ∀ e ∈ oj.after, Region.binds .any e = true → listed.getD e.on false = true

theorem getDft {listed : Array Bool} {i : Nat} (h : listed.getD i true = false) : listed.getD i false = false := by
  rcases Nat.lt_or_ge i listed.size with h' | h'
  · simp [h'] at h ⊢; exact h
  · simp [Array.getElem?_eq_none h'] at h

theorem Closed.set {ops : Array Oper} {listed : Array Bool} (C : Closed ops listed) {i : Nat} (hi : i ∈ Region.ready .any ops listed) : Closed ops (listed.setIfInBounds i true) := by
  obtain ⟨_, oi, hoi, hall⟩ := mem_ready.1 hi
  refine ⟨by simp [C.size], fun j oj hj hl e he hb => ?_⟩
  by_cases hij : i = j
  · subst hij
    obtain rfl : oj = oi := Option.some.inj (hj.symm.trans hoi)
    exact getD_set_true (hall e he hb)
  · rw [getD_set_ne false hij] at hl
    exact getD_set_true (C.closed j oj hj hl e he hb)

/-- the operations that wait for `i`, directly or through one another -/
def wacc (i : Nat) : List Oper → Array Bool → Array Bool
  | [], acc => acc
  | o :: os, acc => wacc i os (acc.push (o.after.any fun e => Region.binds .any e && (e.on == i || acc.getD e.on false)))

theorem Closed.wacc {ops : Array Oper} {listed : Array Bool} (C : Closed ops listed) {i : Nat} (hi : listed.getD i false = false) : ∀ (os : List Oper) (acc : Array Bool), (∀ k, os[k]? = ops[acc.size + k]?) →
    (∀ j, acc.getD j false = true → listed.getD j false = false) → ∀ j, (Lf.wacc i os acc).getD j false = true → listed.getD j false = false
  | [], acc, _, ha, j, h => ha j h
  | o :: os, acc, ho, ha, j, h => by
    have h0 : ops[acc.size]? = some o := by simpa using (ho 0).symm
    refine C.wacc hi os _ (fun k => ?_) (fun j hj => ?_) j h
    · have := ho (k + 1)
      simp only [Array.size_push]
      rw [show acc.size + 1 + k = acc.size + (k + 1) by omega]
      simpa using this
    · by_cases e : j = acc.size
      · subst e
        simp only [Array.getD_eq_getD_getElem?, Array.getElem?_push_size, Option.getD_some] at hj
        obtain ⟨e, he, hb⟩ := Array.any_eq_true'.1 hj
        simp only [Bool.and_eq_true, Bool.or_eq_true, beq_iff_eq] at hb
        obtain ⟨hb1, hb2⟩ := hb
        cases hl : listed.getD acc.size false with
        | false => rfl
        | true =>
          have h1 := C.closed acc.size o h0 hl e he hb1
          rcases hb2 with hb2 | hb2
          · rw [hb2, hi] at h1; cases h1
          · rw [ha _ (by simpa [Array.getD_eq_getD_getElem?] using hb2)] at h1; cases h1
      · refine ha j ?_
        simp only [Array.getD_eq_getD_getElem?, Array.getElem?_push, if_neg e] at hj ⊢
        exact hj

/-- may number `i` be taken first? `pure`: it yields its value in whatever world -/
def takeable (P : Program) (pure : Bool) (ops : Array Oper) (listed : Array Bool) (i : Nat) : Bool :=
  match ops[i]? with
  | none => false
  | some oi => (Region.ready .any ops listed).contains i && Region.noSelect ops &&
    (List.range ops.size).all fun j => j == i || listed.getD j true || match ops[j]? with
      | some oj => oj.after.any (fun e => Region.binds .any e && e.on == i) || (oi.apart ops oj && (pure || calmOp P oj || (wacc i ops.toList #[]).getD j false))
      | none => true

section
variable {P : Program} {ops : Array Oper} {Q : Exit → Act → World → Prop}

/-- value `v` in every world that bears what `w` bears (or, if `pure`, in every world) -/
def YieldsP (P : Program) (pure : Bool) (ops : Array Oper) (o : Oper) (v : Value) (a : Act) (w : World) : Prop :=
  (Region.wanted o (yielded ops a.tmps) = true ∧ ∀ w', (pure = true ∨ Ext w w') → (execOp a.eval o).run P w' = .ok (.value v) w') ∨
  (Region.wanted o (yielded ops a.tmps) = false ∧ v = undef)

theorem YieldsP.wpOp {pure : Bool} {i : Nat} {o : Oper} {v : Value} {a : Act} {w : World} (hi : ops[i]? = some o) (hy : YieldsP P pure ops o v a w)
    {K : Act → World → Prop} (h : K (a.put o.dst v) w) : wpOp P ops Q i K a w := by
  unfold Go.wpOp
  simp only [hi]
  rcases hy with ⟨hw, hv⟩ | ⟨hw, rfl⟩
  · simp only [hw, if_true, Oper.wp, hv w (.inr (Ext.refl w)), Oper.upon]; exact .inl h
  · simp only [hw, Bool.false_eq_true, if_false]; exact h

theorem YieldsP.of_same {pure : Bool} {o : Oper} {v : Value} {a a' : Act} {w w' : World} (hy : YieldsP P pure ops o v a w) (he : execOp a'.eval o = execOp a.eval o)
    (hw : Region.wanted o (yielded ops a'.tmps) = Region.wanted o (yielded ops a.tmps)) (hx : pure = true ∨ Ext w w') : YieldsP P pure ops o v a' w' := by
  unfold YieldsP at *
  rw [he, hw]
  refine hy.imp (fun ⟨h1, h2⟩ => ⟨h1, fun w'' h3 => h2 w'' ?_⟩) id
  rcases h3 with h3 | h3
  · exact .inl h3
  · rcases hx with hx | hx
    · exact .inl hx
    · exact .inr (hx.trans h3)

/-- another operation runs ahead of the one that is taken first -/
theorem wpOp_ahead {pure : Bool} {j : Nat} {oi oj : Oper} {v : Value} (hj : ops[j]? = some oj) (hap : oi.apart ops oj = true)
    (hsi : ∀ cs b, oi.op ≠ .select cs b) (hsj : ∀ cs b, oj.op ≠ .select cs b) (hc : pure = true ∨ calmOp P oj = true)
    (hQ : ∀ c a w, Q (.panic c) (a.put oi.dst v) w → Q (.panic c) a w) {K : Act → World → Prop} {a : Act} {w : World}
    (hy : YieldsP P pure ops oi v a w) (h : wpOp P ops Q j K (a.put oi.dst v) w) :
    wpOp P ops Q j (fun a' w' => YieldsP P pure ops oi v a' w' ∧ K (a'.put oi.dst v) w') a w := by
  obtain ⟨h1, h2, h3⟩ := Oper.apart_spec hap
  have keep : ∀ (a : Act) (w w' : World), YieldsP P pure ops oi v a w → (pure = true ∨ Ext w w') → ∀ u, YieldsP P pure ops oi v (a.put oj.dst u) w' := fun a w w' hy hx u =>
    hy.of_same (execOp_put oi hsi a oj.dst u h3) (wanted_put oi a oj.dst u h3) hx
  unfold wpOp at *
  simp only [hj] at *
  rw [wanted_put oj a oi.dst v h1] at h
  split
  · rename_i hw
    simp only [hw, if_true] at h
    rcases h with h | ⟨hasks, hlets⟩
    case inr => exact .inr ⟨by unfold Oper.asks at *; rw [execOp_put oj hsj a oi.dst v h1] at hasks; exact hasks, hlets⟩
    refine .inl ?_
    unfold Oper.wp at *
    rw [execOp_put oj hsj a oi.dst v h1] at h
    have hval : pure = true ∨ (calm P (execOp a.eval oj) ∧ valOnly P (execOp a.eval oj)) := hc.imp id fun hc => calmOp_calm hc a.eval
    cases hr : (execOp a.eval oj).run P w with
    | ok n w' =>
      have hx : pure = true ∨ Ext w w' := hval.imp id fun hv => calm_run hv.1 hr
      rw [hr] at h
      cases n <;> simp only [Oper.upon] at h ⊢
      case value u => exact ⟨keep a w w' hy hx u, by rw [← Act.put_comm a v u h2]; exact h⟩
      case skip => exact ⟨keep a w w' hy hx _, by rw [← Act.put_comm a v undef h2]; exact h⟩
      case defer d =>
        refine ⟨(keep { a with defers := d :: a.defers } w w' (hy.of_same rfl rfl (.inr (Ext.refl w))) hx _), ?_⟩
        rw [← Act.put_comm _ v undef h2, ← Act.put_defers]
        exact h
      case enter f args =>
        rcases hval with hp | hp
        · refine Calls.mono h fun e w'' he => ?_
          cases e with
          | returned u => exact ⟨keep a w w'' hy (.inl hp) u, by rw [← Act.put_comm a v u h2]; exact he⟩
          | panicked c => exact hQ _ _ _ he
          | outgrown => exact he
        · have := hp.2 w
          rw [hr] at this
          exact this.elim
      case row row args =>
        rcases hval with hp | hp
        · exact Rows.mono h fun u w'' he => ⟨keep a w w'' hy (.inl hp) u, by rw [← Act.put_comm a v u h2]; exact he⟩
        · have := hp.2 w
          rw [hr] at this
          exact this.elim
    | halt x w' =>
      rw [hr] at h
      cases x <;> simp only [Oper.upon] at h ⊢
      case panic u => exact hQ _ _ _ h
  · rename_i hw
    simp only [hw] at h
    exact ⟨keep a w w hy (.inr (Ext.refl w)) _, by rw [← Act.put_comm a v undef h2]; exact h⟩

theorem wpAny_taken {pure : Bool} {i : Nat} {oi : Oper} {v : Value} (hi : ops[i]? = some oi) (hsel : ∀ (j : Nat) (o : Oper) cs b, ops[j]? = some o → o.op ≠ .select cs b)
    (hQ : ∀ c a w, Q (.panic c) (a.put oi.dst v) w → Q (.panic c) a w) :
    ∀ (fuel : Nat) (listed : Array Bool) (a : Act) (w : World), Closed ops listed →
      (∀ j oj, ops[j]? = some oj → j ≠ i → listed.getD j true = false → (∀ e ∈ oj.after, Region.binds .any e = true → e.on ≠ i) →
        oi.apart ops oj = true ∧ (pure = true ∨ calmOp P oj = true ∨ (wacc i ops.toList #[]).getD j false = true)) →
      i ∈ Region.ready .any ops listed → YieldsP P pure ops oi v a w →
      wpAny P .any ops Q fuel (listed.setIfInBounds i true) (a.put oi.dst v) w → wpAny P .any ops Q (fuel + 1) listed a w := by
  intro fuel
  induction fuel with
  | zero =>
    intro listed a w _ _ hr hy H
    refine ⟨fun h => (by rw [h] at hr; cases hr), fun j hj => ?_⟩
    by_cases hji : j = i
    · subst hji; exact hy.wpOp hi H
    · have := ready_mono hj hji
      rw [H.1] at this
      cases this
  | succ fuel ih =>
    intro listed a w C hfree hr hy H
    refine ⟨fun h => (by rw [h] at hr; cases hr), fun j hj => ?_⟩
    by_cases hji : j = i
    · subst hji; exact hy.wpOp hi H
    · have h1 := H.2 j (ready_mono hj hji)
      obtain ⟨hjun, oj, hoj, hall⟩ := mem_ready.1 hj
      have hiun := getDft (mem_ready.1 hr).1
      have hnot : ∀ e ∈ oj.after, Region.binds .any e = true → e.on ≠ i := fun e he hb heq => by
        have h2 := hall e he hb
        rw [heq, hiun] at h2
        cases h2
      obtain ⟨hap, hcase⟩ := hfree j oj hoj hji hjun hnot
      have hc : pure = true ∨ calmOp P oj = true := by
        rcases hcase with h | h | h
        · exact .inl h
        · exact .inr h
        · exfalso
          -- it waits for i, yet it may come up now
          have Cj := C.set hj
          have hij : (listed.setIfInBounds j true).getD i false = false := by rw [getD_set_ne false hji]; exact hiun
          have h2 := Cj.wacc hij ops.toList #[] (by simp) (by simp) j h
          have hlt : j < listed.size := by
            rw [C.size]; exact (Array.getElem?_eq_some_iff.1 hoj).1
          simp [hlt] at h2
      have h2 := wpOp_ahead hoj hap (fun cs b => hsel i oi cs b hi) (fun cs b => hsel j oj cs b hoj) hc hQ hy h1
      have hfree' : ∀ k ok, ops[k]? = some ok → k ≠ i → (listed.setIfInBounds j true).getD k true = false →
          (∀ e ∈ ok.after, Region.binds .any e = true → e.on ≠ i) → oi.apart ops ok = true ∧ (pure = true ∨ calmOp P ok = true ∨ (wacc i ops.toList #[]).getD k false = true) := fun k ok hk hki hun hno => by
        refine hfree k ok hk hki ?_ hno
        by_cases hjk : j = k
        · subst hjk; exact hjun
        · rw [getD_set_ne true hjk] at hun; exact hun
      refine wpOp_mono (fun a' w' h3 => ih (listed.setIfInBounds j true) a' w' (C.set hj) hfree' (ready_mono hr (Ne.symm hji)) h3.1 ?_) h2
      rw [Array.setIfInBounds_comm _ _ hji]
      exact h3.2
end
end Go.Lf

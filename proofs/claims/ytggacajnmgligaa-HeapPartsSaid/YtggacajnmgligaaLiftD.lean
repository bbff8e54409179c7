/-
  Regions whose order the model draws: an operation that makes its value whatever others, that may come ahead of it, have done, is taken first.
-/
import Derived.Test.YtggacajnmgligaaLiftF
namespace Go.Lf
open Go

/-! ### Programs of one operation that write nothing that was there -/
def calm (P : Program) {α : Type} : Sem α → Prop
  | .pure _ => True
  | .load _ _ k => ∀ v, calm P (k v)
  | .store .. => False
  | .new _ k => ∀ r, calm P (k r)
  | .shape _ k => ∀ s, calm P (k s)
  | .freeze .. => False
  | .frozen _ k => ∀ b, calm P (k b)
  | .getObj _ k => ∀ o, calm P (k o)
  | .setObj .. => False
  | .choose _ k => ∀ n, calm P (k n)
  | .sys .. => False
  | .program k => calm P (k P)
  | .mark _ k => calm P k
  | .halt _ => True

/-- every cell that was there holds what it held; the rest is as it was -/
structure Ext (w w' : World) : Prop where
  cell : ∀ p v, cl w.heap p = some v → cl w'.heap p = some v
theorem Ext.refl (w : World) : Ext w w := ⟨fun _ _ h => h⟩
theorem Ext.trans {a b c : World} (h : Ext a b) (k : Ext b c) : Ext a c := ⟨fun p v hp => k.cell p v (h.cell p v hp)⟩
theorem cl_push {h : Heap} {o : Obj} {p : Addr} {v : Value} (hp : cl h p = some v) : cl (h.push o) p = some v := by
  have hlt : p.block < h.size := by
    rcases Nat.lt_or_ge p.block h.size with e | e
    · exact e
    · simp [cl, Array.getElem?_eq_none e] at hp
  unfold cl at hp ⊢
  rw [Array.getElem?_push, if_neg (by omega)]
  exact hp

section
variable {P : Program} {α β : Type}
theorem calm_bind {x : Sem α} {f : α → Sem β} (h : calm P x) (k : ∀ a, calm P (f a)) : calm P (x.bind f) := by
  induction x with
  | pure a => exact k a
  | load m a c ih => exact fun v => ih v (h v)
  | store => exact h.elim
  | new o c ih => exact fun v => ih v (h v)
  | shape r c ih => exact fun v => ih v (h v)
  | freeze => exact h.elim
  | frozen a c ih => exact fun v => ih v (h v)
  | getObj r c ih => exact fun v => ih v (h v)
  | setObj => exact h.elim
  | choose q c ih => exact fun v => ih v (h v)
  | sys => exact h.elim
  | program c ih => exact ih P h
  | mark m c ih => exact ih h
  | halt => trivial
@[simp] theorem calm_bind' (x : Sem α) (f : α → Sem β) (h : calm P x) (k : ∀ a, calm P (f a)) : calm P (x >>= f) := calm_bind h k
@[simp] theorem calm_pure (a : α) : calm P (Pure.pure a : Sem α) := trivial
@[simp] theorem calm_halt (h : Halt) : calm P (Sem.halt h : Sem α) := trivial
@[simp] theorem calm_stuck (w : String) : calm P (stuck w : Sem α) := trivial
@[simp] theorem calm_unsupported (u : Unsupported) : calm P (unsupported u : Sem α) := trivial
@[simp] theorem calm_goPanic (v : Value) : calm P (goPanic v : Sem α) := trivial
@[simp] theorem calm_program : calm P program := trivial
@[simp] theorem calm_load (a : Addr) (m : Mode) : calm P (load a m) := fun _ => trivial
@[simp] theorem calm_newObj (o : Obj) : calm P (newObj o) := fun _ => trivial
@[simp] theorem calm_shape (r : Nat) : calm P (shape r) := fun _ => trivial
@[simp] theorem calm_frozen (a : Addr) : calm P (frozen a) := fun _ => trivial
@[simp] theorem calm_getObj (r : Nat) : calm P (getObj r) := fun _ => trivial
@[simp] theorem calm_choose (q : Question) : calm P (choose q) := fun _ => trivial
@[simp] theorem calm_ite (c : Prop) [Decidable c] (x y : Sem α) (hx : calm P x) (hy : calm P y) : calm P (if c then x else y) := by split <;> assumption

theorem calm_run {x : Sem α} (h : calm P x) : ∀ {w w' : World} {r : α}, x.run P w = .ok r w' → Ext w w' := by
  induction x with
  | pure a => intro w w' r e; simp [Sem.run] at e; obtain ⟨_, rfl⟩ := e; exact Ext.refl _
  | load m a c ih =>
    intro w w' r e
    simp only [Sem.run] at e
    split at e
    · exact ih _ (h _) e
    · split at e
      · exact ih _ (h _) e
      · cases e
  | store => exact h.elim
  | new o c ih =>
    intro w w' r e
    simp only [Sem.run] at e
    exact Ext.trans ⟨fun p v hp => cl_push hp⟩ (ih _ (h _) e)
  | shape r c ih => intro w w' r e; exact ih _ (h _) e
  | freeze => exact h.elim
  | frozen a c ih => intro w w' r e; exact ih _ (h _) e
  | getObj r c ih =>
    intro w w' r e
    simp only [Sem.run] at e
    split at e
    · cases e
    · exact ih _ (h _) e
    · cases e
  | setObj => exact h.elim
  | choose q c ih =>
    intro w w' r e
    simp only [Sem.run] at e
    split at e
    · exact ih _ (h _) e
    · exact Ext.trans (b := { w with drawn := w.drawn + 1 }) ⟨fun p v hp => hp⟩ (ih _ (h _) e)
  | sys => exact h.elim
  | program c ih => intro w w' r e; exact ih P h e
  | mark m c ih => intro w w' r e; exact ih h e
  | halt => intro w w' r e; cases e
end

@[simp] theorem calm_typeInfo {P : Program} (t : TypeId) : calm P (typeInfo t) := by
  unfold typeInfo; refine calm_bind' _ _ (by simp) fun p => ?_; split <;> simp
@[simp] theorem calm_underlying {P : Program} (t : TypeId) : calm P (underlying t) := by
  unfold underlying; refine calm_bind' _ _ (by simp) fun p => ?_; split <;> simp
@[simp] theorem calm_zeroValue {P : Program} (t : TypeId) : calm P (zeroValue t) := by
  unfold zeroValue; refine calm_bind' _ _ (by simp) fun i => ?_; split <;> simp
@[simp] theorem calm_sizeOf {P : Program} (t : TypeId) : calm P (sizeOf t) := by
  unfold sizeOf; exact calm_bind' _ _ (by simp) fun i => by simp
@[simp] theorem calm_isAgg {P : Program} (t : TypeId) : calm P (isAgg t) := by
  unfold isAgg; refine calm_bind' _ _ (by simp) fun i => ?_; split <;> simp
theorem calm_loadCellsFrom {P : Program} (a : Addr) : ∀ (n i : Nat) (acc : Array Value), calm P (loadCellsFrom a i n acc)
  | 0, _, _ => trivial
  | n + 1, i, acc => by unfold loadCellsFrom; exact calm_bind' _ _ (by simp) fun v => calm_loadCellsFrom a n _ _
@[simp] theorem calm_loadVar {P : Program} (t : TypeId) (a : Addr) : calm P (loadVar t a) := by
  unfold loadVar
  refine calm_bind' _ _ (by simp) fun b => ?_
  split
  · refine calm_bind' _ _ (by simp) fun s => ?_
    exact calm_bind' _ _ (calm_loadCellsFrom _ _ _ _) fun cs => by simp
  · simp
@[simp] theorem calm_elemOf {P : Program} (t : TypeId) : calm P (elemOf t) := by
  unfold elemOf; refine calm_bind' _ _ (by simp) fun i => ?_; split <;> simp
@[simp] theorem calm_newVar {P : Program} (t : TypeId) (v : Value) : calm P (newVar t v) := by
  unfold newVar newRow; exact calm_bind' _ _ (by simp) fun i => by simp
@[simp] theorem calm_runtimePanic {P : Program} {α : Type} (e : RuntimeError) : calm P (runtimePanic e : Sem α) := by
  unfold runtimePanic
  refine calm_bind' _ _ (by simp) fun p => ?_
  cases e <;> simp
  all_goals
    refine calm_bind' _ _ (by simp) fun i => ?_
    refine calm_bind' _ _ (by simp) fun i => ?_
    simp
@[simp] theorem calm_boundsPanic {P : Program} {α : Type} (k : IntKind) (x y : Int) (c : BoundsCode) : calm P (boundsPanic k x y c : Sem α) := by
  unfold boundsPanic
  dsimp only
  split
  · exact calm_bind' _ _ (calm_bind (x := choose _) (by simp) fun i => by trivial) fun b => by simp
  · exact calm_bind' _ _ (by simp) fun b => by simp
@[simp] theorem calm_asIntOf {P : Program} (v : Value) : calm P (asIntOf v) := by unfold asIntOf; split <;> simp
@[simp] theorem calm_asBool {P : Program} (v : Value) : calm P (asBool v) := by unfold asBool; split <;> simp
@[simp] theorem calm_asAgg {P : Program} (v : Value) : calm P (asAgg v) := by unfold asAgg; split <;> simp
@[simp] theorem calm_sureAddr {P : Program} (v : Value) : calm P (Instr.sureAddr v) := by unfold Instr.sureAddr; split <;> simp

theorem calm_map {P : Program} {α β : Type} (f : α → β) (x : Sem α) (h : calm P x) : calm P (f <$> x) := calm_bind (x := x) h fun _ => trivial
theorem calm_byteOf {P : Program} (a : Addr) : calm P (byteOf a) := by
  unfold byteOf noView viewAt
  repeat' (first | trivial | (refine calm_bind' _ _ ?_ fun _ => ?_) | split | (simp; done) | dsimp only)
theorem calm_numberAt {P : Program} (r : Nat) : calm P (numberAt r) := by
  unfold numberAt
  repeat' (first | trivial | (refine calm_bind' _ _ ?_ fun _ => ?_) | split | (simp; done) | dsimp only)
theorem calm_behindNumber {P : Program} (a : Addr) : calm P (behindNumber a) := by
  unfold behindNumber
  exact calm_bind' _ _ (calm_numberAt _) fun _ => by simp
theorem calm_unsafeAdd {P : Program} (x : Array TypeId) (t : TypeId) (u v : Value) : calm P (Builtin.unsafeAdd_ x t #[u, v]) := by
  unfold Builtin.unsafeAdd_ viewAt asInt
  cases u <;> dsimp only
  all_goals repeat' (first | trivial | (refine calm_bind' _ _ ?_ fun _ => ?_) | split | (simp; done) | dsimp only)
theorem calm_movedNumber {P : Program} (t : TypeId) (x y : Value) : calm P (movedNumber t x y) := by
  unfold movedNumber asNumber
  repeat' (first | trivial | exact calm_behindNumber _ | exact calm_unsafeAdd _ _ _ _ | (refine calm_bind' _ _ ?_ fun _ => ?_) | split | (simp; done) | dsimp only)
theorem calm_movedPointer {P : Program} (t : TypeId) (x y : Value) : calm P (movedPointer t x y) := by
  unfold movedPointer
  repeat' (first | trivial | exact calm_numberAt _ | exact calm_unsafeAdd _ _ _ _ | (refine calm_bind' _ _ ?_ fun _ => ?_) | split | (simp; done) | dsimp only)
theorem calm_twoPlaces {P : Program} (a b : Addr) : calm P (Op.twoPlaces a b) := by
  unfold Op.twoPlaces
  repeat' (first | trivial | exact calm_byteOf _ | (refine calm_bind' _ _ ?_ fun _ => ?_) | split | (simp; done) | dsimp only)
theorem calm_addrMod {P : Program} (k : IntKind) (a : Addr) (n : Int) : calm P (Op.addrMod k a n) := by
  unfold Op.addrMod
  repeat' (first | trivial | exact calm_byteOf _ | (refine calm_bind' _ _ ?_ fun _ => ?_) | split | (simp; done) | dsimp only)
theorem calm_floatArith {P : Program} (op : BinOp) (k : FloatKind) (x y : Nat) : calm P (Op.floatArith op k x y) := by
  unfold Op.floatArith
  repeat' (first | trivial | (refine calm_bind' _ _ ?_ fun _ => ?_) | split | (simp; done) | dsimp only)
theorem calm_floatCmp {P : Program} (op : BinOp) (k : FloatKind) (x y : Nat) : calm P (Op.floatCmp op k x y) := by
  unfold Op.floatCmp; split <;> simp
theorem calm_intDiv {P : Program} (op : BinOp) (k : IntKind) (x y : Int) : calm P (Op.intDiv op k x y) := by
  unfold Op.intDiv
  repeat' (first | trivial | split | (simp; done) | dsimp only)
theorem calm_intArith {P : Program} (op : BinOp) (k : IntKind) (x y : Int) : calm P (Op.intArith op k x y) := by
  unfold Op.intArith; split <;> simp
theorem calm_intBits {P : Program} (op : BinOp) (k : IntKind) (x y : Int) : calm P (Op.intBits op k x y) := by
  unfold Op.intBits; dsimp only; split <;> simp
theorem calm_intCmp {P : Program} (op : BinOp) (x y : Int) : calm P (Op.intCmp op x y) := by
  unfold Op.intCmp; split <;> simp
theorem calm_shift {P : Program} (op : BinOp) (k : IntKind) (x : Int) (j : IntKind) (y : Int) : calm P (Op.shift op k x j y) := by
  unfold Op.shift
  repeat' (first | trivial | split | (simp; done) | dsimp only)
theorem calm_stringOp {P : Program} (op : BinOp) (x y : ByteArray) : calm P (Op.stringOp op x y) := by
  unfold Op.stringOp
  repeat' (first | trivial | split | (simp; done) | dsimp only)
theorem calm_floatToFloat {P : Program} (s : FloatKind) (b : Nat) (d : FloatKind) : calm P (Conv.floatToFloat s b d) := by
  unfold Conv.floatToFloat
  repeat' (first | trivial | (refine calm_bind' _ _ ?_ fun _ => ?_) | split | (simp; done) | dsimp only)
theorem calm_carith {P : Program} (op : BinOp) (k : FloatKind) (x y : Nat) : calm P (Op.Complex.arith op k x y) := by
  unfold Op.Complex.arith
  repeat' (first | trivial | exact calm_floatArith _ _ _ _ | (refine calm_bind' _ _ ?_ fun _ => ?_) | split | (simp; done) | dsimp only)
theorem calm_ccmp {P : Program} (op : BinOp) (k : FloatKind) (x y : Nat) : calm P (Op.Complex.cmp op k x y) := by
  unfold Op.Complex.cmp
  exact calm_bind' _ _ (calm_floatCmp _ _ _ _) fun _ => by simp
theorem calm_cconv {P : Program} (s : FloatKind) (x : Nat) (d : FloatKind) : calm P (Op.Complex.conv s x d) := by
  unfold Op.Complex.conv
  repeat' (first | trivial | exact calm_floatToFloat _ _ _ | (refine calm_bind' _ _ ?_ fun _ => ?_) | split | (simp; done) | dsimp only)
theorem calm_cproduct {P : Program} (a b c d : Nat) : calm P (Op.Complex.product a b c d) := by
  unfold Op.Complex.product Op.Complex.add Op.Complex.mul Op.Complex.sub
  repeat' (first | trivial | exact calm_carith _ _ _ _ | (refine calm_bind' _ _ ?_ fun _ => ?_))
theorem calm_ccorrected {P : Program} (s a b c d : Nat) : calm P (Op.Complex.corrected s a b c d) := by
  unfold Op.Complex.corrected Op.Complex.add Op.Complex.mul Op.Complex.sub
  repeat' (first | trivial | exact calm_carith _ _ _ _ | (refine calm_bind' _ _ ?_ fun _ => ?_))
theorem calm_quo {P : Program} (a b : Nat) : calm P (Op.Complex.quo a b) := calm_carith _ _ _ _
theorem calm_add {P : Program} (a b : Nat) : calm P (Op.Complex.add a b) := calm_carith _ _ _ _
theorem calm_sub {P : Program} (a b : Nat) : calm P (Op.Complex.sub a b) := calm_carith _ _ _ _
theorem calm_mul {P : Program} (a b : Nat) : calm P (Op.Complex.mul a b) := calm_carith _ _ _ _
theorem calm_cquotient {P : Program} (a b c d : Nat) : calm P (Op.Complex.quotient a b c d) := by
  unfold Op.Complex.quotient
  dsimp only
  repeat' (first | with_reducible exact calm_pure _ | with_reducible exact calm_stuck _ | with_reducible exact calm_ccmp _ _ _ _ | with_reducible exact calm_quo _ _ | with_reducible exact calm_add _ _ | with_reducible exact calm_sub _ _ | with_reducible exact calm_mul _ _ | with_reducible exact calm_ccorrected _ _ _ _ _ | with_reducible exact calm_carith _ _ _ _ | with_reducible exact calm_cconv _ _ _ | with_reducible exact calm_cproduct _ _ _ _ | (with_reducible refine calm_ite _ _ _ ?_ ?_) | (with_reducible refine calm_bind' _ _ ?_ fun _ => ?_))
theorem calm_complexOp {P : Program} (op : BinOp) (k : FloatKind) (a b c d : Nat) : calm P (Op.complexOp op k a b c d) := by
  unfold Op.complexOp
  cases op <;> dsimp only
  all_goals repeat' (first | with_reducible exact calm_pure _ | with_reducible exact calm_stuck _ | with_reducible exact calm_ccmp _ _ _ _ | with_reducible exact calm_quo _ _ | with_reducible exact calm_add _ _ | with_reducible exact calm_sub _ _ | with_reducible exact calm_mul _ _ | with_reducible exact calm_ccorrected _ _ _ _ _ | with_reducible exact calm_carith _ _ _ _ | with_reducible exact calm_cconv _ _ _ | with_reducible exact calm_cproduct _ _ _ _ | with_reducible exact calm_cquotient _ _ _ _ | (with_reducible refine calm_ite _ _ _ ?_ ?_) | (with_reducible refine calm_bind' _ _ ?_ fun _ => ?_))
theorem calm_sameAddr {P : Program} (a b : Addr) : calm P (sameAddr a b) := by
  unfold sameAddr noView viewAt mayBeOne stringish
  repeat' (first | trivial | (refine calm_bind' _ _ ?_ fun _ => ?_) | split | (simp; done) | dsimp only)
theorem calm_underlying_bind {P : Program} {β : Type} {t : TypeId} {td : TypeDesc} {f : TypeDesc → Sem β} (h : P.underlying t = some td) (k : calm P (f td)) : calm P (underlying t >>= f) := by
  show calm P ((match P.underlying t with | some d => (Pure.pure d : Sem TypeDesc) | none => stuck "no such type").bind f)
  rw [h]
  exact k
theorem calm_equal_int {P : Program} {t : TypeId} {k : IntKind} (x y : Value) (ht : P.underlying t = some (.int k)) : calm P (Op.equal t x y) := by
  show calm P (Op.equalIn (9999 + 1) t x y)
  rw [Op.equalIn]
  refine calm_underlying_bind ht ?_
  split <;> first | contradiction | (repeat' (first | trivial | exact calm_behindNumber _ | exact calm_byteOf _ | (refine calm_bind' _ _ ?_ fun _ => ?_) | split | (simp; done) | dsimp only))
theorem calm_equal_bool {P : Program} {t : TypeId} (x y : Value) (ht : P.underlying t = some .bool) : calm P (Op.equal t x y) := by
  show calm P (Op.equalIn (9999 + 1) t x y)
  rw [Op.equalIn]
  refine calm_underlying_bind ht ?_
  split <;> first | contradiction | simp
end Go.Lf

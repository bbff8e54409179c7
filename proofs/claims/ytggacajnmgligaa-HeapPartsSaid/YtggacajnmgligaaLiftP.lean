/-
  Floats and their bits; arrays' parts; texts of bytes.
-/
import Derived.Test.YtggacajnmgligaaLiftG
namespace Go.Lf
open Go

/-! ### bits -/
structure IsExt (P : Program) (f : FuncId) (e : Array Value → Sem Value) : Prop where
  ex : ∃ fn, P.funcs[f]? = some fn ∧ fn.body.isNone = true ∧ (fn.name == "runtime.NumGoroutine") = false ∧ Extern.findNext fn = none ∧ Extern.find fn = some e
section
variable {P : Program} {a : Act} {w : World} {d : Option Tmp} {ty : TypeId} {ps : String} {af : Array Edge} {g : Option (Nat × Bool)} {x y z : Operand} {t : TypeId} {b m n : Nat}
theorem run_bitsF {f : FuncId} {args : Array Operand} {ats : Array TypeId} (hf : IsExt P f Extern.MathFloatBits.float64bits) (ha : args.map a.eval = #[.float .f64 b]) :
    (execOp a.eval ⟨d, .call { callee := .value (.func f), args := args, argTypes := ats }, ty, ps, af, g⟩).run P w = .ok (.value (.int .u64 (b : Int))) w := by
  obtain ⟨fn, h1, h2, h3, h4, h5⟩ := hf.ex
  have h3' : ¬ fn.name = "runtime.NumGoroutine" := by simpa using h3
  have h2' : fn.body = none := Option.isNone_iff_eq_none.1 h2
  simp [execOp, resolve, ha, Act.eval, Deferred.ofValue, invoke, callFunc, h1, h2', h3', h4, h5, show Extern.MathFloatBits.float64bits #[.float .f64 b] = pure (.int .u64 (b : Int)) from rfl]
theorem run_fromB {f : FuncId} {args : Array Operand} {ats : Array TypeId} {v : Int} (hf : IsExt P f Extern.MathFloatBits.float64frombits) (ha : args.map a.eval = #[.int .u64 v]) :
    (execOp a.eval ⟨d, .call { callee := .value (.func f), args := args, argTypes := ats }, ty, ps, af, g⟩).run P w = .ok (.value (.float .f64 v.toNat)) w := by
  obtain ⟨fn, h1, h2, h3, h4, h5⟩ := hf.ex
  have h3' : ¬ fn.name = "runtime.NumGoroutine" := by simpa using h3
  have h2' : fn.body = none := Option.isNone_iff_eq_none.1 h2
  simp [execOp, resolve, ha, Act.eval, Deferred.ofValue, invoke, callFunc, h1, h2', h3', h4, h5, show Extern.MathFloatBits.float64frombits #[.int .u64 v] = pure (.float .f64 v.toNat) from rfl]

/-! ### comparisons, arithmetic -/
def fO (m n : Nat) : Option Ordering := Ieee.double.order m n
theorem run_flss {u'} (hx : a.eval x = .float .f64 m) (hy : a.eval y = .float .f64 n) : (execOp a.eval ⟨d, .binOp .lss t x y u', ty, ps, af, g⟩).run P w = .ok (.value (.bool (fO m n == some .lt))) w := by
  simp [execOp, hx, hy, eqGuard, binOp, Op.floatCmp, fO, FloatKind.format]
theorem run_fleq {u'} (hx : a.eval x = .float .f64 m) (hy : a.eval y = .float .f64 n) : (execOp a.eval ⟨d, .binOp .leq t x y u', ty, ps, af, g⟩).run P w = .ok (.value (.bool (fO m n == some .lt || fO m n == some .eq))) w := by
  simp [execOp, hx, hy, eqGuard, binOp, Op.floatCmp, fO, FloatKind.format]
theorem run_fgtr {u'} (hx : a.eval x = .float .f64 m) (hy : a.eval y = .float .f64 n) : (execOp a.eval ⟨d, .binOp .gtr t x y u', ty, ps, af, g⟩).run P w = .ok (.value (.bool (fO m n == some .gt))) w := by
  simp [execOp, hx, hy, eqGuard, binOp, Op.floatCmp, fO, FloatKind.format]
theorem run_fgeq {u'} (hx : a.eval x = .float .f64 m) (hy : a.eval y = .float .f64 n) : (execOp a.eval ⟨d, .binOp .geq t x y u', ty, ps, af, g⟩).run P w = .ok (.value (.bool (fO m n == some .gt || fO m n == some .eq))) w := by
  simp [execOp, hx, hy, eqGuard, binOp, Op.floatCmp, fO, FloatKind.format]
theorem run_feql {u'} (hx : a.eval x = .float .f64 m) (hy : a.eval y = .float .f64 n) : (execOp a.eval ⟨d, .binOp .eql t x y u', ty, ps, af, g⟩).run P w = .ok (.value (.bool (fO m n == some .eq))) w := by
  simp [execOp, hx, hy, eqGuard, binOp, Op.floatCmp, fO, FloatKind.format]
theorem run_fneq {u'} (hx : a.eval x = .float .f64 m) (hy : a.eval y = .float .f64 n) : (execOp a.eval ⟨d, .binOp .neq t x y u', ty, ps, af, g⟩).run P w = .ok (.value (.bool (fO m n != some .eq))) w := by
  simp [execOp, hx, hy, eqGuard, binOp, Op.floatCmp, fO, FloatKind.format]
theorem run_fneg (hx : a.eval x = .float .f64 m) : (execOp a.eval ⟨d, .unOp .neg t x, ty, ps, af, g⟩).run P w = .ok (.value (.float .f64 (Op.negFloat .f64 m))) w := by
  simp [execOp, hx, Op.unary]
def fA : BinOp → Nat → Nat → Option Nat
  | .add, m, n => Ieee.double.add m n
  | .sub, m, n => Ieee.double.sub m n
  | .mul, m, n => Ieee.double.mul m n
  | _, m, n => Ieee.double.div m n
/-- the bits of a number that is none -/
def nanB (r : Nat) : Prop := ∃ s f, s < 2 ∧ f < 2 ^ 52 - 1 ∧ r = s * 2 ^ 63 + 0x7ff0000000000000 + 1 + f
/-- what arithmetic may give -/
def FAr (op : BinOp) (m n r : Nat) : Prop := match fA op m n with
  | some q => r = q
  | none => nanB r
def flA (op : BinOp) (m n : Nat) (K : Nat → Prop) : Prop := ∀ r, FAr op m n r → K r
theorem run_fA {op : BinOp} {u'} (ho : op = .add ∨ op = .sub ∨ op = .mul ∨ op = .quo) (hx : a.eval x = .float .f64 m) (hy : a.eval y = .float .f64 n) :
    ∃ r w', (execOp a.eval ⟨d, .binOp op t x y u', ty, ps, af, g⟩).run P w = .ok (.value (.float .f64 r)) w' ∧ w'.heap = w.heap ∧ Rest w w' ∧ FAr op m n r := by
  have key : ∀ f : Option Nat, fA op m n = f → ∃ r w', (execOp a.eval ⟨d, .binOp op t x y u', ty, ps, af, g⟩).run P w = .ok (.value (.float .f64 r)) w' ∧ w'.heap = w.heap ∧ Rest w w' ∧ FAr op m n r := by
    intro f hf
    cases f with
    | some q =>
      refine ⟨q, w, ?_, rfl, Rest.refl w, by unfold FAr; rw [hf]⟩
      rcases ho with rfl | rfl | rfl | rfl <;> simp [fA] at hf <;> simp [execOp, hx, hy, eqGuard, binOp, Op.floatArith, FloatKind.format, hf]
    | none =>
      refine ⟨_, w.drew, ?_, rfl, ⟨rfl, rfl, rfl⟩, by unfold FAr; rw [hf]; exact ⟨(w.tape w.drawn (.nanBits .f64 m n)) % 2, ((w.tape w.drawn (.nanBits .f64 m n)) / 2) % (2 ^ 52 - 1), Nat.mod_lt _ (by omega), Nat.mod_lt _ (by omega), rfl⟩⟩
      rcases ho with rfl | rfl | rfl | rfl <;> simp [fA] at hf <;> simp [execOp, hx, hy, eqGuard, binOp, Op.floatArith, FloatKind.format, hf, Question.forced, Question.cut]
  exact key _ rfl

/-! ### parts of an array -/
def slA (p : Addr) (n sz : Nat) (lo hi : Int) (K : Sv → Prop) : Prop := 0 ≤ lo ∧ lo ≤ hi ∧ hi ≤ n ∧ ∀ s' : Sv, s'.a = some (if n = lo.toNat then p else p.add (lo.toNat * sz)) → s'.n = hi.toNat - lo.toNat → s'.c = n - lo.toNat → K s'
theorem slA_ex {p : Addr} {n sz : Nat} {lo hi : Int} {K : Sv → Prop} (H : slA p n sz lo hi K) : ∃ s' : Sv, 0 ≤ lo ∧ lo ≤ hi ∧ hi ≤ n ∧ s'.v = .slice (some (if n = lo.toNat then p else p.add (lo.toNat * sz))) (hi.toNat - lo.toNat) (n - lo.toNat) ∧ K s' :=
  ⟨⟨_, _, _⟩, H.1, H.2.1, H.2.2.1, rfl, H.2.2.2 _ rfl rfl rfl⟩
theorem run_saSN {e : TypeId} {zz : Option Value} {by_ sz : Nat} {k : IntKind} {lo : Int} {p : Addr} {s' : Sv} (hu : P.underlying t = some (.array n e)) (hz : tinfo P e = some (zz, sz, by_)) (hx : a.eval x = .pointer (some p)) (hl : a.eval y = .int k lo)
    (c0 : 0 ≤ lo) (c1 : lo ≤ (n : Int)) (es : s'.v = .slice (some (if n = lo.toNat then p else p.add (lo.toNat * sz))) ((n : Int).toNat - lo.toNat) (n - lo.toNat)) :
    (execOp a.eval ⟨d, .slice t x (some y) none none, ty, ps, af, g⟩).run P w = .ok (.value s'.v) w := by
  rw [es]
  have h1 : 0 ≤ lo ∧ lo ≤ (n : Int) := ⟨c0, c1⟩
  simp [execOp, Instr.sliceAt, Instr.sureAddr, underlying_run hu, hx, hl, Instr.sliceBounds, Instr.sliceBound, asIntOf, sizeOf_run hz, h1]

/-! ### bytes to text -/
def byteV (b : UInt8) : Value := .int .u8 (b.toNat : Int)
def cvT (h : Heap) (s : Sv) (K : ByteArray → Prop) : Prop := ∃ bs : List UInt8, bs.length = s.n ∧ RowO h s.a (bs.map byteV) ∧ K ⟨bs.toArray⟩
theorem bytes_fold {P : Program} {w : World} (f : UInt8 → ByteArray → Sem (ForInStep ByteArray)) (hf : ∀ a y, f a y = pure (.yield (y.push a))) : ∀ (bs : List UInt8) (acc : ByteArray),
    (forIn (m := Sem) bs acc f).run P w = .ok ⟨acc.data ++ bs.toArray⟩ w
  | [], acc => by simp
  | b :: bs, acc => by
    have ih := bytes_fold (P := P) (w := w) f hf bs (acc.push b)
    rw [List.forIn_cons, hf, Sem.run_bind, Sem.run_pure, Result.andThen_ok]
    dsimp only
    rw [ih]
    simp [ByteArray.push]
theorem run_cvT {src dst e : TypeId} {s : Sv} {bs : List UInt8} (hs : P.underlying src = some (.slice e)) (hd : P.underlying dst = some .string) (he : P.underlying e = some (.int .u8)) (hx : a.eval x = s.v)
    (hl : bs.length = s.n) (hr : RowO w.heap s.a (bs.map byteV)) : (execOp a.eval ⟨d, .convert src dst x, ty, ps, af, g⟩).run P w = .ok (.value (.string ⟨bs.toArray⟩)) w := by
  obtain ⟨sa, sn, sc⟩ := s
  cases sa with
  | none =>
    have hb : bs = [] := by simpa [RowO] using hr
    subst hb
    simp [execOp, hx, Sv.v, convert, underlying_run hs, underlying_run hd, underlying_run he, Conv.bytesToString]
    rfl
  | some p =>
    dsimp only at hl
    have h1 := run_loadCells_list (P := P) (w := w) p (bs.map byteV) hr
    rw [List.length_map, hl] at h1
    simp [execOp, hx, Sv.v, convert, underlying_run hs, underlying_run hd, underlying_run he, Conv.bytesToString, h1]
    rw [bytes_fold _ (fun a y => by show (pure (.yield (y.push (UInt8.ofNat ((a.toNat : Int)).toNat))) : Sem (ForInStep ByteArray)) = _; rw [Int.toNat_natCast, UInt8.ofNat_toNat])]
    simp [ByteArray.empty, ByteArray.emptyWithCapacity]
    rfl
end

section
variable {P : Program} {ops : Array Oper} {N : Act → World → Prop} {rest : List Oper} {a : Act} {w w0 : World} {n d : Nat} {E : List (Nat × Value)} {h : Heap}
variable {ty : TypeId} {ps : String} {af : Array Edge} {g : Option (Nat × Bool)} {x y : Operand} {t : TypeId}
theorem ol_flA {op : BinOp} {p q : Nat} {u' : TypeId} {K : Nat → Prop} (S : St n E h w0 a w) (H : flA op p q K) (ho : op = .add ∨ op = .sub ∨ op = .mul ∨ op = .quo) (hx : evo E x = some (.float .f64 p)) (hy : evo E y = some (.float .f64 q)) (hn : Nat.blt d n = true) (hg : GOk ops E g)
    (k : ∀ r a' w', K r → St n ((d, .float .f64 r) :: E) h w0 a' w' → OL P ops N rest a' w') : OL P ops N (⟨some d, .binOp op t x y u', ty, ps, af, g⟩ :: rest) a w := by
  obtain ⟨r, w', r1, r2, r3, r4⟩ := run_fA (P := P) (w := w) (d := some d) (t := t) (u' := u') (ty := ty) (ps := ps) (af := af) (g := g) ho (S.ev hx) (S.ev hy)
  exact OL.val S r1 rfl hn (r2.trans S.heap) r3 hg fun a' S' => k r a' w' (H r r4) S'
end
end Go.Lf

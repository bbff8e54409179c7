/- Lifted by program off the elaborated code: each Go function, read as a proposition over typed variables and the heap. -/
import Derived.Test.YtkgckfcekokieaaG0
namespace Go.Proofs.Ytkgckfcekokieaa
open Go Go.Lf
set_option linter.unusedVariables false

/-- slices.EqualFunc[[]chattel api.Type,[]chattel api.Type,chattel api.Type,chattel api.Type] -/
def L19 (s10 : Sv) (s21 : Sv) (eq2 : Value) (h : Heap) (R : Value → Heap → Prop) : Prop :=
  ifb (((s10.n : Nat) : Int) != ((s21.n : Nat) : Int)) (
    R (Value.bool false) h) (
    ∃ (I : Int → Heap → Prop) (m : Int → Heap → Nat), I 0 h ∧ ∀ x17 h1, I x17 h1 →
    ifb (decide (x17 < ((s10.n : Nat) : Int))) (
      ixS s10 x17 fun q20 =>
      ∃ (y21 : Int) (y21_1 : ByteArray) (y21_2 : Bool) (y21_3 : Int) (y21_4 : Sv) (y21_5 : Sv), cl h1 (q20.add ((x17 : Int).toNat * 6)) = some (Value.int .i64 y21) ∧ cl h1 ((q20.add ((x17 : Int).toNat * 6)).add 1) = some (Value.string y21_1) ∧ cl h1 ((q20.add ((x17 : Int).toNat * 6)).add 2) = some (Value.bool y21_2) ∧ cl h1 ((q20.add ((x17 : Int).toNat * 6)).add 3) = some (Value.int .i64 y21_3) ∧ cl h1 ((q20.add ((x17 : Int).toNat * 6)).add 4) = some (Value.slice y21_4.a y21_4.n y21_4.c) ∧ cl h1 ((q20.add ((x17 : Int).toNat * 6)).add 5) = some (Value.slice y21_5.a y21_5.n y21_5.c) ∧
      new 25 #[Value.int .i64 0, Value.string (⟨#[]⟩ : ByteArray), Value.bool false, Value.int .i64 0, Value.slice (⟨none, 0, 0⟩ : Sv).a (⟨none, 0, 0⟩ : Sv).n (⟨none, 0, 0⟩ : Sv).c, Value.slice (⟨none, 0, 0⟩ : Sv).a (⟨none, 0, 0⟩ : Sv).n (⟨none, 0, 0⟩ : Sv).c] h1 fun p8 h2 =>
      stoA h2 p8 [Value.int .i64 y21, Value.string y21_1, Value.bool y21_2, Value.int .i64 y21_3, Value.slice y21_4.a y21_4.n y21_4.c, Value.slice y21_5.a y21_5.n y21_5.c] fun h3 =>
      ixS s21 x17 fun q24 =>
      ∃ (y25 : Int) (y25_1 : ByteArray) (y25_2 : Bool) (y25_3 : Int) (y25_4 : Sv) (y25_5 : Sv), cl h3 (q24.add ((x17 : Int).toNat * 6)) = some (Value.int .i64 y25) ∧ cl h3 ((q24.add ((x17 : Int).toNat * 6)).add 1) = some (Value.string y25_1) ∧ cl h3 ((q24.add ((x17 : Int).toNat * 6)).add 2) = some (Value.bool y25_2) ∧ cl h3 ((q24.add ((x17 : Int).toNat * 6)).add 3) = some (Value.int .i64 y25_3) ∧ cl h3 ((q24.add ((x17 : Int).toNat * 6)).add 4) = some (Value.slice y25_4.a y25_4.n y25_4.c) ∧ cl h3 ((q24.add ((x17 : Int).toNat * 6)).add 5) = some (Value.slice y25_5.a y25_5.n y25_5.c) ∧
      new 25 #[Value.int .i64 0, Value.string (⟨#[]⟩ : ByteArray), Value.bool false, Value.int .i64 0, Value.slice (⟨none, 0, 0⟩ : Sv).a (⟨none, 0, 0⟩ : Sv).n (⟨none, 0, 0⟩ : Sv).c, Value.slice (⟨none, 0, 0⟩ : Sv).a (⟨none, 0, 0⟩ : Sv).n (⟨none, 0, 0⟩ : Sv).c] h3 fun p9 h4 =>
      stoA h4 p9 [Value.int .i64 y25, Value.string y25_1, Value.bool y25_2, Value.int .i64 y25_3, Value.slice y25_4.a y25_4.n y25_4.c, Value.slice y25_5.a y25_5.n y25_5.c] fun h5 =>
      ∃ (y27 : Int) (y27_1 : ByteArray) (y27_2 : Bool) (y27_3 : Int) (y27_4 : Sv) (y27_5 : Sv), cl h5 p8 = some (Value.int .i64 y27) ∧ cl h5 (p8.add 1) = some (Value.string y27_1) ∧ cl h5 (p8.add 2) = some (Value.bool y27_2) ∧ cl h5 (p8.add 3) = some (Value.int .i64 y27_3) ∧ cl h5 (p8.add 4) = some (Value.slice y27_4.a y27_4.n y27_4.c) ∧ cl h5 (p8.add 5) = some (Value.slice y27_5.a y27_5.n y27_5.c) ∧
      ∃ (y28 : Int) (y28_1 : ByteArray) (y28_2 : Bool) (y28_3 : Int) (y28_4 : Sv) (y28_5 : Sv), cl h5 p9 = some (Value.int .i64 y28) ∧ cl h5 (p9.add 1) = some (Value.string y28_1) ∧ cl h5 (p9.add 2) = some (Value.bool y28_2) ∧ cl h5 (p9.add 3) = some (Value.int .i64 y28_3) ∧ cl h5 (p9.add 4) = some (Value.slice y28_4.a y28_4.n y28_4.c) ∧ cl h5 (p9.add 5) = some (Value.slice y28_5.a y28_5.n y28_5.c) ∧
      calV Try.prog eq2 #[Value.agg #[Value.int .i64 y27, Value.string y27_1, Value.bool y27_2, Value.int .i64 y27_3, Value.slice y27_4.a y27_4.n y27_4.c, Value.slice y27_5.a y27_5.n y27_5.c], Value.agg #[Value.int .i64 y28, Value.string y28_1, Value.bool y28_2, Value.int .i64 y28_3, Value.slice y28_4.a y28_4.n y28_4.c, Value.slice y28_5.a y28_5.n y28_5.c]] h5 fun u h6 => asB u fun x29 =>
      ifb (!x29) (
        R (Value.bool false) h6) (
        I (IntKind.i64.wrap (x17 + 1)) h6 ∧ m (IntKind.i64.wrap (x17 + 1)) h6 < m x17 h1)) (
      R (Value.bool true) h1))

set_option maxRecDepth 100000 in

theorem F19 {s10 s21 eq2 h : _} {R : Value → Heap → Prop} (H : L19 s10 s21 eq2 h R) : CallsH Try.prog 19 #[Value.slice s10.a s10.n s10.c, Value.slice s21.a s21.n s21.c, eq2] h R := by
  refine CallsH.enter (n := 32) Try.func19 rfl rfl rfl rfl ?_
  intro w0 aa ww S
  unfold L19 at H
  refine W.seq ?_
  replace S := S.sub [(0, Value.slice s10.a s10.n s10.c), (1, Value.slice s21.a s21.n s21.c), (2, eq2)] ⟨rfl, rfl, rfl, trivial⟩
  refine W.region ?_
  refine OL.pure S (Lf.run_assign (S.ev rfl)) rfl rfl trivial ?_
  clear S; intro aa S
  refine OL.nil ?_
  refine W.seq ?_
  refine W.seq ?_
  replace S := S.sub [(0, Value.slice s10.a s10.n s10.c), (1, Value.slice s21.a s21.n s21.c), (2, eq2)] ⟨rfl, rfl, rfl, trivial⟩
  refine W.region ?_
  refine OL.pure S (Lf.run_move (S.ev rfl)) rfl rfl trivial ?_
  clear S; intro aa S
  refine OL.pure S (Lf.run_lens (S.ev rfl) rfl Try.underlying23) rfl rfl trivial ?_
  clear S; intro aa S
  refine OL.pure S (Lf.run_move (S.ev rfl)) rfl rfl trivial ?_
  clear S; intro aa S
  refine OL.pure S (Lf.run_lens (S.ev rfl) rfl Try.underlying23) rfl rfl trivial ?_
  clear S; intro aa S
  refine OL.pure S (Lf.run_neq (S.ev rfl) (S.ev rfl)) rfl rfl trivial ?_
  clear S; intro aa S
  refine OL.nil ?_
  refine W.cond S (b := (((s10.n : Nat) : Int) != ((s21.n : Nat) : Int))) rfl (fun hb => ?_) (fun hb => ?_)
  · replace H := H.1 hb
    refine W.seq ?_
    replace S := S.sub [] trivial
    refine W.region ?_
    refine OL.pure S (Lf.run_assign (S.ev rfl)) rfl rfl trivial ?_
    clear S; intro aa S
    refine OL.nil ?_
    refine W.ret ?_
    exact Ret.one S rfl rfl H
  · replace H := H.2 hb
    refine W.skip ?_
    refine W.seq ?_
    refine W.seq ?_
    replace S := S.sub [(0, Value.slice s10.a s10.n s10.c), (1, Value.slice s21.a s21.n s21.c), (2, eq2)] ⟨rfl, rfl, rfl, trivial⟩
    refine W.region ?_
    refine OL.pure S (Lf.run_move (S.ev rfl)) rfl rfl trivial ?_
    clear S; intro aa S
    refine OL.pure S (Lf.run_lens (S.ev rfl) rfl Try.underlying23) rfl rfl trivial ?_
    clear S; intro aa S
    refine OL.pure S (Lf.run_move (S.ev rfl)) rfl rfl trivial ?_
    clear S; intro aa S
    refine OL.nil ?_
    refine W.block ?_
    obtain ⟨I, m, H, HB⟩ := H
    refine W.loopS (σ := Int × Heap) (fun s aa ww => St 32 [(1, Value.slice s21.a s21.n s21.c), (2, eq2), (15, Value.slice s10.a s10.n s10.c), (16, Value.int .i64 ((s10.n : Nat) : Int)), (17, Value.int .i64 s.1)] s.2 w0 aa ww ∧ I s.1 s.2) (fun s => m s.1 s.2) (0, h) ⟨S.sub _ ⟨rfl, rfl, rfl, rfl, rfl, trivial⟩, H⟩ ?_
    clear H S aa
    rintro ⟨x17, h1⟩ aa ww ⟨S, HI⟩
    replace S : St 32 [(1, Value.slice s21.a s21.n s21.c), (2, eq2), (15, Value.slice s10.a s10.n s10.c), (16, Value.int .i64 ((s10.n : Nat) : Int)), (17, Value.int .i64 x17)] h1 w0 aa ww := S
    have H := HB x17 h1 HI
    clear HI
    refine W.seq ?_
    replace S := S.sub [(1, Value.slice s21.a s21.n s21.c), (2, eq2), (15, Value.slice s10.a s10.n s10.c), (16, Value.int .i64 ((s10.n : Nat) : Int)), (17, Value.int .i64 x17)] ⟨rfl, rfl, rfl, rfl, rfl, trivial⟩
    refine W.region ?_
    refine OL.pure S (Lf.run_lss (S.ev rfl) (S.ev rfl)) rfl rfl trivial ?_
    clear S; intro aa S
    refine OL.nil ?_
    refine W.seq ?_
    refine W.cond S (b := (decide (x17 < ((s10.n : Nat) : Int)))) rfl (fun hb_1 => ?_) (fun hb_1 => ?_)
    · replace H := H.1 hb_1
      refine W.skip ?_
      refine W.seq ?_
      refine W.block ?_
      refine W.seq ?_
      replace S := S.sub [(1, Value.slice s21.a s21.n s21.c), (2, eq2), (15, Value.slice s10.a s10.n s10.c), (16, Value.int .i64 ((s10.n : Nat) : Int)), (17, Value.int .i64 x17)] ⟨rfl, rfl, rfl, rfl, rfl, trivial⟩
      refine W.region ?_
      refine OL.pure S (Lf.run_move (S.ev rfl)) rfl rfl trivial ?_
      clear S; intro aa S
      obtain ⟨q20, e, e_1, e_2, H⟩ := H
      refine OL.pure S (Lf.run_ixs (S.ev rfl) (S.ev rfl) Try.underlying23 ti25 e e_1 e_2) rfl rfl trivial ?_
      clear S; intro aa S
      obtain ⟨y21, y21_1, y21_2, y21_3, y21_4, y21_5, c_22, c_23, c_24, c_25, c_26, c_27, H⟩ := H
      refine OL.pure S (Lf.run_ldA (cs := [Value.int .i64 y21, Value.string y21_1, Value.bool y21_2, Value.int .i64 y21_3, Value.slice y21_4.a y21_4.n y21_4.c, Value.slice y21_5.a y21_5.n y21_5.c]) (S.ev rfl) ag25 ti25 (by rw [S.heap]; exact RowL.toRow ⟨c_22, c_23, c_24, c_25, c_26, c_27, trivial⟩)) rfl rfl trivial ?_
      clear S; intro aa S
      refine ol_alloc S H ti25 rfl rfl trivial ?_
      clear S H aa; intro p8 aa ww h2 H S
      refine OL.pure S (Lf.run_assign (S.ev rfl)) rfl rfl trivial ?_
      clear S; intro aa S
      refine ol_stoA S H rfl rfl ti25 trivial ?_
      clear S H aa; intro aa ww h3 H S
      refine OL.nil ?_
      refine W.seq ?_
      replace S := S.sub [(1, Value.slice s21.a s21.n s21.c), (2, eq2), (7, Value.int .i64 x17), (8, Value.pointer (some p8)), (15, Value.slice s10.a s10.n s10.c), (16, Value.int .i64 ((s10.n : Nat) : Int)), (17, Value.int .i64 x17)] ⟨rfl, rfl, rfl, rfl, rfl, rfl, rfl, trivial⟩
      refine W.region ?_
      refine OL.pure S (Lf.run_move (S.ev rfl)) rfl rfl trivial ?_
      clear S; intro aa S
      refine OL.pure S (Lf.run_move (S.ev rfl)) rfl rfl trivial ?_
      clear S; intro aa S
      obtain ⟨q24, e_3, e_4, e_5, H⟩ := H
      refine OL.pure S (Lf.run_ixs (S.ev rfl) (S.ev rfl) Try.underlying23 ti25 e_3 e_4 e_5) rfl rfl trivial ?_
      clear S; intro aa S
      obtain ⟨y25, y25_1, y25_2, y25_3, y25_4, y25_5, c_16, c_17, c_18, c_19, c_20, c_21, H⟩ := H
      refine OL.pure S (Lf.run_ldA (cs := [Value.int .i64 y25, Value.string y25_1, Value.bool y25_2, Value.int .i64 y25_3, Value.slice y25_4.a y25_4.n y25_4.c, Value.slice y25_5.a y25_5.n y25_5.c]) (S.ev rfl) ag25 ti25 (by rw [S.heap]; exact RowL.toRow ⟨c_16, c_17, c_18, c_19, c_20, c_21, trivial⟩)) rfl rfl trivial ?_
      clear S; intro aa S
      refine ol_alloc S H ti25 rfl rfl trivial ?_
      clear S H aa; intro p9 aa ww h4 H S
      refine ol_stoA S H rfl rfl ti25 trivial ?_
      clear S H aa; intro aa ww h5 H S
      refine OL.nil ?_
      refine W.seq ?_
      replace S := S.sub [(1, Value.slice s21.a s21.n s21.c), (2, eq2), (8, Value.pointer (some p8)), (9, Value.pointer (some p9)), (15, Value.slice s10.a s10.n s10.c), (16, Value.int .i64 ((s10.n : Nat) : Int)), (17, Value.int .i64 x17)] ⟨rfl, rfl, rfl, rfl, rfl, rfl, rfl, trivial⟩
      refine W.region ?_
      refine OL.pure S (Lf.run_move (S.ev rfl)) rfl rfl trivial ?_
      clear S; intro aa S
      obtain ⟨y27, y27_1, y27_2, y27_3, y27_4, y27_5, c_10, c_11, c_12, c_13, c_14, c_15, H⟩ := H
      refine OL.pure S (Lf.run_ldA (cs := [Value.int .i64 y27, Value.string y27_1, Value.bool y27_2, Value.int .i64 y27_3, Value.slice y27_4.a y27_4.n y27_4.c, Value.slice y27_5.a y27_5.n y27_5.c]) (S.ev rfl) ag25 ti25 (by rw [S.heap]; exact RowL.toRow ⟨c_10, c_11, c_12, c_13, c_14, c_15, trivial⟩)) rfl rfl trivial ?_
      clear S; intro aa S
      obtain ⟨y28, y28_1, y28_2, y28_3, y28_4, y28_5, c_4, c_5, c_6, c_7, c_8, c_9, H⟩ := H
      refine OL.pure S (Lf.run_ldA (cs := [Value.int .i64 y28, Value.string y28_1, Value.bool y28_2, Value.int .i64 y28_3, Value.slice y28_4.a y28_4.n y28_4.c, Value.slice y28_5.a y28_5.n y28_5.c]) (S.ev rfl) ag25 ti25 (by rw [S.heap]; exact RowL.toRow ⟨c_4, c_5, c_6, c_7, c_8, c_9, trivial⟩)) rfl rfl trivial ?_
      clear S; intro aa S
      refine ol_calV S H rfl rfl rfl trivial ?_
      clear S H aa; intro u aa ww h6 H S
      obtain ⟨x29, rfl, H⟩ := H
      refine OL.pure S (Lf.run_not (S.ev rfl)) rfl rfl trivial ?_
      clear S; intro aa S
      refine OL.nil ?_
      refine W.cond S (b := (!x29)) rfl (fun hb_2 => ?_) (fun hb_2 => ?_)
      · replace H := H.1 hb_2
        refine W.seq ?_
        replace S := S.sub [] trivial
        refine W.region ?_
        refine OL.pure S (Lf.run_assign (S.ev rfl)) rfl rfl trivial ?_
        clear S; intro aa S
        refine OL.nil ?_
        refine W.ret ?_
        exact Ret.one S rfl rfl H
      · replace H := H.2 hb_2
        refine W.skip ?_
        replace S := S.sub [(1, Value.slice s21.a s21.n s21.c), (2, eq2), (15, Value.slice s10.a s10.n s10.c), (16, Value.int .i64 ((s10.n : Nat) : Int)), (17, Value.int .i64 x17)] ⟨rfl, rfl, rfl, rfl, rfl, trivial⟩
        refine W.region ?_
        refine OL.pure S (Lf.run_add (S.ev rfl) (S.ev rfl)) rfl rfl trivial ?_
        clear S; intro aa S
        refine OL.pure S (Lf.run_move (S.ev rfl)) rfl rfl trivial ?_
        clear S; intro aa S
        refine OL.nil ?_
        exact ⟨((IntKind.i64.wrap (x17 + 1)), h6), ⟨S.sub _ ⟨rfl, rfl, rfl, rfl, rfl, trivial⟩, H.1⟩, H.2⟩
    · replace H := H.2 hb_1
      refine W.exit_ ?_
      refine xhit ?_
      refine W.seq ?_
      replace S := S.sub [] trivial
      refine W.region ?_
      refine OL.pure S (Lf.run_assign (S.ev rfl)) rfl rfl trivial ?_
      clear S; intro aa S
      refine OL.nil ?_
      refine W.ret ?_
      exact Ret.one S rfl rfl H

/-- (*chattel sub.pairer).life -/
def L20 (p0 : Option Addr) (a1 : Int) (b2 : Int) (way3 : Int) (h : Heap) (R : Value → Heap → Prop) : Prop :=
  ∃ J : Heap → Prop, (
    ifb ((bitsI .and .i64 way3 1) != 0) (
      nn p0 fun p13 =>
      ldS h (p13.add 1) fun x15 =>
      newS 35 #[Value.int .i64 a1, Value.int .i64 b2] 1 h fun s19 h1 =>
      appS 35 (Value.agg #[Value.int .i64 0, Value.int .i64 0]).cells 2 16 h1 x15 s19 fun s20 h2 =>
      nn p0 fun p21 =>
      sto h2 (p21.add 1) (Value.slice s20.a s20.n s20.c) fun h3 =>
      J h3) (
      J h)) ∧ (∀ h4, J h4 →
  ifb ((bitsI .and .i64 way3 2) != 0) (
    nn p0 fun p28 =>
    ldS h4 (p28.add 1) fun x30 =>
    newS 35 #[Value.int .i64 b2, Value.int .i64 a1] 1 h4 fun s34 h5 =>
    appS 35 (Value.agg #[Value.int .i64 0, Value.int .i64 0]).cells 2 16 h5 x30 s34 fun s35 h6 =>
    nn p0 fun p36 =>
    sto h6 (p36.add 1) (Value.slice s35.a s35.n s35.c) fun h7 =>
    R (.tuple #[]) h7) (
    R (.tuple #[]) h4))

set_option maxRecDepth 100000 in

theorem F20 {p0 a1 b2 way3 h : _} {R : Value → Heap → Prop} (H : L20 p0 a1 b2 way3 h R) : CallsH Try.prog 20 #[Value.pointer p0, Value.int .i64 a1, Value.int .i64 b2, Value.int .i64 way3] h R := by
  refine CallsH.enter (n := 38) Try.func20 rfl rfl rfl rfl ?_
  intro w0 aa ww S
  unfold L20 at H
  obtain ⟨J, H, HK⟩ := H
  refine W.seqJ (fun aa ww => ∃ h4, St 38 [(0, Value.pointer p0), (1, Value.int .i64 a1), (2, Value.int .i64 b2), (3, Value.int .i64 way3)] h4 w0 aa ww ∧ J h4) ?_ ?_
  · clear HK
    refine W.seq ?_
    replace S := S.sub [(0, Value.pointer p0), (1, Value.int .i64 a1), (2, Value.int .i64 b2), (3, Value.int .i64 way3)] ⟨rfl, rfl, rfl, rfl, trivial⟩
    refine W.region ?_
    refine OL.pure S (Lf.run_move (S.ev rfl)) rfl rfl trivial ?_
    clear S; intro aa S
    refine OL.pure S (Lf.run_bits (op := .and) (by simp) (S.ev rfl) (S.ev rfl)) rfl rfl trivial ?_
    clear S; intro aa S
    refine OL.pure S (Lf.run_neq (S.ev rfl) (S.ev rfl)) rfl rfl trivial ?_
    clear S; intro aa S
    refine OL.nil ?_
    refine W.cond S (b := ((bitsI .and .i64 way3 1) != 0)) rfl (fun hb => ?_) (fun hb => ?_)
    · replace H := H.1 hb
      replace S := S.sub [(0, Value.pointer p0), (1, Value.int .i64 a1), (2, Value.int .i64 b2), (3, Value.int .i64 way3)] ⟨rfl, rfl, rfl, rfl, trivial⟩
      refine W.region ?_
      refine OL.pure S (Lf.run_move (S.ev rfl)) rfl rfl trivial ?_
      clear S; intro aa S
      refine OL.pure S (Lf.run_move (S.ev rfl)) rfl rfl trivial ?_
      clear S; intro aa S
      obtain ⟨p13, e, H⟩ := H
      refine OL.pure S (Lf.run_nc' (S.ev rfl) e) rfl rfl trivial ?_
      clear S; intro aa S
      refine OL.pure S (Lf.run_fa (S.ev rfl) fa49_1) rfl rfl trivial ?_
      clear S; intro aa S
      obtain ⟨x15, c, H⟩ := H
      refine OL.pure S (Lf.run_ld (S.ev rfl) fl29 (S.cl c)) rfl rfl trivial ?_
      clear S; intro aa S
      refine OL.pure S (Lf.run_move (S.ev rfl)) rfl rfl trivial ?_
      clear S; intro aa S
      refine OL.pure S (Lf.run_move (S.ev rfl)) rfl rfl trivial ?_
      clear S; intro aa S
      refine OL.pure S (Lf.run_buildArr (cs := #[Value.int .i64 a1, Value.int .i64 b2]) Try.underlying35 ti3 ti35 (parts_map S rfl) (by kernel_rfl)) rfl rfl trivial ?_
      clear S; intro aa S
      refine ol_newS S H Try.underlying29 ti35 (by decide) (parts_map S rfl) (by kernel_rfl) (by decide) rfl trivial ?_
      clear S H aa; intro s19 aa ww h1 H S
      refine ol_appS S H Try.underlying29 ti35 rfl rfl rfl trivial ?_
      clear S H aa; intro s20 aa ww h2 H S
      obtain ⟨p21, e_1, H⟩ := H
      refine OL.pure S (Lf.run_nc' (S.ev rfl) e_1) rfl rfl trivial ?_
      clear S; intro aa S
      refine OL.pure S (Lf.run_fa (S.ev rfl) fa49_1) rfl rfl trivial ?_
      clear S; intro aa S
      refine ol_sto S H rfl rfl rfl ti29 trivial ?_
      clear S H aa; intro aa ww h3 H S
      refine OL.nil ?_
      exact ⟨h3, S.sub _ ⟨rfl, rfl, rfl, rfl, trivial⟩, H⟩
    · replace H := H.2 hb
      refine W.skip ?_
      exact ⟨h, S.sub _ ⟨rfl, rfl, rfl, rfl, trivial⟩, H⟩
  · clear H S aa
    rintro aa ww ⟨h4, S, HJ⟩
    have H := HK _ HJ
    clear HK HJ
    refine W.seq ?_
    replace S := S.sub [(0, Value.pointer p0), (1, Value.int .i64 a1), (2, Value.int .i64 b2), (3, Value.int .i64 way3)] ⟨rfl, rfl, rfl, rfl, trivial⟩
    refine W.region ?_
    refine OL.pure S (Lf.run_move (S.ev rfl)) rfl rfl trivial ?_
    clear S; intro aa S
    refine OL.pure S (Lf.run_bits (op := .and) (by simp) (S.ev rfl) (S.ev rfl)) rfl rfl trivial ?_
    clear S; intro aa S
    refine OL.pure S (Lf.run_neq (S.ev rfl) (S.ev rfl)) rfl rfl trivial ?_
    clear S; intro aa S
    refine OL.nil ?_
    refine W.cond S (b := ((bitsI .and .i64 way3 2) != 0)) rfl (fun hb_1 => ?_) (fun hb_1 => ?_)
    · replace H := H.1 hb_1
      replace S := S.sub [(0, Value.pointer p0), (1, Value.int .i64 a1), (2, Value.int .i64 b2)] ⟨rfl, rfl, rfl, trivial⟩
      refine W.region ?_
      refine OL.pure S (Lf.run_move (S.ev rfl)) rfl rfl trivial ?_
      clear S; intro aa S
      refine OL.pure S (Lf.run_move (S.ev rfl)) rfl rfl trivial ?_
      clear S; intro aa S
      obtain ⟨p28, e_2, H⟩ := H
      refine OL.pure S (Lf.run_nc' (S.ev rfl) e_2) rfl rfl trivial ?_
      clear S; intro aa S
      refine OL.pure S (Lf.run_fa (S.ev rfl) fa49_1) rfl rfl trivial ?_
      clear S; intro aa S
      obtain ⟨x30, c_1, H⟩ := H
      refine OL.pure S (Lf.run_ld (S.ev rfl) fl29 (S.cl c_1)) rfl rfl trivial ?_
      clear S; intro aa S
      refine OL.pure S (Lf.run_move (S.ev rfl)) rfl rfl trivial ?_
      clear S; intro aa S
      refine OL.pure S (Lf.run_move (S.ev rfl)) rfl rfl trivial ?_
      clear S; intro aa S
      refine OL.pure S (Lf.run_buildArr (cs := #[Value.int .i64 b2, Value.int .i64 a1]) Try.underlying35 ti3 ti35 (parts_map S rfl) (by kernel_rfl)) rfl rfl trivial ?_
      clear S; intro aa S
      refine ol_newS S H Try.underlying29 ti35 (by decide) (parts_map S rfl) (by kernel_rfl) (by decide) rfl trivial ?_
      clear S H aa; intro s34 aa ww h5 H S
      refine ol_appS S H Try.underlying29 ti35 rfl rfl rfl trivial ?_
      clear S H aa; intro s35 aa ww h6 H S
      obtain ⟨p36, e_3, H⟩ := H
      refine OL.pure S (Lf.run_nc' (S.ev rfl) e_3) rfl rfl trivial ?_
      clear S; intro aa S
      refine OL.pure S (Lf.run_fa (S.ev rfl) fa49_1) rfl rfl trivial ?_
      clear S; intro aa S
      refine ol_sto S H rfl rfl rfl ti29 trivial ?_
      clear S H aa; intro aa ww h7 H S
      refine OL.nil ?_
      exact Ret.none S rfl H
    · replace H := H.2 hb_1
      refine W.skip ?_
      exact Ret.none S rfl H

/-- chattel vary.Through -/
def L21 (outer0 : Int) (inner1 : Int) (h : Heap) (R : Value → Heap → Prop) : Prop :=
  ifb ((outer0 == 0) || (inner1 == 0)) (
    R (Value.int .i64 0) h) (
    ifb (outer0 == 1) (
      R (Value.int .i64 (bitsI .and .i64 inner1 3)) h) (
      ifb ((outer0 == 3) || (inner1 == 3)) (
        R (Value.int .i64 3) h) (
        ifb (outer0 == inner1) (
          R (Value.int .i64 1) h) (
          R (Value.int .i64 2) h))))

set_option maxRecDepth 100000 in

theorem F21 {outer0 inner1 h : _} {R : Value → Heap → Prop} (H : L21 outer0 inner1 h R) : CallsH Try.prog 21 #[Value.int .i64 outer0, Value.int .i64 inner1] h R := by
  refine CallsH.enter (n := 28) Try.func21 rfl rfl rfl rfl ?_
  intro w0 aa ww S
  unfold L21 at H
  refine W.seq ?_
  replace S := S.sub [(0, Value.int .i64 outer0), (1, Value.int .i64 inner1)] ⟨rfl, rfl, trivial⟩
  refine W.region ?_
  refine OL.pure S (Lf.run_assign (S.ev rfl)) rfl rfl trivial ?_
  clear S; intro aa S
  refine OL.nil ?_
  refine W.seq ?_
  refine W.block ?_
  refine W.seq ?_
  replace S := S.sub [(0, Value.int .i64 outer0), (1, Value.int .i64 inner1)] ⟨rfl, rfl, trivial⟩
  refine W.region ?_
  refine OL.pure S (Lf.run_move (S.ev rfl)) rfl rfl trivial ?_
  clear S; intro aa S
  refine OL.pure S (Lf.run_eql (S.ev rfl) (S.ev rfl)) rfl rfl trivial ?_
  clear S; intro aa S
  refine OL.pure S (Lf.run_move (S.ev rfl)) rfl rfl trivial ?_
  clear S; intro aa S
  refine OL.cutN 3 (fun aa ww => St 28 ((11, Value.bool ((outer0 == 0) || (inner1 == 0))) :: [(0, Value.int .i64 outer0), (1, Value.int .i64 inner1), (6, Value.int .i64 outer0), (7, Value.bool (outer0 == 0)), (8, Value.bool (outer0 == 0))]) h w0 aa ww) ?_ ?_
  · rcases Bool.eq_false_or_eq_true (outer0 == 0) with hb | hb
    · refine OL.not S rfl rfl (GNo.mk rfl rfl hb) ?_
      clear S; intro aa S
      refine OL.not S rfl rfl (GNo.mk rfl rfl hb) ?_
      clear S; intro aa S
      refine OL.pure S (Lf.run_pickT (S.ev rfl) hb (S.ev rfl)) rfl rfl trivial ?_
      clear S; intro aa S
      refine OL.nil ?_
      exact (S.hd (by rw [hb, Bool.true_or])).sub _ ⟨rfl, rfl, rfl, rfl, rfl, rfl, trivial⟩
    · refine OL.pure S (Lf.run_move (S.ev rfl)) rfl rfl (GOk.mk rfl rfl hb) ?_
      clear S; intro aa S
      refine OL.pure S (Lf.run_eql (S.ev rfl) (S.ev rfl)) rfl rfl (GOk.mk rfl rfl hb) ?_
      clear S; intro aa S
      refine OL.pure S (Lf.run_pickF (S.ev rfl) hb (S.ev rfl)) rfl rfl trivial ?_
      clear S; intro aa S
      refine OL.nil ?_
      exact (S.hd (by rw [hb, Bool.false_or])).sub _ ⟨rfl, rfl, rfl, rfl, rfl, rfl, trivial⟩
  · clear S aa
    intro aa ww S
    refine OL.pure S (Lf.run_assign (S.ev rfl)) rfl rfl trivial ?_
    clear S; intro aa S
    refine OL.nil ?_
    refine W.cond S (b := ((outer0 == 0) || (inner1 == 0))) rfl (fun hb_1 => ?_) (fun hb_1 => ?_)
    · replace H := H.1 hb_1
      refine W.seq ?_
      replace S := S.sub [] trivial
      refine W.region ?_
      refine OL.pure S (Lf.run_assign (S.ev rfl)) rfl rfl trivial ?_
      clear S; intro aa S
      refine OL.nil ?_
      refine W.ret ?_
      exact Ret.one S rfl rfl H
    · replace H := H.2 hb_1
      refine W.seq ?_
      replace S := S.sub [(0, Value.int .i64 outer0), (1, Value.int .i64 inner1)] ⟨rfl, rfl, trivial⟩
      refine W.region ?_
      refine OL.pure S (Lf.run_move (S.ev rfl)) rfl rfl trivial ?_
      clear S; intro aa S
      refine OL.pure S (Lf.run_eql (S.ev rfl) (S.ev rfl)) rfl rfl trivial ?_
      clear S; intro aa S
      refine OL.pure S (Lf.run_assign (S.ev rfl)) rfl rfl trivial ?_
      clear S; intro aa S
      refine OL.nil ?_
      refine W.cond S (b := (outer0 == 1)) rfl (fun hb_2 => ?_) (fun hb_2 => ?_)
      · replace H := H.1 hb_2
        refine W.seq ?_
        replace S := S.sub [(1, Value.int .i64 inner1)] ⟨rfl, trivial⟩
        refine W.region ?_
        refine OL.pure S (Lf.run_move (S.ev rfl)) rfl rfl trivial ?_
        clear S; intro aa S
        refine OL.pure S (Lf.run_bits (op := .and) (by simp) (S.ev rfl) (S.ev rfl)) rfl rfl trivial ?_
        clear S; intro aa S
        refine OL.pure S (Lf.run_assign (S.ev rfl)) rfl rfl trivial ?_
        clear S; intro aa S
        refine OL.nil ?_
        refine W.ret ?_
        exact Ret.one S rfl rfl H
      · replace H := H.2 hb_2
        refine W.seq ?_
        replace S := S.sub [(0, Value.int .i64 outer0), (1, Value.int .i64 inner1)] ⟨rfl, rfl, trivial⟩
        refine W.region ?_
        refine OL.pure S (Lf.run_move (S.ev rfl)) rfl rfl trivial ?_
        clear S; intro aa S
        refine OL.pure S (Lf.run_eql (S.ev rfl) (S.ev rfl)) rfl rfl trivial ?_
        clear S; intro aa S
        refine OL.pure S (Lf.run_move (S.ev rfl)) rfl rfl trivial ?_
        clear S; intro aa S
        refine OL.cutN 3 (fun aa ww => St 28 ((23, Value.bool ((outer0 == 3) || (inner1 == 3))) :: [(0, Value.int .i64 outer0), (1, Value.int .i64 inner1), (18, Value.int .i64 outer0), (19, Value.bool (outer0 == 3)), (20, Value.bool (outer0 == 3))]) h w0 aa ww) ?_ ?_
        · rcases Bool.eq_false_or_eq_true (outer0 == 3) with hb_3 | hb_3
          · refine OL.not S rfl rfl (GNo.mk rfl rfl hb_3) ?_
            clear S; intro aa S
            refine OL.not S rfl rfl (GNo.mk rfl rfl hb_3) ?_
            clear S; intro aa S
            refine OL.pure S (Lf.run_pickT (S.ev rfl) hb_3 (S.ev rfl)) rfl rfl trivial ?_
            clear S; intro aa S
            refine OL.nil ?_
            exact (S.hd (by rw [hb_3, Bool.true_or])).sub _ ⟨rfl, rfl, rfl, rfl, rfl, rfl, trivial⟩
          · refine OL.pure S (Lf.run_move (S.ev rfl)) rfl rfl (GOk.mk rfl rfl hb_3) ?_
            clear S; intro aa S
            refine OL.pure S (Lf.run_eql (S.ev rfl) (S.ev rfl)) rfl rfl (GOk.mk rfl rfl hb_3) ?_
            clear S; intro aa S
            refine OL.pure S (Lf.run_pickF (S.ev rfl) hb_3 (S.ev rfl)) rfl rfl trivial ?_
            clear S; intro aa S
            refine OL.nil ?_
            exact (S.hd (by rw [hb_3, Bool.false_or])).sub _ ⟨rfl, rfl, rfl, rfl, rfl, rfl, trivial⟩
        · clear S aa
          intro aa ww S
          refine OL.pure S (Lf.run_assign (S.ev rfl)) rfl rfl trivial ?_
          clear S; intro aa S
          refine OL.nil ?_
          refine W.cond S (b := ((outer0 == 3) || (inner1 == 3))) rfl (fun hb_4 => ?_) (fun hb_4 => ?_)
          · replace H := H.1 hb_4
            refine W.seq ?_
            replace S := S.sub [] trivial
            refine W.region ?_
            refine OL.pure S (Lf.run_assign (S.ev rfl)) rfl rfl trivial ?_
            clear S; intro aa S
            refine OL.nil ?_
            refine W.ret ?_
            exact Ret.one S rfl rfl H
          · replace H := H.2 hb_4
            refine W.seq ?_
            replace S := S.sub [(0, Value.int .i64 outer0), (1, Value.int .i64 inner1)] ⟨rfl, rfl, trivial⟩
            refine W.region ?_
            refine OL.pure S (Lf.run_move (S.ev rfl)) rfl rfl trivial ?_
            clear S; intro aa S
            refine OL.pure S (Lf.run_move (S.ev rfl)) rfl rfl trivial ?_
            clear S; intro aa S
            refine OL.pure S (Lf.run_eql (S.ev rfl) (S.ev rfl)) rfl rfl trivial ?_
            clear S; intro aa S
            refine OL.pure S (Lf.run_assign (S.ev rfl)) rfl rfl trivial ?_
            clear S; intro aa S
            refine OL.nil ?_
            refine W.cond S (b := (outer0 == inner1)) rfl (fun hb_5 => ?_) (fun hb_5 => ?_)
            · replace H := H.1 hb_5
              refine W.seq ?_
              replace S := S.sub [] trivial
              refine W.region ?_
              refine OL.pure S (Lf.run_assign (S.ev rfl)) rfl rfl trivial ?_
              clear S; intro aa S
              refine OL.nil ?_
              refine W.ret ?_
              exact Ret.one S rfl rfl H
            · replace H := H.2 hb_5
              refine W.skip ?_
              refine W.seq ?_
              replace S := S.sub [] trivial
              refine W.region ?_
              refine OL.pure S (Lf.run_assign (S.ev rfl)) rfl rfl trivial ?_
              clear S; intro aa S
              refine OL.nil ?_
              refine W.ret ?_
              exact Ret.one S rfl rfl H

/-- chattel vary.Of -/
def L22 (vw0 : Option Nat) (name1 : ByteArray) (slot2 : Int) (h : Heap) (R : Value → Heap → Prop) : Prop :=
  lkS h (Value.map vw0) name1 (Value.slice (⟨none, 0, 0⟩ : Sv).a (⟨none, 0, 0⟩ : Sv).n (⟨none, 0, 0⟩ : Sv).c) fun u => asS u fun x10 =>
  ifb ((decide (slot2 < 0)) || (decide (((x10.n : Nat) : Int) ≤ slot2))) (
    R (Value.int .i64 3) h) (
    ixS x10 slot2 fun q21 =>
    ldI .i64 h (q21.add ((slot2 : Int).toNat * 1)) fun x22 =>
    R (Value.int .i64 x22) h)

set_option maxRecDepth 100000 in

theorem F22 {vw0 name1 slot2 h : _} {R : Value → Heap → Prop} (H : L22 vw0 name1 slot2 h R) : CallsH Try.prog 22 #[Value.map vw0, Value.string name1, Value.int .i64 slot2] h R := by
  refine CallsH.enter (n := 23) Try.func22 rfl rfl rfl rfl ?_
  intro w0 aa ww S
  unfold L22 at H
  refine W.seq ?_
  replace S := S.sub [(0, Value.map vw0), (1, Value.string name1), (2, Value.int .i64 slot2)] ⟨rfl, rfl, rfl, trivial⟩
  refine W.region ?_
  refine OL.pure S (Lf.run_assign (S.ev rfl)) rfl rfl trivial ?_
  clear S; intro aa S
  refine OL.nil ?_
  refine W.seq ?_
  replace S := S.sub [(0, Value.map vw0), (1, Value.string name1), (2, Value.int .i64 slot2)] ⟨rfl, rfl, rfl, trivial⟩
  refine W.region ?_
  refine OL.pure S (Lf.run_move (S.ev rfl)) rfl rfl trivial ?_
  clear S; intro aa S
  refine OL.pure S (Lf.run_move (S.ev rfl)) rfl rfl trivial ?_
  clear S; intro aa S
  refine ol_lkS S H Try.underlying33 Try.underlying9 ti22 rfl rfl rfl trivial ?_
  clear S H aa; intro u aa H S
  obtain ⟨x10, rfl, H⟩ := H
  refine OL.pure S (Lf.run_assign (S.ev rfl)) rfl rfl trivial ?_
  clear S; intro aa S
  refine OL.nil ?_
  refine W.seq ?_
  refine W.seq ?_
  replace S := S.sub [(2, Value.int .i64 slot2), (7, Value.slice x10.a x10.n x10.c)] ⟨rfl, rfl, trivial⟩
  refine W.region ?_
  refine OL.pure S (Lf.run_move (S.ev rfl)) rfl rfl trivial ?_
  clear S; intro aa S
  refine OL.pure S (Lf.run_lss (S.ev rfl) (S.ev rfl)) rfl rfl trivial ?_
  clear S; intro aa S
  refine OL.pure S (Lf.run_move (S.ev rfl)) rfl rfl trivial ?_
  clear S; intro aa S
  refine OL.cutN 5 (fun aa ww => St 23 ((18, Value.bool ((decide (slot2 < 0)) || (decide (((x10.n : Nat) : Int) ≤ slot2)))) :: [(2, Value.int .i64 slot2), (7, Value.slice x10.a x10.n x10.c), (11, Value.int .i64 slot2), (12, Value.bool (decide (slot2 < 0))), (13, Value.bool (decide (slot2 < 0)))]) h w0 aa ww) ?_ ?_
  · rcases Bool.eq_false_or_eq_true (decide (slot2 < 0)) with hb | hb
    · refine OL.not S rfl rfl (GNo.mk rfl rfl hb) ?_
      clear S; intro aa S
      refine OL.not S rfl rfl (GNo.mk rfl rfl hb) ?_
      clear S; intro aa S
      refine OL.not S rfl rfl (GNo.mk rfl rfl hb) ?_
      clear S; intro aa S
      refine OL.not S rfl rfl (GNo.mk rfl rfl hb) ?_
      clear S; intro aa S
      refine OL.pure S (Lf.run_pickT (S.ev rfl) hb (S.ev rfl)) rfl rfl trivial ?_
      clear S; intro aa S
      refine OL.nil ?_
      exact (S.hd (by rw [hb, Bool.true_or])).sub _ ⟨rfl, rfl, rfl, rfl, rfl, rfl, trivial⟩
    · refine OL.pure S (Lf.run_move (S.ev rfl)) rfl rfl (GOk.mk rfl rfl hb) ?_
      clear S; intro aa S
      refine OL.pure S (Lf.run_move (S.ev rfl)) rfl rfl (GOk.mk rfl rfl hb) ?_
      clear S; intro aa S
      refine OL.pure S (Lf.run_lens (S.ev rfl) rfl Try.underlying22) rfl rfl (GOk.mk rfl rfl hb) ?_
      clear S; intro aa S
      refine OL.pure S (Lf.run_geq (S.ev rfl) (S.ev rfl)) rfl rfl (GOk.mk rfl rfl hb) ?_
      clear S; intro aa S
      refine OL.pure S (Lf.run_pickF (S.ev rfl) hb (S.ev rfl)) rfl rfl trivial ?_
      clear S; intro aa S
      refine OL.nil ?_
      exact (S.hd (by rw [hb, Bool.false_or])).sub _ ⟨rfl, rfl, rfl, rfl, rfl, rfl, trivial⟩
  · clear S aa
    intro aa ww S
    refine OL.nil ?_
    refine W.cond S (b := ((decide (slot2 < 0)) || (decide (((x10.n : Nat) : Int) ≤ slot2)))) rfl (fun hb_1 => ?_) (fun hb_1 => ?_)
    · replace H := H.1 hb_1
      refine W.seq ?_
      replace S := S.sub [] trivial
      refine W.region ?_
      refine OL.pure S (Lf.run_assign (S.ev rfl)) rfl rfl trivial ?_
      clear S; intro aa S
      refine OL.nil ?_
      refine W.ret ?_
      exact Ret.one S rfl rfl H
    · replace H := H.2 hb_1
      refine W.skip ?_
      refine W.seq ?_
      replace S := S.sub [(2, Value.int .i64 slot2), (7, Value.slice x10.a x10.n x10.c)] ⟨rfl, rfl, trivial⟩
      refine W.region ?_
      refine OL.pure S (Lf.run_move (S.ev rfl)) rfl rfl trivial ?_
      clear S; intro aa S
      refine OL.pure S (Lf.run_move (S.ev rfl)) rfl rfl trivial ?_
      clear S; intro aa S
      obtain ⟨q21, e, e_1, e_2, H⟩ := H
      refine OL.pure S (Lf.run_ixs (S.ev rfl) (S.ev rfl) Try.underlying22 ti3 e e_1 e_2) rfl rfl trivial ?_
      clear S; intro aa S
      obtain ⟨x22, c, H⟩ := H
      refine OL.pure S (Lf.run_ld (S.ev rfl) fl3 (S.cl c)) rfl rfl trivial ?_
      clear S; intro aa S
      refine OL.pure S (Lf.run_assign (S.ev rfl)) rfl rfl trivial ?_
      clear S; intro aa S
      refine OL.nil ?_
      refine W.ret ?_
      exact Ret.one S rfl rfl H

/-- chattel chattelref07.own -/
def L23 (x0 : Int) (x0_1 : ByteArray) (x0_2 : Bool) (x0_3 : Int) (x0_4 : Sv) (x0_5 : Sv) (h : Heap) (R : Value → Heap → Prop) : Prop :=
  new 25 #[Value.int .i64 x0, Value.string x0_1, Value.bool x0_2, Value.int .i64 x0_3, Value.slice x0_4.a x0_4.n x0_4.c, Value.slice x0_5.a x0_5.n x0_5.c] h fun p1 h1 =>
  ldI .i64 h1 p1 fun x4 =>
  ∃ J : Bool → Prop, (andr (decide (7 ≤ x4)) (fun k =>
    ldI .i64 h1 p1 fun x8 =>
    k (decide (x8 ≤ 9))) J) ∧ ∀ x10, J x10 →
  ifb x10 (
    ldI .i64 h1 (p1.add 3) fun x12 =>
    newS 3 #[Value.int .i64 x12] 1 h1 fun s13 h2 =>
    R (Value.slice s13.a s13.n s13.c) h2) (
    ldI .i64 h1 p1 fun x15 =>
    ifb (x15 == 5) (
      ldS h1 (p1.add 4) fun x18 =>
      R (Value.slice x18.a x18.n x18.c) h1) (
      R (Value.slice (⟨none, 0, 0⟩ : Sv).a (⟨none, 0, 0⟩ : Sv).n (⟨none, 0, 0⟩ : Sv).c) h1))

set_option maxRecDepth 100000 in

theorem F23 {x0 x0_1 x0_2 x0_3 x0_4 x0_5 h : _} {R : Value → Heap → Prop} (H : L23 x0 x0_1 x0_2 x0_3 x0_4 x0_5 h R) : CallsH Try.prog 23 #[Value.agg #[Value.int .i64 x0, Value.string x0_1, Value.bool x0_2, Value.int .i64 x0_3, Value.slice x0_4.a x0_4.n x0_4.c, Value.slice x0_5.a x0_5.n x0_5.c]] h R := by
  refine CallsH.enter (n := 19) Try.func23 rfl rfl rfl rfl ?_
  intro w0 aa ww S
  unfold L23 at H
  refine W.seq ?_
  replace S := S.sub [(0, Value.agg #[Value.int .i64 x0, Value.string x0_1, Value.bool x0_2, Value.int .i64 x0_3, Value.slice x0_4.a x0_4.n x0_4.c, Value.slice x0_5.a x0_5.n x0_5.c])] ⟨rfl, trivial⟩
  refine W.region ?_
  refine ol_box S H rfl rfl rfl trivial ?_
  clear S H aa; intro p1 aa ww h1 H S
  refine OL.pure S (Lf.run_assign (S.ev rfl)) rfl rfl trivial ?_
  clear S; intro aa S
  refine OL.nil ?_
  refine W.seq ?_
  refine W.seq ?_
  replace S := S.sub [(1, Value.pointer (some p1))] ⟨rfl, trivial⟩
  refine W.region ?_
  refine OL.pure S (Lf.run_fa (S.ev rfl) fa25_0) rfl rfl trivial ?_
  clear S; intro aa S
  obtain ⟨x4, c, H⟩ := H
  refine OL.pure S (Lf.run_ld (S.ev rfl) fl3 (S.cl c)) rfl rfl trivial ?_
  clear S; intro aa S
  refine OL.pure S (Lf.run_geq (S.ev rfl) (S.ev rfl)) rfl rfl trivial ?_
  clear S; intro aa S
  refine OL.pure S (Lf.run_move (S.ev rfl)) rfl rfl trivial ?_
  clear S; intro aa S
  obtain ⟨J, H, HK⟩ := H
  refine OL.cutN 4 (fun aa ww => ∃ x10, St 19 ((10, Value.bool x10) :: [(1, Value.pointer (some p1)), (3, Value.pointer (some p1)), (4, Value.int .i64 x4), (5, Value.bool (decide (7 ≤ x4))), (6, Value.bool (decide (7 ≤ x4)))]) h1 w0 aa ww ∧ J x10) ?_ ?_
  · rcases Bool.eq_false_or_eq_true (decide (7 ≤ x4)) with hb | hb
    · replace H := H.1 hb
      refine OL.pure S (Lf.run_fa (S.ev rfl) fa25_0) rfl rfl (GOk.mk rfl rfl hb) ?_
      clear S; intro aa S
      obtain ⟨x8, c_1, H⟩ := H
      refine OL.pure S (Lf.run_ld (S.ev rfl) fl3 (S.cl c_1)) rfl rfl (GOk.mk rfl rfl hb) ?_
      clear S; intro aa S
      refine OL.pure S (Lf.run_leq (S.ev rfl) (S.ev rfl)) rfl rfl (GOk.mk rfl rfl hb) ?_
      clear S; intro aa S
      refine OL.pure S (Lf.run_pickT (S.ev rfl) hb (S.ev rfl)) rfl rfl trivial ?_
      clear S; intro aa S
      refine OL.nil ?_
      exact ⟨_, S.sub _ ⟨rfl, rfl, rfl, rfl, rfl, rfl, trivial⟩, H⟩
    · replace H := H.2 hb
      refine OL.not S rfl rfl (GNo.mk rfl rfl hb) ?_
      clear S; intro aa S
      refine OL.not S rfl rfl (GNo.mk rfl rfl hb) ?_
      clear S; intro aa S
      refine OL.not S rfl rfl (GNo.mk rfl rfl hb) ?_
      clear S; intro aa S
      refine OL.pure S (Lf.run_pickF (S.ev rfl) hb (S.ev rfl)) rfl rfl trivial ?_
      clear S; intro aa S
      refine OL.nil ?_
      exact ⟨_, S.sub _ ⟨rfl, rfl, rfl, rfl, rfl, rfl, trivial⟩, H⟩
  · clear S aa
    rintro aa ww ⟨x10, S, HJ⟩
    replace H := HK _ HJ
    clear HK HJ
    refine OL.nil ?_
    refine W.cond S (b := x10) rfl (fun hb_1 => ?_) (fun hb_1 => ?_)
    · replace H := H.1 hb_1
      refine W.seq ?_
      replace S := S.sub [(1, Value.pointer (some p1))] ⟨rfl, trivial⟩
      refine W.region ?_
      refine OL.pure S (Lf.run_fa (S.ev rfl) fa25_3) rfl rfl trivial ?_
      clear S; intro aa S
      obtain ⟨x12, c_2, H⟩ := H
      refine OL.pure S (Lf.run_ld (S.ev rfl) fl3 (S.cl c_2)) rfl rfl trivial ?_
      clear S; intro aa S
      refine ol_newS S H Try.underlying22 ti3 (by decide) (parts_map S rfl) (by kernel_rfl) (by decide) rfl trivial ?_
      clear S H aa; intro s13 aa ww h2 H S
      refine OL.pure S (Lf.run_assign (S.ev rfl)) rfl rfl trivial ?_
      clear S; intro aa S
      refine OL.nil ?_
      refine W.ret ?_
      exact Ret.one S rfl rfl H
    · replace H := H.2 hb_1
      refine W.skip ?_
      refine W.seq ?_
      refine W.seq ?_
      replace S := S.sub [(1, Value.pointer (some p1))] ⟨rfl, trivial⟩
      refine W.region ?_
      refine OL.pure S (Lf.run_fa (S.ev rfl) fa25_0) rfl rfl trivial ?_
      clear S; intro aa S
      obtain ⟨x15, c_3, H⟩ := H
      refine OL.pure S (Lf.run_ld (S.ev rfl) fl3 (S.cl c_3)) rfl rfl trivial ?_
      clear S; intro aa S
      refine OL.pure S (Lf.run_eql (S.ev rfl) (S.ev rfl)) rfl rfl trivial ?_
      clear S; intro aa S
      refine OL.nil ?_
      refine W.cond S (b := (x15 == 5)) rfl (fun hb_2 => ?_) (fun hb_2 => ?_)
      · replace H := H.1 hb_2
        refine W.seq ?_
        replace S := S.sub [(1, Value.pointer (some p1))] ⟨rfl, trivial⟩
        refine W.region ?_
        refine OL.pure S (Lf.run_fa (S.ev rfl) fa25_4) rfl rfl trivial ?_
        clear S; intro aa S
        obtain ⟨x18, c_4, H⟩ := H
        refine OL.pure S (Lf.run_ld (S.ev rfl) fl22 (S.cl c_4)) rfl rfl trivial ?_
        clear S; intro aa S
        refine OL.pure S (Lf.run_assign (S.ev rfl)) rfl rfl trivial ?_
        clear S; intro aa S
        refine OL.nil ?_
        refine W.ret ?_
        exact Ret.one S rfl rfl H
      · replace H := H.2 hb_2
        refine W.skip ?_
        refine W.seq ?_
        replace S := S.sub [] trivial
        refine W.region ?_
        refine OL.pure S (Lf.run_assign (S.ev rfl)) rfl rfl trivial ?_
        clear S; intro aa S
        refine OL.nil ?_
        refine W.ret ?_
        exact Ret.one S rfl rfl H

end Go.Proofs.Ytkgckfcekokieaa

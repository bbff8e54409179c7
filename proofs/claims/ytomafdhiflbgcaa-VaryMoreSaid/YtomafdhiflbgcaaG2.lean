/- Lifted by program off the elaborated code: each Go function, read as a proposition over typed variables and the heap. -/
import Derived.Test.YtomafdhiflbgcaaG0
import Derived.Test.YtomafdhiflbgcaaLiftY
namespace Go.Proofs.Ytomafdhiflbgcaa
open Go Go.Lf
set_option linter.unusedVariables false
set_option maxRecDepth 100000

/-- slices.Equal[[]int,int] -/
def L16 (s10 : Sv) (s21 : Sv) (h : Heap) (R : Value → Heap → Prop) : Prop :=
  ifb (((s10.n : Nat) : Int) != ((s21.n : Nat) : Int)) (
    R (Value.bool false) h) (
    ∃ (I : Int → Prop) (m : Int → Nat), I 0 ∧ ∀ x13, I x13 →
    ifb (decide (x13 < ((s10.n : Nat) : Int))) (
      ixS s10 x13 fun q18 =>
      ldI .i64 h (q18.add ((x13 : Int).toNat * 1)) fun x19 =>
      ixS s21 x13 fun q22 =>
      ldI .i64 h (q22.add ((x13 : Int).toNat * 1)) fun x23 =>
      ifb (x19 != x23) (
        R (Value.bool false) h) (
        I (IntKind.i64.wrap (x13 + 1)) ∧ m (IntKind.i64.wrap (x13 + 1)) < m x13)) (
      R (Value.bool true) h))

set_option maxRecDepth 100000 in

theorem F16 {s10 s21 h : _} {R : Value → Heap → Prop} (H : L16 s10 s21 h R) : CallsH Try.prog 16 #[Value.slice s10.a s10.n s10.c, Value.slice s21.a s21.n s21.c] h R := by
  refine CallsH.enter (n := 26) Try.func16 rfl rfl rfl rfl ?_
  intro w0 aa ww S
  unfold L16 at H
  refine W.seq ?_
  replace S := S.sub [(0, Value.slice s10.a s10.n s10.c), (1, Value.slice s21.a s21.n s21.c)] ⟨rfl, rfl, trivial⟩
  refine W.region ?_
  refine OL.pure S (Lf.run_assign (S.ev rfl)) rfl rfl trivial ?_
  clear S; intro aa S
  refine OL.nil ?_
  refine W.seq ?_
  refine W.seq ?_
  replace S := S.sub [(0, Value.slice s10.a s10.n s10.c), (1, Value.slice s21.a s21.n s21.c)] ⟨rfl, rfl, trivial⟩
  refine W.region ?_
  refine OL.pure S (Lf.run_move (S.ev rfl)) rfl rfl trivial ?_
  clear S; intro aa S
  refine OL.pure S (Lf.run_lens (S.ev rfl) rfl Try.underlying26) rfl rfl trivial ?_
  clear S; intro aa S
  refine OL.pure S (Lf.run_move (S.ev rfl)) rfl rfl trivial ?_
  clear S; intro aa S
  refine OL.pure S (Lf.run_lens (S.ev rfl) rfl Try.underlying26) rfl rfl trivial ?_
  clear S; intro aa S
  refine OL.pure S (Lf.run_neq (S.ev rfl) (S.ev rfl)) rfl rfl trivial ?_
  clear S; intro aa S
  refine OL.nil ?_
  refine W.cond S (b := (((s10.n : Nat) : Int) != ((s21.n : Nat) : Int))) rfl (fun hb => ?_) (fun hb => ?_)
  · replace H := H.1 hb
    refine W.seq ?_
    replace S := S.sub [] trivial
    refine W.region ?_
    refine OL.pure S (Lf.run_assign (S.ev rfl)) rfl rfl trivial ?_
    clear S; intro aa S
    refine OL.nil ?_
    refine W.ret ?_
    exact Ret.one S rfl rfl H
  · replace H := H.2 hb
    refine W.skip ?_
    refine W.seq ?_
    refine W.seq ?_
    replace S := S.sub [(0, Value.slice s10.a s10.n s10.c), (1, Value.slice s21.a s21.n s21.c)] ⟨rfl, rfl, trivial⟩
    refine W.region ?_
    refine OL.pure S (Lf.run_move (S.ev rfl)) rfl rfl trivial ?_
    clear S; intro aa S
    refine OL.pure S (Lf.run_lens (S.ev rfl) rfl Try.underlying26) rfl rfl trivial ?_
    clear S; intro aa S
    refine OL.pure S (Lf.run_move (S.ev rfl)) rfl rfl trivial ?_
    clear S; intro aa S
    refine OL.nil ?_
    refine W.block ?_
    obtain ⟨I, m, H, HB⟩ := H
    refine W.loopS (σ := Int) (fun s aa ww => St 26 [(0, Value.slice s10.a s10.n s10.c), (1, Value.slice s21.a s21.n s21.c), (12, Value.int .i64 ((s10.n : Nat) : Int)), (13, Value.int .i64 s)] h w0 aa ww ∧ I s) (fun s => m s) (0) ⟨S.sub _ ⟨rfl, rfl, rfl, rfl, trivial⟩, H⟩ ?_
    clear H S aa
    rintro x13 aa ww ⟨S, HI⟩
    replace S : St 26 [(0, Value.slice s10.a s10.n s10.c), (1, Value.slice s21.a s21.n s21.c), (12, Value.int .i64 ((s10.n : Nat) : Int)), (13, Value.int .i64 x13)] h w0 aa ww := S
    have H := HB x13 HI
    clear HI
    refine W.seq ?_
    replace S := S.sub [(0, Value.slice s10.a s10.n s10.c), (1, Value.slice s21.a s21.n s21.c), (12, Value.int .i64 ((s10.n : Nat) : Int)), (13, Value.int .i64 x13)] ⟨rfl, rfl, rfl, rfl, trivial⟩
    refine W.region ?_
    refine OL.pure S (Lf.run_lss (S.ev rfl) (S.ev rfl)) rfl rfl trivial ?_
    clear S; intro aa S
    refine OL.nil ?_
    refine W.seq ?_
    refine W.cond S (b := (decide (x13 < ((s10.n : Nat) : Int)))) rfl (fun hb_1 => ?_) (fun hb_1 => ?_)
    · replace H := H.1 hb_1
      refine W.skip ?_
      refine W.seq ?_
      refine W.block ?_
      refine W.seq ?_
      replace S := S.sub [(0, Value.slice s10.a s10.n s10.c), (1, Value.slice s21.a s21.n s21.c), (12, Value.int .i64 ((s10.n : Nat) : Int)), (13, Value.int .i64 x13)] ⟨rfl, rfl, rfl, rfl, trivial⟩
      refine W.region ?_
      refine OL.pure S (Lf.run_move (S.ev rfl)) rfl rfl trivial ?_
      clear S; intro aa S
      refine OL.pure S (Lf.run_assign (S.ev rfl)) rfl rfl trivial ?_
      clear S; intro aa S
      refine OL.nil ?_
      refine W.seq ?_
      replace S := S.sub [(0, Value.slice s10.a s10.n s10.c), (1, Value.slice s21.a s21.n s21.c), (5, Value.int .i64 x13), (12, Value.int .i64 ((s10.n : Nat) : Int)), (13, Value.int .i64 x13)] ⟨rfl, rfl, rfl, rfl, rfl, trivial⟩
      refine W.regionD S (by kernel_rfl) ?_
      clear S; intro ww S
      refine AN.pure 0 S rfl (by kernel_rfl) (fun _ => Lf.run_move (S.ev rfl)) rfl rfl trivial ?_
      clear S; intro aa S
      refine AN.pure 1 S rfl (by kernel_rfl) (fun _ => Lf.run_move (S.ev rfl)) rfl rfl trivial ?_
      clear S; intro aa S
      obtain ⟨q18, e, e_1, e_2, H⟩ := H
      refine AN.pure 2 S rfl (by kernel_rfl) (fun _ => Lf.run_ixs (S.ev rfl) (S.ev rfl) Try.underlying26 ti3 e e_1 e_2) rfl rfl trivial ?_
      clear S; intro aa S
      obtain ⟨x19, c, H⟩ := H
      refine AN.load 3 S rfl (by kernel_rfl) (fun _ hx => Lf.run_ld (S.ev rfl) fl3 (hx.cell _ _ (S.cl c))) rfl rfl trivial ?_
      clear S; intro aa S
      refine AN.pure 4 S rfl (by kernel_rfl) (fun _ => Lf.run_move (S.ev rfl)) rfl rfl trivial ?_
      clear S; intro aa S
      refine AN.pure 5 S rfl (by kernel_rfl) (fun _ => Lf.run_move (S.ev rfl)) rfl rfl trivial ?_
      clear S; intro aa S
      obtain ⟨q22, e_3, e_4, e_5, H⟩ := H
      refine AN.pure 6 S rfl (by kernel_rfl) (fun _ => Lf.run_ixs (S.ev rfl) (S.ev rfl) Try.underlying26 ti3 e_3 e_4 e_5) rfl rfl trivial ?_
      clear S; intro aa S
      obtain ⟨x23, c_1, H⟩ := H
      refine AN.load 7 S rfl (by kernel_rfl) (fun _ hx => Lf.run_ld (S.ev rfl) fl3 (hx.cell _ _ (S.cl c_1))) rfl rfl trivial ?_
      clear S; intro aa S
      refine AN.pure 8 S rfl (by kernel_rfl) (fun _ => Lf.run_neq (S.ev rfl) (S.ev rfl)) rfl rfl trivial ?_
      clear S; intro aa S
      refine AN.done (by kernel_rfl) ?_
      refine W.cond S (b := (x19 != x23)) rfl (fun hb_2 => ?_) (fun hb_2 => ?_)
      · replace H := H.1 hb_2
        refine W.seq ?_
        replace S := S.sub [] trivial
        refine W.region ?_
        refine OL.pure S (Lf.run_assign (S.ev rfl)) rfl rfl trivial ?_
        clear S; intro aa S
        refine OL.nil ?_
        refine W.ret ?_
        exact Ret.one S rfl rfl H
      · replace H := H.2 hb_2
        refine W.skip ?_
        replace S := S.sub [(0, Value.slice s10.a s10.n s10.c), (1, Value.slice s21.a s21.n s21.c), (12, Value.int .i64 ((s10.n : Nat) : Int)), (13, Value.int .i64 x13)] ⟨rfl, rfl, rfl, rfl, trivial⟩
        refine W.region ?_
        refine OL.pure S (Lf.run_add (S.ev rfl) (S.ev rfl)) rfl rfl trivial ?_
        clear S; intro aa S
        refine OL.pure S (Lf.run_move (S.ev rfl)) rfl rfl trivial ?_
        clear S; intro aa S
        refine OL.nil ?_
        exact ⟨((IntKind.i64.wrap (x13 + 1))), ⟨S.sub _ ⟨rfl, rfl, rfl, rfl, trivial⟩, H.1⟩, H.2⟩
    · replace H := H.2 hb_1
      refine W.exit_ ?_
      refine xhit ?_
      refine W.seq ?_
      replace S := S.sub [] trivial
      refine W.region ?_
      refine OL.pure S (Lf.run_assign (S.ev rfl)) rfl rfl trivial ?_
      clear S; intro aa S
      refine OL.nil ?_
      refine W.ret ?_
      exact Ret.one S rfl rfl H

/-- (*chattel vary.finder).see -/
def L17 (f0 : Option Addr) (x1 : Int) (x1_1 : ByteArray) (x1_2 : Bool) (x1_3 : Int) (x1_4 : Sv) (x1_5 : Sv) (way2 : Int) (h : Heap) (R : Value → Heap → Prop) : Prop :=
  new 34 #[Value.int .i64 x1, Value.string x1_1, Value.bool x1_2, Value.int .i64 x1_3, Value.slice x1_4.a x1_4.n x1_4.c, Value.slice x1_5.a x1_5.n x1_5.c] h fun p4 h1 =>
  ∃ J : Int → Heap → Prop, (
    ldI .i64 h1 p4 fun x12 =>
    ifb (x12 == 9) (
      nn f0 fun p16 =>
      ldS h1 (p16.add 2) fun x19 =>
      ldT h1 (p4.add 1) fun x21 =>
      cal Try.prog 18 #[Value.slice x19.a x19.n x19.c, Value.string x21] h1 fun u h2 => asI .i64 u fun x22 =>
      ifb (decide (0 ≤ x22)) (
        nn f0 fun p26 =>
        ldS h2 (p26.add 5) fun x28 =>
        nn f0 fun p30 =>
        ldI .i64 h2 (p30.add 1) fun x33 =>
        ixS x28 (IntKind.i64.wrap (x33 + x22)) fun q36 =>
        ldI .i64 h2 (q36.add (((IntKind.i64.wrap (x33 + x22)) : Int).toNat * 1)) fun x37 =>
        ixS x28 (IntKind.i64.wrap (x33 + x22)) fun q40 =>
        sto h2 (q40.add (((IntKind.i64.wrap (x33 + x22)) : Int).toNat * 1)) (Value.int .i64 (bitsI .or .i64 x37 way2)) fun h3 =>
        J way2 h3) (
        J way2 h2)) (
      ifb (x12 == 8) (
        ldI .i64 h1 (p4.add 3) fun x45 =>
        cal Try.prog 19 #[Value.pointer f0, Value.int .i64 x45, Value.int .i64 way2] h1 fun u_1 h4 =>
        J way2 h4) (
        ifb (x12 == 7) (
          ldI .i64 h1 (p4.add 3) fun x52 =>
          cal Try.prog 19 #[Value.pointer f0, Value.int .i64 x52, Value.int .i64 way2] h1 fun u_2 h5 =>
          ldB h5 (p4.add 2) fun x56 =>
          ifb x56 (
            cal Try.prog 7 #[Value.int .i64 way2, Value.int .i64 3] h5 fun u_3 h6 => asI .i64 u_3 fun x58 =>
            J x58 h6) (
            J way2 h5)) (
          ifb (x12 == 5) (
            ∃ (y62 : Int) (y62_1 : ByteArray) (y62_2 : Bool) (y62_3 : Int) (y62_4 : Sv) (y62_5 : Sv), cl h1 p4 = some (Value.int .i64 y62) ∧ cl h1 (p4.add 1) = some (Value.string y62_1) ∧ cl h1 (p4.add 2) = some (Value.bool y62_2) ∧ cl h1 (p4.add 3) = some (Value.int .i64 y62_3) ∧ cl h1 (p4.add 4) = some (Value.slice y62_4.a y62_4.n y62_4.c) ∧ cl h1 (p4.add 5) = some (Value.slice y62_5.a y62_5.n y62_5.c) ∧
            cal Try.prog 20 #[Value.pointer f0, Value.agg #[Value.int .i64 y62, Value.string y62_1, Value.bool y62_2, Value.int .i64 y62_3, Value.slice y62_4.a y62_4.n y62_4.c, Value.slice y62_5.a y62_5.n y62_5.c], Value.int .i64 way2] h1 fun u_4 h7 =>
            R (.tuple #[]) h7) (
            J way2 h1))))) ∧ (∀ inner6 h8, J inner6 h8 →
  ldS h8 (p4.add 5) fun x66 =>
  ∃ (I : Int → Heap → Prop) (m : Int → Heap → Nat), I 0 h8 ∧ ∀ x68 h9, I x68 h9 →
  ifb (decide (x68 < ((x66.n : Nat) : Int))) (
    ixS x66 x68 fun q70 =>
    ∃ (y71 : Int) (y71_1 : ByteArray) (y71_2 : Bool) (y71_3 : Int) (y71_4 : Sv) (y71_5 : Sv), cl h9 (q70.add ((x68 : Int).toNat * 6)) = some (Value.int .i64 y71) ∧ cl h9 ((q70.add ((x68 : Int).toNat * 6)).add 1) = some (Value.string y71_1) ∧ cl h9 ((q70.add ((x68 : Int).toNat * 6)).add 2) = some (Value.bool y71_2) ∧ cl h9 ((q70.add ((x68 : Int).toNat * 6)).add 3) = some (Value.int .i64 y71_3) ∧ cl h9 ((q70.add ((x68 : Int).toNat * 6)).add 4) = some (Value.slice y71_4.a y71_4.n y71_4.c) ∧ cl h9 ((q70.add ((x68 : Int).toNat * 6)).add 5) = some (Value.slice y71_5.a y71_5.n y71_5.c) ∧
    new 34 #[Value.int .i64 0, Value.string (⟨#[]⟩ : ByteArray), Value.bool false, Value.int .i64 0, Value.slice (⟨none, 0, 0⟩ : Sv).a (⟨none, 0, 0⟩ : Sv).n (⟨none, 0, 0⟩ : Sv).c, Value.slice (⟨none, 0, 0⟩ : Sv).a (⟨none, 0, 0⟩ : Sv).n (⟨none, 0, 0⟩ : Sv).c] h9 fun p9 h10 =>
    stoA h10 p9 [Value.int .i64 y71, Value.string y71_1, Value.bool y71_2, Value.int .i64 y71_3, Value.slice y71_4.a y71_4.n y71_4.c, Value.slice y71_5.a y71_5.n y71_5.c] fun h11 =>
    ∃ (y73 : Int) (y73_1 : ByteArray) (y73_2 : Bool) (y73_3 : Int) (y73_4 : Sv) (y73_5 : Sv), cl h11 p9 = some (Value.int .i64 y73) ∧ cl h11 (p9.add 1) = some (Value.string y73_1) ∧ cl h11 (p9.add 2) = some (Value.bool y73_2) ∧ cl h11 (p9.add 3) = some (Value.int .i64 y73_3) ∧ cl h11 (p9.add 4) = some (Value.slice y73_4.a y73_4.n y73_4.c) ∧ cl h11 (p9.add 5) = some (Value.slice y73_5.a y73_5.n y73_5.c) ∧
    cal Try.prog 17 #[Value.pointer f0, Value.agg #[Value.int .i64 y73, Value.string y73_1, Value.bool y73_2, Value.int .i64 y73_3, Value.slice y73_4.a y73_4.n y73_4.c, Value.slice y73_5.a y73_5.n y73_5.c], Value.int .i64 inner6] h11 fun u_5 h12 =>
    I (IntKind.i64.wrap (x68 + 1)) h12 ∧ m (IntKind.i64.wrap (x68 + 1)) h12 < m x68 h9) (
    R (.tuple #[]) h9))

set_option maxRecDepth 100000 in

theorem F17 {f0 x1 x1_1 x1_2 x1_3 x1_4 x1_5 way2 h : _} {R : Value → Heap → Prop} (H : L17 f0 x1 x1_1 x1_2 x1_3 x1_4 x1_5 way2 h R) : CallsH Try.prog 17 #[Value.pointer f0, Value.agg #[Value.int .i64 x1, Value.string x1_1, Value.bool x1_2, Value.int .i64 x1_3, Value.slice x1_4.a x1_4.n x1_4.c, Value.slice x1_5.a x1_5.n x1_5.c], Value.int .i64 way2] h R := by
  refine CallsH.enter (n := 77) Try.func17 rfl rfl rfl rfl ?_
  intro w0 aa ww S
  unfold L17 at H
  refine W.seq ?_
  replace S := S.sub [(0, Value.pointer f0), (1, Value.agg #[Value.int .i64 x1, Value.string x1_1, Value.bool x1_2, Value.int .i64 x1_3, Value.slice x1_4.a x1_4.n x1_4.c, Value.slice x1_5.a x1_5.n x1_5.c]), (2, Value.int .i64 way2)] ⟨rfl, rfl, rfl, trivial⟩
  refine W.region ?_
  refine ol_box S H rfl rfl rfl trivial ?_
  clear S H aa; intro p4 aa ww h1 H S
  refine OL.nil ?_
  refine W.seq ?_
  replace S := S.sub [(0, Value.pointer f0), (2, Value.int .i64 way2), (4, Value.pointer (some p4))] ⟨rfl, rfl, rfl, trivial⟩
  refine W.region ?_
  refine OL.pure S (Lf.run_move (S.ev rfl)) rfl rfl trivial ?_
  clear S; intro aa S
  refine OL.pure S (Lf.run_assign (S.ev rfl)) rfl rfl trivial ?_
  clear S; intro aa S
  refine OL.nil ?_
  obtain ⟨J, H, HK⟩ := H
  refine W.seqJ (fun aa ww => ∃ inner6 h8, St 77 [(0, Value.pointer f0), (4, Value.pointer (some p4)), (6, Value.int .i64 inner6)] h8 w0 aa ww ∧ J inner6 h8) ?_ ?_
  · clear HK
    refine W.seq ?_
    replace S := S.sub [(0, Value.pointer f0), (2, Value.int .i64 way2), (4, Value.pointer (some p4)), (6, Value.int .i64 way2)] ⟨rfl, rfl, rfl, rfl, trivial⟩
    refine W.region ?_
    refine OL.pure S (Lf.run_fa (S.ev rfl) fa34_0) rfl rfl trivial ?_
    clear S; intro aa S
    obtain ⟨x12, c, H⟩ := H
    refine OL.pure S (Lf.run_ld (S.ev rfl) fl3 (S.cl c)) rfl rfl trivial ?_
    clear S; intro aa S
    refine OL.nil ?_
    refine W.block ?_
    refine W.seq ?_
    replace S := S.sub [(0, Value.pointer f0), (2, Value.int .i64 way2), (4, Value.pointer (some p4)), (6, Value.int .i64 way2), (12, Value.int .i64 x12)] ⟨rfl, rfl, rfl, rfl, rfl, trivial⟩
    refine W.region ?_
    refine OL.pure S (Lf.run_eql (S.ev rfl) (S.ev rfl)) rfl rfl trivial ?_
    clear S; intro aa S
    refine OL.pure S (Lf.run_assign (S.ev rfl)) rfl rfl trivial ?_
    clear S; intro aa S
    refine OL.nil ?_
    refine W.cond S (b := (x12 == 9)) rfl (fun hb => ?_) (fun hb => ?_)
    · replace H := H.1 hb
      refine W.seq ?_
      replace S := S.sub [(0, Value.pointer f0), (2, Value.int .i64 way2), (4, Value.pointer (some p4)), (6, Value.int .i64 way2)] ⟨rfl, rfl, rfl, rfl, trivial⟩
      refine W.regionD S (by kernel_rfl) ?_
      clear S; intro ww S
      refine AN.pure 0 S rfl (by kernel_rfl) (fun _ => Lf.run_move (S.ev rfl)) rfl rfl trivial ?_
      clear S; intro aa S
      obtain ⟨p16, e, H⟩ := H
      refine AN.pure 1 S rfl (by kernel_rfl) (fun _ => Lf.run_nc' (S.ev rfl) e) rfl rfl trivial ?_
      clear S; intro aa S
      refine AN.pure 2 S rfl (by kernel_rfl) (fun _ => Lf.run_fa (S.ev rfl) fa47_0) rfl rfl trivial ?_
      clear S; intro aa S
      refine AN.pure 3 S rfl (by kernel_rfl) (fun _ => Lf.run_fa (S.ev rfl) fa39_2) rfl rfl trivial ?_
      clear S; intro aa S
      obtain ⟨x19, c_1, H⟩ := H
      refine AN.load 4 S rfl (by kernel_rfl) (fun _ hx => Lf.run_ld (S.ev rfl) fl37 (hx.cell _ _ (S.cl c_1))) rfl rfl trivial ?_
      clear S; intro aa S
      refine AN.pure 5 S rfl (by kernel_rfl) (fun _ => Lf.run_fa (S.ev rfl) fa34_1) rfl rfl trivial ?_
      clear S; intro aa S
      obtain ⟨x21, c_2, H⟩ := H
      refine AN.load 6 S rfl (by kernel_rfl) (fun _ hx => Lf.run_ld (S.ev rfl) fl9 (hx.cell _ _ (S.cl c_2))) rfl rfl trivial ?_
      clear S; intro aa S
      refine AN.eff 7 rfl (by kernel_rfl) ?_
      refine ol_cal S H isfn18 rfl rfl trivial ?_
      clear S H aa; intro u aa ww h2 H S
      obtain ⟨x22, rfl, H⟩ := H
      refine OL.nil ?_
      refine AN.pure 8 S rfl (by kernel_rfl) (fun _ => Lf.run_assign (S.ev rfl)) rfl rfl trivial ?_
      clear S; intro aa S
      refine AN.done (by kernel_rfl) ?_
      refine W.seq ?_
      replace S := S.sub [(0, Value.pointer f0), (2, Value.int .i64 way2), (4, Value.pointer (some p4)), (6, Value.int .i64 way2), (7, Value.int .i64 x22)] ⟨rfl, rfl, rfl, rfl, rfl, trivial⟩
      refine W.region ?_
      refine OL.pure S (Lf.run_move (S.ev rfl)) rfl rfl trivial ?_
      clear S; intro aa S
      refine OL.pure S (Lf.run_geq (S.ev rfl) (S.ev rfl)) rfl rfl trivial ?_
      clear S; intro aa S
      refine OL.nil ?_
      refine W.cond S (b := (decide (0 ≤ x22))) rfl (fun hb_1 => ?_) (fun hb_1 => ?_)
      · replace H := H.1 hb_1
        replace S := S.sub [(0, Value.pointer f0), (2, Value.int .i64 way2), (4, Value.pointer (some p4)), (6, Value.int .i64 way2), (7, Value.int .i64 x22)] ⟨rfl, rfl, rfl, rfl, rfl, trivial⟩
        refine W.regionD S (by kernel_rfl) ?_
        clear S; intro ww S
        refine AN.pure 0 S rfl (by kernel_rfl) (fun _ => Lf.run_move (S.ev rfl)) rfl rfl trivial ?_
        clear S; intro aa S
        obtain ⟨p26, e_1, H⟩ := H
        refine AN.pure 1 S rfl (by kernel_rfl) (fun _ => Lf.run_nc' (S.ev rfl) e_1) rfl rfl trivial ?_
        clear S; intro aa S
        refine AN.pure 2 S rfl (by kernel_rfl) (fun _ => Lf.run_fa (S.ev rfl) fa47_2) rfl rfl trivial ?_
        clear S; intro aa S
        obtain ⟨x28, c_3, H⟩ := H
        refine AN.load 3 S rfl (by kernel_rfl) (fun _ hx => Lf.run_ld (S.ev rfl) fl26 (hx.cell _ _ (S.cl c_3))) rfl rfl trivial ?_
        clear S; intro aa S
        refine AN.pure 4 S rfl (by kernel_rfl) (fun _ => Lf.run_move (S.ev rfl)) rfl rfl trivial ?_
        clear S; intro aa S
        obtain ⟨p30, e_2, H⟩ := H
        refine AN.pure 5 S rfl (by kernel_rfl) (fun _ => Lf.run_nc' (S.ev rfl) e_2) rfl rfl trivial ?_
        clear S; intro aa S
        refine AN.pure 6 S rfl (by kernel_rfl) (fun _ => Lf.run_fa (S.ev rfl) fa47_0) rfl rfl trivial ?_
        clear S; intro aa S
        refine AN.pure 7 S rfl (by kernel_rfl) (fun _ => Lf.run_fa (S.ev rfl) fa39_1) rfl rfl trivial ?_
        clear S; intro aa S
        obtain ⟨x33, c_4, H⟩ := H
        refine AN.load 8 S rfl (by kernel_rfl) (fun _ hx => Lf.run_ld (S.ev rfl) fl3 (hx.cell _ _ (S.cl c_4))) rfl rfl trivial ?_
        clear S; intro aa S
        refine AN.pure 9 S rfl (by kernel_rfl) (fun _ => Lf.run_move (S.ev rfl)) rfl rfl trivial ?_
        clear S; intro aa S
        refine AN.pure 10 S rfl (by kernel_rfl) (fun _ => Lf.run_add (S.ev rfl) (S.ev rfl)) rfl rfl trivial ?_
        clear S; intro aa S
        obtain ⟨q36, e_3, e_4, e_5, H⟩ := H
        refine AN.pure 11 S rfl (by kernel_rfl) (fun _ => Lf.run_ixs (S.ev rfl) (S.ev rfl) Try.underlying26 ti3 e_3 e_4 e_5) rfl rfl trivial ?_
        clear S; intro aa S
        obtain ⟨x37, c_5, H⟩ := H
        refine AN.load 12 S rfl (by kernel_rfl) (fun _ hx => Lf.run_ld (S.ev rfl) fl3 (hx.cell _ _ (S.cl c_5))) rfl rfl trivial ?_
        clear S; intro aa S
        refine AN.pure 13 S rfl (by kernel_rfl) (fun _ => Lf.run_move (S.ev rfl)) rfl rfl trivial ?_
        clear S; intro aa S
        refine AN.pure 14 S rfl (by kernel_rfl) (fun _ => Lf.run_bits (op := .or) (by simp) (S.ev rfl) (S.ev rfl)) rfl rfl trivial ?_
        clear S; intro aa S
        obtain ⟨q40, e_6, e_7, e_8, H⟩ := H
        refine AN.pure 15 S rfl (by kernel_rfl) (fun _ => Lf.run_ixs (S.ev rfl) (S.ev rfl) Try.underlying26 ti3 e_6 e_7 e_8) rfl rfl trivial ?_
        clear S; intro aa S
        refine AN.eff 16 rfl (by kernel_rfl) ?_
        refine ol_sto S H rfl rfl rfl ti3 trivial ?_
        clear S H aa; intro aa ww h3 H S
        refine OL.nil ?_
        refine AN.done (by kernel_rfl) ?_
        exact ⟨way2, h3, S.sub _ ⟨rfl, rfl, rfl, trivial⟩, H⟩
      · replace H := H.2 hb_1
        refine W.skip ?_
        exact ⟨way2, h2, S.sub _ ⟨rfl, rfl, rfl, trivial⟩, H⟩
    · replace H := H.2 hb
      refine W.seq ?_
      replace S := S.sub [(0, Value.pointer f0), (2, Value.int .i64 way2), (4, Value.pointer (some p4)), (6, Value.int .i64 way2), (12, Value.int .i64 x12)] ⟨rfl, rfl, rfl, rfl, rfl, trivial⟩
      refine W.region ?_
      refine OL.pure S (Lf.run_eql (S.ev rfl) (S.ev rfl)) rfl rfl trivial ?_
      clear S; intro aa S
      refine OL.pure S (Lf.run_assign (S.ev rfl)) rfl rfl trivial ?_
      clear S; intro aa S
      refine OL.nil ?_
      refine W.cond S (b := (x12 == 8)) rfl (fun hb_2 => ?_) (fun hb_2 => ?_)
      · replace H := H.1 hb_2
        replace S := S.sub [(0, Value.pointer f0), (2, Value.int .i64 way2), (4, Value.pointer (some p4)), (6, Value.int .i64 way2)] ⟨rfl, rfl, rfl, rfl, trivial⟩
        refine W.region ?_
        refine OL.pure S (Lf.run_move (S.ev rfl)) rfl rfl trivial ?_
        clear S; intro aa S
        refine OL.pure S (Lf.run_fa (S.ev rfl) fa34_3) rfl rfl trivial ?_
        clear S; intro aa S
        obtain ⟨x45, c_6, H⟩ := H
        refine OL.pure S (Lf.run_ld (S.ev rfl) fl3 (S.cl c_6)) rfl rfl trivial ?_
        clear S; intro aa S
        refine OL.pure S (Lf.run_move (S.ev rfl)) rfl rfl trivial ?_
        clear S; intro aa S
        refine ol_cal S H isfn19 rfl rfl trivial ?_
        clear S H aa; intro u_1 aa ww h4 H S
        refine OL.nil ?_
        exact ⟨way2, h4, S.sub _ ⟨rfl, rfl, rfl, trivial⟩, H⟩
      · replace H := H.2 hb_2
        refine W.seq ?_
        replace S := S.sub [(0, Value.pointer f0), (2, Value.int .i64 way2), (4, Value.pointer (some p4)), (6, Value.int .i64 way2), (12, Value.int .i64 x12)] ⟨rfl, rfl, rfl, rfl, rfl, trivial⟩
        refine W.region ?_
        refine OL.pure S (Lf.run_eql (S.ev rfl) (S.ev rfl)) rfl rfl trivial ?_
        clear S; intro aa S
        refine OL.pure S (Lf.run_assign (S.ev rfl)) rfl rfl trivial ?_
        clear S; intro aa S
        refine OL.nil ?_
        refine W.cond S (b := (x12 == 7)) rfl (fun hb_3 => ?_) (fun hb_3 => ?_)
        · replace H := H.1 hb_3
          refine W.seq ?_
          replace S := S.sub [(0, Value.pointer f0), (2, Value.int .i64 way2), (4, Value.pointer (some p4)), (6, Value.int .i64 way2)] ⟨rfl, rfl, rfl, rfl, trivial⟩
          refine W.region ?_
          refine OL.pure S (Lf.run_move (S.ev rfl)) rfl rfl trivial ?_
          clear S; intro aa S
          refine OL.pure S (Lf.run_fa (S.ev rfl) fa34_3) rfl rfl trivial ?_
          clear S; intro aa S
          obtain ⟨x52, c_7, H⟩ := H
          refine OL.pure S (Lf.run_ld (S.ev rfl) fl3 (S.cl c_7)) rfl rfl trivial ?_
          clear S; intro aa S
          refine OL.pure S (Lf.run_move (S.ev rfl)) rfl rfl trivial ?_
          clear S; intro aa S
          refine ol_cal S H isfn19 rfl rfl trivial ?_
          clear S H aa; intro u_2 aa ww h5 H S
          refine OL.nil ?_
          refine W.seq ?_
          replace S := S.sub [(0, Value.pointer f0), (2, Value.int .i64 way2), (4, Value.pointer (some p4)), (6, Value.int .i64 way2)] ⟨rfl, rfl, rfl, rfl, trivial⟩
          refine W.region ?_
          refine OL.pure S (Lf.run_fa (S.ev rfl) fa34_2) rfl rfl trivial ?_
          clear S; intro aa S
          obtain ⟨x56, c_8, H⟩ := H
          refine OL.pure S (Lf.run_ld (S.ev rfl) fl4 (S.cl c_8)) rfl rfl trivial ?_
          clear S; intro aa S
          refine OL.nil ?_
          refine W.cond S (b := x56) rfl (fun hb_4 => ?_) (fun hb_4 => ?_)
          · replace H := H.1 hb_4
            replace S := S.sub [(0, Value.pointer f0), (2, Value.int .i64 way2), (4, Value.pointer (some p4))] ⟨rfl, rfl, rfl, trivial⟩
            refine W.region ?_
            refine OL.pure S (Lf.run_move (S.ev rfl)) rfl rfl trivial ?_
            clear S; intro aa S
            refine ol_cal S H isfn7 rfl rfl trivial ?_
            clear S H aa; intro u_3 aa ww h6 H S
            obtain ⟨x58, rfl, H⟩ := H
            refine OL.pure S (Lf.run_assign (S.ev rfl)) rfl rfl trivial ?_
            clear S; intro aa S
            refine OL.nil ?_
            exact ⟨x58, h6, S.sub _ ⟨rfl, rfl, rfl, trivial⟩, H⟩
          · replace H := H.2 hb_4
            refine W.skip ?_
            exact ⟨way2, h5, S.sub _ ⟨rfl, rfl, rfl, trivial⟩, H⟩
        · replace H := H.2 hb_3
          refine W.seq ?_
          replace S := S.sub [(0, Value.pointer f0), (2, Value.int .i64 way2), (4, Value.pointer (some p4)), (6, Value.int .i64 way2), (12, Value.int .i64 x12)] ⟨rfl, rfl, rfl, rfl, rfl, trivial⟩
          refine W.region ?_
          refine OL.pure S (Lf.run_eql (S.ev rfl) (S.ev rfl)) rfl rfl trivial ?_
          clear S; intro aa S
          refine OL.pure S (Lf.run_assign (S.ev rfl)) rfl rfl trivial ?_
          clear S; intro aa S
          refine OL.nil ?_
          refine W.cond S (b := (x12 == 5)) rfl (fun hb_5 => ?_) (fun hb_5 => ?_)
          · replace H := H.1 hb_5
            refine W.seq ?_
            replace S := S.sub [(0, Value.pointer f0), (2, Value.int .i64 way2), (4, Value.pointer (some p4))] ⟨rfl, rfl, rfl, trivial⟩
            refine W.region ?_
            refine OL.pure S (Lf.run_move (S.ev rfl)) rfl rfl trivial ?_
            clear S; intro aa S
            obtain ⟨y62, y62_1, y62_2, y62_3, y62_4, y62_5, c_10, c_11, c_12, c_13, c_14, c_15, H⟩ := H
            refine OL.pure S (Lf.run_ldA (cs := [Value.int .i64 y62, Value.string y62_1, Value.bool y62_2, Value.int .i64 y62_3, Value.slice y62_4.a y62_4.n y62_4.c, Value.slice y62_5.a y62_5.n y62_5.c]) (S.ev rfl) ag34 ti34 (by rw [S.heap]; exact RowL.toRow ⟨c_10, c_11, c_12, c_13, c_14, c_15, trivial⟩)) rfl rfl trivial ?_
            clear S; intro aa S
            refine OL.pure S (Lf.run_move (S.ev rfl)) rfl rfl trivial ?_
            clear S; intro aa S
            refine ol_cal S H isfn20 rfl rfl trivial ?_
            clear S H aa; intro u_4 aa ww h7 H S
            refine OL.nil ?_
            refine W.ret ?_
            exact Ret.none S rfl H
          · replace H := H.2 hb_5
            refine W.skip ?_
            exact ⟨way2, h1, S.sub _ ⟨rfl, rfl, rfl, trivial⟩, H⟩
  · clear H S aa
    rintro aa ww ⟨inner6, h8, S, HJ⟩
    have H := HK _ _ HJ
    clear HK HJ
    refine W.seq ?_
    replace S := S.sub [(0, Value.pointer f0), (4, Value.pointer (some p4)), (6, Value.int .i64 inner6)] ⟨rfl, rfl, rfl, trivial⟩
    refine W.region ?_
    refine OL.pure S (Lf.run_fa (S.ev rfl) fa34_5) rfl rfl trivial ?_
    clear S; intro aa S
    obtain ⟨x66, c_16, H⟩ := H
    refine OL.pure S (Lf.run_ld (S.ev rfl) fl32 (S.cl c_16)) rfl rfl trivial ?_
    clear S; intro aa S
    refine OL.pure S (Lf.run_lens (S.ev rfl) rfl Try.underlying32) rfl rfl trivial ?_
    clear S; intro aa S
    refine OL.pure S (Lf.run_move (S.ev rfl)) rfl rfl trivial ?_
    clear S; intro aa S
    refine OL.nil ?_
    refine W.block ?_
    obtain ⟨I, m, H, HB⟩ := H
    refine W.loopS (σ := Int × Heap) (fun s aa ww => St 77 [(0, Value.pointer f0), (6, Value.int .i64 inner6), (66, Value.slice x66.a x66.n x66.c), (67, Value.int .i64 ((x66.n : Nat) : Int)), (68, Value.int .i64 s.1)] s.2 w0 aa ww ∧ I s.1 s.2) (fun s => m s.1 s.2) (0, h8) ⟨S.sub _ ⟨rfl, rfl, rfl, rfl, rfl, trivial⟩, H⟩ ?_
    clear H S aa
    rintro ⟨x68, h9⟩ aa ww ⟨S, HI⟩
    replace S : St 77 [(0, Value.pointer f0), (6, Value.int .i64 inner6), (66, Value.slice x66.a x66.n x66.c), (67, Value.int .i64 ((x66.n : Nat) : Int)), (68, Value.int .i64 x68)] h9 w0 aa ww := S
    have H := HB x68 h9 HI
    clear HI
    refine W.seq ?_
    replace S := S.sub [(0, Value.pointer f0), (6, Value.int .i64 inner6), (66, Value.slice x66.a x66.n x66.c), (67, Value.int .i64 ((x66.n : Nat) : Int)), (68, Value.int .i64 x68)] ⟨rfl, rfl, rfl, rfl, rfl, trivial⟩
    refine W.region ?_
    refine OL.pure S (Lf.run_lss (S.ev rfl) (S.ev rfl)) rfl rfl trivial ?_
    clear S; intro aa S
    refine OL.nil ?_
    refine W.seq ?_
    refine W.cond S (b := (decide (x68 < ((x66.n : Nat) : Int)))) rfl (fun hb_6 => ?_) (fun hb_6 => ?_)
    · replace H := H.1 hb_6
      refine W.skip ?_
      refine W.seq ?_
      refine W.block ?_
      refine W.seq ?_
      replace S := S.sub [(0, Value.pointer f0), (6, Value.int .i64 inner6), (66, Value.slice x66.a x66.n x66.c), (67, Value.int .i64 ((x66.n : Nat) : Int)), (68, Value.int .i64 x68)] ⟨rfl, rfl, rfl, rfl, rfl, trivial⟩
      refine W.region ?_
      obtain ⟨q70, e_9, e_10, e_11, H⟩ := H
      refine OL.pure S (Lf.run_ixs (S.ev rfl) (S.ev rfl) Try.underlying32 ti34 e_9 e_10 e_11) rfl rfl trivial ?_
      clear S; intro aa S
      obtain ⟨y71, y71_1, y71_2, y71_3, y71_4, y71_5, c_25, c_26, c_27, c_28, c_29, c_30, H⟩ := H
      refine OL.pure S (Lf.run_ldA (cs := [Value.int .i64 y71, Value.string y71_1, Value.bool y71_2, Value.int .i64 y71_3, Value.slice y71_4.a y71_4.n y71_4.c, Value.slice y71_5.a y71_5.n y71_5.c]) (S.ev rfl) ag34 ti34 (by rw [S.heap]; exact RowL.toRow ⟨c_25, c_26, c_27, c_28, c_29, c_30, trivial⟩)) rfl rfl trivial ?_
      clear S; intro aa S
      refine ol_alloc S H ti34 rfl rfl trivial ?_
      clear S H aa; intro p9 aa ww h10 H S
      refine ol_stoA S H rfl rfl ti34 trivial ?_
      clear S H aa; intro aa ww h11 H S
      refine OL.nil ?_
      replace S := S.sub [(0, Value.pointer f0), (6, Value.int .i64 inner6), (9, Value.pointer (some p9)), (66, Value.slice x66.a x66.n x66.c), (67, Value.int .i64 ((x66.n : Nat) : Int)), (68, Value.int .i64 x68)] ⟨rfl, rfl, rfl, rfl, rfl, rfl, trivial⟩
      refine W.region ?_
      refine OL.pure S (Lf.run_move (S.ev rfl)) rfl rfl trivial ?_
      clear S; intro aa S
      obtain ⟨y73, y73_1, y73_2, y73_3, y73_4, y73_5, c_19, c_20, c_21, c_22, c_23, c_24, H⟩ := H
      refine OL.pure S (Lf.run_ldA (cs := [Value.int .i64 y73, Value.string y73_1, Value.bool y73_2, Value.int .i64 y73_3, Value.slice y73_4.a y73_4.n y73_4.c, Value.slice y73_5.a y73_5.n y73_5.c]) (S.ev rfl) ag34 ti34 (by rw [S.heap]; exact RowL.toRow ⟨c_19, c_20, c_21, c_22, c_23, c_24, trivial⟩)) rfl rfl trivial ?_
      clear S; intro aa S
      refine OL.pure S (Lf.run_move (S.ev rfl)) rfl rfl trivial ?_
      clear S; intro aa S
      refine ol_cal S H isfn17 rfl rfl trivial ?_
      clear S H aa; intro u_5 aa ww h12 H S
      refine OL.nil ?_
      replace S := S.sub [(0, Value.pointer f0), (6, Value.int .i64 inner6), (66, Value.slice x66.a x66.n x66.c), (67, Value.int .i64 ((x66.n : Nat) : Int)), (68, Value.int .i64 x68)] ⟨rfl, rfl, rfl, rfl, rfl, trivial⟩
      refine W.region ?_
      refine OL.pure S (Lf.run_add (S.ev rfl) (S.ev rfl)) rfl rfl trivial ?_
      clear S; intro aa S
      refine OL.pure S (Lf.run_move (S.ev rfl)) rfl rfl trivial ?_
      clear S; intro aa S
      refine OL.nil ?_
      exact ⟨((IntKind.i64.wrap (x68 + 1)), h12), ⟨S.sub _ ⟨rfl, rfl, rfl, rfl, rfl, trivial⟩, H.1⟩, H.2⟩
    · replace H := H.2 hb_6
      refine W.exit_ ?_
      refine xhit ?_
      exact Ret.none S rfl H

/-- slices.Index[[]string,string] -/
def L18 (s0 : Sv) (v1 : ByteArray) (h : Heap) (R : Value → Heap → Prop) : Prop :=
  ∃ (I : Int → Prop) (m : Int → Nat), I 0 ∧ ∀ x8, I x8 →
  ifb (decide (x8 < ((s0.n : Nat) : Int))) (
    ixS s0 x8 fun q14 =>
    ldT h (q14.add ((x8 : Int).toNat * 1)) fun x15 =>
    ifb (v1.toList == x15.toList) (
      R (Value.int .i64 x8) h) (
      I (IntKind.i64.wrap (x8 + 1)) ∧ m (IntKind.i64.wrap (x8 + 1)) < m x8)) (
    R (Value.int .i64 (-1)) h)

set_option maxRecDepth 100000 in

theorem F18 {s0 v1 h : _} {R : Value → Heap → Prop} (H : L18 s0 v1 h R) : CallsH Try.prog 18 #[Value.slice s0.a s0.n s0.c, Value.string v1] h R := by
  refine CallsH.enter (n := 19) Try.func18 rfl rfl rfl rfl ?_
  intro w0 aa ww S
  unfold L18 at H
  refine W.seq ?_
  replace S := S.sub [(0, Value.slice s0.a s0.n s0.c), (1, Value.string v1)] ⟨rfl, rfl, trivial⟩
  refine W.region ?_
  refine OL.pure S (Lf.run_assign (S.ev rfl)) rfl rfl trivial ?_
  clear S; intro aa S
  refine OL.nil ?_
  refine W.seq ?_
  refine W.seq ?_
  replace S := S.sub [(0, Value.slice s0.a s0.n s0.c), (1, Value.string v1)] ⟨rfl, rfl, trivial⟩
  refine W.region ?_
  refine OL.pure S (Lf.run_move (S.ev rfl)) rfl rfl trivial ?_
  clear S; intro aa S
  refine OL.pure S (Lf.run_lens (S.ev rfl) rfl Try.underlying37) rfl rfl trivial ?_
  clear S; intro aa S
  refine OL.pure S (Lf.run_move (S.ev rfl)) rfl rfl trivial ?_
  clear S; intro aa S
  refine OL.nil ?_
  refine W.block ?_
  obtain ⟨I, m, H, HB⟩ := H
  refine W.loopS (σ := Int) (fun s aa ww => St 19 [(0, Value.slice s0.a s0.n s0.c), (1, Value.string v1), (7, Value.int .i64 ((s0.n : Nat) : Int)), (8, Value.int .i64 s)] h w0 aa ww ∧ I s) (fun s => m s) (0) ⟨S.sub _ ⟨rfl, rfl, rfl, rfl, trivial⟩, H⟩ ?_
  clear H S aa
  rintro x8 aa ww ⟨S, HI⟩
  replace S : St 19 [(0, Value.slice s0.a s0.n s0.c), (1, Value.string v1), (7, Value.int .i64 ((s0.n : Nat) : Int)), (8, Value.int .i64 x8)] h w0 aa ww := S
  have H := HB x8 HI
  clear HI
  refine W.seq ?_
  replace S := S.sub [(0, Value.slice s0.a s0.n s0.c), (1, Value.string v1), (7, Value.int .i64 ((s0.n : Nat) : Int)), (8, Value.int .i64 x8)] ⟨rfl, rfl, rfl, rfl, trivial⟩
  refine W.region ?_
  refine OL.pure S (Lf.run_lss (S.ev rfl) (S.ev rfl)) rfl rfl trivial ?_
  clear S; intro aa S
  refine OL.nil ?_
  refine W.seq ?_
  refine W.cond S (b := (decide (x8 < ((s0.n : Nat) : Int)))) rfl (fun hb => ?_) (fun hb => ?_)
  · replace H := H.1 hb
    refine W.skip ?_
    refine W.seq ?_
    refine W.block ?_
    refine W.seq ?_
    replace S := S.sub [(0, Value.slice s0.a s0.n s0.c), (1, Value.string v1), (7, Value.int .i64 ((s0.n : Nat) : Int)), (8, Value.int .i64 x8)] ⟨rfl, rfl, rfl, rfl, trivial⟩
    refine W.region ?_
    refine OL.pure S (Lf.run_move (S.ev rfl)) rfl rfl trivial ?_
    clear S; intro aa S
    refine OL.pure S (Lf.run_assign (S.ev rfl)) rfl rfl trivial ?_
    clear S; intro aa S
    refine OL.nil ?_
    refine W.seq ?_
    replace S := S.sub [(0, Value.slice s0.a s0.n s0.c), (1, Value.string v1), (5, Value.int .i64 x8), (7, Value.int .i64 ((s0.n : Nat) : Int)), (8, Value.int .i64 x8)] ⟨rfl, rfl, rfl, rfl, rfl, trivial⟩
    refine W.region ?_
    refine OL.pure S (Lf.run_move (S.ev rfl)) rfl rfl trivial ?_
    clear S; intro aa S
    refine OL.pure S (Lf.run_move (S.ev rfl)) rfl rfl trivial ?_
    clear S; intro aa S
    refine OL.pure S (Lf.run_move (S.ev rfl)) rfl rfl trivial ?_
    clear S; intro aa S
    obtain ⟨q14, e, e_1, e_2, H⟩ := H
    refine OL.pure S (Lf.run_ixs (S.ev rfl) (S.ev rfl) Try.underlying37 ti9 e e_1 e_2) rfl rfl trivial ?_
    clear S; intro aa S
    obtain ⟨x15, c, H⟩ := H
    refine OL.pure S (Lf.run_ld (S.ev rfl) fl9 (S.cl c)) rfl rfl trivial ?_
    clear S; intro aa S
    refine OL.pure S (Lf.run_eqlt (S.ev rfl) (S.ev rfl)) rfl rfl trivial ?_
    clear S; intro aa S
    refine OL.nil ?_
    refine W.cond S (b := (v1.toList == x15.toList)) rfl (fun hb_1 => ?_) (fun hb_1 => ?_)
    · replace H := H.1 hb_1
      refine W.seq ?_
      replace S := S.sub [(5, Value.int .i64 x8)] ⟨rfl, trivial⟩
      refine W.region ?_
      refine OL.pure S (Lf.run_move (S.ev rfl)) rfl rfl trivial ?_
      clear S; intro aa S
      refine OL.pure S (Lf.run_assign (S.ev rfl)) rfl rfl trivial ?_
      clear S; intro aa S
      refine OL.nil ?_
      refine W.ret ?_
      exact Ret.one S rfl rfl H
    · replace H := H.2 hb_1
      refine W.skip ?_
      replace S := S.sub [(0, Value.slice s0.a s0.n s0.c), (1, Value.string v1), (7, Value.int .i64 ((s0.n : Nat) : Int)), (8, Value.int .i64 x8)] ⟨rfl, rfl, rfl, rfl, trivial⟩
      refine W.region ?_
      refine OL.pure S (Lf.run_add (S.ev rfl) (S.ev rfl)) rfl rfl trivial ?_
      clear S; intro aa S
      refine OL.pure S (Lf.run_move (S.ev rfl)) rfl rfl trivial ?_
      clear S; intro aa S
      refine OL.nil ?_
      exact ⟨((IntKind.i64.wrap (x8 + 1))), ⟨S.sub _ ⟨rfl, rfl, rfl, rfl, trivial⟩, H.1⟩, H.2⟩
  · replace H := H.2 hb
    refine W.exit_ ?_
    refine xhit ?_
    refine W.seq ?_
    replace S := S.sub [] trivial
    refine W.region ?_
    refine OL.pure S (Lf.run_assign (S.ev rfl)) rfl rfl trivial ?_
    clear S; intro aa S
    refine OL.nil ?_
    refine W.ret ?_
    exact Ret.one S rfl rfl H

/-- (*chattel vary.finder).life -/
def L19 (f0 : Option Addr) (r1 : Int) (way2 : Int) (h : Heap) (R : Value → Heap → Prop) : Prop :=
  ∃ J : Bool → Prop, (andr (decide (1 ≤ r1)) (fun k =>
    nn f0 fun p11 =>
    ldI .i64 h (p11.add 1) fun x14 =>
    k (decide (r1 ≤ x14))) J) ∧ ∀ x16, J x16 →
  ifb x16 (
    nn f0 fun p18 =>
    ldS h (p18.add 5) fun x20 =>
    ixS x20 (IntKind.i64.wrap (r1 - 1)) fun q23 =>
    ldI .i64 h (q23.add (((IntKind.i64.wrap (r1 - 1)) : Int).toNat * 1)) fun x24 =>
    ixS x20 (IntKind.i64.wrap (r1 - 1)) fun q27 =>
    sto h (q27.add (((IntKind.i64.wrap (r1 - 1)) : Int).toNat * 1)) (Value.int .i64 (bitsI .or .i64 x24 way2)) fun h1 =>
    R (.tuple #[]) h1) (
    R (.tuple #[]) h)

set_option maxRecDepth 100000 in

theorem F19 {f0 r1 way2 h : _} {R : Value → Heap → Prop} (H : L19 f0 r1 way2 h R) : CallsH Try.prog 19 #[Value.pointer f0, Value.int .i64 r1, Value.int .i64 way2] h R := by
  refine CallsH.enter (n := 28) Try.func19 rfl rfl rfl rfl ?_
  intro w0 aa ww S
  unfold L19 at H
  refine W.seq ?_
  replace S := S.sub [(0, Value.pointer f0), (1, Value.int .i64 r1), (2, Value.int .i64 way2)] ⟨rfl, rfl, rfl, trivial⟩
  refine W.region ?_
  refine OL.pure S (Lf.run_move (S.ev rfl)) rfl rfl trivial ?_
  clear S; intro aa S
  refine OL.pure S (Lf.run_geq (S.ev rfl) (S.ev rfl)) rfl rfl trivial ?_
  clear S; intro aa S
  refine OL.pure S (Lf.run_move (S.ev rfl)) rfl rfl trivial ?_
  clear S; intro aa S
  obtain ⟨J, H, HK⟩ := H
  refine OL.cutN 8 (fun aa ww => ∃ x16, St 28 ((16, Value.bool x16) :: [(0, Value.pointer f0), (1, Value.int .i64 r1), (2, Value.int .i64 way2), (6, Value.int .i64 r1), (7, Value.bool (decide (1 ≤ r1))), (8, Value.bool (decide (1 ≤ r1)))]) h w0 aa ww ∧ J x16) ?_ ?_
  · rcases Bool.eq_false_or_eq_true (decide (1 ≤ r1)) with hb | hb
    · replace H := H.1 hb
      refine OL.pure S (Lf.run_move (S.ev rfl)) rfl rfl (GOk.mk rfl rfl hb) ?_
      clear S; intro aa S
      refine OL.pure S (Lf.run_move (S.ev rfl)) rfl rfl (GOk.mk rfl rfl hb) ?_
      clear S; intro aa S
      obtain ⟨p11, e, H⟩ := H
      refine OL.pure S (Lf.run_nc' (S.ev rfl) e) rfl rfl (GOk.mk rfl rfl hb) ?_
      clear S; intro aa S
      refine OL.pure S (Lf.run_fa (S.ev rfl) fa47_0) rfl rfl (GOk.mk rfl rfl hb) ?_
      clear S; intro aa S
      refine OL.pure S (Lf.run_fa (S.ev rfl) fa39_1) rfl rfl (GOk.mk rfl rfl hb) ?_
      clear S; intro aa S
      obtain ⟨x14, c, H⟩ := H
      refine OL.pure S (Lf.run_ld (S.ev rfl) fl3 (S.cl c)) rfl rfl (GOk.mk rfl rfl hb) ?_
      clear S; intro aa S
      refine OL.pure S (Lf.run_leq (S.ev rfl) (S.ev rfl)) rfl rfl (GOk.mk rfl rfl hb) ?_
      clear S; intro aa S
      refine OL.pure S (Lf.run_pickT (S.ev rfl) hb (S.ev rfl)) rfl rfl trivial ?_
      clear S; intro aa S
      refine OL.nil ?_
      exact ⟨_, S.sub _ ⟨rfl, rfl, rfl, rfl, rfl, rfl, rfl, trivial⟩, H⟩
    · replace H := H.2 hb
      refine OL.not S rfl rfl (GNo.mk rfl rfl hb) ?_
      clear S; intro aa S
      refine OL.not S rfl rfl (GNo.mk rfl rfl hb) ?_
      clear S; intro aa S
      refine OL.not S rfl rfl (GNo.mk rfl rfl hb) ?_
      clear S; intro aa S
      refine OL.not S rfl rfl (GNo.mk rfl rfl hb) ?_
      clear S; intro aa S
      refine OL.not S rfl rfl (GNo.mk rfl rfl hb) ?_
      clear S; intro aa S
      refine OL.not S rfl rfl (GNo.mk rfl rfl hb) ?_
      clear S; intro aa S
      refine OL.not S rfl rfl (GNo.mk rfl rfl hb) ?_
      clear S; intro aa S
      refine OL.pure S (Lf.run_pickF (S.ev rfl) hb (S.ev rfl)) rfl rfl trivial ?_
      clear S; intro aa S
      refine OL.nil ?_
      exact ⟨_, S.sub _ ⟨rfl, rfl, rfl, rfl, rfl, rfl, rfl, trivial⟩, H⟩
  · clear S aa
    rintro aa ww ⟨x16, S, HJ⟩
    replace H := HK _ HJ
    clear HK HJ
    refine OL.nil ?_
    refine W.cond S (b := x16) rfl (fun hb_1 => ?_) (fun hb_1 => ?_)
    · replace H := H.1 hb_1
      replace S := S.sub [(0, Value.pointer f0), (1, Value.int .i64 r1), (2, Value.int .i64 way2)] ⟨rfl, rfl, rfl, trivial⟩
      refine W.region ?_
      refine OL.pure S (Lf.run_move (S.ev rfl)) rfl rfl trivial ?_
      clear S; intro aa S
      obtain ⟨p18, e_1, H⟩ := H
      refine OL.pure S (Lf.run_nc' (S.ev rfl) e_1) rfl rfl trivial ?_
      clear S; intro aa S
      refine OL.pure S (Lf.run_fa (S.ev rfl) fa47_2) rfl rfl trivial ?_
      clear S; intro aa S
      obtain ⟨x20, c_1, H⟩ := H
      refine OL.pure S (Lf.run_ld (S.ev rfl) fl26 (S.cl c_1)) rfl rfl trivial ?_
      clear S; intro aa S
      refine OL.pure S (Lf.run_move (S.ev rfl)) rfl rfl trivial ?_
      clear S; intro aa S
      refine OL.pure S (Lf.run_sub (S.ev rfl) (S.ev rfl)) rfl rfl trivial ?_
      clear S; intro aa S
      obtain ⟨q23, e_2, e_3, e_4, H⟩ := H
      refine OL.pure S (Lf.run_ixs (S.ev rfl) (S.ev rfl) Try.underlying26 ti3 e_2 e_3 e_4) rfl rfl trivial ?_
      clear S; intro aa S
      obtain ⟨x24, c_2, H⟩ := H
      refine OL.pure S (Lf.run_ld (S.ev rfl) fl3 (S.cl c_2)) rfl rfl trivial ?_
      clear S; intro aa S
      refine OL.pure S (Lf.run_move (S.ev rfl)) rfl rfl trivial ?_
      clear S; intro aa S
      refine OL.pure S (Lf.run_bits (op := .or) (by simp) (S.ev rfl) (S.ev rfl)) rfl rfl trivial ?_
      clear S; intro aa S
      obtain ⟨q27, e_5, e_6, e_7, H⟩ := H
      refine OL.pure S (Lf.run_ixs (S.ev rfl) (S.ev rfl) Try.underlying26 ti3 e_5 e_6 e_7) rfl rfl trivial ?_
      clear S; intro aa S
      refine ol_sto S H rfl rfl rfl ti3 trivial ?_
      clear S H aa; intro aa ww h1 H S
      refine OL.nil ?_
      exact Ret.none S rfl H
    · replace H := H.2 hb_1
      refine W.skip ?_
      exact Ret.none S rfl H

/-- (*chattel vary.finder).slots -/
def L20 (f0 : Option Addr) (x1 : Int) (x1_1 : ByteArray) (x1_2 : Bool) (x1_3 : Int) (x1_4 : Sv) (x1_5 : Sv) (way2 : Int) (h : Heap) (R : Value → Heap → Prop) : Prop :=
  new 34 #[Value.int .i64 x1, Value.string x1_1, Value.bool x1_2, Value.int .i64 x1_3, Value.slice x1_4.a x1_4.n x1_4.c, Value.slice x1_5.a x1_5.n x1_5.c] h fun p4 h1 =>
  ldS h1 (p4.add 4) fun x11 =>
  ∃ (I : Int → Heap → Prop) (m : Int → Heap → Nat), I 0 h1 ∧ ∀ x13 h2, I x13 h2 →
  ifb (decide (x13 < ((x11.n : Nat) : Int))) (
    ixS x11 x13 fun q16 =>
    ldI .i64 h2 (q16.add ((x13 : Int).toNat * 1)) fun x17 =>
    nn f0 fun p22 =>
    ldM h2 (p22.add 4) fun x24 =>
    ldT h2 (p4.add 1) fun x26 =>
    cal Try.prog 9 #[Value.map x24, Value.string x26, Value.int .i64 x13] h2 fun u h3 => asI .i64 u fun x28 =>
    cal Try.prog 7 #[Value.int .i64 way2, Value.int .i64 x28] h3 fun u_1 h4 => asI .i64 u_1 fun x29 =>
    cal Try.prog 19 #[Value.pointer f0, Value.int .i64 x17, Value.int .i64 x29] h4 fun u_2 h5 =>
    I (IntKind.i64.wrap (x13 + 1)) h5 ∧ m (IntKind.i64.wrap (x13 + 1)) h5 < m x13 h2) (
    ldS h2 (p4.add 5) fun x33 =>
    ∃ (I_1 : Int → Heap → Prop) (m_1 : Int → Heap → Nat), I_1 0 h2 ∧ ∀ x35 h6, I_1 x35 h6 →
    ifb (decide (x35 < ((x33.n : Nat) : Int))) (
      ixS x33 x35 fun q38 =>
      ∃ (y39 : Int) (y39_1 : ByteArray) (y39_2 : Bool) (y39_3 : Int) (y39_4 : Sv) (y39_5 : Sv), cl h6 (q38.add ((x35 : Int).toNat * 6)) = some (Value.int .i64 y39) ∧ cl h6 ((q38.add ((x35 : Int).toNat * 6)).add 1) = some (Value.string y39_1) ∧ cl h6 ((q38.add ((x35 : Int).toNat * 6)).add 2) = some (Value.bool y39_2) ∧ cl h6 ((q38.add ((x35 : Int).toNat * 6)).add 3) = some (Value.int .i64 y39_3) ∧ cl h6 ((q38.add ((x35 : Int).toNat * 6)).add 4) = some (Value.slice y39_4.a y39_4.n y39_4.c) ∧ cl h6 ((q38.add ((x35 : Int).toNat * 6)).add 5) = some (Value.slice y39_5.a y39_5.n y39_5.c) ∧
      new 34 #[Value.int .i64 0, Value.string (⟨#[]⟩ : ByteArray), Value.bool false, Value.int .i64 0, Value.slice (⟨none, 0, 0⟩ : Sv).a (⟨none, 0, 0⟩ : Sv).n (⟨none, 0, 0⟩ : Sv).c, Value.slice (⟨none, 0, 0⟩ : Sv).a (⟨none, 0, 0⟩ : Sv).n (⟨none, 0, 0⟩ : Sv).c] h6 fun p9 h7 =>
      stoA h7 p9 [Value.int .i64 y39, Value.string y39_1, Value.bool y39_2, Value.int .i64 y39_3, Value.slice y39_4.a y39_4.n y39_4.c, Value.slice y39_5.a y39_5.n y39_5.c] fun h8 =>
      ∃ Sq : Heap → Prop, Sq h8 ∧ (
        nn f0 fun p44 =>
        ldS h8 (p4.add 4) fun x50 =>
        ldM h8 (p44.add 4) fun x46 =>
        ldT h8 (p4.add 1) fun x48 =>
        ∃ (y41 : Int) (y41_1 : ByteArray) (y41_2 : Bool) (y41_3 : Int) (y41_4 : Sv) (y41_5 : Sv), hld Sq p9 (Value.int .i64 y41) ∧ hld Sq (p9.add 1) (Value.string y41_1) ∧ hld Sq (p9.add 2) (Value.bool y41_2) ∧ hld Sq (p9.add 3) (Value.int .i64 y41_3) ∧ hld Sq (p9.add 4) (Value.slice y41_4.a y41_4.n y41_4.c) ∧ hld Sq (p9.add 5) (Value.slice y41_5.a y41_5.n y41_5.c) ∧
        cal Try.prog 9 #[Value.map x46, Value.string x48, Value.int .i64 (IntKind.i64.wrap (((x50.n : Nat) : Int) + x35))] h8 fun u_3 h9 => asI .i64 u_3 fun x54 =>
        Sq h9 ∧
        cal Try.prog 7 #[Value.int .i64 way2, Value.int .i64 x54] h9 fun u_4 h10 => asI .i64 u_4 fun x55 =>
        Sq h10 ∧
        cal Try.prog 17 #[Value.pointer f0, Value.agg #[Value.int .i64 y41, Value.string y41_1, Value.bool y41_2, Value.int .i64 y41_3, Value.slice y41_4.a y41_4.n y41_4.c, Value.slice y41_5.a y41_5.n y41_5.c], Value.int .i64 x55] h10 fun u_5 h11 =>
        I_1 (IntKind.i64.wrap (x35 + 1)) h11 ∧ m_1 (IntKind.i64.wrap (x35 + 1)) h11 < m_1 x35 h6)) (
      R (.tuple #[]) h6))

set_option maxRecDepth 100000 in

theorem F20 {f0 x1 x1_1 x1_2 x1_3 x1_4 x1_5 way2 h : _} {R : Value → Heap → Prop} (H : L20 f0 x1 x1_1 x1_2 x1_3 x1_4 x1_5 way2 h R) : CallsH Try.prog 20 #[Value.pointer f0, Value.agg #[Value.int .i64 x1, Value.string x1_1, Value.bool x1_2, Value.int .i64 x1_3, Value.slice x1_4.a x1_4.n x1_4.c, Value.slice x1_5.a x1_5.n x1_5.c], Value.int .i64 way2] h R := by
  refine CallsH.enter (n := 58) Try.func20 rfl rfl rfl rfl ?_
  intro w0 aa ww S
  unfold L20 at H
  refine W.seq ?_
  replace S := S.sub [(0, Value.pointer f0), (1, Value.agg #[Value.int .i64 x1, Value.string x1_1, Value.bool x1_2, Value.int .i64 x1_3, Value.slice x1_4.a x1_4.n x1_4.c, Value.slice x1_5.a x1_5.n x1_5.c]), (2, Value.int .i64 way2)] ⟨rfl, rfl, rfl, trivial⟩
  refine W.region ?_
  refine ol_box S H rfl rfl rfl trivial ?_
  clear S H aa; intro p4 aa ww h1 H S
  refine OL.nil ?_
  refine W.seq ?_
  refine W.seq ?_
  replace S := S.sub [(0, Value.pointer f0), (2, Value.int .i64 way2), (4, Value.pointer (some p4))] ⟨rfl, rfl, rfl, trivial⟩
  refine W.region ?_
  refine OL.pure S (Lf.run_fa (S.ev rfl) fa34_4) rfl rfl trivial ?_
  clear S; intro aa S
  obtain ⟨x11, c, H⟩ := H
  refine OL.pure S (Lf.run_ld (S.ev rfl) fl26 (S.cl c)) rfl rfl trivial ?_
  clear S; intro aa S
  refine OL.pure S (Lf.run_lens (S.ev rfl) rfl Try.underlying26) rfl rfl trivial ?_
  clear S; intro aa S
  refine OL.pure S (Lf.run_move (S.ev rfl)) rfl rfl trivial ?_
  clear S; intro aa S
  refine OL.nil ?_
  refine W.block ?_
  obtain ⟨I, m, H, HB_1⟩ := H
  refine W.loopS (σ := Int × Heap) (fun s aa ww => St 58 [(0, Value.pointer f0), (2, Value.int .i64 way2), (4, Value.pointer (some p4)), (11, Value.slice x11.a x11.n x11.c), (12, Value.int .i64 ((x11.n : Nat) : Int)), (13, Value.int .i64 s.1)] s.2 w0 aa ww ∧ I s.1 s.2) (fun s => m s.1 s.2) (0, h1) ⟨S.sub _ ⟨rfl, rfl, rfl, rfl, rfl, rfl, trivial⟩, H⟩ ?_
  clear H S aa
  rintro ⟨x13, h2⟩ aa ww ⟨S, HI⟩
  replace S : St 58 [(0, Value.pointer f0), (2, Value.int .i64 way2), (4, Value.pointer (some p4)), (11, Value.slice x11.a x11.n x11.c), (12, Value.int .i64 ((x11.n : Nat) : Int)), (13, Value.int .i64 x13)] h2 w0 aa ww := S
  have H := HB_1 x13 h2 HI
  clear HI
  refine W.seq ?_
  replace S := S.sub [(0, Value.pointer f0), (2, Value.int .i64 way2), (4, Value.pointer (some p4)), (11, Value.slice x11.a x11.n x11.c), (12, Value.int .i64 ((x11.n : Nat) : Int)), (13, Value.int .i64 x13)] ⟨rfl, rfl, rfl, rfl, rfl, rfl, trivial⟩
  refine W.region ?_
  refine OL.pure S (Lf.run_lss (S.ev rfl) (S.ev rfl)) rfl rfl trivial ?_
  clear S; intro aa S
  refine OL.nil ?_
  refine W.seq ?_
  refine W.cond S (b := (decide (x13 < ((x11.n : Nat) : Int)))) rfl (fun hb => ?_) (fun hb => ?_)
  · replace H := H.1 hb
    refine W.skip ?_
    refine W.seq ?_
    refine W.block ?_
    refine W.seq ?_
    replace S := S.sub [(0, Value.pointer f0), (2, Value.int .i64 way2), (4, Value.pointer (some p4)), (11, Value.slice x11.a x11.n x11.c), (12, Value.int .i64 ((x11.n : Nat) : Int)), (13, Value.int .i64 x13)] ⟨rfl, rfl, rfl, rfl, rfl, rfl, trivial⟩
    refine W.region ?_
    refine OL.pure S (Lf.run_move (S.ev rfl)) rfl rfl trivial ?_
    clear S; intro aa S
    obtain ⟨q16, e, e_1, e_2, H⟩ := H
    refine OL.pure S (Lf.run_ixs (S.ev rfl) (S.ev rfl) Try.underlying26 ti3 e e_1 e_2) rfl rfl trivial ?_
    clear S; intro aa S
    obtain ⟨x17, c_1, H⟩ := H
    refine OL.pure S (Lf.run_ld (S.ev rfl) fl3 (S.cl c_1)) rfl rfl trivial ?_
    clear S; intro aa S
    refine OL.pure S (Lf.run_assign (S.ev rfl)) rfl rfl trivial ?_
    clear S; intro aa S
    refine OL.pure S (Lf.run_assign (S.ev rfl)) rfl rfl trivial ?_
    clear S; intro aa S
    refine OL.nil ?_
    replace S := S.sub [(0, Value.pointer f0), (2, Value.int .i64 way2), (4, Value.pointer (some p4)), (6, Value.int .i64 x13), (7, Value.int .i64 x17), (11, Value.slice x11.a x11.n x11.c), (12, Value.int .i64 ((x11.n : Nat) : Int)), (13, Value.int .i64 x13)] ⟨rfl, rfl, rfl, rfl, rfl, rfl, rfl, rfl, trivial⟩
    refine W.regionD S (by kernel_rfl) ?_
    clear S; intro ww S
    refine AN.pure 0 S rfl (by kernel_rfl) (fun _ => Lf.run_move (S.ev rfl)) rfl rfl trivial ?_
    clear S; intro aa S
    refine AN.pure 1 S rfl (by kernel_rfl) (fun _ => Lf.run_move (S.ev rfl)) rfl rfl trivial ?_
    clear S; intro aa S
    refine AN.pure 2 S rfl (by kernel_rfl) (fun _ => Lf.run_move (S.ev rfl)) rfl rfl trivial ?_
    clear S; intro aa S
    refine AN.pure 3 S rfl (by kernel_rfl) (fun _ => Lf.run_move (S.ev rfl)) rfl rfl trivial ?_
    clear S; intro aa S
    obtain ⟨p22, e_3, H⟩ := H
    refine AN.pure 4 S rfl (by kernel_rfl) (fun _ => Lf.run_nc' (S.ev rfl) e_3) rfl rfl trivial ?_
    clear S; intro aa S
    refine AN.pure 5 S rfl (by kernel_rfl) (fun _ => Lf.run_fa (S.ev rfl) fa47_1) rfl rfl trivial ?_
    clear S; intro aa S
    obtain ⟨x24, c_2, H⟩ := H
    refine AN.load 6 S rfl (by kernel_rfl) (fun _ hx => Lf.run_ld (S.ev rfl) fl28 (hx.cell _ _ (S.cl c_2))) rfl rfl trivial ?_
    clear S; intro aa S
    refine AN.pure 7 S rfl (by kernel_rfl) (fun _ => Lf.run_fa (S.ev rfl) fa34_1) rfl rfl trivial ?_
    clear S; intro aa S
    obtain ⟨x26, c_3, H⟩ := H
    refine AN.load 8 S rfl (by kernel_rfl) (fun _ hx => Lf.run_ld (S.ev rfl) fl9 (hx.cell _ _ (S.cl c_3))) rfl rfl trivial ?_
    clear S; intro aa S
    refine AN.pure 9 S rfl (by kernel_rfl) (fun _ => Lf.run_move (S.ev rfl)) rfl rfl trivial ?_
    clear S; intro aa S
    refine AN.eff 10 rfl (by kernel_rfl) ?_
    refine ol_cal S H isfn9 rfl rfl trivial ?_
    clear S H aa; intro u aa ww h3 H S
    obtain ⟨x28, rfl, H⟩ := H
    refine OL.nil ?_
    refine AN.eff 11 rfl (by kernel_rfl) ?_
    refine ol_cal S H isfn7 rfl rfl trivial ?_
    clear S H aa; intro u_1 aa ww h4 H S
    obtain ⟨x29, rfl, H⟩ := H
    refine OL.nil ?_
    refine AN.eff 12 rfl (by kernel_rfl) ?_
    refine ol_cal S H isfn19 rfl rfl trivial ?_
    clear S H aa; intro u_2 aa ww h5 H S
    refine OL.nil ?_
    refine AN.done (by kernel_rfl) ?_
    replace S := S.sub [(0, Value.pointer f0), (2, Value.int .i64 way2), (4, Value.pointer (some p4)), (11, Value.slice x11.a x11.n x11.c), (12, Value.int .i64 ((x11.n : Nat) : Int)), (13, Value.int .i64 x13)] ⟨rfl, rfl, rfl, rfl, rfl, rfl, trivial⟩
    refine W.region ?_
    refine OL.pure S (Lf.run_add (S.ev rfl) (S.ev rfl)) rfl rfl trivial ?_
    clear S; intro aa S
    refine OL.pure S (Lf.run_move (S.ev rfl)) rfl rfl trivial ?_
    clear S; intro aa S
    refine OL.nil ?_
    exact ⟨((IntKind.i64.wrap (x13 + 1)), h5), ⟨S.sub _ ⟨rfl, rfl, rfl, rfl, rfl, rfl, trivial⟩, H.1⟩, H.2⟩
  · replace H := H.2 hb
    refine W.exit_ ?_
    refine xhit ?_
    refine W.seq ?_
    replace S := S.sub [(0, Value.pointer f0), (2, Value.int .i64 way2), (4, Value.pointer (some p4))] ⟨rfl, rfl, rfl, trivial⟩
    refine W.region ?_
    refine OL.pure S (Lf.run_fa (S.ev rfl) fa34_5) rfl rfl trivial ?_
    clear S; intro aa S
    obtain ⟨x33, c_4, H⟩ := H
    refine OL.pure S (Lf.run_ld (S.ev rfl) fl32 (S.cl c_4)) rfl rfl trivial ?_
    clear S; intro aa S
    refine OL.pure S (Lf.run_lens (S.ev rfl) rfl Try.underlying32) rfl rfl trivial ?_
    clear S; intro aa S
    refine OL.pure S (Lf.run_move (S.ev rfl)) rfl rfl trivial ?_
    clear S; intro aa S
    refine OL.nil ?_
    refine W.block ?_
    obtain ⟨I_1, m_1, H, HB⟩ := H
    refine W.loopS (σ := Int × Heap) (fun s aa ww => St 58 [(0, Value.pointer f0), (2, Value.int .i64 way2), (4, Value.pointer (some p4)), (33, Value.slice x33.a x33.n x33.c), (34, Value.int .i64 ((x33.n : Nat) : Int)), (35, Value.int .i64 s.1)] s.2 w0 aa ww ∧ I_1 s.1 s.2) (fun s => m_1 s.1 s.2) (0, h2) ⟨S.sub _ ⟨rfl, rfl, rfl, rfl, rfl, rfl, trivial⟩, H⟩ ?_
    clear H S aa
    rintro ⟨x35, h6⟩ aa ww ⟨S, HI⟩
    replace S : St 58 [(0, Value.pointer f0), (2, Value.int .i64 way2), (4, Value.pointer (some p4)), (33, Value.slice x33.a x33.n x33.c), (34, Value.int .i64 ((x33.n : Nat) : Int)), (35, Value.int .i64 x35)] h6 w0 aa ww := S
    have H := HB x35 h6 HI
    clear HI
    refine W.seq ?_
    replace S := S.sub [(0, Value.pointer f0), (2, Value.int .i64 way2), (4, Value.pointer (some p4)), (33, Value.slice x33.a x33.n x33.c), (34, Value.int .i64 ((x33.n : Nat) : Int)), (35, Value.int .i64 x35)] ⟨rfl, rfl, rfl, rfl, rfl, rfl, trivial⟩
    refine W.region ?_
    refine OL.pure S (Lf.run_lss (S.ev rfl) (S.ev rfl)) rfl rfl trivial ?_
    clear S; intro aa S
    refine OL.nil ?_
    refine W.seq ?_
    refine W.cond S (b := (decide (x35 < ((x33.n : Nat) : Int)))) rfl (fun hb_1 => ?_) (fun hb_1 => ?_)
    · replace H := H.1 hb_1
      refine W.skip ?_
      refine W.seq ?_
      refine W.block ?_
      refine W.seq ?_
      replace S := S.sub [(0, Value.pointer f0), (2, Value.int .i64 way2), (4, Value.pointer (some p4)), (33, Value.slice x33.a x33.n x33.c), (34, Value.int .i64 ((x33.n : Nat) : Int)), (35, Value.int .i64 x35)] ⟨rfl, rfl, rfl, rfl, rfl, rfl, trivial⟩
      refine W.region ?_
      refine OL.pure S (Lf.run_move (S.ev rfl)) rfl rfl trivial ?_
      clear S; intro aa S
      obtain ⟨q38, e_4, e_5, e_6, H⟩ := H
      refine OL.pure S (Lf.run_ixs (S.ev rfl) (S.ev rfl) Try.underlying32 ti34 e_4 e_5 e_6) rfl rfl trivial ?_
      clear S; intro aa S
      obtain ⟨y39, y39_1, y39_2, y39_3, y39_4, y39_5, c_16, c_17, c_18, c_19, c_20, c_21, H⟩ := H
      refine OL.pure S (Lf.run_ldA (cs := [Value.int .i64 y39, Value.string y39_1, Value.bool y39_2, Value.int .i64 y39_3, Value.slice y39_4.a y39_4.n y39_4.c, Value.slice y39_5.a y39_5.n y39_5.c]) (S.ev rfl) ag34 ti34 (by rw [S.heap]; exact RowL.toRow ⟨c_16, c_17, c_18, c_19, c_20, c_21, trivial⟩)) rfl rfl trivial ?_
      clear S; intro aa S
      refine ol_alloc S H ti34 rfl rfl trivial ?_
      clear S H aa; intro p9 aa ww h7 H S
      refine OL.pure S (Lf.run_assign (S.ev rfl)) rfl rfl trivial ?_
      clear S; intro aa S
      refine ol_stoA S H rfl rfl ti34 trivial ?_
      clear S H aa; intro aa ww h8 H S
      refine OL.nil ?_
      replace S := S.sub [(0, Value.pointer f0), (2, Value.int .i64 way2), (4, Value.pointer (some p4)), (8, Value.int .i64 x35), (9, Value.pointer (some p9)), (33, Value.slice x33.a x33.n x33.c), (34, Value.int .i64 ((x33.n : Nat) : Int)), (35, Value.int .i64 x35)] ⟨rfl, rfl, rfl, rfl, rfl, rfl, rfl, rfl, trivial⟩
      obtain ⟨Sq, HS, H⟩ := H
      refine W.regionN [1] [14, 15, 16] Sq S (by kernel_rfl) ?_
      clear S; intro ww S
      refine BN.pure 0 S (fun _ => HS) rfl (by kernel_rfl) (by kernel_rfl) (fun _ => Lf.run_move (S.ev rfl)) rfl rfl trivial ?_
      clear S; intro aa S
      refine BN.pure 2 S (fun _ => HS) rfl (by kernel_rfl) (by kernel_rfl) (fun _ => Lf.run_move (S.ev rfl)) rfl rfl trivial ?_
      clear S; intro aa S
      refine BN.pure 3 S (fun _ => HS) rfl (by kernel_rfl) (by kernel_rfl) (fun _ => Lf.run_move (S.ev rfl)) rfl rfl trivial ?_
      clear S; intro aa S
      obtain ⟨p44, e_7, H⟩ := H
      refine BN.pure 4 S (fun _ => HS) rfl (by kernel_rfl) (by kernel_rfl) (fun _ => Lf.run_nc' (S.ev rfl) e_7) rfl rfl trivial ?_
      clear S; intro aa S
      refine BN.pure 5 S (fun _ => HS) rfl (by kernel_rfl) (by kernel_rfl) (fun _ => Lf.run_fa (S.ev rfl) fa47_1) rfl rfl trivial ?_
      clear S; intro aa S
      refine BN.pure 7 S (fun _ => HS) rfl (by kernel_rfl) (by kernel_rfl) (fun _ => Lf.run_fa (S.ev rfl) fa34_1) rfl rfl trivial ?_
      clear S; intro aa S
      refine BN.pure 9 S (fun _ => HS) rfl (by kernel_rfl) (by kernel_rfl) (fun _ => Lf.run_fa (S.ev rfl) fa34_4) rfl rfl trivial ?_
      clear S; intro aa S
      obtain ⟨x50, c_6, H⟩ := H
      refine BN.load 10 S (fun _ => HS) rfl (by kernel_rfl) (by kernel_rfl) (fun _ hx => Lf.run_ld (S.ev rfl) fl26 (hx.cell _ _ (S.cl c_6))) rfl rfl trivial ?_
      clear S; intro aa S
      refine BN.pure 11 S (fun _ => HS) rfl (by kernel_rfl) (by kernel_rfl) (fun _ => Lf.run_lens (S.ev rfl) rfl Try.underlying26) rfl rfl trivial ?_
      clear S; intro aa S
      obtain ⟨x46, c_7, H⟩ := H
      refine BN.load 6 S (fun _ => HS) rfl (by kernel_rfl) (by kernel_rfl) (fun _ hx => Lf.run_ld (S.ev rfl) fl28 (hx.cell _ _ (S.cl c_7))) rfl rfl trivial ?_
      clear S; intro aa S
      obtain ⟨x48, c_8, H⟩ := H
      refine BN.load 8 S (fun _ => HS) rfl (by kernel_rfl) (by kernel_rfl) (fun _ hx => Lf.run_ld (S.ev rfl) fl9 (hx.cell _ _ (S.cl c_8))) rfl rfl trivial ?_
      clear S; intro aa S
      refine BN.pure 12 S (fun _ => HS) rfl (by kernel_rfl) (by kernel_rfl) (fun _ => Lf.run_move (S.ev rfl)) rfl rfl trivial ?_
      clear S; intro aa S
      refine BN.pure 13 S (fun _ => HS) rfl (by kernel_rfl) (by kernel_rfl) (fun _ => Lf.run_add (S.ev rfl) (S.ev rfl)) rfl rfl trivial ?_
      clear S; intro aa S
      obtain ⟨y41, y41_1, y41_2, y41_3, y41_4, y41_5, c_10, c_11, c_12, c_13, c_14, c_15, H⟩ := H
      refine BN.held 1 S HS rfl (by kernel_rfl) (fun _ hq => Lf.run_ldA (cs := [Value.int .i64 y41, Value.string y41_1, Value.bool y41_2, Value.int .i64 y41_3, Value.slice y41_4.a y41_4.n y41_4.c, Value.slice y41_5.a y41_5.n y41_5.c]) (S.ev rfl) ag34 ti34 (hlRow hq fun h_ hs_ => ⟨c_10 h_ hs_, c_11 h_ hs_, c_12 h_ hs_, c_13 h_ hs_, c_14 h_ hs_, c_15 h_ hs_, trivial⟩)) rfl rfl trivial ?_
      clear S; intro aa S
      refine BN.eff 14 rfl (by kernel_rfl) ?_
      refine ol_cal S H isfn9 rfl rfl trivial ?_
      clear S H aa; intro u_3 aa ww h9 H S
      obtain ⟨x54, rfl, H⟩ := H
      refine OL.nil ?_
      clear HS; obtain ⟨HS, H⟩ := H
      refine ⟨fun _ => by rw [S.heap]; exact HS, ?_⟩
      refine BN.eff 15 rfl (by kernel_rfl) ?_
      refine ol_cal S H isfn7 rfl rfl trivial ?_
      clear S H aa; intro u_4 aa ww h10 H S
      obtain ⟨x55, rfl, H⟩ := H
      refine OL.nil ?_
      clear HS; obtain ⟨HS, H⟩ := H
      refine ⟨fun _ => by rw [S.heap]; exact HS, ?_⟩
      refine BN.eff 16 rfl (by kernel_rfl) ?_
      refine ol_cal S H isfn17 rfl rfl trivial ?_
      clear S H aa; intro u_5 aa ww h11 H S
      refine OL.nil ?_
      refine ⟨noNeed (by kernel_rfl), ?_⟩
      refine BN.done (by kernel_rfl) ?_
      replace S := S.sub [(0, Value.pointer f0), (2, Value.int .i64 way2), (4, Value.pointer (some p4)), (33, Value.slice x33.a x33.n x33.c), (34, Value.int .i64 ((x33.n : Nat) : Int)), (35, Value.int .i64 x35)] ⟨rfl, rfl, rfl, rfl, rfl, rfl, trivial⟩
      refine W.region ?_
      refine OL.pure S (Lf.run_add (S.ev rfl) (S.ev rfl)) rfl rfl trivial ?_
      clear S; intro aa S
      refine OL.pure S (Lf.run_move (S.ev rfl)) rfl rfl trivial ?_
      clear S; intro aa S
      refine OL.nil ?_
      exact ⟨((IntKind.i64.wrap (x35 + 1)), h11), ⟨S.sub _ ⟨rfl, rfl, rfl, rfl, rfl, rfl, trivial⟩, H.1⟩, H.2⟩
    · replace H := H.2 hb_1
      refine W.exit_ ?_
      refine xhit ?_
      exact Ret.none S rfl H

end Go.Proofs.Ytomafdhiflbgcaa

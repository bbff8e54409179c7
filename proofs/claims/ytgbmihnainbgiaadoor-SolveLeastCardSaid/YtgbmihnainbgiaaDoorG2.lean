/- Lifted by program off the elaborated code: each Go function, read as a proposition over typed variables and the heap. -/
import Derived.Test.YtgbmihnainbgiaaDoorG0
namespace Go.Proofs.YtgbmihnainbgiaaDoor
open Go Go.Lf
set_option linter.unusedVariables false
set_option maxRecDepth 100000

/-- (*chattel solve.Solver).element -/
def L17 (s0 : Option Addr) (e1 : Int) (h : Heap) (R : Value → Heap → Prop) : Prop :=
  ∃ J : Bool → Prop, (andr ((Option.isSome s0) && (decide (0 ≤ e1))) (fun k =>
    nn s0 fun p14 =>
    ldI .i64 h (p14.add 1) fun x16 =>
    k (decide (e1 < x16))) J) ∧ ∀ x18, J x18 →
  R (Value.bool x18) h

set_option maxRecDepth 100000 in

theorem F17 {s0 e1 h : _} {R : Value → Heap → Prop} (H : L17 s0 e1 h R) : CallsH Tryd.prog 17 #[Value.pointer s0, Value.int .i64 e1] h R := by
  refine CallsH.enter (n := 19) Tryd.func17 rfl rfl rfl rfl ?_
  intro w0 aa ww S
  unfold L17 at H
  refine W.seq ?_
  replace S := S.sub [(0, Value.pointer s0), (1, Value.int .i64 e1)] ⟨rfl, rfl, trivial⟩
  refine W.region ?_
  refine OL.pure S (Lf.run_assign (S.ev rfl)) rfl rfl trivial ?_
  clear S; intro aa S
  refine OL.nil ?_
  refine W.seq ?_
  replace S := S.sub [(0, Value.pointer s0), (1, Value.int .i64 e1)] ⟨rfl, rfl, trivial⟩
  refine W.region ?_
  refine OL.pure S (Lf.run_move (S.ev rfl)) rfl rfl trivial ?_
  clear S; intro aa S
  refine OL.pure S (Lf.run_neqpn Tryd.underlying25 (S.ev rfl) (S.ev rfl)) rfl rfl trivial ?_
  clear S; intro aa S
  refine OL.pure S (Lf.run_move (S.ev rfl)) rfl rfl trivial ?_
  clear S; intro aa S
  refine OL.cutN 3 (fun aa ww => St 19 ((10, Value.bool ((Option.isSome s0) && (decide (0 ≤ e1)))) :: [(0, Value.pointer s0), (1, Value.int .i64 e1), (5, Value.pointer s0), (6, Value.bool (Option.isSome s0)), (7, Value.bool (Option.isSome s0))]) h w0 aa ww) ?_ ?_
  · rcases Bool.eq_false_or_eq_true (Option.isSome s0) with hb | hb
    · refine OL.pure S (Lf.run_move (S.ev rfl)) rfl rfl (GOk.mk rfl rfl hb) ?_
      clear S; intro aa S
      refine OL.pure S (Lf.run_geq (S.ev rfl) (S.ev rfl)) rfl rfl (GOk.mk rfl rfl hb) ?_
      clear S; intro aa S
      refine OL.pure S (Lf.run_pickT (S.ev rfl) hb (S.ev rfl)) rfl rfl trivial ?_
      clear S; intro aa S
      refine OL.nil ?_
      exact (S.hd (by rw [hb, Bool.true_and])).sub _ ⟨rfl, rfl, rfl, rfl, rfl, rfl, trivial⟩
    · refine OL.not S rfl rfl (GNo.mk rfl rfl hb) ?_
      clear S; intro aa S
      refine OL.not S rfl rfl (GNo.mk rfl rfl hb) ?_
      clear S; intro aa S
      refine OL.pure S (Lf.run_pickF (S.ev rfl) hb (S.ev rfl)) rfl rfl trivial ?_
      clear S; intro aa S
      refine OL.nil ?_
      exact (S.hd (by rw [hb, Bool.false_and])).sub _ ⟨rfl, rfl, rfl, rfl, rfl, rfl, trivial⟩
  · clear S aa
    intro aa ww S
    refine OL.pure S (Lf.run_move (S.ev rfl)) rfl rfl trivial ?_
    clear S; intro aa S
    obtain ⟨J, H, HK⟩ := H
    refine OL.cutN 7 (fun aa ww => ∃ x18, St 19 ((18, Value.bool x18) :: [(0, Value.pointer s0), (1, Value.int .i64 e1), (5, Value.pointer s0), (6, Value.bool (Option.isSome s0)), (7, Value.bool (Option.isSome s0)), (10, Value.bool ((Option.isSome s0) && (decide (0 ≤ e1)))), (11, Value.bool ((Option.isSome s0) && (decide (0 ≤ e1))))]) h w0 aa ww ∧ J x18) ?_ ?_
    · rcases Bool.eq_false_or_eq_true ((Option.isSome s0) && (decide (0 ≤ e1))) with hb_1 | hb_1
      · replace H := H.1 hb_1
        refine OL.pure S (Lf.run_move (S.ev rfl)) rfl rfl (GOk.mk rfl rfl hb_1) ?_
        clear S; intro aa S
        refine OL.pure S (Lf.run_move (S.ev rfl)) rfl rfl (GOk.mk rfl rfl hb_1) ?_
        clear S; intro aa S
        obtain ⟨p14, e, H⟩ := H
        refine OL.pure S (Lf.run_nc' (S.ev rfl) e) rfl rfl (GOk.mk rfl rfl hb_1) ?_
        clear S; intro aa S
        refine OL.pure S (Lf.run_fa (S.ev rfl) fa50_1) rfl rfl (GOk.mk rfl rfl hb_1) ?_
        clear S; intro aa S
        obtain ⟨x16, c, H⟩ := H
        refine OL.pure S (Lf.run_ld (S.ev rfl) fl3 (S.cl c)) rfl rfl (GOk.mk rfl rfl hb_1) ?_
        clear S; intro aa S
        refine OL.pure S (Lf.run_lss (S.ev rfl) (S.ev rfl)) rfl rfl (GOk.mk rfl rfl hb_1) ?_
        clear S; intro aa S
        refine OL.pure S (Lf.run_pickT (S.ev rfl) hb_1 (S.ev rfl)) rfl rfl trivial ?_
        clear S; intro aa S
        refine OL.nil ?_
        exact ⟨_, S.sub _ ⟨rfl, rfl, rfl, rfl, rfl, rfl, rfl, rfl, trivial⟩, H⟩
      · replace H := H.2 hb_1
        refine OL.not S rfl rfl (GNo.mk rfl rfl hb_1) ?_
        clear S; intro aa S
        refine OL.not S rfl rfl (GNo.mk rfl rfl hb_1) ?_
        clear S; intro aa S
        refine OL.not S rfl rfl (GNo.mk rfl rfl hb_1) ?_
        clear S; intro aa S
        refine OL.not S rfl rfl (GNo.mk rfl rfl hb_1) ?_
        clear S; intro aa S
        refine OL.not S rfl rfl (GNo.mk rfl rfl hb_1) ?_
        clear S; intro aa S
        refine OL.not S rfl rfl (GNo.mk rfl rfl hb_1) ?_
        clear S; intro aa S
        refine OL.pure S (Lf.run_pickF (S.ev rfl) hb_1 (S.ev rfl)) rfl rfl trivial ?_
        clear S; intro aa S
        refine OL.nil ?_
        exact ⟨_, S.sub _ ⟨rfl, rfl, rfl, rfl, rfl, rfl, rfl, rfl, trivial⟩, H⟩
    · clear S aa
      rintro aa ww ⟨x18, S, HJ⟩
      replace H := HK _ HJ
      clear HK HJ
      refine OL.pure S (Lf.run_assign (S.ev rfl)) rfl rfl trivial ?_
      clear S; intro aa S
      refine OL.nil ?_
      refine W.ret ?_
      exact Ret.one S rfl rfl H

/-- math bits.OnesCount64 -/
def L18 (x0 : Int) (h : Heap) (R : Value → Heap → Prop) : Prop :=
  ∃ z : Int, z = (bitsI .and .u64 (((IntKind.u64.wrap ((bitsI .and .u64 ((x0 : Int).fdiv (2 ^ (min (1 : Int).toNat IntKind.u64.bits))) 6148914691236517205) + (bitsI .and .u64 x0 6148914691236517205))) : Int).fdiv (2 ^ (min (2 : Int).toNat IntKind.u64.bits))) 3689348814741910323) ∧
  ∃ z_1 : Int, z_1 = (((IntKind.u64.wrap (z + (bitsI .and .u64 (IntKind.u64.wrap ((bitsI .and .u64 ((x0 : Int).fdiv (2 ^ (min (1 : Int).toNat IntKind.u64.bits))) 6148914691236517205) + (bitsI .and .u64 x0 6148914691236517205))) 3689348814741910323))) : Int).fdiv (2 ^ (min (4 : Int).toNat IntKind.u64.bits))) ∧
  ∃ z_2 : Int, z_2 = (IntKind.u64.wrap (z_1 + (IntKind.u64.wrap (z + (bitsI .and .u64 (IntKind.u64.wrap ((bitsI .and .u64 ((x0 : Int).fdiv (2 ^ (min (1 : Int).toNat IntKind.u64.bits))) 6148914691236517205) + (bitsI .and .u64 x0 6148914691236517205))) 3689348814741910323))))) ∧
  ∃ z_3 : Int, z_3 = (IntKind.u64.wrap ((IntKind.u64.wrap ((bitsI .and .u64 z_2 1085102592571150095) + (((bitsI .and .u64 z_2 1085102592571150095) : Int).fdiv (2 ^ (min (8 : Int).toNat IntKind.u64.bits))))) + (((IntKind.u64.wrap ((bitsI .and .u64 z_2 1085102592571150095) + (((bitsI .and .u64 z_2 1085102592571150095) : Int).fdiv (2 ^ (min (8 : Int).toNat IntKind.u64.bits))))) : Int).fdiv (2 ^ (min (16 : Int).toNat IntKind.u64.bits))))) ∧
  R (Value.int .i64 (bitsI .and .i64 (IntKind.i64.wrap (IntKind.u64.wrap (z_3 + ((z_3 : Int).fdiv (2 ^ (min (32 : Int).toNat IntKind.u64.bits)))))) 127)) h

set_option maxRecDepth 100000 in

theorem F18 {x0 h : _} {R : Value → Heap → Prop} (H : L18 x0 h R) : CallsH Tryd.prog 18 #[Value.int .u64 x0] h R := by
  refine CallsH.enter (n := 35) Tryd.func18 rfl rfl rfl rfl ?_
  intro w0 aa ww S
  unfold L18 at H
  refine W.seq ?_
  replace S := S.sub [(0, Value.int .u64 x0)] ⟨rfl, trivial⟩
  refine W.region ?_
  refine OL.pure S (Lf.run_assign (S.ev rfl)) rfl rfl trivial ?_
  clear S; intro aa S
  refine OL.nil ?_
  refine W.seq ?_
  replace S := S.sub [(0, Value.int .u64 x0)] ⟨rfl, trivial⟩
  refine W.region ?_
  refine OL.pure S (Lf.run_move (S.ev rfl)) rfl rfl trivial ?_
  clear S; intro aa S
  refine OL.pure S (Lf.run_shr (S.ev rfl) (S.ev rfl) (by decide)) rfl rfl trivial ?_
  clear S; intro aa S
  refine OL.pure S (Lf.run_bits (op := .and) (by simp) (S.ev rfl) (S.ev rfl)) rfl rfl trivial ?_
  clear S; intro aa S
  refine OL.pure S (Lf.run_move (S.ev rfl)) rfl rfl trivial ?_
  clear S; intro aa S
  refine OL.pure S (Lf.run_bits (op := .and) (by simp) (S.ev rfl) (S.ev rfl)) rfl rfl trivial ?_
  clear S; intro aa S
  refine OL.pure S (Lf.run_add (S.ev rfl) (S.ev rfl)) rfl rfl trivial ?_
  clear S; intro aa S
  refine OL.pure S (Lf.run_assign (S.ev rfl)) rfl rfl trivial ?_
  clear S; intro aa S
  refine OL.nil ?_
  refine W.seq ?_
  replace S := S.sub [(0, Value.int .u64 (IntKind.u64.wrap ((bitsI .and .u64 ((x0 : Int).fdiv (2 ^ (min (1 : Int).toNat IntKind.u64.bits))) 6148914691236517205) + (bitsI .and .u64 x0 6148914691236517205))))] ⟨rfl, trivial⟩
  refine W.region ?_
  refine OL.pure S (Lf.run_move (S.ev rfl)) rfl rfl trivial ?_
  clear S; intro aa S
  refine OL.pure S (Lf.run_shr (S.ev rfl) (S.ev rfl) (by decide)) rfl rfl trivial ?_
  clear S; intro aa S
  refine OL.pure S (Lf.run_bits (op := .and) (by simp) (S.ev rfl) (S.ev rfl)) rfl rfl trivial ?_
  clear S; intro aa S
  obtain ⟨z, hz, H⟩ := H
  replace S := S.named (v' := Value.int .u64 z) (by subst hz; rfl)
  refine OL.pure S (Lf.run_move (S.ev rfl)) rfl rfl trivial ?_
  clear S; intro aa S
  refine OL.pure S (Lf.run_bits (op := .and) (by simp) (S.ev rfl) (S.ev rfl)) rfl rfl trivial ?_
  clear S; intro aa S
  refine OL.pure S (Lf.run_add (S.ev rfl) (S.ev rfl)) rfl rfl trivial ?_
  clear S; intro aa S
  refine OL.pure S (Lf.run_assign (S.ev rfl)) rfl rfl trivial ?_
  clear S; intro aa S
  refine OL.nil ?_
  refine W.seq ?_
  replace S := S.sub [(0, Value.int .u64 (IntKind.u64.wrap (z + (bitsI .and .u64 (IntKind.u64.wrap ((bitsI .and .u64 ((x0 : Int).fdiv (2 ^ (min (1 : Int).toNat IntKind.u64.bits))) 6148914691236517205) + (bitsI .and .u64 x0 6148914691236517205))) 3689348814741910323))))] ⟨rfl, trivial⟩
  refine W.region ?_
  refine OL.pure S (Lf.run_move (S.ev rfl)) rfl rfl trivial ?_
  clear S; intro aa S
  refine OL.pure S (Lf.run_shr (S.ev rfl) (S.ev rfl) (by decide)) rfl rfl trivial ?_
  clear S; intro aa S
  obtain ⟨z_1, hz_1, H⟩ := H
  replace S := S.named (v' := Value.int .u64 z_1) (by subst hz_1; rfl)
  refine OL.pure S (Lf.run_move (S.ev rfl)) rfl rfl trivial ?_
  clear S; intro aa S
  refine OL.pure S (Lf.run_add (S.ev rfl) (S.ev rfl)) rfl rfl trivial ?_
  clear S; intro aa S
  obtain ⟨z_2, hz_2, H⟩ := H
  replace S := S.named (v' := Value.int .u64 z_2) (by subst hz_2; rfl)
  refine OL.pure S (Lf.run_bits (op := .and) (by simp) (S.ev rfl) (S.ev rfl)) rfl rfl trivial ?_
  clear S; intro aa S
  refine OL.pure S (Lf.run_assign (S.ev rfl)) rfl rfl trivial ?_
  clear S; intro aa S
  refine OL.nil ?_
  refine W.seq ?_
  replace S := S.sub [(0, Value.int .u64 (bitsI .and .u64 z_2 1085102592571150095))] ⟨rfl, trivial⟩
  refine W.region ?_
  refine OL.pure S (Lf.run_move (S.ev rfl)) rfl rfl trivial ?_
  clear S; intro aa S
  refine OL.pure S (Lf.run_move (S.ev rfl)) rfl rfl trivial ?_
  clear S; intro aa S
  refine OL.pure S (Lf.run_shr (S.ev rfl) (S.ev rfl) (by decide)) rfl rfl trivial ?_
  clear S; intro aa S
  refine OL.pure S (Lf.run_add (S.ev rfl) (S.ev rfl)) rfl rfl trivial ?_
  clear S; intro aa S
  refine OL.pure S (Lf.run_assign (S.ev rfl)) rfl rfl trivial ?_
  clear S; intro aa S
  refine OL.nil ?_
  refine W.seq ?_
  replace S := S.sub [(0, Value.int .u64 (IntKind.u64.wrap ((bitsI .and .u64 z_2 1085102592571150095) + (((bitsI .and .u64 z_2 1085102592571150095) : Int).fdiv (2 ^ (min (8 : Int).toNat IntKind.u64.bits))))))] ⟨rfl, trivial⟩
  refine W.region ?_
  refine OL.pure S (Lf.run_move (S.ev rfl)) rfl rfl trivial ?_
  clear S; intro aa S
  refine OL.pure S (Lf.run_move (S.ev rfl)) rfl rfl trivial ?_
  clear S; intro aa S
  refine OL.pure S (Lf.run_shr (S.ev rfl) (S.ev rfl) (by decide)) rfl rfl trivial ?_
  clear S; intro aa S
  refine OL.pure S (Lf.run_add (S.ev rfl) (S.ev rfl)) rfl rfl trivial ?_
  clear S; intro aa S
  obtain ⟨z_3, hz_3, H⟩ := H
  replace S := S.named (v' := Value.int .u64 z_3) (by subst hz_3; rfl)
  refine OL.pure S (Lf.run_assign (S.ev rfl)) rfl rfl trivial ?_
  clear S; intro aa S
  refine OL.nil ?_
  refine W.seq ?_
  replace S := S.sub [(0, Value.int .u64 z_3)] ⟨rfl, trivial⟩
  refine W.region ?_
  refine OL.pure S (Lf.run_move (S.ev rfl)) rfl rfl trivial ?_
  clear S; intro aa S
  refine OL.pure S (Lf.run_move (S.ev rfl)) rfl rfl trivial ?_
  clear S; intro aa S
  refine OL.pure S (Lf.run_shr (S.ev rfl) (S.ev rfl) (by decide)) rfl rfl trivial ?_
  clear S; intro aa S
  refine OL.pure S (Lf.run_add (S.ev rfl) (S.ev rfl)) rfl rfl trivial ?_
  clear S; intro aa S
  refine OL.pure S (Lf.run_assign (S.ev rfl)) rfl rfl trivial ?_
  clear S; intro aa S
  refine OL.nil ?_
  refine W.seq ?_
  replace S := S.sub [(0, Value.int .u64 (IntKind.u64.wrap (z_3 + ((z_3 : Int).fdiv (2 ^ (min (32 : Int).toNat IntKind.u64.bits))))))] ⟨rfl, trivial⟩
  refine W.region ?_
  refine OL.pure S (Lf.run_move (S.ev rfl)) rfl rfl trivial ?_
  clear S; intro aa S
  refine OL.pure S (Lf.run_cvi Tryd.underlying51 Tryd.underlying3 (S.ev rfl)) rfl rfl trivial ?_
  clear S; intro aa S
  refine OL.pure S (Lf.run_bits (op := .and) (by simp) (S.ev rfl) (S.ev rfl)) rfl rfl trivial ?_
  clear S; intro aa S
  refine OL.pure S (Lf.run_assign (S.ev rfl)) rfl rfl trivial ?_
  clear S; intro aa S
  refine OL.nil ?_
  refine W.ret ?_
  exact Ret.one S rfl rfl H

/-- (*chattel solve.Solver).push -/
def L19 (s0 : Option Addr) (r1 : Int) (h : Heap) (R : Value → Heap → Prop) : Prop :=
  nn s0 fun p5 =>
  ldS h (p5.add 5) fun x7 =>
  ixS x7 r1 fun q9 =>
  ldB h (q9.add ((r1 : Int).toNat * 1)) fun x10 =>
  ifb (!x10) (
    nn s0 fun p13 =>
    ldS h (p13.add 5) fun x15 =>
    ixS x15 r1 fun q17 =>
    sto h (q17.add ((r1 : Int).toNat * 1)) (Value.bool true) fun h1 =>
    nn s0 fun p20 =>
    ldS h1 (p20.add 4) fun x22 =>
    newS 3 #[Value.int .i64 r1] 1 h1 fun s24 h2 =>
    appS 3 (Value.int .i64 0).cells 1 8 h2 x22 s24 fun s25 h3 =>
    nn s0 fun p26 =>
    sto h3 (p26.add 4) (Value.slice s25.a s25.n s25.c) fun h4 =>
    R (.tuple #[]) h4) (
    R (.tuple #[]) h)

set_option maxRecDepth 100000 in

theorem F19 {s0 r1 h : _} {R : Value → Heap → Prop} (H : L19 s0 r1 h R) : CallsH Tryd.prog 19 #[Value.pointer s0, Value.int .i64 r1] h R := by
  refine CallsH.enter (n := 28) Tryd.func19 rfl rfl rfl rfl ?_
  intro w0 aa ww S
  unfold L19 at H
  refine W.seq ?_
  replace S := S.sub [(0, Value.pointer s0), (1, Value.int .i64 r1)] ⟨rfl, rfl, trivial⟩
  refine W.region ?_
  refine OL.pure S (Lf.run_move (S.ev rfl)) rfl rfl trivial ?_
  clear S; intro aa S
  obtain ⟨p5, e, H⟩ := H
  refine OL.pure S (Lf.run_nc' (S.ev rfl) e) rfl rfl trivial ?_
  clear S; intro aa S
  refine OL.pure S (Lf.run_fa (S.ev rfl) fa50_5) rfl rfl trivial ?_
  clear S; intro aa S
  obtain ⟨x7, c, H⟩ := H
  refine OL.pure S (Lf.run_ld (S.ev rfl) fl48 (S.cl c)) rfl rfl trivial ?_
  clear S; intro aa S
  refine OL.pure S (Lf.run_move (S.ev rfl)) rfl rfl trivial ?_
  clear S; intro aa S
  obtain ⟨q9, e_1, e_2, e_3, H⟩ := H
  refine OL.pure S (Lf.run_ixs (S.ev rfl) (S.ev rfl) Tryd.underlying48 ti4 e_1 e_2 e_3) rfl rfl trivial ?_
  clear S; intro aa S
  obtain ⟨x10, c_1, H⟩ := H
  refine OL.pure S (Lf.run_ld (S.ev rfl) fl4 (S.cl c_1)) rfl rfl trivial ?_
  clear S; intro aa S
  refine OL.pure S (Lf.run_not (S.ev rfl)) rfl rfl trivial ?_
  clear S; intro aa S
  refine OL.nil ?_
  refine W.cond S (b := (!x10)) rfl (fun hb => ?_) (fun hb => ?_)
  · replace H := H.1 hb
    refine W.seq ?_
    replace S := S.sub [(0, Value.pointer s0), (1, Value.int .i64 r1)] ⟨rfl, rfl, trivial⟩
    refine W.region ?_
    refine OL.pure S (Lf.run_move (S.ev rfl)) rfl rfl trivial ?_
    clear S; intro aa S
    obtain ⟨p13, e_4, H⟩ := H
    refine OL.pure S (Lf.run_nc' (S.ev rfl) e_4) rfl rfl trivial ?_
    clear S; intro aa S
    refine OL.pure S (Lf.run_fa (S.ev rfl) fa50_5) rfl rfl trivial ?_
    clear S; intro aa S
    obtain ⟨x15, c_2, H⟩ := H
    refine OL.pure S (Lf.run_ld (S.ev rfl) fl48 (S.cl c_2)) rfl rfl trivial ?_
    clear S; intro aa S
    refine OL.pure S (Lf.run_move (S.ev rfl)) rfl rfl trivial ?_
    clear S; intro aa S
    obtain ⟨q17, e_5, e_6, e_7, H⟩ := H
    refine OL.pure S (Lf.run_ixs (S.ev rfl) (S.ev rfl) Tryd.underlying48 ti4 e_5 e_6 e_7) rfl rfl trivial ?_
    clear S; intro aa S
    refine ol_sto S H rfl rfl rfl ti4 trivial ?_
    clear S H aa; intro aa ww h1 H S
    refine OL.nil ?_
    replace S := S.sub [(0, Value.pointer s0), (1, Value.int .i64 r1)] ⟨rfl, rfl, trivial⟩
    refine W.region ?_
    refine OL.pure S (Lf.run_move (S.ev rfl)) rfl rfl trivial ?_
    clear S; intro aa S
    refine OL.pure S (Lf.run_move (S.ev rfl)) rfl rfl trivial ?_
    clear S; intro aa S
    obtain ⟨p20, e_8, H⟩ := H
    refine OL.pure S (Lf.run_nc' (S.ev rfl) e_8) rfl rfl trivial ?_
    clear S; intro aa S
    refine OL.pure S (Lf.run_fa (S.ev rfl) fa50_4) rfl rfl trivial ?_
    clear S; intro aa S
    obtain ⟨x22, c_3, H⟩ := H
    refine OL.pure S (Lf.run_ld (S.ev rfl) fl29 (S.cl c_3)) rfl rfl trivial ?_
    clear S; intro aa S
    refine OL.pure S (Lf.run_move (S.ev rfl)) rfl rfl trivial ?_
    clear S; intro aa S
    refine ol_newS S H Tryd.underlying29 ti3 (by decide) (parts_map S rfl) (by kernel_rfl) (by decide) rfl trivial ?_
    clear S H aa; intro s24 aa ww h2 H S
    refine ol_appS S H Tryd.underlying29 ti3 rfl rfl rfl trivial ?_
    clear S H aa; intro s25 aa ww h3 H S
    obtain ⟨p26, e_9, H⟩ := H
    refine OL.pure S (Lf.run_nc' (S.ev rfl) e_9) rfl rfl trivial ?_
    clear S; intro aa S
    refine OL.pure S (Lf.run_fa (S.ev rfl) fa50_4) rfl rfl trivial ?_
    clear S; intro aa S
    refine ol_sto S H rfl rfl rfl ti29 trivial ?_
    clear S H aa; intro aa ww h4 H S
    refine OL.nil ?_
    exact Ret.none S rfl H
  · replace H := H.2 hb
    refine W.skip ?_
    exact Ret.none S rfl H

/-- (*chattel solve.Solver).settle -/
def L20 (s0 : Option Addr) (h : Heap) (R : Value → Heap → Prop) : Prop :=
  ∃ (I : Heap → Prop) (m : Heap → Nat), I h ∧ ∀ h1, I h1 →
  nn s0 fun p6 =>
  ldS h1 (p6.add 4) fun x8 =>
  ifb (decide (0 < ((x8.n : Nat) : Int))) (
    nn s0 fun p12 =>
    nn s0 fun p16 =>
    ldS h1 (p16.add 4) fun x18 =>
    ldS h1 (p12.add 4) fun x14 =>
    ixS x14 (IntKind.i64.wrap (((x18.n : Nat) : Int) - 1)) fun q21 =>
    ldI .i64 h1 (q21.add (((IntKind.i64.wrap (((x18.n : Nat) : Int) - 1)) : Int).toNat * 1)) fun x22 =>
    nn s0 fun p25 =>
    nn s0 fun p29 =>
    ldS h1 (p29.add 4) fun x31 =>
    ldS h1 (p25.add 4) fun x27 =>
    slS x27 1 0 (IntKind.i64.wrap (((x31.n : Nat) : Int) - 1)) fun s34 =>
    nn s0 fun p35 =>
    sto h1 (p35.add 4) (Value.slice s34.a s34.n s34.c) fun h2 =>
    nn s0 fun p38 =>
    ldS h2 (p38.add 5) fun x40 =>
    ixS x40 x22 fun q42 =>
    sto h2 (q42.add ((x22 : Int).toNat * 1)) (Value.bool false) fun h3 =>
    nn s0 fun p44 =>
    ldS h3 (p44.add 3) fun x46 =>
    ixS x46 x22 fun q48 =>
    ldS h3 (q48.add ((x22 : Int).toNat * 1)) fun x49 =>
    ∃ (I_1 : Int → Heap → Prop) (m_1 : Int → Heap → Nat), I_1 0 h3 ∧ ∀ x51 h4, I_1 x51 h4 →
    ifb (decide (x51 < ((x49.n : Nat) : Int))) (
      ∃ J : Heap → Prop, (
        ixS x49 x51 fun q53 =>
        ldI .i64 h4 (q53.add ((x51 : Int).toNat * 1)) fun x54 =>
        cal Tryd.prog 21 #[Value.pointer s0, Value.int .i64 x54, Value.int .i64 x22] h4 fun u h5 => asB u fun x58 =>
        ifb x58 (
          cal Tryd.prog 19 #[Value.pointer s0, Value.int .i64 x54] h5 fun u_1 h6 =>
          J h6) (
          J h5)) ∧ (∀ h7, J h7 →
      I_1 (IntKind.i64.wrap (x51 + 1)) h7 ∧ m_1 (IntKind.i64.wrap (x51 + 1)) h7 < m_1 x51 h4)) (
      I h4 ∧ m h4 < m h1)) (
    R (.tuple #[]) h1)

set_option maxRecDepth 100000 in

theorem F20 {s0 h : _} {R : Value → Heap → Prop} (H : L20 s0 h R) : CallsH Tryd.prog 20 #[Value.pointer s0] h R := by
  refine CallsH.enter (n := 63) Tryd.func20 rfl rfl rfl rfl ?_
  intro w0 aa ww S
  unfold L20 at H
  refine W.block ?_
  obtain ⟨I, m, H, HB_1⟩ := H
  refine W.loopS (σ := Heap) (fun s aa ww => St 63 [(0, Value.pointer s0)] s w0 aa ww ∧ I s) (fun s => m s) (h) ⟨S.sub _ ⟨rfl, trivial⟩, H⟩ ?_
  clear H S aa
  rintro h1 aa ww ⟨S, HI⟩
  replace S : St 63 [(0, Value.pointer s0)] h1 w0 aa ww := S
  have H := HB_1 h1 HI
  clear HI
  refine W.seq ?_
  refine W.seq ?_
  replace S := S.sub [(0, Value.pointer s0)] ⟨rfl, trivial⟩
  refine W.region ?_
  refine OL.pure S (Lf.run_move (S.ev rfl)) rfl rfl trivial ?_
  clear S; intro aa S
  obtain ⟨p6, e, H⟩ := H
  refine OL.pure S (Lf.run_nc' (S.ev rfl) e) rfl rfl trivial ?_
  clear S; intro aa S
  refine OL.pure S (Lf.run_fa (S.ev rfl) fa50_4) rfl rfl trivial ?_
  clear S; intro aa S
  obtain ⟨x8, c, H⟩ := H
  refine OL.pure S (Lf.run_ld (S.ev rfl) fl29 (S.cl c)) rfl rfl trivial ?_
  clear S; intro aa S
  refine OL.pure S (Lf.run_lens (S.ev rfl) rfl Tryd.underlying29) rfl rfl trivial ?_
  clear S; intro aa S
  refine OL.pure S (Lf.run_gtr (S.ev rfl) (S.ev rfl)) rfl rfl trivial ?_
  clear S; intro aa S
  refine OL.nil ?_
  refine W.cond S (b := (decide (0 < ((x8.n : Nat) : Int)))) rfl (fun hb => ?_) (fun hb => ?_)
  · replace H := H.1 hb
    refine W.skip ?_
    refine W.block ?_
    refine W.seq ?_
    replace S := S.sub [(0, Value.pointer s0)] ⟨rfl, trivial⟩
    refine W.regionD S (by kernel_rfl) ?_
    clear S; intro ww S
    refine AN.pure 0 S rfl (by kernel_rfl) (fun _ => Lf.run_move (S.ev rfl)) rfl rfl trivial ?_
    clear S; intro aa S
    obtain ⟨p12, e_1, H⟩ := H
    refine AN.pure 1 S rfl (by kernel_rfl) (fun _ => Lf.run_nc' (S.ev rfl) e_1) rfl rfl trivial ?_
    clear S; intro aa S
    refine AN.pure 2 S rfl (by kernel_rfl) (fun _ => Lf.run_fa (S.ev rfl) fa50_4) rfl rfl trivial ?_
    clear S; intro aa S
    refine AN.pure 4 S rfl (by kernel_rfl) (fun _ => Lf.run_move (S.ev rfl)) rfl rfl trivial ?_
    clear S; intro aa S
    obtain ⟨p16, e_2, H⟩ := H
    refine AN.pure 5 S rfl (by kernel_rfl) (fun _ => Lf.run_nc' (S.ev rfl) e_2) rfl rfl trivial ?_
    clear S; intro aa S
    refine AN.pure 6 S rfl (by kernel_rfl) (fun _ => Lf.run_fa (S.ev rfl) fa50_4) rfl rfl trivial ?_
    clear S; intro aa S
    obtain ⟨x18, c_1, H⟩ := H
    refine AN.load 7 S rfl (by kernel_rfl) (fun _ hx => Lf.run_ld (S.ev rfl) fl29 (hx.cell _ _ (S.cl c_1))) rfl rfl trivial ?_
    clear S; intro aa S
    refine AN.pure 8 S rfl (by kernel_rfl) (fun _ => Lf.run_lens (S.ev rfl) rfl Tryd.underlying29) rfl rfl trivial ?_
    clear S; intro aa S
    obtain ⟨x14, c_2, H⟩ := H
    refine AN.load 3 S rfl (by kernel_rfl) (fun _ hx => Lf.run_ld (S.ev rfl) fl29 (hx.cell _ _ (S.cl c_2))) rfl rfl trivial ?_
    clear S; intro aa S
    refine AN.pure 9 S rfl (by kernel_rfl) (fun _ => Lf.run_sub (S.ev rfl) (S.ev rfl)) rfl rfl trivial ?_
    clear S; intro aa S
    obtain ⟨q21, e_3, e_4, e_5, H⟩ := H
    refine AN.pure 10 S rfl (by kernel_rfl) (fun _ => Lf.run_ixs (S.ev rfl) (S.ev rfl) Tryd.underlying29 ti3 e_3 e_4 e_5) rfl rfl trivial ?_
    clear S; intro aa S
    obtain ⟨x22, c_3, H⟩ := H
    refine AN.load 11 S rfl (by kernel_rfl) (fun _ hx => Lf.run_ld (S.ev rfl) fl3 (hx.cell _ _ (S.cl c_3))) rfl rfl trivial ?_
    clear S; intro aa S
    refine AN.pure 12 S rfl (by kernel_rfl) (fun _ => Lf.run_assign (S.ev rfl)) rfl rfl trivial ?_
    clear S; intro aa S
    refine AN.done (by kernel_rfl) ?_
    refine W.seq ?_
    replace S := S.sub [(0, Value.pointer s0), (2, Value.int .i64 x22)] ⟨rfl, rfl, trivial⟩
    refine W.regionD S (by kernel_rfl) ?_
    clear S; intro ww S
    refine AN.pure 0 S rfl (by kernel_rfl) (fun _ => Lf.run_move (S.ev rfl)) rfl rfl trivial ?_
    clear S; intro aa S
    refine AN.pure 1 S rfl (by kernel_rfl) (fun _ => Lf.run_move (S.ev rfl)) rfl rfl trivial ?_
    clear S; intro aa S
    obtain ⟨p25, e_6, H⟩ := H
    refine AN.pure 2 S rfl (by kernel_rfl) (fun _ => Lf.run_nc' (S.ev rfl) e_6) rfl rfl trivial ?_
    clear S; intro aa S
    refine AN.pure 3 S rfl (by kernel_rfl) (fun _ => Lf.run_fa (S.ev rfl) fa50_4) rfl rfl trivial ?_
    clear S; intro aa S
    refine AN.pure 5 S rfl (by kernel_rfl) (fun _ => Lf.run_move (S.ev rfl)) rfl rfl trivial ?_
    clear S; intro aa S
    obtain ⟨p29, e_7, H⟩ := H
    refine AN.pure 6 S rfl (by kernel_rfl) (fun _ => Lf.run_nc' (S.ev rfl) e_7) rfl rfl trivial ?_
    clear S; intro aa S
    refine AN.pure 7 S rfl (by kernel_rfl) (fun _ => Lf.run_fa (S.ev rfl) fa50_4) rfl rfl trivial ?_
    clear S; intro aa S
    obtain ⟨x31, c_4, H⟩ := H
    refine AN.load 8 S rfl (by kernel_rfl) (fun _ hx => Lf.run_ld (S.ev rfl) fl29 (hx.cell _ _ (S.cl c_4))) rfl rfl trivial ?_
    clear S; intro aa S
    refine AN.pure 9 S rfl (by kernel_rfl) (fun _ => Lf.run_lens (S.ev rfl) rfl Tryd.underlying29) rfl rfl trivial ?_
    clear S; intro aa S
    obtain ⟨x27, c_5, H⟩ := H
    refine AN.load 4 S rfl (by kernel_rfl) (fun _ hx => Lf.run_ld (S.ev rfl) fl29 (hx.cell _ _ (S.cl c_5))) rfl rfl trivial ?_
    clear S; intro aa S
    refine AN.pure 10 S rfl (by kernel_rfl) (fun _ => Lf.run_sub (S.ev rfl) (S.ev rfl)) rfl rfl trivial ?_
    clear S; intro aa S
    refine AN.eff 11 rfl (by kernel_rfl) ?_
    obtain ⟨s34, c_6, c_7, c_8, c_9, H⟩ := slS_ex H
    refine OL.pure S (Lf.run_slNS Tryd.underlying29 ti3 (S.ev rfl) (S.ev rfl) c_7 c_8 c_9) rfl rfl trivial ?_
    clear S; intro aa S
    refine OL.nil ?_
    obtain ⟨p35, e_8, H⟩ := H
    refine AN.pure 12 S rfl (by kernel_rfl) (fun _ => Lf.run_nc' (S.ev rfl) e_8) rfl rfl trivial ?_
    clear S; intro aa S
    refine AN.pure 13 S rfl (by kernel_rfl) (fun _ => Lf.run_fa (S.ev rfl) fa50_4) rfl rfl trivial ?_
    clear S; intro aa S
    refine AN.eff 14 rfl (by kernel_rfl) ?_
    refine ol_sto S H rfl rfl rfl ti29 trivial ?_
    clear S H aa; intro aa ww h2 H S
    refine OL.nil ?_
    refine AN.done (by kernel_rfl) ?_
    refine W.seq ?_
    replace S := S.sub [(0, Value.pointer s0), (2, Value.int .i64 x22)] ⟨rfl, rfl, trivial⟩
    refine W.region ?_
    refine OL.pure S (Lf.run_move (S.ev rfl)) rfl rfl trivial ?_
    clear S; intro aa S
    obtain ⟨p38, e_9, H⟩ := H
    refine OL.pure S (Lf.run_nc' (S.ev rfl) e_9) rfl rfl trivial ?_
    clear S; intro aa S
    refine OL.pure S (Lf.run_fa (S.ev rfl) fa50_5) rfl rfl trivial ?_
    clear S; intro aa S
    obtain ⟨x40, c_10, H⟩ := H
    refine OL.pure S (Lf.run_ld (S.ev rfl) fl48 (S.cl c_10)) rfl rfl trivial ?_
    clear S; intro aa S
    refine OL.pure S (Lf.run_move (S.ev rfl)) rfl rfl trivial ?_
    clear S; intro aa S
    obtain ⟨q42, e_10, e_11, e_12, H⟩ := H
    refine OL.pure S (Lf.run_ixs (S.ev rfl) (S.ev rfl) Tryd.underlying48 ti4 e_10 e_11 e_12) rfl rfl trivial ?_
    clear S; intro aa S
    refine ol_sto S H rfl rfl rfl ti4 trivial ?_
    clear S H aa; intro aa ww h3 H S
    refine OL.nil ?_
    refine W.seq ?_
    replace S := S.sub [(0, Value.pointer s0), (2, Value.int .i64 x22)] ⟨rfl, rfl, trivial⟩
    refine W.region ?_
    refine OL.pure S (Lf.run_move (S.ev rfl)) rfl rfl trivial ?_
    clear S; intro aa S
    obtain ⟨p44, e_13, H⟩ := H
    refine OL.pure S (Lf.run_nc' (S.ev rfl) e_13) rfl rfl trivial ?_
    clear S; intro aa S
    refine OL.pure S (Lf.run_fa (S.ev rfl) fa50_3) rfl rfl trivial ?_
    clear S; intro aa S
    obtain ⟨x46, c_11, H⟩ := H
    refine OL.pure S (Lf.run_ld (S.ev rfl) fl47 (S.cl c_11)) rfl rfl trivial ?_
    clear S; intro aa S
    refine OL.pure S (Lf.run_move (S.ev rfl)) rfl rfl trivial ?_
    clear S; intro aa S
    obtain ⟨q48, e_14, e_15, e_16, H⟩ := H
    refine OL.pure S (Lf.run_ixs (S.ev rfl) (S.ev rfl) Tryd.underlying47 ti29 e_14 e_15 e_16) rfl rfl trivial ?_
    clear S; intro aa S
    obtain ⟨x49, c_12, H⟩ := H
    refine OL.pure S (Lf.run_ld (S.ev rfl) fl29 (S.cl c_12)) rfl rfl trivial ?_
    clear S; intro aa S
    refine OL.pure S (Lf.run_lens (S.ev rfl) rfl Tryd.underlying29) rfl rfl trivial ?_
    clear S; intro aa S
    refine OL.pure S (Lf.run_move (S.ev rfl)) rfl rfl trivial ?_
    clear S; intro aa S
    refine OL.nil ?_
    refine W.block ?_
    obtain ⟨I_1, m_1, H, HB⟩ := H
    refine W.loopS (σ := Int × Heap) (fun s aa ww => St 63 [(0, Value.pointer s0), (2, Value.int .i64 x22), (49, Value.slice x49.a x49.n x49.c), (50, Value.int .i64 ((x49.n : Nat) : Int)), (51, Value.int .i64 s.1)] s.2 w0 aa ww ∧ I_1 s.1 s.2) (fun s => m_1 s.1 s.2) (0, h3) ⟨S.sub _ ⟨rfl, rfl, rfl, rfl, rfl, trivial⟩, H⟩ ?_
    clear H S aa
    rintro ⟨x51, h4⟩ aa ww ⟨S, HI⟩
    replace S : St 63 [(0, Value.pointer s0), (2, Value.int .i64 x22), (49, Value.slice x49.a x49.n x49.c), (50, Value.int .i64 ((x49.n : Nat) : Int)), (51, Value.int .i64 x51)] h4 w0 aa ww := S
    have H := HB x51 h4 HI
    clear HI
    refine W.seq ?_
    replace S := S.sub [(0, Value.pointer s0), (2, Value.int .i64 x22), (49, Value.slice x49.a x49.n x49.c), (50, Value.int .i64 ((x49.n : Nat) : Int)), (51, Value.int .i64 x51)] ⟨rfl, rfl, rfl, rfl, rfl, trivial⟩
    refine W.region ?_
    refine OL.pure S (Lf.run_lss (S.ev rfl) (S.ev rfl)) rfl rfl trivial ?_
    clear S; intro aa S
    refine OL.nil ?_
    refine W.seq ?_
    refine W.cond S (b := (decide (x51 < ((x49.n : Nat) : Int)))) rfl (fun hb_1 => ?_) (fun hb_1 => ?_)
    · replace H := H.1 hb_1
      refine W.skip ?_
      obtain ⟨J, H, HK⟩ := H
      refine W.seqJ (fun aa ww => ∃ h7, St 63 [(0, Value.pointer s0), (2, Value.int .i64 x22), (49, Value.slice x49.a x49.n x49.c), (50, Value.int .i64 ((x49.n : Nat) : Int)), (51, Value.int .i64 x51)] h7 w0 aa ww ∧ J h7) ?_ ?_
      · clear HK
        refine W.block ?_
        refine W.seq ?_
        replace S := S.sub [(0, Value.pointer s0), (2, Value.int .i64 x22), (49, Value.slice x49.a x49.n x49.c), (50, Value.int .i64 ((x49.n : Nat) : Int)), (51, Value.int .i64 x51)] ⟨rfl, rfl, rfl, rfl, rfl, trivial⟩
        refine W.region ?_
        obtain ⟨q53, e_17, e_18, e_19, H⟩ := H
        refine OL.pure S (Lf.run_ixs (S.ev rfl) (S.ev rfl) Tryd.underlying29 ti3 e_17 e_18 e_19) rfl rfl trivial ?_
        clear S; intro aa S
        obtain ⟨x54, c_13, H⟩ := H
        refine OL.pure S (Lf.run_ld (S.ev rfl) fl3 (S.cl c_13)) rfl rfl trivial ?_
        clear S; intro aa S
        refine OL.pure S (Lf.run_assign (S.ev rfl)) rfl rfl trivial ?_
        clear S; intro aa S
        refine OL.nil ?_
        refine W.seq ?_
        replace S := S.sub [(0, Value.pointer s0), (2, Value.int .i64 x22), (4, Value.int .i64 x54), (49, Value.slice x49.a x49.n x49.c), (50, Value.int .i64 ((x49.n : Nat) : Int)), (51, Value.int .i64 x51)] ⟨rfl, rfl, rfl, rfl, rfl, rfl, trivial⟩
        refine W.region ?_
        refine OL.pure S (Lf.run_move (S.ev rfl)) rfl rfl trivial ?_
        clear S; intro aa S
        refine OL.pure S (Lf.run_move (S.ev rfl)) rfl rfl trivial ?_
        clear S; intro aa S
        refine OL.pure S (Lf.run_move (S.ev rfl)) rfl rfl trivial ?_
        clear S; intro aa S
        refine ol_cal S H isfn21 rfl rfl trivial ?_
        clear S H aa; intro u aa ww h5 H S
        obtain ⟨x58, rfl, H⟩ := H
        refine OL.nil ?_
        refine W.cond S (b := x58) rfl (fun hb_2 => ?_) (fun hb_2 => ?_)
        · replace H := H.1 hb_2
          replace S := S.sub [(0, Value.pointer s0), (2, Value.int .i64 x22), (4, Value.int .i64 x54), (49, Value.slice x49.a x49.n x49.c), (50, Value.int .i64 ((x49.n : Nat) : Int)), (51, Value.int .i64 x51)] ⟨rfl, rfl, rfl, rfl, rfl, rfl, trivial⟩
          refine W.region ?_
          refine OL.pure S (Lf.run_move (S.ev rfl)) rfl rfl trivial ?_
          clear S; intro aa S
          refine OL.pure S (Lf.run_move (S.ev rfl)) rfl rfl trivial ?_
          clear S; intro aa S
          refine ol_cal S H isfn19 rfl rfl trivial ?_
          clear S H aa; intro u_1 aa ww h6 H S
          refine OL.nil ?_
          exact ⟨h6, S.sub _ ⟨rfl, rfl, rfl, rfl, rfl, trivial⟩, H⟩
        · replace H := H.2 hb_2
          refine W.skip ?_
          exact ⟨h5, S.sub _ ⟨rfl, rfl, rfl, rfl, rfl, trivial⟩, H⟩
      · clear H S aa
        rintro aa ww ⟨h7, S, HJ⟩
        have H := HK _ HJ
        clear HK HJ
        replace S := S.sub [(0, Value.pointer s0), (2, Value.int .i64 x22), (49, Value.slice x49.a x49.n x49.c), (50, Value.int .i64 ((x49.n : Nat) : Int)), (51, Value.int .i64 x51)] ⟨rfl, rfl, rfl, rfl, rfl, trivial⟩
        refine W.region ?_
        refine OL.pure S (Lf.run_add (S.ev rfl) (S.ev rfl)) rfl rfl trivial ?_
        clear S; intro aa S
        refine OL.pure S (Lf.run_move (S.ev rfl)) rfl rfl trivial ?_
        clear S; intro aa S
        refine OL.nil ?_
        exact ⟨((IntKind.i64.wrap (x51 + 1)), h7), ⟨S.sub _ ⟨rfl, rfl, rfl, rfl, rfl, trivial⟩, H.1⟩, H.2⟩
    · replace H := H.2 hb_1
      refine W.exit_ ?_
      refine xhit ?_
      exact ⟨(h4), ⟨S.sub _ ⟨rfl, trivial⟩, H.1⟩, H.2⟩
  · replace H := H.2 hb
    refine W.exit_ ?_
    refine xhit ?_
    exact Ret.none S rfl H

/-- (*chattel solve.Solver).join -/
def L21 (s0 : Option Addr) (a1 : Int) (b2 : Int) (h : Heap) (R : Value → Heap → Prop) : Prop :=
  nn s0 fun p11 =>
  ldS h (p11.add 2) fun x13 =>
  ixS x13 b2 fun q15 =>
  ldS h (q15.add ((b2 : Int).toNat * 1)) fun x16 =>
  ∃ (I : Bool → Int → Heap → Prop) (m : Bool → Int → Heap → Nat), I false 0 h ∧ ∀ vsome7 x18 h1, I vsome7 x18 h1 →
  ifb (decide (x18 < ((x16.n : Nat) : Int))) (
    ∃ J : Bool → Heap → Prop, (
      ixS x16 x18 fun q21 =>
      ldI .u64 h1 (q21.add ((x18 : Int).toNat * 1)) fun x22 =>
      nn s0 fun p25 =>
      ldS h1 (p25.add 2) fun x27 =>
      ixS x27 a1 fun q29 =>
      ldS h1 (q29.add ((a1 : Int).toNat * 1)) fun x30 =>
      ixS x30 x18 fun q32 =>
      ldI .u64 h1 (q32.add ((x18 : Int).toNat * 1)) fun x33 =>
      ifb ((bitsI .andNot .u64 x22 x33) != 0) (
        nn s0 fun p37 =>
        ldS h1 (p37.add 2) fun x39 =>
        ixS x39 a1 fun q41 =>
        ldS h1 (q41.add ((a1 : Int).toNat * 1)) fun x42 =>
        ixS x42 x18 fun q44 =>
        ldI .u64 h1 (q44.add ((x18 : Int).toNat * 1)) fun x45 =>
        ixS x42 x18 fun q48 =>
        sto h1 (q48.add ((x18 : Int).toNat * 1)) (Value.int .u64 (bitsI .or .u64 x45 x22)) fun h2 =>
        J true h2) (
        J vsome7 h1)) ∧ (∀ vsome7_1 h3, J vsome7_1 h3 →
    I vsome7_1 (IntKind.i64.wrap (x18 + 1)) h3 ∧ m vsome7_1 (IntKind.i64.wrap (x18 + 1)) h3 < m vsome7 x18 h1)) (
    R (Value.bool vsome7) h1)

set_option maxRecDepth 100000 in

theorem F21 {s0 a1 b2 h : _} {R : Value → Heap → Prop} (H : L21 s0 a1 b2 h R) : CallsH Tryd.prog 21 #[Value.pointer s0, Value.int .i64 a1, Value.int .i64 b2] h R := by
  refine CallsH.enter (n := 51) Tryd.func21 rfl rfl rfl rfl ?_
  intro w0 aa ww S
  unfold L21 at H
  refine W.seq ?_
  replace S := S.sub [(0, Value.pointer s0), (1, Value.int .i64 a1), (2, Value.int .i64 b2)] ⟨rfl, rfl, rfl, trivial⟩
  refine W.region ?_
  refine OL.pure S (Lf.run_assign (S.ev rfl)) rfl rfl trivial ?_
  clear S; intro aa S
  refine OL.nil ?_
  refine W.seq ?_
  replace S := S.sub [(0, Value.pointer s0), (1, Value.int .i64 a1), (2, Value.int .i64 b2)] ⟨rfl, rfl, rfl, trivial⟩
  refine W.region ?_
  refine OL.pure S (Lf.run_assign (S.ev rfl)) rfl rfl trivial ?_
  clear S; intro aa S
  refine OL.nil ?_
  refine W.seq ?_
  refine W.seq ?_
  replace S := S.sub [(0, Value.pointer s0), (1, Value.int .i64 a1), (2, Value.int .i64 b2), (7, Value.bool false)] ⟨rfl, rfl, rfl, rfl, trivial⟩
  refine W.region ?_
  refine OL.pure S (Lf.run_move (S.ev rfl)) rfl rfl trivial ?_
  clear S; intro aa S
  obtain ⟨p11, e, H⟩ := H
  refine OL.pure S (Lf.run_nc' (S.ev rfl) e) rfl rfl trivial ?_
  clear S; intro aa S
  refine OL.pure S (Lf.run_fa (S.ev rfl) fa50_2) rfl rfl trivial ?_
  clear S; intro aa S
  obtain ⟨x13, c, H⟩ := H
  refine OL.pure S (Lf.run_ld (S.ev rfl) fl46 (S.cl c)) rfl rfl trivial ?_
  clear S; intro aa S
  refine OL.pure S (Lf.run_move (S.ev rfl)) rfl rfl trivial ?_
  clear S; intro aa S
  obtain ⟨q15, e_1, e_2, e_3, H⟩ := H
  refine OL.pure S (Lf.run_ixs (S.ev rfl) (S.ev rfl) Tryd.underlying46 ti45 e_1 e_2 e_3) rfl rfl trivial ?_
  clear S; intro aa S
  obtain ⟨x16, c_1, H⟩ := H
  refine OL.pure S (Lf.run_ld (S.ev rfl) fl45 (S.cl c_1)) rfl rfl trivial ?_
  clear S; intro aa S
  refine OL.pure S (Lf.run_lens (S.ev rfl) rfl Tryd.underlying45) rfl rfl trivial ?_
  clear S; intro aa S
  refine OL.pure S (Lf.run_move (S.ev rfl)) rfl rfl trivial ?_
  clear S; intro aa S
  refine OL.nil ?_
  refine W.block ?_
  obtain ⟨I, m, H, HB⟩ := H
  refine W.loopS (σ := Bool × Int × Heap) (fun s aa ww => St 51 [(0, Value.pointer s0), (1, Value.int .i64 a1), (7, Value.bool s.1), (16, Value.slice x16.a x16.n x16.c), (17, Value.int .i64 ((x16.n : Nat) : Int)), (18, Value.int .i64 s.2.1)] s.2.2 w0 aa ww ∧ I s.1 s.2.1 s.2.2) (fun s => m s.1 s.2.1 s.2.2) (false, 0, h) ⟨S.sub _ ⟨rfl, rfl, rfl, rfl, rfl, rfl, trivial⟩, H⟩ ?_
  clear H S aa
  rintro ⟨vsome7, x18, h1⟩ aa ww ⟨S, HI⟩
  replace S : St 51 [(0, Value.pointer s0), (1, Value.int .i64 a1), (7, Value.bool vsome7), (16, Value.slice x16.a x16.n x16.c), (17, Value.int .i64 ((x16.n : Nat) : Int)), (18, Value.int .i64 x18)] h1 w0 aa ww := S
  have H := HB vsome7 x18 h1 HI
  clear HI
  refine W.seq ?_
  replace S := S.sub [(0, Value.pointer s0), (1, Value.int .i64 a1), (7, Value.bool vsome7), (16, Value.slice x16.a x16.n x16.c), (17, Value.int .i64 ((x16.n : Nat) : Int)), (18, Value.int .i64 x18)] ⟨rfl, rfl, rfl, rfl, rfl, rfl, trivial⟩
  refine W.region ?_
  refine OL.pure S (Lf.run_lss (S.ev rfl) (S.ev rfl)) rfl rfl trivial ?_
  clear S; intro aa S
  refine OL.nil ?_
  refine W.seq ?_
  refine W.cond S (b := (decide (x18 < ((x16.n : Nat) : Int)))) rfl (fun hb => ?_) (fun hb => ?_)
  · replace H := H.1 hb
    refine W.skip ?_
    obtain ⟨J, H, HK⟩ := H
    refine W.seqJ (fun aa ww => ∃ vsome7_1 h3, St 51 [(0, Value.pointer s0), (1, Value.int .i64 a1), (7, Value.bool vsome7_1), (16, Value.slice x16.a x16.n x16.c), (17, Value.int .i64 ((x16.n : Nat) : Int)), (18, Value.int .i64 x18)] h3 w0 aa ww ∧ J vsome7_1 h3) ?_ ?_
    · clear HK
      refine W.block ?_
      refine W.seq ?_
      replace S := S.sub [(0, Value.pointer s0), (1, Value.int .i64 a1), (7, Value.bool vsome7), (16, Value.slice x16.a x16.n x16.c), (17, Value.int .i64 ((x16.n : Nat) : Int)), (18, Value.int .i64 x18)] ⟨rfl, rfl, rfl, rfl, rfl, rfl, trivial⟩
      refine W.region ?_
      refine OL.pure S (Lf.run_move (S.ev rfl)) rfl rfl trivial ?_
      clear S; intro aa S
      obtain ⟨q21, e_4, e_5, e_6, H⟩ := H
      refine OL.pure S (Lf.run_ixs (S.ev rfl) (S.ev rfl) Tryd.underlying45 ti51 e_4 e_5 e_6) rfl rfl trivial ?_
      clear S; intro aa S
      obtain ⟨x22, c_2, H⟩ := H
      refine OL.pure S (Lf.run_ld (S.ev rfl) fl51 (S.cl c_2)) rfl rfl trivial ?_
      clear S; intro aa S
      refine OL.pure S (Lf.run_assign (S.ev rfl)) rfl rfl trivial ?_
      clear S; intro aa S
      refine OL.pure S (Lf.run_assign (S.ev rfl)) rfl rfl trivial ?_
      clear S; intro aa S
      refine OL.nil ?_
      refine W.seq ?_
      replace S := S.sub [(0, Value.pointer s0), (1, Value.int .i64 a1), (7, Value.bool vsome7), (8, Value.int .i64 x18), (9, Value.int .u64 x22), (16, Value.slice x16.a x16.n x16.c), (17, Value.int .i64 ((x16.n : Nat) : Int)), (18, Value.int .i64 x18)] ⟨rfl, rfl, rfl, rfl, rfl, rfl, rfl, rfl, trivial⟩
      refine W.region ?_
      refine OL.pure S (Lf.run_move (S.ev rfl)) rfl rfl trivial ?_
      clear S; intro aa S
      refine OL.pure S (Lf.run_move (S.ev rfl)) rfl rfl trivial ?_
      clear S; intro aa S
      obtain ⟨p25, e_7, H⟩ := H
      refine OL.pure S (Lf.run_nc' (S.ev rfl) e_7) rfl rfl trivial ?_
      clear S; intro aa S
      refine OL.pure S (Lf.run_fa (S.ev rfl) fa50_2) rfl rfl trivial ?_
      clear S; intro aa S
      obtain ⟨x27, c_3, H⟩ := H
      refine OL.pure S (Lf.run_ld (S.ev rfl) fl46 (S.cl c_3)) rfl rfl trivial ?_
      clear S; intro aa S
      refine OL.pure S (Lf.run_move (S.ev rfl)) rfl rfl trivial ?_
      clear S; intro aa S
      obtain ⟨q29, e_8, e_9, e_10, H⟩ := H
      refine OL.pure S (Lf.run_ixs (S.ev rfl) (S.ev rfl) Tryd.underlying46 ti45 e_8 e_9 e_10) rfl rfl trivial ?_
      clear S; intro aa S
      obtain ⟨x30, c_4, H⟩ := H
      refine OL.pure S (Lf.run_ld (S.ev rfl) fl45 (S.cl c_4)) rfl rfl trivial ?_
      clear S; intro aa S
      refine OL.pure S (Lf.run_move (S.ev rfl)) rfl rfl trivial ?_
      clear S; intro aa S
      obtain ⟨q32, e_11, e_12, e_13, H⟩ := H
      refine OL.pure S (Lf.run_ixs (S.ev rfl) (S.ev rfl) Tryd.underlying45 ti51 e_11 e_12 e_13) rfl rfl trivial ?_
      clear S; intro aa S
      obtain ⟨x33, c_5, H⟩ := H
      refine OL.pure S (Lf.run_ld (S.ev rfl) fl51 (S.cl c_5)) rfl rfl trivial ?_
      clear S; intro aa S
      refine OL.pure S (Lf.run_bits (op := .andNot) (by simp) (S.ev rfl) (S.ev rfl)) rfl rfl trivial ?_
      clear S; intro aa S
      refine OL.pure S (Lf.run_neq (S.ev rfl) (S.ev rfl)) rfl rfl trivial ?_
      clear S; intro aa S
      refine OL.nil ?_
      refine W.cond S (b := ((bitsI .andNot .u64 x22 x33) != 0)) rfl (fun hb_1 => ?_) (fun hb_1 => ?_)
      · replace H := H.1 hb_1
        refine W.seq ?_
        replace S := S.sub [(0, Value.pointer s0), (1, Value.int .i64 a1), (8, Value.int .i64 x18), (9, Value.int .u64 x22), (16, Value.slice x16.a x16.n x16.c), (17, Value.int .i64 ((x16.n : Nat) : Int)), (18, Value.int .i64 x18)] ⟨rfl, rfl, rfl, rfl, rfl, rfl, rfl, trivial⟩
        refine W.region ?_
        refine OL.pure S (Lf.run_move (S.ev rfl)) rfl rfl trivial ?_
        clear S; intro aa S
        obtain ⟨p37, e_14, H⟩ := H
        refine OL.pure S (Lf.run_nc' (S.ev rfl) e_14) rfl rfl trivial ?_
        clear S; intro aa S
        refine OL.pure S (Lf.run_fa (S.ev rfl) fa50_2) rfl rfl trivial ?_
        clear S; intro aa S
        obtain ⟨x39, c_6, H⟩ := H
        refine OL.pure S (Lf.run_ld (S.ev rfl) fl46 (S.cl c_6)) rfl rfl trivial ?_
        clear S; intro aa S
        refine OL.pure S (Lf.run_move (S.ev rfl)) rfl rfl trivial ?_
        clear S; intro aa S
        obtain ⟨q41, e_15, e_16, e_17, H⟩ := H
        refine OL.pure S (Lf.run_ixs (S.ev rfl) (S.ev rfl) Tryd.underlying46 ti45 e_15 e_16 e_17) rfl rfl trivial ?_
        clear S; intro aa S
        obtain ⟨x42, c_7, H⟩ := H
        refine OL.pure S (Lf.run_ld (S.ev rfl) fl45 (S.cl c_7)) rfl rfl trivial ?_
        clear S; intro aa S
        refine OL.pure S (Lf.run_move (S.ev rfl)) rfl rfl trivial ?_
        clear S; intro aa S
        obtain ⟨q44, e_18, e_19, e_20, H⟩ := H
        refine OL.pure S (Lf.run_ixs (S.ev rfl) (S.ev rfl) Tryd.underlying45 ti51 e_18 e_19 e_20) rfl rfl trivial ?_
        clear S; intro aa S
        obtain ⟨x45, c_8, H⟩ := H
        refine OL.pure S (Lf.run_ld (S.ev rfl) fl51 (S.cl c_8)) rfl rfl trivial ?_
        clear S; intro aa S
        refine OL.pure S (Lf.run_move (S.ev rfl)) rfl rfl trivial ?_
        clear S; intro aa S
        refine OL.pure S (Lf.run_bits (op := .or) (by simp) (S.ev rfl) (S.ev rfl)) rfl rfl trivial ?_
        clear S; intro aa S
        obtain ⟨q48, e_21, e_22, e_23, H⟩ := H
        refine OL.pure S (Lf.run_ixs (S.ev rfl) (S.ev rfl) Tryd.underlying45 ti51 e_21 e_22 e_23) rfl rfl trivial ?_
        clear S; intro aa S
        refine ol_sto S H rfl rfl rfl ti51 trivial ?_
        clear S H aa; intro aa ww h2 H S
        refine OL.nil ?_
        replace S := S.sub [(0, Value.pointer s0), (1, Value.int .i64 a1), (16, Value.slice x16.a x16.n x16.c), (17, Value.int .i64 ((x16.n : Nat) : Int)), (18, Value.int .i64 x18)] ⟨rfl, rfl, rfl, rfl, rfl, trivial⟩
        refine W.region ?_
        refine OL.pure S (Lf.run_assign (S.ev rfl)) rfl rfl trivial ?_
        clear S; intro aa S
        refine OL.nil ?_
        exact ⟨true, h2, S.sub _ ⟨rfl, rfl, rfl, rfl, rfl, rfl, trivial⟩, H⟩
      · replace H := H.2 hb_1
        refine W.skip ?_
        exact ⟨vsome7, h1, S.sub _ ⟨rfl, rfl, rfl, rfl, rfl, rfl, trivial⟩, H⟩
    · clear H S aa
      rintro aa ww ⟨vsome7_1, h3, S, HJ⟩
      have H := HK _ _ HJ
      clear HK HJ
      replace S := S.sub [(0, Value.pointer s0), (1, Value.int .i64 a1), (7, Value.bool vsome7_1), (16, Value.slice x16.a x16.n x16.c), (17, Value.int .i64 ((x16.n : Nat) : Int)), (18, Value.int .i64 x18)] ⟨rfl, rfl, rfl, rfl, rfl, rfl, trivial⟩
      refine W.region ?_
      refine OL.pure S (Lf.run_add (S.ev rfl) (S.ev rfl)) rfl rfl trivial ?_
      clear S; intro aa S
      refine OL.pure S (Lf.run_move (S.ev rfl)) rfl rfl trivial ?_
      clear S; intro aa S
      refine OL.nil ?_
      exact ⟨(vsome7_1, (IntKind.i64.wrap (x18 + 1)), h3), ⟨S.sub _ ⟨rfl, rfl, rfl, rfl, rfl, rfl, trivial⟩, H.1⟩, H.2⟩
  · replace H := H.2 hb
    refine W.exit_ ?_
    refine xhit ?_
    refine W.seq ?_
    replace S := S.sub [(7, Value.bool vsome7)] ⟨rfl, trivial⟩
    refine W.region ?_
    refine OL.pure S (Lf.run_move (S.ev rfl)) rfl rfl trivial ?_
    clear S; intro aa S
    refine OL.pure S (Lf.run_assign (S.ev rfl)) rfl rfl trivial ?_
    clear S; intro aa S
    refine OL.nil ?_
    refine W.ret ?_
    exact Ret.one S rfl rfl H

end Go.Proofs.YtgbmihnainbgiaaDoor

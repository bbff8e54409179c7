/- Lifted by program off the elaborated code: each Go function, read as a proposition over typed variables and the heap. -/
import Derived.Test.YtggacajnmgligaaG0
namespace Go.Proofs.Ytggacajnmgligaa
open Go Go.Lf
set_option linter.unusedVariables false
set_option maxRecDepth 100000

/-- (*chattel heap.alloc).part -/
def L32 (a0 : Option Addr) (path1 : Sv) (h : Heap) (R : Value → Heap → Prop) : Prop :=
  nn a0 fun p10 =>
  ∃ (I : Option Addr → Int → Prop) (m : Option Addr → Int → Nat), I (some (p10.add 1)) 0 ∧ ∀ v6 x14, I v6 x14 →
  ifb (decide (x14 < ((path1.n : Nat) : Int))) (
    ixS path1 x14 fun q16 =>
    ldI .i64 h (q16.add ((x14 : Int).toNat * 1)) fun x17 =>
    nn v6 fun p20 =>
    ldI .i64 h p20 fun x22 =>
    ifb (x22 == 0) (
      R (.tuple #[Value.pointer none, Value.int .i64 3]) h) (
      nn v6 fun p26 =>
      ldI .i64 h p26 fun x28 =>
      ∃ J : Bool → Prop, (orr ((x28 != 5) || (decide (x17 < 0))) (fun k =>
        nn v6 fun p37 =>
        ldS h (p37.add 3) fun x39 =>
        k (decide (((x39.n : Nat) : Int) ≤ x17))) J) ∧ ∀ x42, J x42 →
      ifb x42 (
        R (.tuple #[Value.pointer none, Value.int .i64 4]) h) (
        nn v6 fun p44 =>
        ldS h (p44.add 3) fun x46 =>
        ixS x46 x17 fun q48 =>
        I (some (q48.add ((x17 : Int).toNat * 7))) (IntKind.i64.wrap (x14 + 1)) ∧ m (some (q48.add ((x17 : Int).toNat * 7))) (IntKind.i64.wrap (x14 + 1)) < m v6 x14))) (
    R (.tuple #[Value.pointer v6, Value.int .i64 0]) h)

set_option maxRecDepth 100000 in

theorem F32 {a0 path1 h : _} {R : Value → Heap → Prop} (H : L32 a0 path1 h R) : CallsH Try.prog 32 #[Value.pointer a0, Value.slice path1.a path1.n path1.c] h R := by
  refine CallsH.enter (n := 51) Try.func32 rfl rfl rfl rfl ?_
  intro w0 aa ww S
  unfold L32 at H
  refine W.seq ?_
  replace S := S.sub [(0, Value.pointer a0), (1, Value.slice path1.a path1.n path1.c)] ⟨rfl, rfl, trivial⟩
  refine W.region ?_
  refine OL.pure S (Lf.run_assign (S.ev rfl)) rfl rfl trivial ?_
  clear S; intro aa S
  refine OL.pure S (Lf.run_assign (S.ev rfl)) rfl rfl trivial ?_
  clear S; intro aa S
  refine OL.nil ?_
  refine W.seq ?_
  replace S := S.sub [(0, Value.pointer a0), (1, Value.slice path1.a path1.n path1.c)] ⟨rfl, rfl, trivial⟩
  refine W.region ?_
  refine OL.pure S (Lf.run_move (S.ev rfl)) rfl rfl trivial ?_
  clear S; intro aa S
  obtain ⟨p10, e, H⟩ := H
  refine OL.pure S (Lf.run_nc' (S.ev rfl) e) rfl rfl trivial ?_
  clear S; intro aa S
  refine OL.pure S (Lf.run_fa (S.ev rfl) fa78_1) rfl rfl trivial ?_
  clear S; intro aa S
  refine OL.pure S (Lf.run_assign (S.ev rfl)) rfl rfl trivial ?_
  clear S; intro aa S
  refine OL.nil ?_
  refine W.seq ?_
  refine W.seq ?_
  replace S := S.sub [(1, Value.slice path1.a path1.n path1.c), (6, Value.pointer (some (p10.add 1)))] ⟨rfl, rfl, trivial⟩
  refine W.region ?_
  refine OL.pure S (Lf.run_move (S.ev rfl)) rfl rfl trivial ?_
  clear S; intro aa S
  refine OL.pure S (Lf.run_lens (S.ev rfl) rfl Try.underlying26) rfl rfl trivial ?_
  clear S; intro aa S
  refine OL.pure S (Lf.run_move (S.ev rfl)) rfl rfl trivial ?_
  clear S; intro aa S
  refine OL.nil ?_
  refine W.block ?_
  obtain ⟨I, m, H, HB⟩ := H
  refine W.loopS (σ := (Option Addr) × Int) (fun s aa ww => St 51 [(6, Value.pointer s.1), (12, Value.slice path1.a path1.n path1.c), (13, Value.int .i64 ((path1.n : Nat) : Int)), (14, Value.int .i64 s.2)] h w0 aa ww ∧ I s.1 s.2) (fun s => m s.1 s.2) ((some (p10.add 1)), 0) ⟨S.sub _ ⟨rfl, rfl, rfl, rfl, trivial⟩, H⟩ ?_
  clear H S aa
  rintro ⟨v6, x14⟩ aa ww ⟨S, HI⟩
  replace S : St 51 [(6, Value.pointer v6), (12, Value.slice path1.a path1.n path1.c), (13, Value.int .i64 ((path1.n : Nat) : Int)), (14, Value.int .i64 x14)] h w0 aa ww := S
  have H := HB v6 x14 HI
  clear HI
  refine W.seq ?_
  replace S := S.sub [(6, Value.pointer v6), (12, Value.slice path1.a path1.n path1.c), (13, Value.int .i64 ((path1.n : Nat) : Int)), (14, Value.int .i64 x14)] ⟨rfl, rfl, rfl, rfl, trivial⟩
  refine W.region ?_
  refine OL.pure S (Lf.run_lss (S.ev rfl) (S.ev rfl)) rfl rfl trivial ?_
  clear S; intro aa S
  refine OL.nil ?_
  refine W.seq ?_
  refine W.cond S (b := (decide (x14 < ((path1.n : Nat) : Int)))) rfl (fun hb => ?_) (fun hb => ?_)
  · replace H := H.1 hb
    refine W.skip ?_
    refine W.seq ?_
    refine W.block ?_
    refine W.seq ?_
    replace S := S.sub [(6, Value.pointer v6), (12, Value.slice path1.a path1.n path1.c), (13, Value.int .i64 ((path1.n : Nat) : Int)), (14, Value.int .i64 x14)] ⟨rfl, rfl, rfl, rfl, trivial⟩
    refine W.region ?_
    obtain ⟨q16, e_1, e_2, e_3, H⟩ := H
    refine OL.pure S (Lf.run_ixs (S.ev rfl) (S.ev rfl) Try.underlying26 ti3 e_1 e_2 e_3) rfl rfl trivial ?_
    clear S; intro aa S
    obtain ⟨x17, c, H⟩ := H
    refine OL.pure S (Lf.run_ld (S.ev rfl) fl3 (S.cl c)) rfl rfl trivial ?_
    clear S; intro aa S
    refine OL.pure S (Lf.run_assign (S.ev rfl)) rfl rfl trivial ?_
    clear S; intro aa S
    refine OL.nil ?_
    refine W.seq ?_
    refine W.block ?_
    refine W.seq ?_
    replace S := S.sub [(6, Value.pointer v6), (8, Value.int .i64 x17), (12, Value.slice path1.a path1.n path1.c), (13, Value.int .i64 ((path1.n : Nat) : Int)), (14, Value.int .i64 x14)] ⟨rfl, rfl, rfl, rfl, rfl, trivial⟩
    refine W.region ?_
    refine OL.pure S (Lf.run_move (S.ev rfl)) rfl rfl trivial ?_
    clear S; intro aa S
    obtain ⟨p20, e_4, H⟩ := H
    refine OL.pure S (Lf.run_nc' (S.ev rfl) e_4) rfl rfl trivial ?_
    clear S; intro aa S
    refine OL.pure S (Lf.run_fa (S.ev rfl) fa33_0) rfl rfl trivial ?_
    clear S; intro aa S
    obtain ⟨x22, c_1, H⟩ := H
    refine OL.pure S (Lf.run_ld (S.ev rfl) fl3 (S.cl c_1)) rfl rfl trivial ?_
    clear S; intro aa S
    refine OL.pure S (Lf.run_eql (S.ev rfl) (S.ev rfl)) rfl rfl trivial ?_
    clear S; intro aa S
    refine OL.pure S (Lf.run_assign (S.ev rfl)) rfl rfl trivial ?_
    clear S; intro aa S
    refine OL.nil ?_
    refine W.cond S (b := (x22 == 0)) rfl (fun hb_1 => ?_) (fun hb_1 => ?_)
    · replace H := H.1 hb_1
      refine W.seq ?_
      replace S := S.sub [] trivial
      refine W.region ?_
      refine OL.pure S (Lf.run_assign (S.ev rfl)) rfl rfl trivial ?_
      clear S; intro aa S
      refine OL.pure S (Lf.run_assign (S.ev rfl)) rfl rfl trivial ?_
      clear S; intro aa S
      refine OL.nil ?_
      refine W.ret ?_
      exact Ret.two S rfl rfl rfl H
    · replace H := H.2 hb_1
      refine W.seq ?_
      replace S := S.sub [(6, Value.pointer v6), (8, Value.int .i64 x17), (12, Value.slice path1.a path1.n path1.c), (13, Value.int .i64 ((path1.n : Nat) : Int)), (14, Value.int .i64 x14)] ⟨rfl, rfl, rfl, rfl, rfl, trivial⟩
      refine W.region ?_
      refine OL.pure S (Lf.run_move (S.ev rfl)) rfl rfl trivial ?_
      clear S; intro aa S
      obtain ⟨p26, e_5, H⟩ := H
      refine OL.pure S (Lf.run_nc' (S.ev rfl) e_5) rfl rfl trivial ?_
      clear S; intro aa S
      refine OL.pure S (Lf.run_fa (S.ev rfl) fa33_0) rfl rfl trivial ?_
      clear S; intro aa S
      obtain ⟨x28, c_2, H⟩ := H
      refine OL.pure S (Lf.run_ld (S.ev rfl) fl3 (S.cl c_2)) rfl rfl trivial ?_
      clear S; intro aa S
      refine OL.pure S (Lf.run_neq (S.ev rfl) (S.ev rfl)) rfl rfl trivial ?_
      clear S; intro aa S
      refine OL.pure S (Lf.run_move (S.ev rfl)) rfl rfl trivial ?_
      clear S; intro aa S
      refine OL.cutN 3 (fun aa ww => St 51 ((33, Value.bool ((x28 != 5) || (decide (x17 < 0)))) :: [(6, Value.pointer v6), (8, Value.int .i64 x17), (12, Value.slice path1.a path1.n path1.c), (13, Value.int .i64 ((path1.n : Nat) : Int)), (14, Value.int .i64 x14), (25, Value.pointer v6), (26, Value.pointer (some p26)), (27, Value.pointer (some p26)), (28, Value.int .i64 x28), (29, Value.bool (x28 != 5)), (30, Value.bool (x28 != 5))]) h w0 aa ww) ?_ ?_
      · rcases Bool.eq_false_or_eq_true (x28 != 5) with hb_2 | hb_2
        · refine OL.not S rfl rfl (GNo.mk rfl rfl hb_2) ?_
          clear S; intro aa S
          refine OL.not S rfl rfl (GNo.mk rfl rfl hb_2) ?_
          clear S; intro aa S
          refine OL.pure S (Lf.run_pickT (S.ev rfl) hb_2 (S.ev rfl)) rfl rfl trivial ?_
          clear S; intro aa S
          refine OL.nil ?_
          exact (S.hd (by rw [hb_2, Bool.true_or])).sub _ ⟨rfl, rfl, rfl, rfl, rfl, rfl, rfl, rfl, rfl, rfl, rfl, rfl, trivial⟩
        · refine OL.pure S (Lf.run_move (S.ev rfl)) rfl rfl (GOk.mk rfl rfl hb_2) ?_
          clear S; intro aa S
          refine OL.pure S (Lf.run_lss (S.ev rfl) (S.ev rfl)) rfl rfl (GOk.mk rfl rfl hb_2) ?_
          clear S; intro aa S
          refine OL.pure S (Lf.run_pickF (S.ev rfl) hb_2 (S.ev rfl)) rfl rfl trivial ?_
          clear S; intro aa S
          refine OL.nil ?_
          exact (S.hd (by rw [hb_2, Bool.false_or])).sub _ ⟨rfl, rfl, rfl, rfl, rfl, rfl, rfl, rfl, rfl, rfl, rfl, rfl, trivial⟩
      · clear S aa
        intro aa ww S
        refine OL.pure S (Lf.run_move (S.ev rfl)) rfl rfl trivial ?_
        clear S; intro aa S
        obtain ⟨J, H, HK⟩ := H
        refine OL.cutN 8 (fun aa ww => ∃ x42, St 51 ((42, Value.bool x42) :: [(6, Value.pointer v6), (8, Value.int .i64 x17), (12, Value.slice path1.a path1.n path1.c), (13, Value.int .i64 ((path1.n : Nat) : Int)), (14, Value.int .i64 x14), (25, Value.pointer v6), (26, Value.pointer (some p26)), (27, Value.pointer (some p26)), (28, Value.int .i64 x28), (29, Value.bool (x28 != 5)), (30, Value.bool (x28 != 5)), (33, Value.bool ((x28 != 5) || (decide (x17 < 0)))), (34, Value.bool ((x28 != 5) || (decide (x17 < 0))))]) h w0 aa ww ∧ J x42) ?_ ?_
        · rcases Bool.eq_false_or_eq_true ((x28 != 5) || (decide (x17 < 0))) with hb_3 | hb_3
          · replace H := H.1 hb_3
            refine OL.not S rfl rfl (GNo.mk rfl rfl hb_3) ?_
            clear S; intro aa S
            refine OL.not S rfl rfl (GNo.mk rfl rfl hb_3) ?_
            clear S; intro aa S
            refine OL.not S rfl rfl (GNo.mk rfl rfl hb_3) ?_
            clear S; intro aa S
            refine OL.not S rfl rfl (GNo.mk rfl rfl hb_3) ?_
            clear S; intro aa S
            refine OL.not S rfl rfl (GNo.mk rfl rfl hb_3) ?_
            clear S; intro aa S
            refine OL.not S rfl rfl (GNo.mk rfl rfl hb_3) ?_
            clear S; intro aa S
            refine OL.not S rfl rfl (GNo.mk rfl rfl hb_3) ?_
            clear S; intro aa S
            refine OL.pure S (Lf.run_pickT (S.ev rfl) hb_3 (S.ev rfl)) rfl rfl trivial ?_
            clear S; intro aa S
            refine OL.nil ?_
            exact ⟨_, S.sub _ ⟨rfl, rfl, rfl, rfl, rfl, rfl, rfl, rfl, rfl, rfl, rfl, rfl, rfl, rfl, trivial⟩, H⟩
          · replace H := H.2 hb_3
            refine OL.pure S (Lf.run_move (S.ev rfl)) rfl rfl (GOk.mk rfl rfl hb_3) ?_
            clear S; intro aa S
            refine OL.pure S (Lf.run_move (S.ev rfl)) rfl rfl (GOk.mk rfl rfl hb_3) ?_
            clear S; intro aa S
            obtain ⟨p37, e_6, H⟩ := H
            refine OL.pure S (Lf.run_nc' (S.ev rfl) e_6) rfl rfl (GOk.mk rfl rfl hb_3) ?_
            clear S; intro aa S
            refine OL.pure S (Lf.run_fa (S.ev rfl) fa33_3) rfl rfl (GOk.mk rfl rfl hb_3) ?_
            clear S; intro aa S
            obtain ⟨x39, c_3, H⟩ := H
            refine OL.pure S (Lf.run_ld (S.ev rfl) fl31 (S.cl c_3)) rfl rfl (GOk.mk rfl rfl hb_3) ?_
            clear S; intro aa S
            refine OL.pure S (Lf.run_lens (S.ev rfl) rfl Try.underlying31) rfl rfl (GOk.mk rfl rfl hb_3) ?_
            clear S; intro aa S
            refine OL.pure S (Lf.run_geq (S.ev rfl) (S.ev rfl)) rfl rfl (GOk.mk rfl rfl hb_3) ?_
            clear S; intro aa S
            refine OL.pure S (Lf.run_pickF (S.ev rfl) hb_3 (S.ev rfl)) rfl rfl trivial ?_
            clear S; intro aa S
            refine OL.nil ?_
            exact ⟨_, S.sub _ ⟨rfl, rfl, rfl, rfl, rfl, rfl, rfl, rfl, rfl, rfl, rfl, rfl, rfl, rfl, trivial⟩, H⟩
        · clear S aa
          rintro aa ww ⟨x42, S, HJ⟩
          replace H := HK _ HJ
          clear HK HJ
          refine OL.pure S (Lf.run_assign (S.ev rfl)) rfl rfl trivial ?_
          clear S; intro aa S
          refine OL.nil ?_
          refine W.cond S (b := x42) rfl (fun hb_4 => ?_) (fun hb_4 => ?_)
          · replace H := H.1 hb_4
            refine W.seq ?_
            replace S := S.sub [] trivial
            refine W.region ?_
            refine OL.pure S (Lf.run_assign (S.ev rfl)) rfl rfl trivial ?_
            clear S; intro aa S
            refine OL.pure S (Lf.run_assign (S.ev rfl)) rfl rfl trivial ?_
            clear S; intro aa S
            refine OL.nil ?_
            refine W.ret ?_
            exact Ret.two S rfl rfl rfl H
          · replace H := H.2 hb_4
            refine W.skip ?_
            replace S := S.sub [(6, Value.pointer v6), (8, Value.int .i64 x17), (12, Value.slice path1.a path1.n path1.c), (13, Value.int .i64 ((path1.n : Nat) : Int)), (14, Value.int .i64 x14)] ⟨rfl, rfl, rfl, rfl, rfl, trivial⟩
            refine W.region ?_
            refine OL.pure S (Lf.run_move (S.ev rfl)) rfl rfl trivial ?_
            clear S; intro aa S
            obtain ⟨p44, e_7, H⟩ := H
            refine OL.pure S (Lf.run_nc' (S.ev rfl) e_7) rfl rfl trivial ?_
            clear S; intro aa S
            refine OL.pure S (Lf.run_fa (S.ev rfl) fa33_3) rfl rfl trivial ?_
            clear S; intro aa S
            obtain ⟨x46, c_4, H⟩ := H
            refine OL.pure S (Lf.run_ld (S.ev rfl) fl31 (S.cl c_4)) rfl rfl trivial ?_
            clear S; intro aa S
            refine OL.pure S (Lf.run_move (S.ev rfl)) rfl rfl trivial ?_
            clear S; intro aa S
            obtain ⟨q48, e_8, e_9, e_10, H⟩ := H
            refine OL.pure S (Lf.run_ixs (S.ev rfl) (S.ev rfl) Try.underlying31 ti33 e_8 e_9 e_10) rfl rfl trivial ?_
            clear S; intro aa S
            refine OL.pure S (Lf.run_assign (S.ev rfl)) rfl rfl trivial ?_
            clear S; intro aa S
            refine OL.nil ?_
            replace S := S.sub [(6, Value.pointer (some (q48.add ((x17 : Int).toNat * 7)))), (12, Value.slice path1.a path1.n path1.c), (13, Value.int .i64 ((path1.n : Nat) : Int)), (14, Value.int .i64 x14)] ⟨rfl, rfl, rfl, rfl, trivial⟩
            refine W.region ?_
            refine OL.pure S (Lf.run_add (S.ev rfl) (S.ev rfl)) rfl rfl trivial ?_
            clear S; intro aa S
            refine OL.pure S (Lf.run_move (S.ev rfl)) rfl rfl trivial ?_
            clear S; intro aa S
            refine OL.nil ?_
            exact ⟨((some (q48.add ((x17 : Int).toNat * 7))), (IntKind.i64.wrap (x14 + 1))), ⟨S.sub _ ⟨rfl, rfl, rfl, rfl, trivial⟩, H.1⟩, H.2⟩
  · replace H := H.2 hb
    refine W.exit_ ?_
    refine xhit ?_
    refine W.seq ?_
    replace S := S.sub [(6, Value.pointer v6)] ⟨rfl, trivial⟩
    refine W.region ?_
    refine OL.pure S (Lf.run_move (S.ev rfl)) rfl rfl trivial ?_
    clear S; intro aa S
    refine OL.pure S (Lf.run_assign (S.ev rfl)) rfl rfl trivial ?_
    clear S; intro aa S
    refine OL.pure S (Lf.run_assign (S.ev rfl)) rfl rfl trivial ?_
    clear S; intro aa S
    refine OL.nil ?_
    refine W.ret ?_
    exact Ret.two S rfl rfl rfl H

/-- slices.Clone[[]chattel api.Hold,chattel api.Hold] -/
def L43 (s0 : Sv) (h : Heap) (R : Value → Heap → Prop) : Prop :=
  ifb (Option.isNone s0.a) (
    R (Value.slice (⟨none, 0, 0⟩ : Sv).a (⟨none, 0, 0⟩ : Sv).n (⟨none, 0, 0⟩ : Sv).c) h) (
    newS 80 #[] 0 h fun s5 h1 =>
    appS 80 (Value.agg #[Value.int .i64 0, Value.slice (⟨none, 0, 0⟩ : Sv).a (⟨none, 0, 0⟩ : Sv).n (⟨none, 0, 0⟩ : Sv).c, Value.bool false]).cells 3 40 h1 s5 s0 fun s7 h2 =>
    R (Value.slice s7.a s7.n s7.c) h2)

set_option maxRecDepth 100000 in

theorem F43 {s0 h : _} {R : Value → Heap → Prop} (H : L43 s0 h R) : CallsH Try.prog 43 #[Value.slice s0.a s0.n s0.c] h R := by
  refine CallsH.enter (n := 8) Try.func43 rfl rfl rfl rfl ?_
  intro w0 aa ww S
  unfold L43 at H
  refine W.seq ?_
  replace S := S.sub [(0, Value.slice s0.a s0.n s0.c)] ⟨rfl, trivial⟩
  refine W.region ?_
  refine OL.pure S (Lf.run_assign (S.ev rfl)) rfl rfl trivial ?_
  clear S; intro aa S
  refine OL.nil ?_
  refine W.seq ?_
  refine W.seq ?_
  replace S := S.sub [(0, Value.slice s0.a s0.n s0.c)] ⟨rfl, trivial⟩
  refine W.region ?_
  refine OL.pure S (Lf.run_move (S.ev rfl)) rfl rfl trivial ?_
  clear S; intro aa S
  refine OL.pure S (Lf.run_eqlsn Try.underlying69 (S.ev rfl) (S.ev rfl)) rfl rfl trivial ?_
  clear S; intro aa S
  refine OL.nil ?_
  refine W.cond S (b := (Option.isNone s0.a)) rfl (fun hb => ?_) (fun hb => ?_)
  · replace H := H.1 hb
    refine W.seq ?_
    replace S := S.sub [] trivial
    refine W.region ?_
    refine OL.pure S (Lf.run_assign (S.ev rfl)) rfl rfl trivial ?_
    clear S; intro aa S
    refine OL.nil ?_
    refine W.ret ?_
    exact Ret.one S rfl rfl H
  · replace H := H.2 hb
    refine W.skip ?_
    refine W.seq ?_
    replace S := S.sub [(0, Value.slice s0.a s0.n s0.c)] ⟨rfl, trivial⟩
    refine W.region ?_
    refine ol_newS0 S H Try.underlying69 ti80 rfl rfl trivial ?_
    clear S H aa; intro s5 aa ww h1 H S
    refine OL.pure S (Lf.run_move (S.ev rfl)) rfl rfl trivial ?_
    clear S; intro aa S
    refine ol_appS S H Try.underlying69 ti80 rfl rfl rfl trivial ?_
    clear S H aa; intro s7 aa ww h2 H S
    refine OL.pure S (Lf.run_assign (S.ev rfl)) rfl rfl trivial ?_
    clear S; intro aa S
    refine OL.nil ?_
    refine W.ret ?_
    exact Ret.one S rfl rfl H

/-- slices.Clone[[]chattel api.Value,chattel api.Value] -/
def L44 (s0 : Sv) (h : Heap) (R : Value → Heap → Prop) : Prop :=
  ifb (Option.isNone s0.a) (
    R (Value.slice (⟨none, 0, 0⟩ : Sv).a (⟨none, 0, 0⟩ : Sv).n (⟨none, 0, 0⟩ : Sv).c) h) (
    newS 33 #[] 0 h fun s5 h1 =>
    appS 33 (Value.agg #[Value.int .i64 0, Value.int .u64 0, Value.string (⟨#[]⟩ : ByteArray), Value.slice (⟨none, 0, 0⟩ : Sv).a (⟨none, 0, 0⟩ : Sv).n (⟨none, 0, 0⟩ : Sv).c, Value.int .i64 0, Value.slice (⟨none, 0, 0⟩ : Sv).a (⟨none, 0, 0⟩ : Sv).n (⟨none, 0, 0⟩ : Sv).c, Value.int .i64 0]).cells 7 96 h1 s5 s0 fun s7 h2 =>
    R (Value.slice s7.a s7.n s7.c) h2)

set_option maxRecDepth 100000 in

theorem F44 {s0 h : _} {R : Value → Heap → Prop} (H : L44 s0 h R) : CallsH Try.prog 44 #[Value.slice s0.a s0.n s0.c] h R := by
  refine CallsH.enter (n := 8) Try.func44 rfl rfl rfl rfl ?_
  intro w0 aa ww S
  unfold L44 at H
  refine W.seq ?_
  replace S := S.sub [(0, Value.slice s0.a s0.n s0.c)] ⟨rfl, trivial⟩
  refine W.region ?_
  refine OL.pure S (Lf.run_assign (S.ev rfl)) rfl rfl trivial ?_
  clear S; intro aa S
  refine OL.nil ?_
  refine W.seq ?_
  refine W.seq ?_
  replace S := S.sub [(0, Value.slice s0.a s0.n s0.c)] ⟨rfl, trivial⟩
  refine W.region ?_
  refine OL.pure S (Lf.run_move (S.ev rfl)) rfl rfl trivial ?_
  clear S; intro aa S
  refine OL.pure S (Lf.run_eqlsn Try.underlying31 (S.ev rfl) (S.ev rfl)) rfl rfl trivial ?_
  clear S; intro aa S
  refine OL.nil ?_
  refine W.cond S (b := (Option.isNone s0.a)) rfl (fun hb => ?_) (fun hb => ?_)
  · replace H := H.1 hb
    refine W.seq ?_
    replace S := S.sub [] trivial
    refine W.region ?_
    refine OL.pure S (Lf.run_assign (S.ev rfl)) rfl rfl trivial ?_
    clear S; intro aa S
    refine OL.nil ?_
    refine W.ret ?_
    exact Ret.one S rfl rfl H
  · replace H := H.2 hb
    refine W.skip ?_
    refine W.seq ?_
    replace S := S.sub [(0, Value.slice s0.a s0.n s0.c)] ⟨rfl, trivial⟩
    refine W.region ?_
    refine ol_newS0 S H Try.underlying31 ti33 rfl rfl trivial ?_
    clear S H aa; intro s5 aa ww h1 H S
    refine OL.pure S (Lf.run_move (S.ev rfl)) rfl rfl trivial ?_
    clear S; intro aa S
    refine ol_appS S H Try.underlying31 ti33 rfl rfl rfl trivial ?_
    clear S H aa; intro s7 aa ww h2 H S
    refine OL.pure S (Lf.run_assign (S.ev rfl)) rfl rfl trivial ?_
    clear S; intro aa S
    refine OL.nil ?_
    refine W.ret ?_
    exact Ret.one S rfl rfl H

/-- slices.IndexFunc[[]chattel api.Hold,chattel api.Hold] -/
def L45 (s0 : Sv) (f1 : Value) (h : Heap) (R : Value → Heap → Prop) : Prop :=
  ∃ (I : Int → Heap → Prop) (m : Int → Heap → Nat), I 0 h ∧ ∀ x8 h1, I x8 h1 →
  ifb (decide (x8 < ((s0.n : Nat) : Int))) (
    ixS s0 x8 fun q14 =>
    ∃ (y15 : Int) (y15_1 : Sv) (y15_2 : Bool), cl h1 (q14.add ((x8 : Int).toNat * 3)) = some (Value.int .i64 y15) ∧ cl h1 ((q14.add ((x8 : Int).toNat * 3)).add 1) = some (Value.slice y15_1.a y15_1.n y15_1.c) ∧ cl h1 ((q14.add ((x8 : Int).toNat * 3)).add 2) = some (Value.bool y15_2) ∧
    calV Try.prog f1 #[Value.agg #[Value.int .i64 y15, Value.slice y15_1.a y15_1.n y15_1.c, Value.bool y15_2]] h1 fun u h2 => asB u fun x16 =>
    ifb x16 (
      R (Value.int .i64 x8) h2) (
      I (IntKind.i64.wrap (x8 + 1)) h2 ∧ m (IntKind.i64.wrap (x8 + 1)) h2 < m x8 h1)) (
    R (Value.int .i64 (-1)) h1)

set_option maxRecDepth 100000 in

theorem F45 {s0 f1 h : _} {R : Value → Heap → Prop} (H : L45 s0 f1 h R) : CallsH Try.prog 45 #[Value.slice s0.a s0.n s0.c, f1] h R := by
  refine CallsH.enter (n := 19) Try.func45 rfl rfl rfl rfl ?_
  intro w0 aa ww S
  unfold L45 at H
  refine W.seq ?_
  replace S := S.sub [(0, Value.slice s0.a s0.n s0.c), (1, f1)] ⟨rfl, rfl, trivial⟩
  refine W.region ?_
  refine OL.pure S (Lf.run_assign (S.ev rfl)) rfl rfl trivial ?_
  clear S; intro aa S
  refine OL.nil ?_
  refine W.seq ?_
  refine W.seq ?_
  replace S := S.sub [(0, Value.slice s0.a s0.n s0.c), (1, f1)] ⟨rfl, rfl, trivial⟩
  refine W.region ?_
  refine OL.pure S (Lf.run_move (S.ev rfl)) rfl rfl trivial ?_
  clear S; intro aa S
  refine OL.pure S (Lf.run_lens (S.ev rfl) rfl Try.underlying69) rfl rfl trivial ?_
  clear S; intro aa S
  refine OL.pure S (Lf.run_move (S.ev rfl)) rfl rfl trivial ?_
  clear S; intro aa S
  refine OL.nil ?_
  refine W.block ?_
  obtain ⟨I, m, H, HB⟩ := H
  refine W.loopS (σ := Int × Heap) (fun s aa ww => St 19 [(0, Value.slice s0.a s0.n s0.c), (1, f1), (7, Value.int .i64 ((s0.n : Nat) : Int)), (8, Value.int .i64 s.1)] s.2 w0 aa ww ∧ I s.1 s.2) (fun s => m s.1 s.2) (0, h) ⟨S.sub _ ⟨rfl, rfl, rfl, rfl, trivial⟩, H⟩ ?_
  clear H S aa
  rintro ⟨x8, h1⟩ aa ww ⟨S, HI⟩
  replace S : St 19 [(0, Value.slice s0.a s0.n s0.c), (1, f1), (7, Value.int .i64 ((s0.n : Nat) : Int)), (8, Value.int .i64 x8)] h1 w0 aa ww := S
  have H := HB x8 h1 HI
  clear HI
  refine W.seq ?_
  replace S := S.sub [(0, Value.slice s0.a s0.n s0.c), (1, f1), (7, Value.int .i64 ((s0.n : Nat) : Int)), (8, Value.int .i64 x8)] ⟨rfl, rfl, rfl, rfl, trivial⟩
  refine W.region ?_
  refine OL.pure S (Lf.run_lss (S.ev rfl) (S.ev rfl)) rfl rfl trivial ?_
  clear S; intro aa S
  refine OL.nil ?_
  refine W.seq ?_
  refine W.cond S (b := (decide (x8 < ((s0.n : Nat) : Int)))) rfl (fun hb => ?_) (fun hb => ?_)
  · replace H := H.1 hb
    refine W.skip ?_
    refine W.seq ?_
    refine W.block ?_
    refine W.seq ?_
    replace S := S.sub [(0, Value.slice s0.a s0.n s0.c), (1, f1), (7, Value.int .i64 ((s0.n : Nat) : Int)), (8, Value.int .i64 x8)] ⟨rfl, rfl, rfl, rfl, trivial⟩
    refine W.region ?_
    refine OL.pure S (Lf.run_move (S.ev rfl)) rfl rfl trivial ?_
    clear S; intro aa S
    refine OL.pure S (Lf.run_assign (S.ev rfl)) rfl rfl trivial ?_
    clear S; intro aa S
    refine OL.nil ?_
    refine W.seq ?_
    replace S := S.sub [(0, Value.slice s0.a s0.n s0.c), (1, f1), (5, Value.int .i64 x8), (7, Value.int .i64 ((s0.n : Nat) : Int)), (8, Value.int .i64 x8)] ⟨rfl, rfl, rfl, rfl, rfl, trivial⟩
    refine W.region ?_
    refine OL.pure S (Lf.run_move (S.ev rfl)) rfl rfl trivial ?_
    clear S; intro aa S
    refine OL.pure S (Lf.run_move (S.ev rfl)) rfl rfl trivial ?_
    clear S; intro aa S
    refine OL.pure S (Lf.run_move (S.ev rfl)) rfl rfl trivial ?_
    clear S; intro aa S
    obtain ⟨q14, e, e_1, e_2, H⟩ := H
    refine OL.pure S (Lf.run_ixs (S.ev rfl) (S.ev rfl) Try.underlying69 ti80 e e_1 e_2) rfl rfl trivial ?_
    clear S; intro aa S
    obtain ⟨y15, y15_1, y15_2, c_1, c_2, c_3, H⟩ := H
    refine OL.pure S (Lf.run_ldA (cs := [Value.int .i64 y15, Value.slice y15_1.a y15_1.n y15_1.c, Value.bool y15_2]) (S.ev rfl) ag80 ti80 (by rw [S.heap]; exact RowL.toRow ⟨c_1, c_2, c_3, trivial⟩)) rfl rfl trivial ?_
    clear S; intro aa S
    refine ol_calV S H rfl rfl rfl trivial ?_
    clear S H aa; intro u aa ww h2 H S
    obtain ⟨x16, rfl, H⟩ := H
    refine OL.nil ?_
    refine W.cond S (b := x16) rfl (fun hb_1 => ?_) (fun hb_1 => ?_)
    · replace H := H.1 hb_1
      refine W.seq ?_
      replace S := S.sub [(5, Value.int .i64 x8)] ⟨rfl, trivial⟩
      refine W.region ?_
      refine OL.pure S (Lf.run_move (S.ev rfl)) rfl rfl trivial ?_
      clear S; intro aa S
      refine OL.pure S (Lf.run_assign (S.ev rfl)) rfl rfl trivial ?_
      clear S; intro aa S
      refine OL.nil ?_
      refine W.ret ?_
      exact Ret.one S rfl rfl H
    · replace H := H.2 hb_1
      refine W.skip ?_
      replace S := S.sub [(0, Value.slice s0.a s0.n s0.c), (1, f1), (7, Value.int .i64 ((s0.n : Nat) : Int)), (8, Value.int .i64 x8)] ⟨rfl, rfl, rfl, rfl, trivial⟩
      refine W.region ?_
      refine OL.pure S (Lf.run_add (S.ev rfl) (S.ev rfl)) rfl rfl trivial ?_
      clear S; intro aa S
      refine OL.pure S (Lf.run_move (S.ev rfl)) rfl rfl trivial ?_
      clear S; intro aa S
      refine OL.nil ?_
      exact ⟨((IntKind.i64.wrap (x8 + 1)), h2), ⟨S.sub _ ⟨rfl, rfl, rfl, rfl, trivial⟩, H.1⟩, H.2⟩
  · replace H := H.2 hb
    refine W.exit_ ?_
    refine xhit ?_
    refine W.seq ?_
    replace S := S.sub [] trivial
    refine W.region ?_
    refine OL.pure S (Lf.run_assign (S.ev rfl)) rfl rfl trivial ?_
    clear S; intro aa S
    refine OL.nil ?_
    refine W.ret ?_
    exact Ret.one S rfl rfl H

/-- (*chattel heap.Heap).use$1 -/
def L46 (x0 : Int) (x0_1 : Sv) (x0_2 : Bool) (x1 : Addr) (h : Heap) (R : Value → Heap → Prop) : Prop :=
  new 80 #[Value.int .i64 x0, Value.slice x0_1.a x0_1.n x0_1.c, Value.bool x0_2] h fun p2 h1 =>
  ldI .i64 h1 p2 fun x5 =>
  ldI .i64 h1 (x1.add 2) fun x7 =>
  R (Value.bool (x5 == x7)) h1

set_option maxRecDepth 100000 in

theorem F46 {x0 x0_1 x0_2 x1 h : _} {R : Value → Heap → Prop} (H : L46 x0 x0_1 x0_2 x1 h R) : CallsH Try.prog 46 #[Value.agg #[Value.int .i64 x0, Value.slice x0_1.a x0_1.n x0_1.c, Value.bool x0_2], Value.pointer (some x1)] h R := by
  refine CallsH.enter (n := 9) Try.func46 rfl rfl rfl rfl ?_
  intro w0 aa ww S
  unfold L46 at H
  refine W.seq ?_
  replace S := S.sub [(0, Value.agg #[Value.int .i64 x0, Value.slice x0_1.a x0_1.n x0_1.c, Value.bool x0_2]), (1, Value.pointer (some x1))] ⟨rfl, rfl, trivial⟩
  refine W.region ?_
  refine ol_box S H rfl rfl rfl trivial ?_
  clear S H aa; intro p2 aa ww h1 H S
  refine OL.pure S (Lf.run_assign (S.ev rfl)) rfl rfl trivial ?_
  clear S; intro aa S
  refine OL.nil ?_
  refine W.seq ?_
  replace S := S.sub [(1, Value.pointer (some x1)), (2, Value.pointer (some p2))] ⟨rfl, rfl, trivial⟩
  refine W.region ?_
  refine OL.pure S (Lf.run_fa (S.ev rfl) fa80_0) rfl rfl trivial ?_
  clear S; intro aa S
  obtain ⟨x5, c, H⟩ := H
  refine OL.pure S (Lf.run_ld (S.ev rfl) fl3 (S.cl c)) rfl rfl trivial ?_
  clear S; intro aa S
  refine OL.pure S (Lf.run_fa (S.ev rfl) fa28_2) rfl rfl trivial ?_
  clear S; intro aa S
  obtain ⟨x7, c_1, H⟩ := H
  refine OL.pure S (Lf.run_ld (S.ev rfl) fl3 (S.cl c_1)) rfl rfl trivial ?_
  clear S; intro aa S
  refine OL.pure S (Lf.run_eql (S.ev rfl) (S.ev rfl)) rfl rfl trivial ?_
  clear S; intro aa S
  refine OL.pure S (Lf.run_assign (S.ev rfl)) rfl rfl trivial ?_
  clear S; intro aa S
  refine OL.nil ?_
  refine W.ret ?_
  exact Ret.one S rfl rfl H

/-- chattel heap.begins -/
def L47 (a0 : Sv) (b1 : Sv) (h : Heap) (R : Value → Heap → Prop) : Prop :=
  ∃ J : Bool → Heap → Prop, (andj (decide (((a0.n : Nat) : Int) ≤ ((b1.n : Nat) : Int))) (fun k =>
    slS b1 1 0 ((a0.n : Nat) : Int) fun s15 =>
    cal Try.prog 58 #[Value.slice a0.a a0.n a0.c, Value.slice s15.a s15.n s15.c] h fun u h2 => asB u fun x16 =>
    k x16 h2) h J) ∧ ∀ x17 h1, J x17 h1 →
  R (Value.bool x17) h1

set_option maxRecDepth 100000 in

theorem F47 {a0 b1 h : _} {R : Value → Heap → Prop} (H : L47 a0 b1 h R) : CallsH Try.prog 47 #[Value.slice a0.a a0.n a0.c, Value.slice b1.a b1.n b1.c] h R := by
  refine CallsH.enter (n := 18) Try.func47 rfl rfl rfl rfl ?_
  intro w0 aa ww S
  unfold L47 at H
  refine W.seq ?_
  replace S := S.sub [(0, Value.slice a0.a a0.n a0.c), (1, Value.slice b1.a b1.n b1.c)] ⟨rfl, rfl, trivial⟩
  refine W.region ?_
  refine OL.pure S (Lf.run_assign (S.ev rfl)) rfl rfl trivial ?_
  clear S; intro aa S
  refine OL.nil ?_
  refine W.seq ?_
  replace S := S.sub [(0, Value.slice a0.a a0.n a0.c), (1, Value.slice b1.a b1.n b1.c)] ⟨rfl, rfl, trivial⟩
  refine W.region ?_
  refine OL.pure S (Lf.run_move (S.ev rfl)) rfl rfl trivial ?_
  clear S; intro aa S
  refine OL.pure S (Lf.run_lens (S.ev rfl) rfl Try.underlying26) rfl rfl trivial ?_
  clear S; intro aa S
  refine OL.pure S (Lf.run_move (S.ev rfl)) rfl rfl trivial ?_
  clear S; intro aa S
  refine OL.pure S (Lf.run_lens (S.ev rfl) rfl Try.underlying26) rfl rfl trivial ?_
  clear S; intro aa S
  refine OL.pure S (Lf.run_leq (S.ev rfl) (S.ev rfl)) rfl rfl trivial ?_
  clear S; intro aa S
  refine OL.pure S (Lf.run_move (S.ev rfl)) rfl rfl trivial ?_
  clear S; intro aa S
  obtain ⟨J, H, HK⟩ := H
  refine OL.cutN 7 (fun aa ww => ∃ x17 h1, St 18 ((17, Value.bool x17) :: [(0, Value.slice a0.a a0.n a0.c), (1, Value.slice b1.a b1.n b1.c), (5, Value.slice a0.a a0.n a0.c), (6, Value.int .i64 ((a0.n : Nat) : Int)), (7, Value.slice b1.a b1.n b1.c), (8, Value.int .i64 ((b1.n : Nat) : Int)), (9, Value.bool (decide (((a0.n : Nat) : Int) ≤ ((b1.n : Nat) : Int)))), (10, Value.bool (decide (((a0.n : Nat) : Int) ≤ ((b1.n : Nat) : Int))))]) h1 w0 aa ww ∧ J x17 h1) ?_ ?_
  · rcases Bool.eq_false_or_eq_true (decide (((a0.n : Nat) : Int) ≤ ((b1.n : Nat) : Int))) with hb | hb
    · replace H := H.1 hb
      refine OL.pure S (Lf.run_move (S.ev rfl)) rfl rfl (GOk.mk rfl rfl hb) ?_
      clear S; intro aa S
      refine OL.pure S (Lf.run_move (S.ev rfl)) rfl rfl (GOk.mk rfl rfl hb) ?_
      clear S; intro aa S
      refine OL.pure S (Lf.run_move (S.ev rfl)) rfl rfl (GOk.mk rfl rfl hb) ?_
      clear S; intro aa S
      refine OL.pure S (Lf.run_lens (S.ev rfl) rfl Try.underlying26) rfl rfl (GOk.mk rfl rfl hb) ?_
      clear S; intro aa S
      obtain ⟨s15, c, c_1, c_2, c_3, H⟩ := slS_ex H
      refine OL.pure S (Lf.run_slNS Try.underlying26 ti3 (S.ev rfl) (S.ev rfl) c_1 c_2 c_3) rfl rfl (GOk.mk rfl rfl hb) ?_
      clear S; intro aa S
      refine ol_cal S H isfn58 rfl rfl (GOk.mk rfl rfl hb) ?_
      clear S H aa; intro u aa ww h2 H S
      obtain ⟨x16, rfl, H⟩ := H
      refine OL.pure S (Lf.run_pickT (S.ev rfl) hb (S.ev rfl)) rfl rfl trivial ?_
      clear S; intro aa S
      refine OL.nil ?_
      exact ⟨_, _, S.sub _ ⟨rfl, rfl, rfl, rfl, rfl, rfl, rfl, rfl, rfl, trivial⟩, H⟩
    · replace H := H.2 hb
      refine OL.not S rfl rfl (GNo.mk rfl rfl hb) ?_
      clear S; intro aa S
      refine OL.not S rfl rfl (GNo.mk rfl rfl hb) ?_
      clear S; intro aa S
      refine OL.not S rfl rfl (GNo.mk rfl rfl hb) ?_
      clear S; intro aa S
      refine OL.not S rfl rfl (GNo.mk rfl rfl hb) ?_
      clear S; intro aa S
      refine OL.not S rfl rfl (GNo.mk rfl rfl hb) ?_
      clear S; intro aa S
      refine OL.not S rfl rfl (GNo.mk rfl rfl hb) ?_
      clear S; intro aa S
      refine OL.pure S (Lf.run_pickF (S.ev rfl) hb (S.ev rfl)) rfl rfl trivial ?_
      clear S; intro aa S
      refine OL.nil ?_
      exact ⟨_, _, S.sub _ ⟨rfl, rfl, rfl, rfl, rfl, rfl, rfl, rfl, rfl, trivial⟩, H⟩
  · clear S aa
    rintro aa ww ⟨x17, h1, S, HJ⟩
    replace H := HK _ _ HJ
    clear HK HJ
    refine OL.pure S (Lf.run_assign (S.ev rfl)) rfl rfl trivial ?_
    clear S; intro aa S
    refine OL.nil ?_
    refine W.ret ?_
    exact Ret.one S rfl rfl H

/-- chattel heap.overlap -/
def L48 (a0 : Sv) (b1 : Sv) (h : Heap) (R : Value → Heap → Prop) : Prop :=
  cal Try.prog 47 #[Value.slice a0.a a0.n a0.c, Value.slice b1.a b1.n b1.c] h fun u h1 => asB u fun x7 =>
  ∃ J : Bool → Heap → Prop, (orj x7 (fun k =>
    cal Try.prog 47 #[Value.slice b1.a b1.n b1.c, Value.slice a0.a a0.n a0.c] h1 fun u_1 h3 => asB u_1 fun x11 =>
    k x11 h3) h1 J) ∧ ∀ x12 h2, J x12 h2 →
  R (Value.bool x12) h2

set_option maxRecDepth 100000 in

theorem F48 {a0 b1 h : _} {R : Value → Heap → Prop} (H : L48 a0 b1 h R) : CallsH Try.prog 48 #[Value.slice a0.a a0.n a0.c, Value.slice b1.a b1.n b1.c] h R := by
  refine CallsH.enter (n := 13) Try.func48 rfl rfl rfl rfl ?_
  intro w0 aa ww S
  unfold L48 at H
  refine W.seq ?_
  replace S := S.sub [(0, Value.slice a0.a a0.n a0.c), (1, Value.slice b1.a b1.n b1.c)] ⟨rfl, rfl, trivial⟩
  refine W.region ?_
  refine OL.pure S (Lf.run_assign (S.ev rfl)) rfl rfl trivial ?_
  clear S; intro aa S
  refine OL.nil ?_
  refine W.seq ?_
  replace S := S.sub [(0, Value.slice a0.a a0.n a0.c), (1, Value.slice b1.a b1.n b1.c)] ⟨rfl, rfl, trivial⟩
  refine W.region ?_
  refine OL.pure S (Lf.run_move (S.ev rfl)) rfl rfl trivial ?_
  clear S; intro aa S
  refine OL.pure S (Lf.run_move (S.ev rfl)) rfl rfl trivial ?_
  clear S; intro aa S
  refine ol_cal S H isfn47 rfl rfl trivial ?_
  clear S H aa; intro u aa ww h1 H S
  obtain ⟨x7, rfl, H⟩ := H
  refine OL.pure S (Lf.run_move (S.ev rfl)) rfl rfl trivial ?_
  clear S; intro aa S
  obtain ⟨J, H, HK⟩ := H
  refine OL.cutN 4 (fun aa ww => ∃ x12 h2, St 13 ((12, Value.bool x12) :: [(0, Value.slice a0.a a0.n a0.c), (1, Value.slice b1.a b1.n b1.c), (5, Value.slice a0.a a0.n a0.c), (6, Value.slice b1.a b1.n b1.c), (7, Value.bool x7), (8, Value.bool x7)]) h2 w0 aa ww ∧ J x12 h2) ?_ ?_
  · rcases Bool.eq_false_or_eq_true x7 with hb | hb
    · replace H := H.1 hb
      refine OL.not S rfl rfl (GNo.mk rfl rfl hb) ?_
      clear S; intro aa S
      refine OL.not S rfl rfl (GNo.mk rfl rfl hb) ?_
      clear S; intro aa S
      refine OL.not S rfl rfl (GNo.mk rfl rfl hb) ?_
      clear S; intro aa S
      refine OL.pure S (Lf.run_pickT (S.ev rfl) hb (S.ev rfl)) rfl rfl trivial ?_
      clear S; intro aa S
      refine OL.nil ?_
      exact ⟨_, _, S.sub _ ⟨rfl, rfl, rfl, rfl, rfl, rfl, rfl, trivial⟩, H⟩
    · replace H := H.2 hb
      refine OL.pure S (Lf.run_move (S.ev rfl)) rfl rfl (GOk.mk rfl rfl hb) ?_
      clear S; intro aa S
      refine OL.pure S (Lf.run_move (S.ev rfl)) rfl rfl (GOk.mk rfl rfl hb) ?_
      clear S; intro aa S
      refine ol_cal S H isfn47 rfl rfl (GOk.mk rfl rfl hb) ?_
      clear S H aa; intro u_1 aa ww h3 H S
      obtain ⟨x11, rfl, H⟩ := H
      refine OL.pure S (Lf.run_pickF (S.ev rfl) hb (S.ev rfl)) rfl rfl trivial ?_
      clear S; intro aa S
      refine OL.nil ?_
      exact ⟨_, _, S.sub _ ⟨rfl, rfl, rfl, rfl, rfl, rfl, rfl, trivial⟩, H⟩
  · clear S aa
    rintro aa ww ⟨x12, h2, S, HJ⟩
    replace H := HK _ _ HJ
    clear HK HJ
    refine OL.pure S (Lf.run_assign (S.ev rfl)) rfl rfl trivial ?_
    clear S; intro aa S
    refine OL.nil ?_
    refine W.ret ?_
    exact Ret.one S rfl rfl H

/-- chattel heap.whole -/
def L49 (v0 : Int) (v0_1 : Int) (v0_2 : ByteArray) (v0_3 : Sv) (v0_4 : Int) (v0_5 : Sv) (v0_6 : Int) (h : Heap) (R : Value → Heap → Prop) : Prop :=
  new 33 #[Value.int .i64 v0, Value.int .u64 v0_1, Value.string v0_2, Value.slice v0_3.a v0_3.n v0_3.c, Value.int .i64 v0_4, Value.slice v0_5.a v0_5.n v0_5.c, Value.int .i64 v0_6] h fun p1 h1 =>
  ldI .i64 h1 p1 fun x4 =>
  ∃ J : Bool → Heap → Prop, (andj (x4 != 0) (fun k =>
    ldS h1 (p1.add 3) fun x8 =>
    cal Try.prog 59 #[Value.slice x8.a x8.n x8.c, (Value.func (.func 60) #[] #[])] h1 fun u h3 => asB u fun x9 =>
    k (!x9) h3) h1 J) ∧ ∀ x11 h2, J x11 h2 →
  R (Value.bool x11) h2

set_option maxRecDepth 100000 in

theorem F49 {v0 v0_1 v0_2 v0_3 v0_4 v0_5 v0_6 h : _} {R : Value → Heap → Prop} (H : L49 v0 v0_1 v0_2 v0_3 v0_4 v0_5 v0_6 h R) : CallsH Try.prog 49 #[Value.agg #[Value.int .i64 v0, Value.int .u64 v0_1, Value.string v0_2, Value.slice v0_3.a v0_3.n v0_3.c, Value.int .i64 v0_4, Value.slice v0_5.a v0_5.n v0_5.c, Value.int .i64 v0_6]] h R := by
  refine CallsH.enter (n := 12) Try.func49 rfl rfl rfl rfl ?_
  intro w0 aa ww S
  unfold L49 at H
  refine W.seq ?_
  replace S := S.sub [(0, Value.agg #[Value.int .i64 v0, Value.int .u64 v0_1, Value.string v0_2, Value.slice v0_3.a v0_3.n v0_3.c, Value.int .i64 v0_4, Value.slice v0_5.a v0_5.n v0_5.c, Value.int .i64 v0_6])] ⟨rfl, trivial⟩
  refine W.region ?_
  refine ol_box S H rfl rfl rfl trivial ?_
  clear S H aa; intro p1 aa ww h1 H S
  refine OL.pure S (Lf.run_assign (S.ev rfl)) rfl rfl trivial ?_
  clear S; intro aa S
  refine OL.nil ?_
  refine W.seq ?_
  replace S := S.sub [(1, Value.pointer (some p1))] ⟨rfl, trivial⟩
  refine W.region ?_
  refine OL.pure S (Lf.run_fa (S.ev rfl) fa33_0) rfl rfl trivial ?_
  clear S; intro aa S
  obtain ⟨x4, c, H⟩ := H
  refine OL.pure S (Lf.run_ld (S.ev rfl) fl3 (S.cl c)) rfl rfl trivial ?_
  clear S; intro aa S
  refine OL.pure S (Lf.run_neq (S.ev rfl) (S.ev rfl)) rfl rfl trivial ?_
  clear S; intro aa S
  refine OL.pure S (Lf.run_move (S.ev rfl)) rfl rfl trivial ?_
  clear S; intro aa S
  obtain ⟨J, H, HK⟩ := H
  refine OL.cutN 5 (fun aa ww => ∃ x11 h2, St 12 ((11, Value.bool x11) :: [(1, Value.pointer (some p1)), (3, Value.pointer (some p1)), (4, Value.int .i64 x4), (5, Value.bool (x4 != 0)), (6, Value.bool (x4 != 0))]) h2 w0 aa ww ∧ J x11 h2) ?_ ?_
  · rcases Bool.eq_false_or_eq_true (x4 != 0) with hb | hb
    · replace H := H.1 hb
      refine OL.pure S (Lf.run_fa (S.ev rfl) fa33_3) rfl rfl (GOk.mk rfl rfl hb) ?_
      clear S; intro aa S
      obtain ⟨x8, c_1, H⟩ := H
      refine OL.pure S (Lf.run_ld (S.ev rfl) fl31 (S.cl c_1)) rfl rfl (GOk.mk rfl rfl hb) ?_
      clear S; intro aa S
      refine ol_cal S H isfn59 rfl rfl (GOk.mk rfl rfl hb) ?_
      clear S H aa; intro u aa ww h3 H S
      obtain ⟨x9, rfl, H⟩ := H
      refine OL.pure S (Lf.run_not (S.ev rfl)) rfl rfl (GOk.mk rfl rfl hb) ?_
      clear S; intro aa S
      refine OL.pure S (Lf.run_pickT (S.ev rfl) hb (S.ev rfl)) rfl rfl trivial ?_
      clear S; intro aa S
      refine OL.nil ?_
      exact ⟨_, _, S.sub _ ⟨rfl, rfl, rfl, rfl, rfl, rfl, trivial⟩, H⟩
    · replace H := H.2 hb
      refine OL.not S rfl rfl (GNo.mk rfl rfl hb) ?_
      clear S; intro aa S
      refine OL.not S rfl rfl (GNo.mk rfl rfl hb) ?_
      clear S; intro aa S
      refine OL.not S rfl rfl (GNo.mk rfl rfl hb) ?_
      clear S; intro aa S
      refine OL.not S rfl rfl (GNo.mk rfl rfl hb) ?_
      clear S; intro aa S
      refine OL.pure S (Lf.run_pickF (S.ev rfl) hb (S.ev rfl)) rfl rfl trivial ?_
      clear S; intro aa S
      refine OL.nil ?_
      exact ⟨_, _, S.sub _ ⟨rfl, rfl, rfl, rfl, rfl, rfl, trivial⟩, H⟩
  · clear S aa
    rintro aa ww ⟨x11, h2, S, HJ⟩
    replace H := HK _ _ HJ
    clear HK HJ
    refine OL.pure S (Lf.run_assign (S.ev rfl)) rfl rfl trivial ?_
    clear S; intro aa S
    refine OL.nil ?_
    refine W.ret ?_
    exact Ret.one S rfl rfl H

/-- slices.Equal[[]int,int] -/
def L58 (s10 : Sv) (s21 : Sv) (h : Heap) (R : Value → Heap → Prop) : Prop :=
  ifb (((s10.n : Nat) : Int) != ((s21.n : Nat) : Int)) (
    R (Value.bool false) h) (
    ∃ (I : Int → Prop) (m : Int → Nat), I 0 ∧ ∀ x13, I x13 →
    ifb (decide (x13 < ((s10.n : Nat) : Int))) (
      ixS s10 x13 fun q18 =>
      ldI .i64 h (q18.add ((x13 : Int).toNat * 1)) fun x19 =>
      ixS s21 x13 fun q22 =>
      ldI .i64 h (q22.add ((x13 : Int).toNat * 1)) fun x23 =>
      ifb (x19 != x23) (
        R (Value.bool false) h) (
        I (IntKind.i64.wrap (x13 + 1)) ∧ m (IntKind.i64.wrap (x13 + 1)) < m x13)) (
      R (Value.bool true) h))

set_option maxRecDepth 100000 in

theorem F58 {s10 s21 h : _} {R : Value → Heap → Prop} (H : L58 s10 s21 h R) : CallsH Try.prog 58 #[Value.slice s10.a s10.n s10.c, Value.slice s21.a s21.n s21.c] h R := by
  refine CallsH.enter (n := 26) Try.func58 rfl rfl rfl rfl ?_
  intro w0 aa ww S
  unfold L58 at H
  refine W.seq ?_
  replace S := S.sub [(0, Value.slice s10.a s10.n s10.c), (1, Value.slice s21.a s21.n s21.c)] ⟨rfl, rfl, trivial⟩
  refine W.region ?_
  refine OL.pure S (Lf.run_assign (S.ev rfl)) rfl rfl trivial ?_
  clear S; intro aa S
  refine OL.nil ?_
  refine W.seq ?_
  refine W.seq ?_
  replace S := S.sub [(0, Value.slice s10.a s10.n s10.c), (1, Value.slice s21.a s21.n s21.c)] ⟨rfl, rfl, trivial⟩
  refine W.region ?_
  refine OL.pure S (Lf.run_move (S.ev rfl)) rfl rfl trivial ?_
  clear S; intro aa S
  refine OL.pure S (Lf.run_lens (S.ev rfl) rfl Try.underlying26) rfl rfl trivial ?_
  clear S; intro aa S
  refine OL.pure S (Lf.run_move (S.ev rfl)) rfl rfl trivial ?_
  clear S; intro aa S
  refine OL.pure S (Lf.run_lens (S.ev rfl) rfl Try.underlying26) rfl rfl trivial ?_
  clear S; intro aa S
  refine OL.pure S (Lf.run_neq (S.ev rfl) (S.ev rfl)) rfl rfl trivial ?_
  clear S; intro aa S
  refine OL.nil ?_
  refine W.cond S (b := (((s10.n : Nat) : Int) != ((s21.n : Nat) : Int))) rfl (fun hb => ?_) (fun hb => ?_)
  · replace H := H.1 hb
    refine W.seq ?_
    replace S := S.sub [] trivial
    refine W.region ?_
    refine OL.pure S (Lf.run_assign (S.ev rfl)) rfl rfl trivial ?_
    clear S; intro aa S
    refine OL.nil ?_
    refine W.ret ?_
    exact Ret.one S rfl rfl H
  · replace H := H.2 hb
    refine W.skip ?_
    refine W.seq ?_
    refine W.seq ?_
    replace S := S.sub [(0, Value.slice s10.a s10.n s10.c), (1, Value.slice s21.a s21.n s21.c)] ⟨rfl, rfl, trivial⟩
    refine W.region ?_
    refine OL.pure S (Lf.run_move (S.ev rfl)) rfl rfl trivial ?_
    clear S; intro aa S
    refine OL.pure S (Lf.run_lens (S.ev rfl) rfl Try.underlying26) rfl rfl trivial ?_
    clear S; intro aa S
    refine OL.pure S (Lf.run_move (S.ev rfl)) rfl rfl trivial ?_
    clear S; intro aa S
    refine OL.nil ?_
    refine W.block ?_
    obtain ⟨I, m, H, HB⟩ := H
    refine W.loopS (σ := Int) (fun s aa ww => St 26 [(0, Value.slice s10.a s10.n s10.c), (1, Value.slice s21.a s21.n s21.c), (12, Value.int .i64 ((s10.n : Nat) : Int)), (13, Value.int .i64 s)] h w0 aa ww ∧ I s) (fun s => m s) (0) ⟨S.sub _ ⟨rfl, rfl, rfl, rfl, trivial⟩, H⟩ ?_
    clear H S aa
    rintro x13 aa ww ⟨S, HI⟩
    replace S : St 26 [(0, Value.slice s10.a s10.n s10.c), (1, Value.slice s21.a s21.n s21.c), (12, Value.int .i64 ((s10.n : Nat) : Int)), (13, Value.int .i64 x13)] h w0 aa ww := S
    have H := HB x13 HI
    clear HI
    refine W.seq ?_
    replace S := S.sub [(0, Value.slice s10.a s10.n s10.c), (1, Value.slice s21.a s21.n s21.c), (12, Value.int .i64 ((s10.n : Nat) : Int)), (13, Value.int .i64 x13)] ⟨rfl, rfl, rfl, rfl, trivial⟩
    refine W.region ?_
    refine OL.pure S (Lf.run_lss (S.ev rfl) (S.ev rfl)) rfl rfl trivial ?_
    clear S; intro aa S
    refine OL.nil ?_
    refine W.seq ?_
    refine W.cond S (b := (decide (x13 < ((s10.n : Nat) : Int)))) rfl (fun hb_1 => ?_) (fun hb_1 => ?_)
    · replace H := H.1 hb_1
      refine W.skip ?_
      refine W.seq ?_
      refine W.block ?_
      refine W.seq ?_
      replace S := S.sub [(0, Value.slice s10.a s10.n s10.c), (1, Value.slice s21.a s21.n s21.c), (12, Value.int .i64 ((s10.n : Nat) : Int)), (13, Value.int .i64 x13)] ⟨rfl, rfl, rfl, rfl, trivial⟩
      refine W.region ?_
      refine OL.pure S (Lf.run_move (S.ev rfl)) rfl rfl trivial ?_
      clear S; intro aa S
      refine OL.pure S (Lf.run_assign (S.ev rfl)) rfl rfl trivial ?_
      clear S; intro aa S
      refine OL.nil ?_
      refine W.seq ?_
      replace S := S.sub [(0, Value.slice s10.a s10.n s10.c), (1, Value.slice s21.a s21.n s21.c), (5, Value.int .i64 x13), (12, Value.int .i64 ((s10.n : Nat) : Int)), (13, Value.int .i64 x13)] ⟨rfl, rfl, rfl, rfl, rfl, trivial⟩
      refine W.regionD S (by kernel_rfl) ?_
      clear S; intro ww S
      refine AN.pure 0 S rfl (by kernel_rfl) (fun _ => Lf.run_move (S.ev rfl)) rfl rfl trivial ?_
      clear S; intro aa S
      refine AN.pure 1 S rfl (by kernel_rfl) (fun _ => Lf.run_move (S.ev rfl)) rfl rfl trivial ?_
      clear S; intro aa S
      obtain ⟨q18, e, e_1, e_2, H⟩ := H
      refine AN.pure 2 S rfl (by kernel_rfl) (fun _ => Lf.run_ixs (S.ev rfl) (S.ev rfl) Try.underlying26 ti3 e e_1 e_2) rfl rfl trivial ?_
      clear S; intro aa S
      obtain ⟨x19, c, H⟩ := H
      refine AN.load 3 S rfl (by kernel_rfl) (fun _ hx => Lf.run_ld (S.ev rfl) fl3 (hx.cell _ _ (S.cl c))) rfl rfl trivial ?_
      clear S; intro aa S
      refine AN.pure 4 S rfl (by kernel_rfl) (fun _ => Lf.run_move (S.ev rfl)) rfl rfl trivial ?_
      clear S; intro aa S
      refine AN.pure 5 S rfl (by kernel_rfl) (fun _ => Lf.run_move (S.ev rfl)) rfl rfl trivial ?_
      clear S; intro aa S
      obtain ⟨q22, e_3, e_4, e_5, H⟩ := H
      refine AN.pure 6 S rfl (by kernel_rfl) (fun _ => Lf.run_ixs (S.ev rfl) (S.ev rfl) Try.underlying26 ti3 e_3 e_4 e_5) rfl rfl trivial ?_
      clear S; intro aa S
      obtain ⟨x23, c_1, H⟩ := H
      refine AN.load 7 S rfl (by kernel_rfl) (fun _ hx => Lf.run_ld (S.ev rfl) fl3 (hx.cell _ _ (S.cl c_1))) rfl rfl trivial ?_
      clear S; intro aa S
      refine AN.pure 8 S rfl (by kernel_rfl) (fun _ => Lf.run_neq (S.ev rfl) (S.ev rfl)) rfl rfl trivial ?_
      clear S; intro aa S
      refine AN.done (by kernel_rfl) ?_
      refine W.cond S (b := (x19 != x23)) rfl (fun hb_2 => ?_) (fun hb_2 => ?_)
      · replace H := H.1 hb_2
        refine W.seq ?_
        replace S := S.sub [] trivial
        refine W.region ?_
        refine OL.pure S (Lf.run_assign (S.ev rfl)) rfl rfl trivial ?_
        clear S; intro aa S
        refine OL.nil ?_
        refine W.ret ?_
        exact Ret.one S rfl rfl H
      · replace H := H.2 hb_2
        refine W.skip ?_
        replace S := S.sub [(0, Value.slice s10.a s10.n s10.c), (1, Value.slice s21.a s21.n s21.c), (12, Value.int .i64 ((s10.n : Nat) : Int)), (13, Value.int .i64 x13)] ⟨rfl, rfl, rfl, rfl, trivial⟩
        refine W.region ?_
        refine OL.pure S (Lf.run_add (S.ev rfl) (S.ev rfl)) rfl rfl trivial ?_
        clear S; intro aa S
        refine OL.pure S (Lf.run_move (S.ev rfl)) rfl rfl trivial ?_
        clear S; intro aa S
        refine OL.nil ?_
        exact ⟨((IntKind.i64.wrap (x13 + 1))), ⟨S.sub _ ⟨rfl, rfl, rfl, rfl, trivial⟩, H.1⟩, H.2⟩
    · replace H := H.2 hb_1
      refine W.exit_ ?_
      refine xhit ?_
      refine W.seq ?_
      replace S := S.sub [] trivial
      refine W.region ?_
      refine OL.pure S (Lf.run_assign (S.ev rfl)) rfl rfl trivial ?_
      clear S; intro aa S
      refine OL.nil ?_
      refine W.ret ?_
      exact Ret.one S rfl rfl H

/-- slices.ContainsFunc[[]chattel api.Value,chattel api.Value] -/
def L59 (s0 : Sv) (f1 : Value) (h : Heap) (R : Value → Heap → Prop) : Prop :=
  cal Try.prog 63 #[Value.slice s0.a s0.n s0.c, f1] h fun u h1 => asI .i64 u fun x7 =>
  R (Value.bool (decide (0 ≤ x7))) h1

set_option maxRecDepth 100000 in

theorem F59 {s0 f1 h : _} {R : Value → Heap → Prop} (H : L59 s0 f1 h R) : CallsH Try.prog 59 #[Value.slice s0.a s0.n s0.c, f1] h R := by
  refine CallsH.enter (n := 9) Try.func59 rfl rfl rfl rfl ?_
  intro w0 aa ww S
  unfold L59 at H
  refine W.seq ?_
  replace S := S.sub [(0, Value.slice s0.a s0.n s0.c), (1, f1)] ⟨rfl, rfl, trivial⟩
  refine W.region ?_
  refine OL.pure S (Lf.run_assign (S.ev rfl)) rfl rfl trivial ?_
  clear S; intro aa S
  refine OL.nil ?_
  refine W.seq ?_
  replace S := S.sub [(0, Value.slice s0.a s0.n s0.c), (1, f1)] ⟨rfl, rfl, trivial⟩
  refine W.region ?_
  refine OL.pure S (Lf.run_move (S.ev rfl)) rfl rfl trivial ?_
  clear S; intro aa S
  refine OL.pure S (Lf.run_move (S.ev rfl)) rfl rfl trivial ?_
  clear S; intro aa S
  refine ol_cal S H isfn63 rfl rfl trivial ?_
  clear S H aa; intro u aa ww h1 H S
  obtain ⟨x7, rfl, H⟩ := H
  refine OL.pure S (Lf.run_geq (S.ev rfl) (S.ev rfl)) rfl rfl trivial ?_
  clear S; intro aa S
  refine OL.pure S (Lf.run_assign (S.ev rfl)) rfl rfl trivial ?_
  clear S; intro aa S
  refine OL.nil ?_
  refine W.ret ?_
  exact Ret.one S rfl rfl H

/-- chattel heap.whole$1 -/
def L60 (x0 : Int) (x0_1 : Int) (x0_2 : ByteArray) (x0_3 : Sv) (x0_4 : Int) (x0_5 : Sv) (x0_6 : Int) (h : Heap) (R : Value → Heap → Prop) : Prop :=
  new 33 #[Value.int .i64 x0, Value.int .u64 x0_1, Value.string x0_2, Value.slice x0_3.a x0_3.n x0_3.c, Value.int .i64 x0_4, Value.slice x0_5.a x0_5.n x0_5.c, Value.int .i64 x0_6] h fun p1 h1 =>
  ∃ (y3 : Int) (y3_1 : Int) (y3_2 : ByteArray) (y3_3 : Sv) (y3_4 : Int) (y3_5 : Sv) (y3_6 : Int), cl h1 p1 = some (Value.int .i64 y3) ∧ cl h1 (p1.add 1) = some (Value.int .u64 y3_1) ∧ cl h1 (p1.add 2) = some (Value.string y3_2) ∧ cl h1 (p1.add 3) = some (Value.slice y3_3.a y3_3.n y3_3.c) ∧ cl h1 (p1.add 4) = some (Value.int .i64 y3_4) ∧ cl h1 (p1.add 5) = some (Value.slice y3_5.a y3_5.n y3_5.c) ∧ cl h1 (p1.add 6) = some (Value.int .i64 y3_6) ∧
  cal Try.prog 49 #[Value.agg #[Value.int .i64 y3, Value.int .u64 y3_1, Value.string y3_2, Value.slice y3_3.a y3_3.n y3_3.c, Value.int .i64 y3_4, Value.slice y3_5.a y3_5.n y3_5.c, Value.int .i64 y3_6]] h1 fun u h2 => asB u fun x4 =>
  R (Value.bool (!x4)) h2

set_option maxRecDepth 100000 in

theorem F60 {x0 x0_1 x0_2 x0_3 x0_4 x0_5 x0_6 h : _} {R : Value → Heap → Prop} (H : L60 x0 x0_1 x0_2 x0_3 x0_4 x0_5 x0_6 h R) : CallsH Try.prog 60 #[Value.agg #[Value.int .i64 x0, Value.int .u64 x0_1, Value.string x0_2, Value.slice x0_3.a x0_3.n x0_3.c, Value.int .i64 x0_4, Value.slice x0_5.a x0_5.n x0_5.c, Value.int .i64 x0_6]] h R := by
  refine CallsH.enter (n := 6) Try.func60 rfl rfl rfl rfl ?_
  intro w0 aa ww S
  unfold L60 at H
  refine W.seq ?_
  replace S := S.sub [(0, Value.agg #[Value.int .i64 x0, Value.int .u64 x0_1, Value.string x0_2, Value.slice x0_3.a x0_3.n x0_3.c, Value.int .i64 x0_4, Value.slice x0_5.a x0_5.n x0_5.c, Value.int .i64 x0_6])] ⟨rfl, trivial⟩
  refine W.region ?_
  refine ol_box S H rfl rfl rfl trivial ?_
  clear S H aa; intro p1 aa ww h1 H S
  refine OL.pure S (Lf.run_assign (S.ev rfl)) rfl rfl trivial ?_
  clear S; intro aa S
  refine OL.nil ?_
  refine W.seq ?_
  replace S := S.sub [(1, Value.pointer (some p1))] ⟨rfl, trivial⟩
  refine W.region ?_
  obtain ⟨y3, y3_1, y3_2, y3_3, y3_4, y3_5, y3_6, c_1, c_2, c_3, c_4, c_5, c_6, c_7, H⟩ := H
  refine OL.pure S (Lf.run_ldA (cs := [Value.int .i64 y3, Value.int .u64 y3_1, Value.string y3_2, Value.slice y3_3.a y3_3.n y3_3.c, Value.int .i64 y3_4, Value.slice y3_5.a y3_5.n y3_5.c, Value.int .i64 y3_6]) (S.ev rfl) ag33 ti33 (by rw [S.heap]; exact RowL.toRow ⟨c_1, c_2, c_3, c_4, c_5, c_6, c_7, trivial⟩)) rfl rfl trivial ?_
  clear S; intro aa S
  refine ol_cal S H isfn49 rfl rfl trivial ?_
  clear S H aa; intro u aa ww h2 H S
  obtain ⟨x4, rfl, H⟩ := H
  refine OL.pure S (Lf.run_not (S.ev rfl)) rfl rfl trivial ?_
  clear S; intro aa S
  refine OL.pure S (Lf.run_assign (S.ev rfl)) rfl rfl trivial ?_
  clear S; intro aa S
  refine OL.nil ?_
  refine W.ret ?_
  exact Ret.one S rfl rfl H

/-- slices.IndexFunc[[]chattel api.Value,chattel api.Value] -/
def L63 (s0 : Sv) (f1 : Value) (h : Heap) (R : Value → Heap → Prop) : Prop :=
  ∃ (I : Int → Heap → Prop) (m : Int → Heap → Nat), I 0 h ∧ ∀ x8 h1, I x8 h1 →
  ifb (decide (x8 < ((s0.n : Nat) : Int))) (
    ixS s0 x8 fun q14 =>
    ∃ (y15 : Int) (y15_1 : Int) (y15_2 : ByteArray) (y15_3 : Sv) (y15_4 : Int) (y15_5 : Sv) (y15_6 : Int), cl h1 (q14.add ((x8 : Int).toNat * 7)) = some (Value.int .i64 y15) ∧ cl h1 ((q14.add ((x8 : Int).toNat * 7)).add 1) = some (Value.int .u64 y15_1) ∧ cl h1 ((q14.add ((x8 : Int).toNat * 7)).add 2) = some (Value.string y15_2) ∧ cl h1 ((q14.add ((x8 : Int).toNat * 7)).add 3) = some (Value.slice y15_3.a y15_3.n y15_3.c) ∧ cl h1 ((q14.add ((x8 : Int).toNat * 7)).add 4) = some (Value.int .i64 y15_4) ∧ cl h1 ((q14.add ((x8 : Int).toNat * 7)).add 5) = some (Value.slice y15_5.a y15_5.n y15_5.c) ∧ cl h1 ((q14.add ((x8 : Int).toNat * 7)).add 6) = some (Value.int .i64 y15_6) ∧
    calV Try.prog f1 #[Value.agg #[Value.int .i64 y15, Value.int .u64 y15_1, Value.string y15_2, Value.slice y15_3.a y15_3.n y15_3.c, Value.int .i64 y15_4, Value.slice y15_5.a y15_5.n y15_5.c, Value.int .i64 y15_6]] h1 fun u h2 => asB u fun x16 =>
    ifb x16 (
      R (Value.int .i64 x8) h2) (
      I (IntKind.i64.wrap (x8 + 1)) h2 ∧ m (IntKind.i64.wrap (x8 + 1)) h2 < m x8 h1)) (
    R (Value.int .i64 (-1)) h1)

set_option maxRecDepth 100000 in

theorem F63 {s0 f1 h : _} {R : Value → Heap → Prop} (H : L63 s0 f1 h R) : CallsH Try.prog 63 #[Value.slice s0.a s0.n s0.c, f1] h R := by
  refine CallsH.enter (n := 19) Try.func63 rfl rfl rfl rfl ?_
  intro w0 aa ww S
  unfold L63 at H
  refine W.seq ?_
  replace S := S.sub [(0, Value.slice s0.a s0.n s0.c), (1, f1)] ⟨rfl, rfl, trivial⟩
  refine W.region ?_
  refine OL.pure S (Lf.run_assign (S.ev rfl)) rfl rfl trivial ?_
  clear S; intro aa S
  refine OL.nil ?_
  refine W.seq ?_
  refine W.seq ?_
  replace S := S.sub [(0, Value.slice s0.a s0.n s0.c), (1, f1)] ⟨rfl, rfl, trivial⟩
  refine W.region ?_
  refine OL.pure S (Lf.run_move (S.ev rfl)) rfl rfl trivial ?_
  clear S; intro aa S
  refine OL.pure S (Lf.run_lens (S.ev rfl) rfl Try.underlying31) rfl rfl trivial ?_
  clear S; intro aa S
  refine OL.pure S (Lf.run_move (S.ev rfl)) rfl rfl trivial ?_
  clear S; intro aa S
  refine OL.nil ?_
  refine W.block ?_
  obtain ⟨I, m, H, HB⟩ := H
  refine W.loopS (σ := Int × Heap) (fun s aa ww => St 19 [(0, Value.slice s0.a s0.n s0.c), (1, f1), (7, Value.int .i64 ((s0.n : Nat) : Int)), (8, Value.int .i64 s.1)] s.2 w0 aa ww ∧ I s.1 s.2) (fun s => m s.1 s.2) (0, h) ⟨S.sub _ ⟨rfl, rfl, rfl, rfl, trivial⟩, H⟩ ?_
  clear H S aa
  rintro ⟨x8, h1⟩ aa ww ⟨S, HI⟩
  replace S : St 19 [(0, Value.slice s0.a s0.n s0.c), (1, f1), (7, Value.int .i64 ((s0.n : Nat) : Int)), (8, Value.int .i64 x8)] h1 w0 aa ww := S
  have H := HB x8 h1 HI
  clear HI
  refine W.seq ?_
  replace S := S.sub [(0, Value.slice s0.a s0.n s0.c), (1, f1), (7, Value.int .i64 ((s0.n : Nat) : Int)), (8, Value.int .i64 x8)] ⟨rfl, rfl, rfl, rfl, trivial⟩
  refine W.region ?_
  refine OL.pure S (Lf.run_lss (S.ev rfl) (S.ev rfl)) rfl rfl trivial ?_
  clear S; intro aa S
  refine OL.nil ?_
  refine W.seq ?_
  refine W.cond S (b := (decide (x8 < ((s0.n : Nat) : Int)))) rfl (fun hb => ?_) (fun hb => ?_)
  · replace H := H.1 hb
    refine W.skip ?_
    refine W.seq ?_
    refine W.block ?_
    refine W.seq ?_
    replace S := S.sub [(0, Value.slice s0.a s0.n s0.c), (1, f1), (7, Value.int .i64 ((s0.n : Nat) : Int)), (8, Value.int .i64 x8)] ⟨rfl, rfl, rfl, rfl, trivial⟩
    refine W.region ?_
    refine OL.pure S (Lf.run_move (S.ev rfl)) rfl rfl trivial ?_
    clear S; intro aa S
    refine OL.pure S (Lf.run_assign (S.ev rfl)) rfl rfl trivial ?_
    clear S; intro aa S
    refine OL.nil ?_
    refine W.seq ?_
    replace S := S.sub [(0, Value.slice s0.a s0.n s0.c), (1, f1), (5, Value.int .i64 x8), (7, Value.int .i64 ((s0.n : Nat) : Int)), (8, Value.int .i64 x8)] ⟨rfl, rfl, rfl, rfl, rfl, trivial⟩
    refine W.region ?_
    refine OL.pure S (Lf.run_move (S.ev rfl)) rfl rfl trivial ?_
    clear S; intro aa S
    refine OL.pure S (Lf.run_move (S.ev rfl)) rfl rfl trivial ?_
    clear S; intro aa S
    refine OL.pure S (Lf.run_move (S.ev rfl)) rfl rfl trivial ?_
    clear S; intro aa S
    obtain ⟨q14, e, e_1, e_2, H⟩ := H
    refine OL.pure S (Lf.run_ixs (S.ev rfl) (S.ev rfl) Try.underlying31 ti33 e e_1 e_2) rfl rfl trivial ?_
    clear S; intro aa S
    obtain ⟨y15, y15_1, y15_2, y15_3, y15_4, y15_5, y15_6, c_1, c_2, c_3, c_4, c_5, c_6, c_7, H⟩ := H
    refine OL.pure S (Lf.run_ldA (cs := [Value.int .i64 y15, Value.int .u64 y15_1, Value.string y15_2, Value.slice y15_3.a y15_3.n y15_3.c, Value.int .i64 y15_4, Value.slice y15_5.a y15_5.n y15_5.c, Value.int .i64 y15_6]) (S.ev rfl) ag33 ti33 (by rw [S.heap]; exact RowL.toRow ⟨c_1, c_2, c_3, c_4, c_5, c_6, c_7, trivial⟩)) rfl rfl trivial ?_
    clear S; intro aa S
    refine ol_calV S H rfl rfl rfl trivial ?_
    clear S H aa; intro u aa ww h2 H S
    obtain ⟨x16, rfl, H⟩ := H
    refine OL.nil ?_
    refine W.cond S (b := x16) rfl (fun hb_1 => ?_) (fun hb_1 => ?_)
    · replace H := H.1 hb_1
      refine W.seq ?_
      replace S := S.sub [(5, Value.int .i64 x8)] ⟨rfl, trivial⟩
      refine W.region ?_
      refine OL.pure S (Lf.run_move (S.ev rfl)) rfl rfl trivial ?_
      clear S; intro aa S
      refine OL.pure S (Lf.run_assign (S.ev rfl)) rfl rfl trivial ?_
      clear S; intro aa S
      refine OL.nil ?_
      refine W.ret ?_
      exact Ret.one S rfl rfl H
    · replace H := H.2 hb_1
      refine W.skip ?_
      replace S := S.sub [(0, Value.slice s0.a s0.n s0.c), (1, f1), (7, Value.int .i64 ((s0.n : Nat) : Int)), (8, Value.int .i64 x8)] ⟨rfl, rfl, rfl, rfl, trivial⟩
      refine W.region ?_
      refine OL.pure S (Lf.run_add (S.ev rfl) (S.ev rfl)) rfl rfl trivial ?_
      clear S; intro aa S
      refine OL.pure S (Lf.run_move (S.ev rfl)) rfl rfl trivial ?_
      clear S; intro aa S
      refine OL.nil ?_
      exact ⟨((IntKind.i64.wrap (x8 + 1)), h2), ⟨S.sub _ ⟨rfl, rfl, rfl, rfl, trivial⟩, H.1⟩, H.2⟩
  · replace H := H.2 hb
    refine W.exit_ ?_
    refine xhit ?_
    refine W.seq ?_
    replace S := S.sub [] trivial
    refine W.region ?_
    refine OL.pure S (Lf.run_assign (S.ev rfl)) rfl rfl trivial ?_
    clear S; intro aa S
    refine OL.nil ?_
    refine W.ret ?_
    exact Ret.one S rfl rfl H

end Go.Proofs.Ytggacajnmgligaa

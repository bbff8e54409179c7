/- Lifted by program off the elaborated code: each Go function, read as a proposition over typed variables and the heap. -/
import Derived.Test.YtifjmbbnpkgmaaaG0
namespace Go.Proofs.Ytifjmbbnpkgmaaa
open Go Go.Lf
set_option linter.unusedVariables false
set_option maxRecDepth 100000

/-- chattel mir.Own -/
def L16 (p0 : Int) (p0_1 : Sv) (h : Heap) (R : Value → Heap → Prop) : Prop :=
  new 24 #[Value.int .i64 p0, Value.slice p0_1.a p0_1.n p0_1.c] h fun p1 h1 =>
  new 24 #[Value.int .i64 0, Value.slice (⟨none, 0, 0⟩ : Sv).a (⟨none, 0, 0⟩ : Sv).n (⟨none, 0, 0⟩ : Sv).c] h1 fun p2 h2 =>
  ldS h2 (p1.add 1) fun x5 =>
  cal Try.prog 30 #[Value.slice x5.a x5.n x5.c, Value.int .i64 (-1)] h2 fun u h3 => asI .i64 u fun x6 =>
  ∃ J : Int → Prop, (
    ifb (decide (x6 < 0)) (
      ldS h3 (p1.add 1) fun x10 =>
      J ((x10.n : Nat) : Int)) (
      J x6)) ∧ (∀ i3, J i3 →
  ∃ Sq : Heap → Prop, Sq h3 ∧ (
    ldS h3 (p1.add 1) fun x15 =>
    hlI .i64 Sq p1 fun x13 =>
    slS x15 1 0 i3 fun s17 =>
    Sq h3 ∧
    cal Try.prog 31 #[Value.slice s17.a s17.n s17.c] h3 fun u_1 h4 => asS u_1 fun x18 =>
    Sq h4 ∧
    stoA h4 p2 [Value.int .i64 x13, Value.slice x18.a x18.n x18.c] fun h5 =>
    ∃ (y : Int) (y_1 : Sv), cl h5 p2 = some (Value.int .i64 y) ∧ cl h5 (p2.add 1) = some (Value.slice y_1.a y_1.n y_1.c) ∧
    R (Value.agg #[Value.int .i64 y, Value.slice y_1.a y_1.n y_1.c]) h5))

set_option maxRecDepth 100000 in

theorem F16 {p0 p0_1 h : _} {R : Value → Heap → Prop} (H : L16 p0 p0_1 h R) : CallsH Try.prog 16 #[Value.agg #[Value.int .i64 p0, Value.slice p0_1.a p0_1.n p0_1.c]] h R := by
  refine CallsH.enter (n := 20) Try.func16 rfl rfl rfl rfl ?_
  intro w0 aa ww S
  unfold L16 at H
  refine W.seq ?_
  replace S := S.sub [(0, Value.agg #[Value.int .i64 p0, Value.slice p0_1.a p0_1.n p0_1.c])] ⟨rfl, trivial⟩
  refine W.region ?_
  refine ol_box S H rfl rfl rfl trivial ?_
  clear S H aa; intro p1 aa ww h1 H S
  refine ol_alloc S H ti24 rfl rfl trivial ?_
  clear S H aa; intro p2 aa ww h2 H S
  refine OL.nil ?_
  refine W.seq ?_
  replace S := S.sub [(1, Value.pointer (some p1)), (2, Value.pointer (some p2))] ⟨rfl, rfl, trivial⟩
  refine W.region ?_
  refine OL.pure S (Lf.run_fa (S.ev rfl) fa24_1) rfl rfl trivial ?_
  clear S; intro aa S
  obtain ⟨x5, c, H⟩ := H
  refine OL.pure S (Lf.run_ld (S.ev rfl) fl22 (S.cl c)) rfl rfl trivial ?_
  clear S; intro aa S
  refine ol_cal S H isfn30 rfl rfl trivial ?_
  clear S H aa; intro u aa ww h3 H S
  obtain ⟨x6, rfl, H⟩ := H
  refine OL.pure S (Lf.run_assign (S.ev rfl)) rfl rfl trivial ?_
  clear S; intro aa S
  refine OL.nil ?_
  obtain ⟨J, H, HK⟩ := H
  refine W.seqJ (fun aa ww => ∃ i3, St 20 [(1, Value.pointer (some p1)), (2, Value.pointer (some p2)), (3, Value.int .i64 i3)] h3 w0 aa ww ∧ J i3) ?_ ?_
  · clear HK
    refine W.seq ?_
    replace S := S.sub [(1, Value.pointer (some p1)), (2, Value.pointer (some p2)), (3, Value.int .i64 x6)] ⟨rfl, rfl, rfl, trivial⟩
    refine W.region ?_
    refine OL.pure S (Lf.run_move (S.ev rfl)) rfl rfl trivial ?_
    clear S; intro aa S
    refine OL.pure S (Lf.run_lss (S.ev rfl) (S.ev rfl)) rfl rfl trivial ?_
    clear S; intro aa S
    refine OL.nil ?_
    refine W.cond S (b := (decide (x6 < 0))) rfl (fun hb => ?_) (fun hb => ?_)
    · replace H := H.1 hb
      replace S := S.sub [(1, Value.pointer (some p1)), (2, Value.pointer (some p2))] ⟨rfl, rfl, trivial⟩
      refine W.region ?_
      refine OL.pure S (Lf.run_fa (S.ev rfl) fa24_1) rfl rfl trivial ?_
      clear S; intro aa S
      obtain ⟨x10, c_1, H⟩ := H
      refine OL.pure S (Lf.run_ld (S.ev rfl) fl22 (S.cl c_1)) rfl rfl trivial ?_
      clear S; intro aa S
      refine OL.pure S (Lf.run_lens (S.ev rfl) rfl Try.underlying22) rfl rfl trivial ?_
      clear S; intro aa S
      refine OL.pure S (Lf.run_assign (S.ev rfl)) rfl rfl trivial ?_
      clear S; intro aa S
      refine OL.nil ?_
      exact ⟨((x10.n : Nat) : Int), S.sub _ ⟨rfl, rfl, rfl, trivial⟩, H⟩
    · replace H := H.2 hb
      refine W.skip ?_
      exact ⟨x6, S.sub _ ⟨rfl, rfl, rfl, trivial⟩, H⟩
  · clear H S aa
    rintro aa ww ⟨i3, S, HJ⟩
    have H := HK _ HJ
    clear HK HJ
    refine W.seq ?_
    replace S := S.sub [(1, Value.pointer (some p1)), (2, Value.pointer (some p2)), (3, Value.int .i64 i3)] ⟨rfl, rfl, rfl, trivial⟩
    obtain ⟨Sq, HS, H⟩ := H
    refine W.regionN [1] [5, 6, 8] Sq S (by kernel_rfl) ?_
    clear S; intro ww S
    refine BN.pure 0 S (fun _ => HS) rfl (by kernel_rfl) (by kernel_rfl) (fun _ => Lf.run_fa (S.ev rfl) fa24_0) rfl rfl trivial ?_
    clear S; intro aa S
    refine BN.pure 2 S (fun _ => HS) rfl (by kernel_rfl) (by kernel_rfl) (fun _ => Lf.run_fa (S.ev rfl) fa24_1) rfl rfl trivial ?_
    clear S; intro aa S
    obtain ⟨x15, c_2, H⟩ := H
    refine BN.load 3 S (fun _ => HS) rfl (by kernel_rfl) (by kernel_rfl) (fun _ hx => Lf.run_ld (S.ev rfl) fl22 (hx.cell _ _ (S.cl c_2))) rfl rfl trivial ?_
    clear S; intro aa S
    refine BN.pure 4 S (fun _ => HS) rfl (by kernel_rfl) (by kernel_rfl) (fun _ => Lf.run_move (S.ev rfl)) rfl rfl trivial ?_
    clear S; intro aa S
    obtain ⟨x13, c_3, H⟩ := H
    refine BN.held 1 S HS rfl (by kernel_rfl) (fun _ hq => Lf.run_ld (S.ev rfl) fl3 (c_3 _ hq)) rfl rfl trivial ?_
    clear S; intro aa S
    refine BN.eff 5 rfl (by kernel_rfl) ?_
    obtain ⟨s17, c_4, c_5, c_6, c_7, H⟩ := slS_ex H
    refine OL.pure S (Lf.run_slNS Try.underlying22 ti3 (S.ev rfl) (S.ev rfl) c_5 c_6 c_7) rfl rfl trivial ?_
    clear S; intro aa S
    refine OL.nil ?_
    clear HS; obtain ⟨HS, H⟩ := H
    refine ⟨fun _ => by rw [S.heap]; exact HS, ?_⟩
    refine BN.eff 6 rfl (by kernel_rfl) ?_
    refine ol_cal S H isfn31 rfl rfl trivial ?_
    clear S H aa; intro u_1 aa ww h4 H S
    obtain ⟨x18, rfl, H⟩ := H
    refine OL.nil ?_
    clear HS; obtain ⟨HS, H⟩ := H
    refine ⟨fun _ => by rw [S.heap]; exact HS, ?_⟩
    refine BN.pure 7 S (fun _ => HS) rfl (by kernel_rfl) (by kernel_rfl) (fun _ => Lf.run_build (cs := #[Value.int .i64 x13, Value.slice x18.a x18.n x18.c]) pl24 ti24 (parts_map S rfl) (by kernel_rfl)) rfl rfl trivial ?_
    clear S; intro aa S
    refine BN.eff 8 rfl (by kernel_rfl) ?_
    refine ol_stoA S H rfl rfl ti24 trivial ?_
    clear S H aa; intro aa ww h5 H S
    refine OL.nil ?_
    refine ⟨noNeed (by kernel_rfl), ?_⟩
    refine BN.done (by kernel_rfl) ?_
    refine W.ret ?_
    obtain ⟨y, y_1, c_8, c_9, H⟩ := H
    exact Ret.gen S rfl (RV.cellA (cs := [Value.int .i64 y, Value.slice y_1.a y_1.n y_1.c]) rfl ag24 ti24 ⟨c_8, c_9, trivial⟩ RV.nil) rfl H

/-- chattel mir.Begins -/
def L17 (a0 : Int) (a0_1 : Sv) (b1 : Int) (b1_1 : Sv) (h : Heap) (R : Value → Heap → Prop) : Prop :=
  new 24 #[Value.int .i64 a0, Value.slice a0_1.a a0_1.n a0_1.c] h fun p2 h1 =>
  new 24 #[Value.int .i64 b1, Value.slice b1_1.a b1_1.n b1_1.c] h1 fun p3 h2 =>
  ∃ J : Bool → Heap → Prop, (
    ∃ Sq : Heap → Prop, Sq h2 ∧ (
      ldI .i64 h2 p2 fun x6 =>
      ldI .i64 h2 p3 fun x8 =>
      ifb (x6 == x8) (
        hlS Sq (p2.add 1) fun x12 =>
        ldS h2 (p3.add 1) fun x15 =>
        ifb (decide (((x12.n : Nat) : Int) ≤ ((x15.n : Nat) : Int))) (
          ldS h2 (p2.add 1) fun x25 =>
          ldS h2 (p3.add 1) fun x23 =>
          hlS Sq (p2.add 1) fun x21 =>
          slS x23 1 0 ((x25.n : Nat) : Int) fun s27 =>
          Sq h2 ∧
          cal Try.prog 32 #[Value.slice x21.a x21.n x21.c, Value.slice s27.a s27.n s27.c] h2 fun u h3 => asB u fun x28 =>
          J x28 h3) (
          J false h2)) (
        J false h2))) ∧ (∀ x4 h4, J x4 h4 →
  R (Value.bool x4) h4)

set_option maxRecDepth 100000 in

theorem F17 {a0 a0_1 b1 b1_1 h : _} {R : Value → Heap → Prop} (H : L17 a0 a0_1 b1 b1_1 h R) : CallsH Try.prog 17 #[Value.agg #[Value.int .i64 a0, Value.slice a0_1.a a0_1.n a0_1.c], Value.agg #[Value.int .i64 b1, Value.slice b1_1.a b1_1.n b1_1.c]] h R := by
  refine CallsH.enter (n := 30) Try.func17 rfl rfl rfl rfl ?_
  intro w0 aa ww S
  unfold L17 at H
  refine W.seq ?_
  replace S := S.sub [(0, Value.agg #[Value.int .i64 a0, Value.slice a0_1.a a0_1.n a0_1.c]), (1, Value.agg #[Value.int .i64 b1, Value.slice b1_1.a b1_1.n b1_1.c])] ⟨rfl, rfl, trivial⟩
  refine W.region ?_
  refine ol_box S H rfl rfl rfl trivial ?_
  clear S H aa; intro p2 aa ww h1 H S
  refine ol_box S H rfl rfl rfl trivial ?_
  clear S H aa; intro p3 aa ww h2 H S
  refine OL.pure S (Lf.run_assign (S.ev rfl)) rfl rfl trivial ?_
  clear S; intro aa S
  refine OL.nil ?_
  refine W.seq ?_
  replace S := S.sub [(2, Value.pointer (some p2)), (3, Value.pointer (some p3))] ⟨rfl, rfl, trivial⟩
  obtain ⟨J, H, HK⟩ := H
  refine W.mono (N' := fun aa ww => ∃ x4 h4, St 30 [(4, Value.bool x4)] h4 w0 aa ww ∧ J x4 h4) ?_ ?_
  · obtain ⟨Sq, HS, H⟩ := H
    refine W.regionN [7, 16] [22, 23] Sq S (by kernel_rfl) ?_
    clear S; intro ww S
    refine BN.pure 0 S (fun _ => HS) rfl (by kernel_rfl) (by kernel_rfl) (fun _ => Lf.run_fa (S.ev rfl) fa24_0) rfl rfl trivial ?_
    clear S; intro aa S
    obtain ⟨x6, c, H⟩ := H
    refine BN.load 1 S (fun _ => HS) rfl (by kernel_rfl) (by kernel_rfl) (fun _ hx => Lf.run_ld (S.ev rfl) fl3 (hx.cell _ _ (S.cl c))) rfl rfl trivial ?_
    clear S; intro aa S
    refine BN.pure 2 S (fun _ => HS) rfl (by kernel_rfl) (by kernel_rfl) (fun _ => Lf.run_fa (S.ev rfl) fa24_0) rfl rfl trivial ?_
    clear S; intro aa S
    obtain ⟨x8, c_1, H⟩ := H
    refine BN.load 3 S (fun _ => HS) rfl (by kernel_rfl) (by kernel_rfl) (fun _ hx => Lf.run_ld (S.ev rfl) fl3 (hx.cell _ _ (S.cl c_1))) rfl rfl trivial ?_
    clear S; intro aa S
    refine BN.pure 4 S (fun _ => HS) rfl (by kernel_rfl) (by kernel_rfl) (fun _ => Lf.run_eql (S.ev rfl) (S.ev rfl)) rfl rfl trivial ?_
    clear S; intro aa S
    refine BN.pure 5 S (fun _ => HS) rfl (by kernel_rfl) (by kernel_rfl) (fun _ => Lf.run_move (S.ev rfl)) rfl rfl trivial ?_
    clear S; intro aa S
    rcases Bool.eq_false_or_eq_true (x6 == x8) with hb | hb
    · replace H := H.1 hb
      refine BN.pure 6 S (fun _ => HS) rfl (by kernel_rfl) (by kernel_rfl) (fun _ => Lf.run_fa (S.ev rfl) fa24_1) rfl rfl (GOk.mk rfl rfl hb) ?_
      clear S; intro aa S
      refine BN.pure 9 S (fun _ => HS) rfl (by kernel_rfl) (by kernel_rfl) (fun _ => Lf.run_fa (S.ev rfl) fa24_1) rfl rfl (GOk.mk rfl rfl hb) ?_
      clear S; intro aa S
      obtain ⟨x12, c_2, H⟩ := H
      refine BN.held 7 S HS rfl (by kernel_rfl) (fun _ hq => Lf.run_ld (S.ev rfl) fl22 (c_2 _ hq)) rfl rfl (GOk.mk rfl rfl hb) ?_
      clear S; intro aa S
      refine BN.pure 8 S (fun _ => HS) rfl (by kernel_rfl) (by kernel_rfl) (fun _ => Lf.run_lens (S.ev rfl) rfl Try.underlying22) rfl rfl (GOk.mk rfl rfl hb) ?_
      clear S; intro aa S
      obtain ⟨x15, c_3, H⟩ := H
      refine BN.load 10 S (fun _ => HS) rfl (by kernel_rfl) (by kernel_rfl) (fun _ hx => Lf.run_ld (S.ev rfl) fl22 (hx.cell _ _ (S.cl c_3))) rfl rfl (GOk.mk rfl rfl hb) ?_
      clear S; intro aa S
      refine BN.pure 11 S (fun _ => HS) rfl (by kernel_rfl) (by kernel_rfl) (fun _ => Lf.run_lens (S.ev rfl) rfl Try.underlying22) rfl rfl (GOk.mk rfl rfl hb) ?_
      clear S; intro aa S
      refine BN.pure 12 S (fun _ => HS) rfl (by kernel_rfl) (by kernel_rfl) (fun _ => Lf.run_leq (S.ev rfl) (S.ev rfl)) rfl rfl (GOk.mk rfl rfl hb) ?_
      clear S; intro aa S
      refine BN.pure 13 S (fun _ => HS) rfl (by kernel_rfl) (by kernel_rfl) (fun _ => run_pickT (S.ev rfl) hb (S.ev rfl)) rfl rfl trivial ?_
      clear S; intro aa S
      refine BN.pure 14 S (fun _ => HS) rfl (by kernel_rfl) (by kernel_rfl) (fun _ => Lf.run_move (S.ev rfl)) rfl rfl trivial ?_
      clear S; intro aa S
      rcases Bool.eq_false_or_eq_true (decide (((x12.n : Nat) : Int) ≤ ((x15.n : Nat) : Int))) with hb_1 | hb_1
      · replace H := H.1 hb_1
        refine BN.pure 15 S (fun _ => HS) rfl (by kernel_rfl) (by kernel_rfl) (fun _ => Lf.run_fa (S.ev rfl) fa24_1) rfl rfl (GOk.mk rfl rfl hb_1) ?_
        clear S; intro aa S
        refine BN.pure 17 S (fun _ => HS) rfl (by kernel_rfl) (by kernel_rfl) (fun _ => Lf.run_fa (S.ev rfl) fa24_1) rfl rfl (GOk.mk rfl rfl hb_1) ?_
        clear S; intro aa S
        refine BN.pure 19 S (fun _ => HS) rfl (by kernel_rfl) (by kernel_rfl) (fun _ => Lf.run_fa (S.ev rfl) fa24_1) rfl rfl (GOk.mk rfl rfl hb_1) ?_
        clear S; intro aa S
        obtain ⟨x25, c_4, H⟩ := H
        refine BN.load 20 S (fun _ => HS) rfl (by kernel_rfl) (by kernel_rfl) (fun _ hx => Lf.run_ld (S.ev rfl) fl22 (hx.cell _ _ (S.cl c_4))) rfl rfl (GOk.mk rfl rfl hb_1) ?_
        clear S; intro aa S
        refine BN.pure 21 S (fun _ => HS) rfl (by kernel_rfl) (by kernel_rfl) (fun _ => Lf.run_lens (S.ev rfl) rfl Try.underlying22) rfl rfl (GOk.mk rfl rfl hb_1) ?_
        clear S; intro aa S
        obtain ⟨x23, c_5, H⟩ := H
        refine BN.load 18 S (fun _ => HS) rfl (by kernel_rfl) (by kernel_rfl) (fun _ hx => Lf.run_ld (S.ev rfl) fl22 (hx.cell _ _ (S.cl c_5))) rfl rfl (GOk.mk rfl rfl hb_1) ?_
        clear S; intro aa S
        obtain ⟨x21, c_6, H⟩ := H
        refine BN.held 16 S HS rfl (by kernel_rfl) (fun _ hq => Lf.run_ld (S.ev rfl) fl22 (c_6 _ hq)) rfl rfl (GOk.mk rfl rfl hb_1) ?_
        clear S; intro aa S
        refine BN.eff 22 rfl (by kernel_rfl) ?_
        obtain ⟨s27, c_7, c_8, c_9, c_10, H⟩ := slS_ex H
        refine OL.pure S (Lf.run_slNS Try.underlying22 ti3 (S.ev rfl) (S.ev rfl) c_8 c_9 c_10) rfl rfl (GOk.mk rfl rfl hb_1) ?_
        clear S; intro aa S
        refine OL.nil ?_
        clear HS; obtain ⟨HS, H⟩ := H
        refine ⟨fun _ => by rw [S.heap]; exact HS, ?_⟩
        refine BN.eff 23 rfl (by kernel_rfl) ?_
        refine ol_cal S H isfn32 rfl rfl (GOk.mk rfl rfl hb_1) ?_
        clear S H aa; intro u aa ww h3 H S
        obtain ⟨x28, rfl, H⟩ := H
        refine OL.nil ?_
        refine ⟨noNeed (by kernel_rfl), ?_⟩
        refine BN.pure 24 S (noNeed (by kernel_rfl)) rfl (by kernel_rfl) (by kernel_rfl) (fun _ => run_pickT (S.ev rfl) hb_1 (S.ev rfl)) rfl rfl trivial ?_
        clear S; intro aa S
        refine BN.pure 25 S (noNeed (by kernel_rfl)) rfl (by kernel_rfl) (by kernel_rfl) (fun _ => Lf.run_assign (S.ev rfl)) rfl rfl trivial ?_
        clear S; intro aa S
        refine BN.done (by kernel_rfl) ?_
        exact ⟨x28, h3, S.sub _ ⟨rfl, trivial⟩, H⟩
      · replace H := H.2 hb_1
        refine BN.not 15 S (fun _ => HS) rfl (by kernel_rfl) (by kernel_rfl) rfl rfl (GNo.mk rfl rfl hb_1) ?_
        clear S; intro aa S
        refine BN.not 16 S (fun _ => HS) rfl (by kernel_rfl) (by kernel_rfl) rfl rfl (GNo.mk rfl rfl hb_1) ?_
        clear S; intro aa S
        refine BN.not 17 S (fun _ => HS) rfl (by kernel_rfl) (by kernel_rfl) rfl rfl (GNo.mk rfl rfl hb_1) ?_
        clear S; intro aa S
        refine BN.not 18 S (fun _ => HS) rfl (by kernel_rfl) (by kernel_rfl) rfl rfl (GNo.mk rfl rfl hb_1) ?_
        clear S; intro aa S
        refine BN.not 19 S (fun _ => HS) rfl (by kernel_rfl) (by kernel_rfl) rfl rfl (GNo.mk rfl rfl hb_1) ?_
        clear S; intro aa S
        refine BN.not 20 S (fun _ => HS) rfl (by kernel_rfl) (by kernel_rfl) rfl rfl (GNo.mk rfl rfl hb_1) ?_
        clear S; intro aa S
        refine BN.not 21 S (fun _ => HS) rfl (by kernel_rfl) (by kernel_rfl) rfl rfl (GNo.mk rfl rfl hb_1) ?_
        clear S; intro aa S
        refine BN.eff 22 rfl (by kernel_rfl) ?_
        refine OL.not S rfl rfl (GNo.mk rfl rfl hb_1) ?_
        clear S; intro aa S
        refine OL.nil ?_
        refine ⟨fun _ => by rw [S.heap]; exact HS, ?_⟩
        refine BN.eff 23 rfl (by kernel_rfl) ?_
        refine OL.not S rfl rfl (GNo.mk rfl rfl hb_1) ?_
        clear S; intro aa S
        refine OL.nil ?_
        refine ⟨noNeed (by kernel_rfl), ?_⟩
        refine BN.pure 24 S (noNeed (by kernel_rfl)) rfl (by kernel_rfl) (by kernel_rfl) (fun _ => run_pickF (S.ev rfl) hb_1 (S.ev rfl)) rfl rfl trivial ?_
        clear S; intro aa S
        refine BN.pure 25 S (noNeed (by kernel_rfl)) rfl (by kernel_rfl) (by kernel_rfl) (fun _ => Lf.run_assign (S.ev rfl)) rfl rfl trivial ?_
        clear S; intro aa S
        refine BN.done (by kernel_rfl) ?_
        exact ⟨false, h2, S.sub _ ⟨rfl, trivial⟩, H⟩
    · replace H := H.2 hb
      refine BN.not 6 S (fun _ => HS) rfl (by kernel_rfl) (by kernel_rfl) rfl rfl (GNo.mk rfl rfl hb) ?_
      clear S; intro aa S
      refine BN.not 7 S (fun _ => HS) rfl (by kernel_rfl) (by kernel_rfl) rfl rfl (GNo.mk rfl rfl hb) ?_
      clear S; intro aa S
      refine BN.not 8 S (fun _ => HS) rfl (by kernel_rfl) (by kernel_rfl) rfl rfl (GNo.mk rfl rfl hb) ?_
      clear S; intro aa S
      refine BN.not 9 S (fun _ => HS) rfl (by kernel_rfl) (by kernel_rfl) rfl rfl (GNo.mk rfl rfl hb) ?_
      clear S; intro aa S
      refine BN.not 10 S (fun _ => HS) rfl (by kernel_rfl) (by kernel_rfl) rfl rfl (GNo.mk rfl rfl hb) ?_
      clear S; intro aa S
      refine BN.not 11 S (fun _ => HS) rfl (by kernel_rfl) (by kernel_rfl) rfl rfl (GNo.mk rfl rfl hb) ?_
      clear S; intro aa S
      refine BN.not 12 S (fun _ => HS) rfl (by kernel_rfl) (by kernel_rfl) rfl rfl (GNo.mk rfl rfl hb) ?_
      clear S; intro aa S
      refine BN.pure 13 S (fun _ => HS) rfl (by kernel_rfl) (by kernel_rfl) (fun _ => run_pickF (S.ev rfl) hb (S.ev rfl)) rfl rfl trivial ?_
      clear S; intro aa S
      refine BN.pure 14 S (fun _ => HS) rfl (by kernel_rfl) (by kernel_rfl) (fun _ => Lf.run_move (S.ev rfl)) rfl rfl trivial ?_
      clear S; intro aa S
      have hb_2 : (false : Bool) = false := rfl
      refine BN.not 15 S (fun _ => HS) rfl (by kernel_rfl) (by kernel_rfl) rfl rfl (GNo.mk rfl rfl hb_2) ?_
      clear S; intro aa S
      refine BN.not 16 S (fun _ => HS) rfl (by kernel_rfl) (by kernel_rfl) rfl rfl (GNo.mk rfl rfl hb_2) ?_
      clear S; intro aa S
      refine BN.not 17 S (fun _ => HS) rfl (by kernel_rfl) (by kernel_rfl) rfl rfl (GNo.mk rfl rfl hb_2) ?_
      clear S; intro aa S
      refine BN.not 18 S (fun _ => HS) rfl (by kernel_rfl) (by kernel_rfl) rfl rfl (GNo.mk rfl rfl hb_2) ?_
      clear S; intro aa S
      refine BN.not 19 S (fun _ => HS) rfl (by kernel_rfl) (by kernel_rfl) rfl rfl (GNo.mk rfl rfl hb_2) ?_
      clear S; intro aa S
      refine BN.not 20 S (fun _ => HS) rfl (by kernel_rfl) (by kernel_rfl) rfl rfl (GNo.mk rfl rfl hb_2) ?_
      clear S; intro aa S
      refine BN.not 21 S (fun _ => HS) rfl (by kernel_rfl) (by kernel_rfl) rfl rfl (GNo.mk rfl rfl hb_2) ?_
      clear S; intro aa S
      refine BN.eff 22 rfl (by kernel_rfl) ?_
      refine OL.not S rfl rfl (GNo.mk rfl rfl hb_2) ?_
      clear S; intro aa S
      refine OL.nil ?_
      refine ⟨fun _ => by rw [S.heap]; exact HS, ?_⟩
      refine BN.eff 23 rfl (by kernel_rfl) ?_
      refine OL.not S rfl rfl (GNo.mk rfl rfl hb_2) ?_
      clear S; intro aa S
      refine OL.nil ?_
      refine ⟨noNeed (by kernel_rfl), ?_⟩
      refine BN.pure 24 S (noNeed (by kernel_rfl)) rfl (by kernel_rfl) (by kernel_rfl) (fun _ => run_pickF (S.ev rfl) hb_2 (S.ev rfl)) rfl rfl trivial ?_
      clear S; intro aa S
      refine BN.pure 25 S (noNeed (by kernel_rfl)) rfl (by kernel_rfl) (by kernel_rfl) (fun _ => Lf.run_assign (S.ev rfl)) rfl rfl trivial ?_
      clear S; intro aa S
      refine BN.done (by kernel_rfl) ?_
      exact ⟨false, h2, S.sub _ ⟨rfl, trivial⟩, H⟩
  · clear H S aa
    rintro aa ww ⟨x4, h4, S, HJ⟩
    have H := HK _ _ HJ
    clear HK HJ
    refine W.ret ?_
    exact Ret.one S rfl rfl H

/-- chattel chattelref14.Begins -/
def L18 (a0 : Int) (a0_1 : Sv) (b1 : Int) (b1_1 : Sv) (h : Heap) (R : Value → Heap → Prop) : Prop :=
  new 24 #[Value.int .i64 a0, Value.slice a0_1.a a0_1.n a0_1.c] h fun p2 h1 =>
  new 24 #[Value.int .i64 b1, Value.slice b1_1.a b1_1.n b1_1.c] h1 fun p3 h2 =>
  ldI .i64 h2 p2 fun x7 =>
  ldI .i64 h2 p3 fun x9 =>
  ∃ J : Bool → Prop, (orr (x7 != x9) (fun k =>
    ldS h2 (p2.add 1) fun x13 =>
    ldS h2 (p3.add 1) fun x16 =>
    k (decide (((x16.n : Nat) : Int) < ((x13.n : Nat) : Int)))) J) ∧ ∀ x19, J x19 →
  ifb x19 (
    R (Value.bool false) h2) (
    ∃ (I : Int → Prop) (m : Int → Nat), I 0 ∧ ∀ i5, I i5 →
    ldS h2 (p2.add 1) fun x22 =>
    ifb (decide (i5 < ((x22.n : Nat) : Int))) (
      ldS h2 (p2.add 1) fun x28 =>
      ixS x28 i5 fun q30 =>
      ldI .i64 h2 (q30.add ((i5 : Int).toNat * 1)) fun x31 =>
      ldS h2 (p3.add 1) fun x33 =>
      ixS x33 i5 fun q35 =>
      ldI .i64 h2 (q35.add ((i5 : Int).toNat * 1)) fun x36 =>
      ifb (x31 != x36) (
        R (Value.bool false) h2) (
        I (IntKind.i64.wrap (i5 + 1)) ∧ m (IntKind.i64.wrap (i5 + 1)) < m i5)) (
      R (Value.bool true) h2))

set_option maxRecDepth 100000 in

theorem F18 {a0 a0_1 b1 b1_1 h : _} {R : Value → Heap → Prop} (H : L18 a0 a0_1 b1 b1_1 h R) : CallsH Try.prog 18 #[Value.agg #[Value.int .i64 a0, Value.slice a0_1.a a0_1.n a0_1.c], Value.agg #[Value.int .i64 b1, Value.slice b1_1.a b1_1.n b1_1.c]] h R := by
  refine CallsH.enter (n := 38) Try.func18 rfl rfl rfl rfl ?_
  intro w0 aa ww S
  unfold L18 at H
  refine W.seq ?_
  replace S := S.sub [(0, Value.agg #[Value.int .i64 a0, Value.slice a0_1.a a0_1.n a0_1.c]), (1, Value.agg #[Value.int .i64 b1, Value.slice b1_1.a b1_1.n b1_1.c])] ⟨rfl, rfl, trivial⟩
  refine W.region ?_
  refine ol_box S H rfl rfl rfl trivial ?_
  clear S H aa; intro p2 aa ww h1 H S
  refine ol_box S H rfl rfl rfl trivial ?_
  clear S H aa; intro p3 aa ww h2 H S
  refine OL.pure S (Lf.run_assign (S.ev rfl)) rfl rfl trivial ?_
  clear S; intro aa S
  refine OL.nil ?_
  refine W.seq ?_
  refine W.seq ?_
  replace S := S.sub [(2, Value.pointer (some p2)), (3, Value.pointer (some p3))] ⟨rfl, rfl, trivial⟩
  refine W.region ?_
  refine OL.pure S (Lf.run_fa (S.ev rfl) fa24_0) rfl rfl trivial ?_
  clear S; intro aa S
  obtain ⟨x7, c, H⟩ := H
  refine OL.pure S (Lf.run_ld (S.ev rfl) fl3 (S.cl c)) rfl rfl trivial ?_
  clear S; intro aa S
  refine OL.pure S (Lf.run_fa (S.ev rfl) fa24_0) rfl rfl trivial ?_
  clear S; intro aa S
  obtain ⟨x9, c_1, H⟩ := H
  refine OL.pure S (Lf.run_ld (S.ev rfl) fl3 (S.cl c_1)) rfl rfl trivial ?_
  clear S; intro aa S
  refine OL.pure S (Lf.run_neq (S.ev rfl) (S.ev rfl)) rfl rfl trivial ?_
  clear S; intro aa S
  refine OL.pure S (Lf.run_move (S.ev rfl)) rfl rfl trivial ?_
  clear S; intro aa S
  obtain ⟨J, H, HK⟩ := H
  refine OL.cutN 8 (fun aa ww => ∃ x19, St 38 ((19, Value.bool x19) :: [(2, Value.pointer (some p2)), (3, Value.pointer (some p3)), (6, Value.pointer (some p2)), (7, Value.int .i64 x7), (8, Value.pointer (some p3)), (9, Value.int .i64 x9), (10, Value.bool (x7 != x9)), (11, Value.bool (x7 != x9))]) h2 w0 aa ww ∧ J x19) ?_ ?_
  · rcases Bool.eq_false_or_eq_true (x7 != x9) with hb | hb
    · replace H := H.1 hb
      refine OL.not S rfl rfl (GNo.mk rfl rfl hb) ?_
      clear S; intro aa S
      refine OL.not S rfl rfl (GNo.mk rfl rfl hb) ?_
      clear S; intro aa S
      refine OL.not S rfl rfl (GNo.mk rfl rfl hb) ?_
      clear S; intro aa S
      refine OL.not S rfl rfl (GNo.mk rfl rfl hb) ?_
      clear S; intro aa S
      refine OL.not S rfl rfl (GNo.mk rfl rfl hb) ?_
      clear S; intro aa S
      refine OL.not S rfl rfl (GNo.mk rfl rfl hb) ?_
      clear S; intro aa S
      refine OL.not S rfl rfl (GNo.mk rfl rfl hb) ?_
      clear S; intro aa S
      refine OL.pure S (Lf.run_pickT (S.ev rfl) hb (S.ev rfl)) rfl rfl trivial ?_
      clear S; intro aa S
      refine OL.nil ?_
      exact ⟨_, S.sub _ ⟨rfl, rfl, rfl, rfl, rfl, rfl, rfl, rfl, rfl, trivial⟩, H⟩
    · replace H := H.2 hb
      refine OL.pure S (Lf.run_fa (S.ev rfl) fa24_1) rfl rfl (GOk.mk rfl rfl hb) ?_
      clear S; intro aa S
      obtain ⟨x13, c_2, H⟩ := H
      refine OL.pure S (Lf.run_ld (S.ev rfl) fl22 (S.cl c_2)) rfl rfl (GOk.mk rfl rfl hb) ?_
      clear S; intro aa S
      refine OL.pure S (Lf.run_lens (S.ev rfl) rfl Try.underlying22) rfl rfl (GOk.mk rfl rfl hb) ?_
      clear S; intro aa S
      refine OL.pure S (Lf.run_fa (S.ev rfl) fa24_1) rfl rfl (GOk.mk rfl rfl hb) ?_
      clear S; intro aa S
      obtain ⟨x16, c_3, H⟩ := H
      refine OL.pure S (Lf.run_ld (S.ev rfl) fl22 (S.cl c_3)) rfl rfl (GOk.mk rfl rfl hb) ?_
      clear S; intro aa S
      refine OL.pure S (Lf.run_lens (S.ev rfl) rfl Try.underlying22) rfl rfl (GOk.mk rfl rfl hb) ?_
      clear S; intro aa S
      refine OL.pure S (Lf.run_gtr (S.ev rfl) (S.ev rfl)) rfl rfl (GOk.mk rfl rfl hb) ?_
      clear S; intro aa S
      refine OL.pure S (Lf.run_pickF (S.ev rfl) hb (S.ev rfl)) rfl rfl trivial ?_
      clear S; intro aa S
      refine OL.nil ?_
      exact ⟨_, S.sub _ ⟨rfl, rfl, rfl, rfl, rfl, rfl, rfl, rfl, rfl, trivial⟩, H⟩
  · clear S aa
    rintro aa ww ⟨x19, S, HJ⟩
    replace H := HK _ HJ
    clear HK HJ
    refine OL.nil ?_
    refine W.cond S (b := x19) rfl (fun hb_1 => ?_) (fun hb_1 => ?_)
    · replace H := H.1 hb_1
      refine W.seq ?_
      replace S := S.sub [] trivial
      refine W.region ?_
      refine OL.pure S (Lf.run_assign (S.ev rfl)) rfl rfl trivial ?_
      clear S; intro aa S
      refine OL.nil ?_
      refine W.ret ?_
      exact Ret.one S rfl rfl H
    · replace H := H.2 hb_1
      refine W.skip ?_
      refine W.seq ?_
      refine W.seq ?_
      replace S := S.sub [(2, Value.pointer (some p2)), (3, Value.pointer (some p3))] ⟨rfl, rfl, trivial⟩
      refine W.region ?_
      refine OL.pure S (Lf.run_assign (S.ev rfl)) rfl rfl trivial ?_
      clear S; intro aa S
      refine OL.nil ?_
      refine W.block ?_
      obtain ⟨I, m, H, HB⟩ := H
      refine W.loopS (σ := Int) (fun s aa ww => St 38 [(2, Value.pointer (some p2)), (3, Value.pointer (some p3)), (5, Value.int .i64 s)] h2 w0 aa ww ∧ I s) (fun s => m s) (0) ⟨S.sub _ ⟨rfl, rfl, rfl, trivial⟩, H⟩ ?_
      clear H S aa
      rintro i5 aa ww ⟨S, HI⟩
      replace S : St 38 [(2, Value.pointer (some p2)), (3, Value.pointer (some p3)), (5, Value.int .i64 i5)] h2 w0 aa ww := S
      have H := HB i5 HI
      clear HI
      refine W.seq ?_
      refine W.seq ?_
      replace S := S.sub [(2, Value.pointer (some p2)), (3, Value.pointer (some p3)), (5, Value.int .i64 i5)] ⟨rfl, rfl, rfl, trivial⟩
      refine W.region ?_
      refine OL.pure S (Lf.run_move (S.ev rfl)) rfl rfl trivial ?_
      clear S; intro aa S
      refine OL.pure S (Lf.run_fa (S.ev rfl) fa24_1) rfl rfl trivial ?_
      clear S; intro aa S
      obtain ⟨x22, c_4, H⟩ := H
      refine OL.pure S (Lf.run_ld (S.ev rfl) fl22 (S.cl c_4)) rfl rfl trivial ?_
      clear S; intro aa S
      refine OL.pure S (Lf.run_lens (S.ev rfl) rfl Try.underlying22) rfl rfl trivial ?_
      clear S; intro aa S
      refine OL.pure S (Lf.run_lss (S.ev rfl) (S.ev rfl)) rfl rfl trivial ?_
      clear S; intro aa S
      refine OL.nil ?_
      refine W.cond S (b := (decide (i5 < ((x22.n : Nat) : Int)))) rfl (fun hb_2 => ?_) (fun hb_2 => ?_)
      · replace H := H.1 hb_2
        refine W.skip ?_
        refine W.seq ?_
        refine W.block ?_
        refine W.seq ?_
        replace S := S.sub [(2, Value.pointer (some p2)), (3, Value.pointer (some p3)), (5, Value.int .i64 i5)] ⟨rfl, rfl, rfl, trivial⟩
        refine W.regionD S (by kernel_rfl) ?_
        clear S; intro ww S
        refine AN.pure 0 S rfl (by kernel_rfl) (fun _ => Lf.run_fa (S.ev rfl) fa24_1) rfl rfl trivial ?_
        clear S; intro aa S
        obtain ⟨x28, c_5, H⟩ := H
        refine AN.load 1 S rfl (by kernel_rfl) (fun _ hx => Lf.run_ld (S.ev rfl) fl22 (hx.cell _ _ (S.cl c_5))) rfl rfl trivial ?_
        clear S; intro aa S
        refine AN.pure 2 S rfl (by kernel_rfl) (fun _ => Lf.run_move (S.ev rfl)) rfl rfl trivial ?_
        clear S; intro aa S
        obtain ⟨q30, e, e_1, e_2, H⟩ := H
        refine AN.pure 3 S rfl (by kernel_rfl) (fun _ => Lf.run_ixs (S.ev rfl) (S.ev rfl) Try.underlying22 ti3 e e_1 e_2) rfl rfl trivial ?_
        clear S; intro aa S
        obtain ⟨x31, c_6, H⟩ := H
        refine AN.load 4 S rfl (by kernel_rfl) (fun _ hx => Lf.run_ld (S.ev rfl) fl3 (hx.cell _ _ (S.cl c_6))) rfl rfl trivial ?_
        clear S; intro aa S
        refine AN.pure 5 S rfl (by kernel_rfl) (fun _ => Lf.run_fa (S.ev rfl) fa24_1) rfl rfl trivial ?_
        clear S; intro aa S
        obtain ⟨x33, c_7, H⟩ := H
        refine AN.load 6 S rfl (by kernel_rfl) (fun _ hx => Lf.run_ld (S.ev rfl) fl22 (hx.cell _ _ (S.cl c_7))) rfl rfl trivial ?_
        clear S; intro aa S
        refine AN.pure 7 S rfl (by kernel_rfl) (fun _ => Lf.run_move (S.ev rfl)) rfl rfl trivial ?_
        clear S; intro aa S
        obtain ⟨q35, e_3, e_4, e_5, H⟩ := H
        refine AN.pure 8 S rfl (by kernel_rfl) (fun _ => Lf.run_ixs (S.ev rfl) (S.ev rfl) Try.underlying22 ti3 e_3 e_4 e_5) rfl rfl trivial ?_
        clear S; intro aa S
        obtain ⟨x36, c_8, H⟩ := H
        refine AN.load 9 S rfl (by kernel_rfl) (fun _ hx => Lf.run_ld (S.ev rfl) fl3 (hx.cell _ _ (S.cl c_8))) rfl rfl trivial ?_
        clear S; intro aa S
        refine AN.pure 10 S rfl (by kernel_rfl) (fun _ => Lf.run_neq (S.ev rfl) (S.ev rfl)) rfl rfl trivial ?_
        clear S; intro aa S
        refine AN.done (by kernel_rfl) ?_
        refine W.cond S (b := (x31 != x36)) rfl (fun hb_3 => ?_) (fun hb_3 => ?_)
        · replace H := H.1 hb_3
          refine W.seq ?_
          replace S := S.sub [] trivial
          refine W.region ?_
          refine OL.pure S (Lf.run_assign (S.ev rfl)) rfl rfl trivial ?_
          clear S; intro aa S
          refine OL.nil ?_
          refine W.ret ?_
          exact Ret.one S rfl rfl H
        · replace H := H.2 hb_3
          refine W.skip ?_
          replace S := S.sub [(2, Value.pointer (some p2)), (3, Value.pointer (some p3)), (5, Value.int .i64 i5)] ⟨rfl, rfl, rfl, trivial⟩
          refine W.region ?_
          refine OL.pure S (Lf.run_move (S.ev rfl)) rfl rfl trivial ?_
          clear S; intro aa S
          refine OL.pure S (Lf.run_add (S.ev rfl) (S.ev rfl)) rfl rfl trivial ?_
          clear S; intro aa S
          refine OL.pure S (Lf.run_assign (S.ev rfl)) rfl rfl trivial ?_
          clear S; intro aa S
          refine OL.nil ?_
          exact ⟨((IntKind.i64.wrap (i5 + 1))), ⟨S.sub _ ⟨rfl, rfl, rfl, trivial⟩, H.1⟩, H.2⟩
      · replace H := H.2 hb_2
        refine W.exit_ ?_
        refine xhit ?_
        refine W.seq ?_
        replace S := S.sub [] trivial
        refine W.region ?_
        refine OL.pure S (Lf.run_assign (S.ev rfl)) rfl rfl trivial ?_
        clear S; intro aa S
        refine OL.nil ?_
        refine W.ret ?_
        exact Ret.one S rfl rfl H

/-- chattel chattelref14.Same -/
def L19 (a0 : Int) (a0_1 : Sv) (b1 : Int) (b1_1 : Sv) (h : Heap) (R : Value → Heap → Prop) : Prop :=
  new 24 #[Value.int .i64 a0, Value.slice a0_1.a a0_1.n a0_1.c] h fun p2 h1 =>
  new 24 #[Value.int .i64 b1, Value.slice b1_1.a b1_1.n b1_1.c] h1 fun p3 h2 =>
  ∃ (y5 : Int) (y5_1 : Sv), cl h2 p2 = some (Value.int .i64 y5) ∧ cl h2 (p2.add 1) = some (Value.slice y5_1.a y5_1.n y5_1.c) ∧
  ∃ (y6 : Int) (y6_1 : Sv), cl h2 p3 = some (Value.int .i64 y6) ∧ cl h2 (p3.add 1) = some (Value.slice y6_1.a y6_1.n y6_1.c) ∧
  cal Try.prog 18 #[Value.agg #[Value.int .i64 y5, Value.slice y5_1.a y5_1.n y5_1.c], Value.agg #[Value.int .i64 y6, Value.slice y6_1.a y6_1.n y6_1.c]] h2 fun u h3 => asB u fun x7 =>
  ∃ J : Bool → Heap → Prop, (andj x7 (fun k =>
    ∃ (y9 : Int) (y9_1 : Sv), cl h3 p3 = some (Value.int .i64 y9) ∧ cl h3 (p3.add 1) = some (Value.slice y9_1.a y9_1.n y9_1.c) ∧
    ∃ (y10 : Int) (y10_1 : Sv), cl h3 p2 = some (Value.int .i64 y10) ∧ cl h3 (p2.add 1) = some (Value.slice y10_1.a y10_1.n y10_1.c) ∧
    cal Try.prog 18 #[Value.agg #[Value.int .i64 y9, Value.slice y9_1.a y9_1.n y9_1.c], Value.agg #[Value.int .i64 y10, Value.slice y10_1.a y10_1.n y10_1.c]] h3 fun u_1 h5 => asB u_1 fun x11 =>
    k x11 h5) h3 J) ∧ ∀ x12 h4, J x12 h4 →
  R (Value.bool x12) h4

set_option maxRecDepth 100000 in

theorem F19 {a0 a0_1 b1 b1_1 h : _} {R : Value → Heap → Prop} (H : L19 a0 a0_1 b1 b1_1 h R) : CallsH Try.prog 19 #[Value.agg #[Value.int .i64 a0, Value.slice a0_1.a a0_1.n a0_1.c], Value.agg #[Value.int .i64 b1, Value.slice b1_1.a b1_1.n b1_1.c]] h R := by
  refine CallsH.enter (n := 13) Try.func19 rfl rfl rfl rfl ?_
  intro w0 aa ww S
  unfold L19 at H
  refine W.seq ?_
  replace S := S.sub [(0, Value.agg #[Value.int .i64 a0, Value.slice a0_1.a a0_1.n a0_1.c]), (1, Value.agg #[Value.int .i64 b1, Value.slice b1_1.a b1_1.n b1_1.c])] ⟨rfl, rfl, trivial⟩
  refine W.region ?_
  refine ol_box S H rfl rfl rfl trivial ?_
  clear S H aa; intro p2 aa ww h1 H S
  refine ol_box S H rfl rfl rfl trivial ?_
  clear S H aa; intro p3 aa ww h2 H S
  refine OL.pure S (Lf.run_assign (S.ev rfl)) rfl rfl trivial ?_
  clear S; intro aa S
  refine OL.nil ?_
  refine W.seq ?_
  replace S := S.sub [(2, Value.pointer (some p2)), (3, Value.pointer (some p3))] ⟨rfl, rfl, trivial⟩
  refine W.region ?_
  obtain ⟨y5, y5_1, c_10, c_11, H⟩ := H
  refine OL.pure S (Lf.run_ldA (cs := [Value.int .i64 y5, Value.slice y5_1.a y5_1.n y5_1.c]) (S.ev rfl) ag24 ti24 (by rw [S.heap]; exact RowL.toRow ⟨c_10, c_11, trivial⟩)) rfl rfl trivial ?_
  clear S; intro aa S
  obtain ⟨y6, y6_1, c_8, c_9, H⟩ := H
  refine OL.pure S (Lf.run_ldA (cs := [Value.int .i64 y6, Value.slice y6_1.a y6_1.n y6_1.c]) (S.ev rfl) ag24 ti24 (by rw [S.heap]; exact RowL.toRow ⟨c_8, c_9, trivial⟩)) rfl rfl trivial ?_
  clear S; intro aa S
  refine ol_cal S H isfn18 rfl rfl trivial ?_
  clear S H aa; intro u aa ww h3 H S
  obtain ⟨x7, rfl, H⟩ := H
  refine OL.pure S (Lf.run_move (S.ev rfl)) rfl rfl trivial ?_
  clear S; intro aa S
  obtain ⟨J, H, HK⟩ := H
  refine OL.cutN 4 (fun aa ww => ∃ x12 h4, St 13 ((12, Value.bool x12) :: [(2, Value.pointer (some p2)), (3, Value.pointer (some p3)), (5, Value.agg #[Value.int .i64 y5, Value.slice y5_1.a y5_1.n y5_1.c]), (6, Value.agg #[Value.int .i64 y6, Value.slice y6_1.a y6_1.n y6_1.c]), (7, Value.bool x7), (8, Value.bool x7)]) h4 w0 aa ww ∧ J x12 h4) ?_ ?_
  · rcases Bool.eq_false_or_eq_true x7 with hb | hb
    · replace H := H.1 hb
      obtain ⟨y9, y9_1, c_6, c_7, H⟩ := H
      refine OL.pure S (Lf.run_ldA (cs := [Value.int .i64 y9, Value.slice y9_1.a y9_1.n y9_1.c]) (S.ev rfl) ag24 ti24 (by rw [S.heap]; exact RowL.toRow ⟨c_6, c_7, trivial⟩)) rfl rfl (GOk.mk rfl rfl hb) ?_
      clear S; intro aa S
      obtain ⟨y10, y10_1, c_4, c_5, H⟩ := H
      refine OL.pure S (Lf.run_ldA (cs := [Value.int .i64 y10, Value.slice y10_1.a y10_1.n y10_1.c]) (S.ev rfl) ag24 ti24 (by rw [S.heap]; exact RowL.toRow ⟨c_4, c_5, trivial⟩)) rfl rfl (GOk.mk rfl rfl hb) ?_
      clear S; intro aa S
      refine ol_cal S H isfn18 rfl rfl (GOk.mk rfl rfl hb) ?_
      clear S H aa; intro u_1 aa ww h5 H S
      obtain ⟨x11, rfl, H⟩ := H
      refine OL.pure S (Lf.run_pickT (S.ev rfl) hb (S.ev rfl)) rfl rfl trivial ?_
      clear S; intro aa S
      refine OL.nil ?_
      exact ⟨_, _, S.sub _ ⟨rfl, rfl, rfl, rfl, rfl, rfl, rfl, trivial⟩, H⟩
    · replace H := H.2 hb
      refine OL.not S rfl rfl (GNo.mk rfl rfl hb) ?_
      clear S; intro aa S
      refine OL.not S rfl rfl (GNo.mk rfl rfl hb) ?_
      clear S; intro aa S
      refine OL.not S rfl rfl (GNo.mk rfl rfl hb) ?_
      clear S; intro aa S
      refine OL.pure S (Lf.run_pickF (S.ev rfl) hb (S.ev rfl)) rfl rfl trivial ?_
      clear S; intro aa S
      refine OL.nil ?_
      exact ⟨_, _, S.sub _ ⟨rfl, rfl, rfl, rfl, rfl, rfl, rfl, trivial⟩, H⟩
  · clear S aa
    rintro aa ww ⟨x12, h4, S, HJ⟩
    replace H := HK _ _ HJ
    clear HK HJ
    refine OL.pure S (Lf.run_assign (S.ev rfl)) rfl rfl trivial ?_
    clear S; intro aa S
    refine OL.nil ?_
    refine W.ret ?_
    exact Ret.one S rfl rfl H

/-- chattel chattelref14.Own -/
def L20 (p0 : Int) (p0_1 : Sv) (h : Heap) (R : Value → Heap → Prop) : Prop :=
  new 24 #[Value.int .i64 p0, Value.slice p0_1.a p0_1.n p0_1.c] h fun p1 h1 =>
  new 24 #[Value.int .i64 0, Value.slice (⟨none, 0, 0⟩ : Sv).a (⟨none, 0, 0⟩ : Sv).n (⟨none, 0, 0⟩ : Sv).c] h1 fun p2 h2 =>
  ldI .i64 h2 p1 fun x6 =>
  new 24 #[Value.int .i64 0, Value.slice (⟨none, 0, 0⟩ : Sv).a (⟨none, 0, 0⟩ : Sv).n (⟨none, 0, 0⟩ : Sv).c] h2 fun p3 h3 =>
  stoA h3 p3 [Value.int .i64 x6, Value.slice (⟨none, 0, 0⟩ : Sv).a (⟨none, 0, 0⟩ : Sv).n (⟨none, 0, 0⟩ : Sv).c] fun h4 =>
  ∃ (I : Int → Heap → Prop) (m : Int → Heap → Nat), I 0 h4 ∧ ∀ i4 h5, I i4 h5 →
  ldS h5 (p1.add 1) fun x10 =>
  ∃ J : Bool → Prop, (andr (decide (i4 < ((x10.n : Nat) : Int))) (fun k =>
    ldS h5 (p1.add 1) fun x15 =>
    ixS x15 i4 fun q17 =>
    ldI .i64 h5 (q17.add ((i4 : Int).toNat * 1)) fun x18 =>
    k (x18 != (-1))) J) ∧ ∀ x20, J x20 →
  ifb x20 (
    ldS h5 (p3.add 1) fun x24 =>
    ldS h5 (p1.add 1) fun x26 =>
    ixS x26 i4 fun q28 =>
    ldI .i64 h5 (q28.add ((i4 : Int).toNat * 1)) fun x29 =>
    newS 3 #[Value.int .i64 x29] 1 h5 fun s30 h6 =>
    appS 3 (Value.int .i64 0).cells 1 8 h6 x24 s30 fun s31 h7 =>
    sto h7 (p3.add 1) (Value.slice s31.a s31.n s31.c) fun h8 =>
    I (IntKind.i64.wrap (i4 + 1)) h8 ∧ m (IntKind.i64.wrap (i4 + 1)) h8 < m i4 h5) (
    ∃ (y33 : Int) (y33_1 : Sv), cl h5 p3 = some (Value.int .i64 y33) ∧ cl h5 (p3.add 1) = some (Value.slice y33_1.a y33_1.n y33_1.c) ∧
    stoA h5 p2 [Value.int .i64 y33, Value.slice y33_1.a y33_1.n y33_1.c] fun h9 =>
    ∃ (y : Int) (y_1 : Sv), cl h9 p2 = some (Value.int .i64 y) ∧ cl h9 (p2.add 1) = some (Value.slice y_1.a y_1.n y_1.c) ∧
    R (Value.agg #[Value.int .i64 y, Value.slice y_1.a y_1.n y_1.c]) h9)

set_option maxRecDepth 100000 in

theorem F20 {p0 p0_1 h : _} {R : Value → Heap → Prop} (H : L20 p0 p0_1 h R) : CallsH Try.prog 20 #[Value.agg #[Value.int .i64 p0, Value.slice p0_1.a p0_1.n p0_1.c]] h R := by
  refine CallsH.enter (n := 34) Try.func20 rfl rfl rfl rfl ?_
  intro w0 aa ww S
  unfold L20 at H
  refine W.seq ?_
  replace S := S.sub [(0, Value.agg #[Value.int .i64 p0, Value.slice p0_1.a p0_1.n p0_1.c])] ⟨rfl, trivial⟩
  refine W.region ?_
  refine ol_box S H rfl rfl rfl trivial ?_
  clear S H aa; intro p1 aa ww h1 H S
  refine ol_alloc S H ti24 rfl rfl trivial ?_
  clear S H aa; intro p2 aa ww h2 H S
  refine OL.nil ?_
  refine W.seq ?_
  replace S := S.sub [(1, Value.pointer (some p1)), (2, Value.pointer (some p2))] ⟨rfl, rfl, trivial⟩
  refine W.region ?_
  refine OL.pure S (Lf.run_fa (S.ev rfl) fa24_0) rfl rfl trivial ?_
  clear S; intro aa S
  obtain ⟨x6, c, H⟩ := H
  refine OL.pure S (Lf.run_ld (S.ev rfl) fl3 (S.cl c)) rfl rfl trivial ?_
  clear S; intro aa S
  refine OL.pure S (Lf.run_build (cs := #[Value.int .i64 x6, Value.slice (⟨none, 0, 0⟩ : Sv).a (⟨none, 0, 0⟩ : Sv).n (⟨none, 0, 0⟩ : Sv).c]) pl24 ti24 (parts_map S rfl) (by kernel_rfl)) rfl rfl trivial ?_
  clear S; intro aa S
  refine ol_alloc S H ti24 rfl rfl trivial ?_
  clear S H aa; intro p3 aa ww h3 H S
  refine ol_stoA S H rfl rfl ti24 trivial ?_
  clear S H aa; intro aa ww h4 H S
  refine OL.nil ?_
  refine W.seq ?_
  refine W.seq ?_
  replace S := S.sub [(1, Value.pointer (some p1)), (2, Value.pointer (some p2)), (3, Value.pointer (some p3))] ⟨rfl, rfl, rfl, trivial⟩
  refine W.region ?_
  refine OL.pure S (Lf.run_assign (S.ev rfl)) rfl rfl trivial ?_
  clear S; intro aa S
  refine OL.nil ?_
  refine W.block ?_
  obtain ⟨I, m, H, HB⟩ := H
  refine W.loopS (σ := Int × Heap) (fun s aa ww => St 34 [(1, Value.pointer (some p1)), (2, Value.pointer (some p2)), (3, Value.pointer (some p3)), (4, Value.int .i64 s.1)] s.2 w0 aa ww ∧ I s.1 s.2) (fun s => m s.1 s.2) (0, h4) ⟨S.sub _ ⟨rfl, rfl, rfl, rfl, trivial⟩, H⟩ ?_
  clear H S aa
  rintro ⟨i4, h5⟩ aa ww ⟨S, HI⟩
  replace S : St 34 [(1, Value.pointer (some p1)), (2, Value.pointer (some p2)), (3, Value.pointer (some p3)), (4, Value.int .i64 i4)] h5 w0 aa ww := S
  have H := HB i4 h5 HI
  clear HI
  refine W.seq ?_
  refine W.seq ?_
  replace S := S.sub [(1, Value.pointer (some p1)), (2, Value.pointer (some p2)), (3, Value.pointer (some p3)), (4, Value.int .i64 i4)] ⟨rfl, rfl, rfl, rfl, trivial⟩
  refine W.region ?_
  refine OL.pure S (Lf.run_move (S.ev rfl)) rfl rfl trivial ?_
  clear S; intro aa S
  refine OL.pure S (Lf.run_fa (S.ev rfl) fa24_1) rfl rfl trivial ?_
  clear S; intro aa S
  obtain ⟨x10, c_1, H⟩ := H
  refine OL.pure S (Lf.run_ld (S.ev rfl) fl22 (S.cl c_1)) rfl rfl trivial ?_
  clear S; intro aa S
  refine OL.pure S (Lf.run_lens (S.ev rfl) rfl Try.underlying22) rfl rfl trivial ?_
  clear S; intro aa S
  refine OL.pure S (Lf.run_lss (S.ev rfl) (S.ev rfl)) rfl rfl trivial ?_
  clear S; intro aa S
  refine OL.pure S (Lf.run_move (S.ev rfl)) rfl rfl trivial ?_
  clear S; intro aa S
  obtain ⟨J, H, HK⟩ := H
  refine OL.cutN 7 (fun aa ww => ∃ x20, St 34 ((20, Value.bool x20) :: [(1, Value.pointer (some p1)), (2, Value.pointer (some p2)), (3, Value.pointer (some p3)), (4, Value.int .i64 i4), (8, Value.int .i64 i4), (9, Value.pointer (some (p1.add 1))), (10, Value.slice x10.a x10.n x10.c), (11, Value.int .i64 ((x10.n : Nat) : Int)), (12, Value.bool (decide (i4 < ((x10.n : Nat) : Int)))), (13, Value.bool (decide (i4 < ((x10.n : Nat) : Int))))]) h5 w0 aa ww ∧ J x20) ?_ ?_
  · rcases Bool.eq_false_or_eq_true (decide (i4 < ((x10.n : Nat) : Int))) with hb | hb
    · replace H := H.1 hb
      refine OL.pure S (Lf.run_fa (S.ev rfl) fa24_1) rfl rfl (GOk.mk rfl rfl hb) ?_
      clear S; intro aa S
      obtain ⟨x15, c_2, H⟩ := H
      refine OL.pure S (Lf.run_ld (S.ev rfl) fl22 (S.cl c_2)) rfl rfl (GOk.mk rfl rfl hb) ?_
      clear S; intro aa S
      refine OL.pure S (Lf.run_move (S.ev rfl)) rfl rfl (GOk.mk rfl rfl hb) ?_
      clear S; intro aa S
      obtain ⟨q17, e, e_1, e_2, H⟩ := H
      refine OL.pure S (Lf.run_ixs (S.ev rfl) (S.ev rfl) Try.underlying22 ti3 e e_1 e_2) rfl rfl (GOk.mk rfl rfl hb) ?_
      clear S; intro aa S
      obtain ⟨x18, c_3, H⟩ := H
      refine OL.pure S (Lf.run_ld (S.ev rfl) fl3 (S.cl c_3)) rfl rfl (GOk.mk rfl rfl hb) ?_
      clear S; intro aa S
      refine OL.pure S (Lf.run_neq (S.ev rfl) (S.ev rfl)) rfl rfl (GOk.mk rfl rfl hb) ?_
      clear S; intro aa S
      refine OL.pure S (Lf.run_pickT (S.ev rfl) hb (S.ev rfl)) rfl rfl trivial ?_
      clear S; intro aa S
      refine OL.nil ?_
      exact ⟨_, S.sub _ ⟨rfl, rfl, rfl, rfl, rfl, rfl, rfl, rfl, rfl, rfl, rfl, trivial⟩, H⟩
    · replace H := H.2 hb
      refine OL.not S rfl rfl (GNo.mk rfl rfl hb) ?_
      clear S; intro aa S
      refine OL.not S rfl rfl (GNo.mk rfl rfl hb) ?_
      clear S; intro aa S
      refine OL.not S rfl rfl (GNo.mk rfl rfl hb) ?_
      clear S; intro aa S
      refine OL.not S rfl rfl (GNo.mk rfl rfl hb) ?_
      clear S; intro aa S
      refine OL.not S rfl rfl (GNo.mk rfl rfl hb) ?_
      clear S; intro aa S
      refine OL.not S rfl rfl (GNo.mk rfl rfl hb) ?_
      clear S; intro aa S
      refine OL.pure S (Lf.run_pickF (S.ev rfl) hb (S.ev rfl)) rfl rfl trivial ?_
      clear S; intro aa S
      refine OL.nil ?_
      exact ⟨_, S.sub _ ⟨rfl, rfl, rfl, rfl, rfl, rfl, rfl, rfl, rfl, rfl, rfl, trivial⟩, H⟩
  · clear S aa
    rintro aa ww ⟨x20, S, HJ⟩
    replace H := HK _ HJ
    clear HK HJ
    refine OL.nil ?_
    refine W.cond S (b := x20) rfl (fun hb_1 => ?_) (fun hb_1 => ?_)
    · replace H := H.1 hb_1
      refine W.skip ?_
      refine W.seq ?_
      refine W.block ?_
      replace S := S.sub [(1, Value.pointer (some p1)), (2, Value.pointer (some p2)), (3, Value.pointer (some p3)), (4, Value.int .i64 i4)] ⟨rfl, rfl, rfl, rfl, trivial⟩
      refine W.regionD S (by kernel_rfl) ?_
      clear S; intro ww S
      refine AN.pure 0 S rfl (by kernel_rfl) (fun _ => Lf.run_fa (S.ev rfl) fa24_1) rfl rfl trivial ?_
      clear S; intro aa S
      obtain ⟨x24, c_4, H⟩ := H
      refine AN.load 1 S rfl (by kernel_rfl) (fun _ hx => Lf.run_ld (S.ev rfl) fl22 (hx.cell _ _ (S.cl c_4))) rfl rfl trivial ?_
      clear S; intro aa S
      refine AN.pure 2 S rfl (by kernel_rfl) (fun _ => Lf.run_fa (S.ev rfl) fa24_1) rfl rfl trivial ?_
      clear S; intro aa S
      obtain ⟨x26, c_5, H⟩ := H
      refine AN.load 3 S rfl (by kernel_rfl) (fun _ hx => Lf.run_ld (S.ev rfl) fl22 (hx.cell _ _ (S.cl c_5))) rfl rfl trivial ?_
      clear S; intro aa S
      refine AN.pure 4 S rfl (by kernel_rfl) (fun _ => Lf.run_move (S.ev rfl)) rfl rfl trivial ?_
      clear S; intro aa S
      obtain ⟨q28, e_3, e_4, e_5, H⟩ := H
      refine AN.pure 5 S rfl (by kernel_rfl) (fun _ => Lf.run_ixs (S.ev rfl) (S.ev rfl) Try.underlying22 ti3 e_3 e_4 e_5) rfl rfl trivial ?_
      clear S; intro aa S
      obtain ⟨x29, c_6, H⟩ := H
      refine AN.load 6 S rfl (by kernel_rfl) (fun _ hx => Lf.run_ld (S.ev rfl) fl3 (hx.cell _ _ (S.cl c_6))) rfl rfl trivial ?_
      clear S; intro aa S
      refine AN.eff 7 rfl (by kernel_rfl) ?_
      refine ol_newS S H Try.underlying22 ti3 (by decide) (parts_map S rfl) (by kernel_rfl) (by decide) rfl trivial ?_
      clear S H aa; intro s30 aa ww h6 H S
      refine OL.nil ?_
      refine AN.eff 8 rfl (by kernel_rfl) ?_
      refine ol_appS S H Try.underlying22 ti3 rfl rfl rfl trivial ?_
      clear S H aa; intro s31 aa ww h7 H S
      refine OL.nil ?_
      refine AN.pure 9 S rfl (by kernel_rfl) (fun _ => Lf.run_fa (S.ev rfl) fa24_1) rfl rfl trivial ?_
      clear S; intro aa S
      refine AN.eff 10 rfl (by kernel_rfl) ?_
      refine ol_sto S H rfl rfl rfl ti22 trivial ?_
      clear S H aa; intro aa ww h8 H S
      refine OL.nil ?_
      refine AN.done (by kernel_rfl) ?_
      replace S := S.sub [(1, Value.pointer (some p1)), (2, Value.pointer (some p2)), (3, Value.pointer (some p3)), (4, Value.int .i64 i4)] ⟨rfl, rfl, rfl, rfl, trivial⟩
      refine W.region ?_
      refine OL.pure S (Lf.run_move (S.ev rfl)) rfl rfl trivial ?_
      clear S; intro aa S
      refine OL.pure S (Lf.run_add (S.ev rfl) (S.ev rfl)) rfl rfl trivial ?_
      clear S; intro aa S
      refine OL.pure S (Lf.run_assign (S.ev rfl)) rfl rfl trivial ?_
      clear S; intro aa S
      refine OL.nil ?_
      exact ⟨((IntKind.i64.wrap (i4 + 1)), h8), ⟨S.sub _ ⟨rfl, rfl, rfl, rfl, trivial⟩, H.1⟩, H.2⟩
    · replace H := H.2 hb_1
      refine W.exit_ ?_
      refine xhit ?_
      refine W.seq ?_
      replace S := S.sub [(2, Value.pointer (some p2)), (3, Value.pointer (some p3))] ⟨rfl, rfl, trivial⟩
      refine W.region ?_
      obtain ⟨y33, y33_1, c_10, c_11, H⟩ := H
      refine OL.pure S (Lf.run_ldA (cs := [Value.int .i64 y33, Value.slice y33_1.a y33_1.n y33_1.c]) (S.ev rfl) ag24 ti24 (by rw [S.heap]; exact RowL.toRow ⟨c_10, c_11, trivial⟩)) rfl rfl trivial ?_
      clear S; intro aa S
      refine ol_stoA S H rfl rfl ti24 trivial ?_
      clear S H aa; intro aa ww h9 H S
      refine OL.nil ?_
      refine W.ret ?_
      obtain ⟨y, y_1, c_8, c_9, H⟩ := H
      exact Ret.gen S rfl (RV.cellA (cs := [Value.int .i64 y, Value.slice y_1.a y_1.n y_1.c]) rfl ag24 ti24 ⟨c_8, c_9, trivial⟩ RV.nil) rfl H

/-- chattel chattelref01.Ints -/
def L21 (a0 : Sv) (b1 : Sv) (h : Heap) (R : Value → Heap → Prop) : Prop :=
  ifb (((a0.n : Nat) : Int) != ((b1.n : Nat) : Int)) (
    R (Value.bool false) h) (
    ∃ (I : Int → Prop) (m : Int → Nat), I 0 ∧ ∀ i5, I i5 →
    ifb (decide (i5 < ((a0.n : Nat) : Int))) (
      ixS a0 i5 fun q19 =>
      ldI .i64 h (q19.add ((i5 : Int).toNat * 1)) fun x20 =>
      ixS b1 i5 fun q23 =>
      ldI .i64 h (q23.add ((i5 : Int).toNat * 1)) fun x24 =>
      ifb (x20 != x24) (
        R (Value.bool false) h) (
        I (IntKind.i64.wrap (i5 + 1)) ∧ m (IntKind.i64.wrap (i5 + 1)) < m i5)) (
      R (Value.bool true) h))

set_option maxRecDepth 100000 in

theorem F21 {a0 b1 h : _} {R : Value → Heap → Prop} (H : L21 a0 b1 h R) : CallsH Try.prog 21 #[Value.slice a0.a a0.n a0.c, Value.slice b1.a b1.n b1.c] h R := by
  refine CallsH.enter (n := 26) Try.func21 rfl rfl rfl rfl ?_
  intro w0 aa ww S
  unfold L21 at H
  refine W.seq ?_
  replace S := S.sub [(0, Value.slice a0.a a0.n a0.c), (1, Value.slice b1.a b1.n b1.c)] ⟨rfl, rfl, trivial⟩
  refine W.region ?_
  refine OL.pure S (Lf.run_assign (S.ev rfl)) rfl rfl trivial ?_
  clear S; intro aa S
  refine OL.nil ?_
  refine W.seq ?_
  refine W.seq ?_
  replace S := S.sub [(0, Value.slice a0.a a0.n a0.c), (1, Value.slice b1.a b1.n b1.c)] ⟨rfl, rfl, trivial⟩
  refine W.region ?_
  refine OL.pure S (Lf.run_move (S.ev rfl)) rfl rfl trivial ?_
  clear S; intro aa S
  refine OL.pure S (Lf.run_lens (S.ev rfl) rfl Try.underlying22) rfl rfl trivial ?_
  clear S; intro aa S
  refine OL.pure S (Lf.run_move (S.ev rfl)) rfl rfl trivial ?_
  clear S; intro aa S
  refine OL.pure S (Lf.run_lens (S.ev rfl) rfl Try.underlying22) rfl rfl trivial ?_
  clear S; intro aa S
  refine OL.pure S (Lf.run_neq (S.ev rfl) (S.ev rfl)) rfl rfl trivial ?_
  clear S; intro aa S
  refine OL.nil ?_
  refine W.cond S (b := (((a0.n : Nat) : Int) != ((b1.n : Nat) : Int))) rfl (fun hb => ?_) (fun hb => ?_)
  · replace H := H.1 hb
    refine W.seq ?_
    replace S := S.sub [] trivial
    refine W.region ?_
    refine OL.pure S (Lf.run_assign (S.ev rfl)) rfl rfl trivial ?_
    clear S; intro aa S
    refine OL.nil ?_
    refine W.ret ?_
    exact Ret.one S rfl rfl H
  · replace H := H.2 hb
    refine W.skip ?_
    refine W.seq ?_
    refine W.seq ?_
    replace S := S.sub [(0, Value.slice a0.a a0.n a0.c), (1, Value.slice b1.a b1.n b1.c)] ⟨rfl, rfl, trivial⟩
    refine W.region ?_
    refine OL.pure S (Lf.run_assign (S.ev rfl)) rfl rfl trivial ?_
    clear S; intro aa S
    refine OL.nil ?_
    refine W.block ?_
    obtain ⟨I, m, H, HB⟩ := H
    refine W.loopS (σ := Int) (fun s aa ww => St 26 [(0, Value.slice a0.a a0.n a0.c), (1, Value.slice b1.a b1.n b1.c), (5, Value.int .i64 s)] h w0 aa ww ∧ I s) (fun s => m s) (0) ⟨S.sub _ ⟨rfl, rfl, rfl, trivial⟩, H⟩ ?_
    clear H S aa
    rintro i5 aa ww ⟨S, HI⟩
    replace S : St 26 [(0, Value.slice a0.a a0.n a0.c), (1, Value.slice b1.a b1.n b1.c), (5, Value.int .i64 i5)] h w0 aa ww := S
    have H := HB i5 HI
    clear HI
    refine W.seq ?_
    refine W.seq ?_
    replace S := S.sub [(0, Value.slice a0.a a0.n a0.c), (1, Value.slice b1.a b1.n b1.c), (5, Value.int .i64 i5)] ⟨rfl, rfl, rfl, trivial⟩
    refine W.region ?_
    refine OL.pure S (Lf.run_move (S.ev rfl)) rfl rfl trivial ?_
    clear S; intro aa S
    refine OL.pure S (Lf.run_move (S.ev rfl)) rfl rfl trivial ?_
    clear S; intro aa S
    refine OL.pure S (Lf.run_lens (S.ev rfl) rfl Try.underlying22) rfl rfl trivial ?_
    clear S; intro aa S
    refine OL.pure S (Lf.run_lss (S.ev rfl) (S.ev rfl)) rfl rfl trivial ?_
    clear S; intro aa S
    refine OL.nil ?_
    refine W.cond S (b := (decide (i5 < ((a0.n : Nat) : Int)))) rfl (fun hb_1 => ?_) (fun hb_1 => ?_)
    · replace H := H.1 hb_1
      refine W.skip ?_
      refine W.seq ?_
      refine W.block ?_
      refine W.seq ?_
      replace S := S.sub [(0, Value.slice a0.a a0.n a0.c), (1, Value.slice b1.a b1.n b1.c), (5, Value.int .i64 i5)] ⟨rfl, rfl, rfl, trivial⟩
      refine W.regionD S (by kernel_rfl) ?_
      clear S; intro ww S
      refine AN.pure 0 S rfl (by kernel_rfl) (fun _ => Lf.run_move (S.ev rfl)) rfl rfl trivial ?_
      clear S; intro aa S
      refine AN.pure 1 S rfl (by kernel_rfl) (fun _ => Lf.run_move (S.ev rfl)) rfl rfl trivial ?_
      clear S; intro aa S
      obtain ⟨q19, e, e_1, e_2, H⟩ := H
      refine AN.pure 2 S rfl (by kernel_rfl) (fun _ => Lf.run_ixs (S.ev rfl) (S.ev rfl) Try.underlying22 ti3 e e_1 e_2) rfl rfl trivial ?_
      clear S; intro aa S
      obtain ⟨x20, c, H⟩ := H
      refine AN.load 3 S rfl (by kernel_rfl) (fun _ hx => Lf.run_ld (S.ev rfl) fl3 (hx.cell _ _ (S.cl c))) rfl rfl trivial ?_
      clear S; intro aa S
      refine AN.pure 4 S rfl (by kernel_rfl) (fun _ => Lf.run_move (S.ev rfl)) rfl rfl trivial ?_
      clear S; intro aa S
      refine AN.pure 5 S rfl (by kernel_rfl) (fun _ => Lf.run_move (S.ev rfl)) rfl rfl trivial ?_
      clear S; intro aa S
      obtain ⟨q23, e_3, e_4, e_5, H⟩ := H
      refine AN.pure 6 S rfl (by kernel_rfl) (fun _ => Lf.run_ixs (S.ev rfl) (S.ev rfl) Try.underlying22 ti3 e_3 e_4 e_5) rfl rfl trivial ?_
      clear S; intro aa S
      obtain ⟨x24, c_1, H⟩ := H
      refine AN.load 7 S rfl (by kernel_rfl) (fun _ hx => Lf.run_ld (S.ev rfl) fl3 (hx.cell _ _ (S.cl c_1))) rfl rfl trivial ?_
      clear S; intro aa S
      refine AN.pure 8 S rfl (by kernel_rfl) (fun _ => Lf.run_neq (S.ev rfl) (S.ev rfl)) rfl rfl trivial ?_
      clear S; intro aa S
      refine AN.done (by kernel_rfl) ?_
      refine W.cond S (b := (x20 != x24)) rfl (fun hb_2 => ?_) (fun hb_2 => ?_)
      · replace H := H.1 hb_2
        refine W.seq ?_
        replace S := S.sub [] trivial
        refine W.region ?_
        refine OL.pure S (Lf.run_assign (S.ev rfl)) rfl rfl trivial ?_
        clear S; intro aa S
        refine OL.nil ?_
        refine W.ret ?_
        exact Ret.one S rfl rfl H
      · replace H := H.2 hb_2
        refine W.skip ?_
        replace S := S.sub [(0, Value.slice a0.a a0.n a0.c), (1, Value.slice b1.a b1.n b1.c), (5, Value.int .i64 i5)] ⟨rfl, rfl, rfl, trivial⟩
        refine W.region ?_
        refine OL.pure S (Lf.run_move (S.ev rfl)) rfl rfl trivial ?_
        clear S; intro aa S
        refine OL.pure S (Lf.run_add (S.ev rfl) (S.ev rfl)) rfl rfl trivial ?_
        clear S; intro aa S
        refine OL.pure S (Lf.run_assign (S.ev rfl)) rfl rfl trivial ?_
        clear S; intro aa S
        refine OL.nil ?_
        exact ⟨((IntKind.i64.wrap (i5 + 1))), ⟨S.sub _ ⟨rfl, rfl, rfl, trivial⟩, H.1⟩, H.2⟩
    · replace H := H.2 hb_1
      refine W.exit_ ?_
      refine xhit ?_
      refine W.seq ?_
      replace S := S.sub [] trivial
      refine W.region ?_
      refine OL.pure S (Lf.run_assign (S.ev rfl)) rfl rfl trivial ?_
      clear S; intro aa S
      refine OL.nil ?_
      refine W.ret ?_
      exact Ret.one S rfl rfl H

/-- chattel chattelref14.Succ -/
def L22 (code0 : Sv) (i1 : Int) (h : Heap) (R : Value → Heap → Prop) : Prop :=
  ixS code0 i1 fun q8 =>
  ∃ (y9 : Int) (y9_1 : Int) (y9_2 : Int) (y9_3 : Sv) (y9_4 : Int) (y9_5 : Sv) (y9_6 : Int) (y9_7 : Sv) (y9_8 : Bool) (y9_9 : ByteArray) (y9_10 : Int) (y9_11 : Sv) (y9_12 : Int) (y9_13 : Int) (y9_14 : Sv) (y9_15 : Int) (y9_16 : Int) (y9_17 : Int) (y9_18 : Int) (y9_19 : Int) (y9_20 : Int), cl h (q8.add ((i1 : Int).toNat * 21)) = some (Value.int .i64 y9) ∧ cl h ((q8.add ((i1 : Int).toNat * 21)).add 1) = some (Value.int .i64 y9_1) ∧ cl h ((q8.add ((i1 : Int).toNat * 21)).add 2) = some (Value.int .i64 y9_2) ∧ cl h ((q8.add ((i1 : Int).toNat * 21)).add 3) = some (Value.slice y9_3.a y9_3.n y9_3.c) ∧ cl h ((q8.add ((i1 : Int).toNat * 21)).add 4) = some (Value.int .i64 y9_4) ∧ cl h ((q8.add ((i1 : Int).toNat * 21)).add 5) = some (Value.slice y9_5.a y9_5.n y9_5.c) ∧ cl h ((q8.add ((i1 : Int).toNat * 21)).add 6) = some (Value.int .i64 y9_6) ∧ cl h ((q8.add ((i1 : Int).toNat * 21)).add 7) = some (Value.slice y9_7.a y9_7.n y9_7.c) ∧ cl h ((q8.add ((i1 : Int).toNat * 21)).add 8) = some (Value.bool y9_8) ∧ cl h ((q8.add ((i1 : Int).toNat * 21)).add 9) = some (Value.string y9_9) ∧ cl h ((q8.add ((i1 : Int).toNat * 21)).add 10) = some (Value.int .i64 y9_10) ∧ cl h ((q8.add ((i1 : Int).toNat * 21)).add 11) = some (Value.slice y9_11.a y9_11.n y9_11.c) ∧ cl h ((q8.add ((i1 : Int).toNat * 21)).add 12) = some (Value.int .i64 y9_12) ∧ cl h ((q8.add ((i1 : Int).toNat * 21)).add 13) = some (Value.int .i64 y9_13) ∧ cl h ((q8.add ((i1 : Int).toNat * 21)).add 14) = some (Value.slice y9_14.a y9_14.n y9_14.c) ∧ cl h ((q8.add ((i1 : Int).toNat * 21)).add 15) = some (Value.int .i64 y9_15) ∧ cl h ((q8.add ((i1 : Int).toNat * 21)).add 16) = some (Value.int .u64 y9_16) ∧ cl h ((q8.add ((i1 : Int).toNat * 21)).add 17) = some (Value.int .i64 y9_17) ∧ cl h ((q8.add ((i1 : Int).toNat * 21)).add 18) = some (Value.int .i64 y9_18) ∧ cl h ((q8.add ((i1 : Int).toNat * 21)).add 19) = some (Value.int .i64 y9_19) ∧ cl h ((q8.add ((i1 : Int).toNat * 21)).add 20) = some (Value.int .i64 y9_20) ∧
  new 61 #[Value.int .i64 0, Value.int .i64 0, Value.int .i64 0, Value.slice (⟨none, 0, 0⟩ : Sv).a (⟨none, 0, 0⟩ : Sv).n (⟨none, 0, 0⟩ : Sv).c, Value.int .i64 0, Value.slice (⟨none, 0, 0⟩ : Sv).a (⟨none, 0, 0⟩ : Sv).n (⟨none, 0, 0⟩ : Sv).c, Value.int .i64 0, Value.slice (⟨none, 0, 0⟩ : Sv).a (⟨none, 0, 0⟩ : Sv).n (⟨none, 0, 0⟩ : Sv).c, Value.bool false, Value.string (⟨#[]⟩ : ByteArray), Value.int .i64 0, Value.slice (⟨none, 0, 0⟩ : Sv).a (⟨none, 0, 0⟩ : Sv).n (⟨none, 0, 0⟩ : Sv).c, Value.int .i64 0, Value.int .i64 0, Value.slice (⟨none, 0, 0⟩ : Sv).a (⟨none, 0, 0⟩ : Sv).n (⟨none, 0, 0⟩ : Sv).c, Value.int .i64 0, Value.int .u64 0, Value.int .i64 0, Value.int .i64 0, Value.int .i64 0, Value.int .i64 0] h fun p5 h1 =>
  stoA h1 p5 [Value.int .i64 y9, Value.int .i64 y9_1, Value.int .i64 y9_2, Value.slice y9_3.a y9_3.n y9_3.c, Value.int .i64 y9_4, Value.slice y9_5.a y9_5.n y9_5.c, Value.int .i64 y9_6, Value.slice y9_7.a y9_7.n y9_7.c, Value.bool y9_8, Value.string y9_9, Value.int .i64 y9_10, Value.slice y9_11.a y9_11.n y9_11.c, Value.int .i64 y9_12, Value.int .i64 y9_13, Value.slice y9_14.a y9_14.n y9_14.c, Value.int .i64 y9_15, Value.int .u64 y9_16, Value.int .i64 y9_17, Value.int .i64 y9_18, Value.int .i64 y9_19, Value.int .i64 y9_20] fun h2 =>
  ldI .i64 h2 p5 fun x11 =>
  ∃ J : Bool → Prop, (orr (x11 == 4) (fun k =>
    ldI .i64 h2 p5 fun x15 =>
    ∃ J_1 : Bool → Prop, (andr (x15 == 5) (fun k_1 =>
      ldI .i64 h2 (p5.add 17) fun x19 =>
      ldI .i64 h2 (p5.add 18) fun x21 =>
      k_1 (x19 == x21)) J_1) ∧ ∀ x23, J_1 x23 →
    k x23) J) ∧ ∀ x24, J x24 →
  ifb x24 (
    ldI .i64 h2 (p5.add 17) fun x26 =>
    newS 3 #[Value.int .i64 x26] 1 h2 fun s27 h3 =>
    R (Value.slice s27.a s27.n s27.c) h3) (
    ldI .i64 h2 p5 fun x29 =>
    ifb (x29 == 5) (
      ldI .i64 h2 (p5.add 17) fun x32 =>
      ldI .i64 h2 (p5.add 18) fun x34 =>
      newS 3 #[Value.int .i64 x32, Value.int .i64 x34] 2 h2 fun s35 h4 =>
      R (Value.slice s35.a s35.n s35.c) h4) (
      ldI .i64 h2 p5 fun x37 =>
      ∃ J_2 : Bool → Prop, (orr (x37 == 6) (fun k_2 =>
        ldI .i64 h2 p5 fun x41 =>
        k_2 (x41 == 7)) J_2) ∧ ∀ x43, J_2 x43 →
      ifb x43 (
        R (Value.slice (⟨none, 0, 0⟩ : Sv).a (⟨none, 0, 0⟩ : Sv).n (⟨none, 0, 0⟩ : Sv).c) h2) (
        newS 3 #[Value.int .i64 (IntKind.i64.wrap (i1 + 1))] 1 h2 fun s46 h5 =>
        R (Value.slice s46.a s46.n s46.c) h5)))

set_option maxRecDepth 100000 in

theorem F22 {code0 i1 h : _} {R : Value → Heap → Prop} (H : L22 code0 i1 h R) : CallsH Try.prog 22 #[Value.slice code0.a code0.n code0.c, Value.int .i64 i1] h R := by
  refine CallsH.enter (n := 47) Try.func22 rfl rfl rfl rfl ?_
  intro w0 aa ww S
  unfold L22 at H
  refine W.seq ?_
  replace S := S.sub [(0, Value.slice code0.a code0.n code0.c), (1, Value.int .i64 i1)] ⟨rfl, rfl, trivial⟩
  refine W.region ?_
  refine OL.pure S (Lf.run_assign (S.ev rfl)) rfl rfl trivial ?_
  clear S; intro aa S
  refine OL.nil ?_
  refine W.seq ?_
  replace S := S.sub [(0, Value.slice code0.a code0.n code0.c), (1, Value.int .i64 i1)] ⟨rfl, rfl, trivial⟩
  refine W.region ?_
  refine OL.pure S (Lf.run_move (S.ev rfl)) rfl rfl trivial ?_
  clear S; intro aa S
  refine OL.pure S (Lf.run_move (S.ev rfl)) rfl rfl trivial ?_
  clear S; intro aa S
  obtain ⟨q8, e, e_1, e_2, H⟩ := H
  refine OL.pure S (Lf.run_ixs (S.ev rfl) (S.ev rfl) Try.underlying31 ti61 e e_1 e_2) rfl rfl trivial ?_
  clear S; intro aa S
  obtain ⟨y9, y9_1, y9_2, y9_3, y9_4, y9_5, y9_6, y9_7, y9_8, y9_9, y9_10, y9_11, y9_12, y9_13, y9_14, y9_15, y9_16, y9_17, y9_18, y9_19, y9_20, c_11, c_12, c_13, c_14, c_15, c_16, c_17, c_18, c_19, c_20, c_21, c_22, c_23, c_24, c_25, c_26, c_27, c_28, c_29, c_30, c_31, H⟩ := H
  refine OL.pure S (Lf.run_ldA (cs := [Value.int .i64 y9, Value.int .i64 y9_1, Value.int .i64 y9_2, Value.slice y9_3.a y9_3.n y9_3.c, Value.int .i64 y9_4, Value.slice y9_5.a y9_5.n y9_5.c, Value.int .i64 y9_6, Value.slice y9_7.a y9_7.n y9_7.c, Value.bool y9_8, Value.string y9_9, Value.int .i64 y9_10, Value.slice y9_11.a y9_11.n y9_11.c, Value.int .i64 y9_12, Value.int .i64 y9_13, Value.slice y9_14.a y9_14.n y9_14.c, Value.int .i64 y9_15, Value.int .u64 y9_16, Value.int .i64 y9_17, Value.int .i64 y9_18, Value.int .i64 y9_19, Value.int .i64 y9_20]) (S.ev rfl) ag61 ti61 (by rw [S.heap]; exact RowL.toRow ⟨c_11, c_12, c_13, c_14, c_15, c_16, c_17, c_18, c_19, c_20, c_21, c_22, c_23, c_24, c_25, c_26, c_27, c_28, c_29, c_30, c_31, trivial⟩)) rfl rfl trivial ?_
  clear S; intro aa S
  refine ol_alloc S H ti61 rfl rfl trivial ?_
  clear S H aa; intro p5 aa ww h1 H S
  refine ol_stoA S H rfl rfl ti61 trivial ?_
  clear S H aa; intro aa ww h2 H S
  refine OL.nil ?_
  refine W.seq ?_
  refine W.seq ?_
  replace S := S.sub [(1, Value.int .i64 i1), (5, Value.pointer (some p5))] ⟨rfl, rfl, trivial⟩
  refine W.region ?_
  refine OL.pure S (Lf.run_fa (S.ev rfl) fa61_0) rfl rfl trivial ?_
  clear S; intro aa S
  obtain ⟨x11, c_1, H⟩ := H
  refine OL.pure S (Lf.run_ld (S.ev rfl) fl3 (S.cl c_1)) rfl rfl trivial ?_
  clear S; intro aa S
  refine OL.pure S (Lf.run_eql (S.ev rfl) (S.ev rfl)) rfl rfl trivial ?_
  clear S; intro aa S
  refine OL.pure S (Lf.run_move (S.ev rfl)) rfl rfl trivial ?_
  clear S; intro aa S
  obtain ⟨J, H, HK⟩ := H
  refine OL.cutN 11 (fun aa ww => ∃ x24, St 47 ((24, Value.bool x24) :: [(1, Value.int .i64 i1), (5, Value.pointer (some p5)), (10, Value.pointer (some p5)), (11, Value.int .i64 x11), (12, Value.bool (x11 == 4)), (13, Value.bool (x11 == 4))]) h2 w0 aa ww ∧ J x24) ?_ ?_
  · rcases Bool.eq_false_or_eq_true (x11 == 4) with hb | hb
    · replace H := H.1 hb
      refine OL.not S rfl rfl (GNo.mk rfl rfl hb) ?_
      clear S; intro aa S
      refine OL.not S rfl rfl (GNo.mk rfl rfl hb) ?_
      clear S; intro aa S
      refine OL.not S rfl rfl (GNo.mk rfl rfl hb) ?_
      clear S; intro aa S
      refine OL.not S rfl rfl (GNo.mk rfl rfl hb) ?_
      clear S; intro aa S
      refine OL.not S rfl rfl (GNo.un rfl rfl) ?_
      clear S; intro aa S
      refine OL.not S rfl rfl (GNo.un rfl rfl) ?_
      clear S; intro aa S
      refine OL.not S rfl rfl (GNo.un rfl rfl) ?_
      clear S; intro aa S
      refine OL.not S rfl rfl (GNo.un rfl rfl) ?_
      clear S; intro aa S
      refine OL.not S rfl rfl (GNo.un rfl rfl) ?_
      clear S; intro aa S
      refine OL.not S rfl rfl (GNo.mk rfl rfl hb) ?_
      clear S; intro aa S
      refine OL.pure S (Lf.run_pickT (S.ev rfl) hb (S.ev rfl)) rfl rfl trivial ?_
      clear S; intro aa S
      refine OL.nil ?_
      exact ⟨_, S.sub _ ⟨rfl, rfl, rfl, rfl, rfl, rfl, rfl, trivial⟩, H⟩
    · replace H := H.2 hb
      refine OL.pure S (Lf.run_fa (S.ev rfl) fa61_0) rfl rfl (GOk.mk rfl rfl hb) ?_
      clear S; intro aa S
      obtain ⟨x15, c_2, H⟩ := H
      refine OL.pure S (Lf.run_ld (S.ev rfl) fl3 (S.cl c_2)) rfl rfl (GOk.mk rfl rfl hb) ?_
      clear S; intro aa S
      refine OL.pure S (Lf.run_eql (S.ev rfl) (S.ev rfl)) rfl rfl (GOk.mk rfl rfl hb) ?_
      clear S; intro aa S
      refine OL.pure S (Lf.run_move (S.ev rfl)) rfl rfl (GOk.mk rfl rfl hb) ?_
      clear S; intro aa S
      obtain ⟨J_1, H, HK_1⟩ := H
      refine OL.cutN 6 (fun aa ww => ∃ x23, St 47 ((23, Value.bool x23) :: [(1, Value.int .i64 i1), (5, Value.pointer (some p5)), (10, Value.pointer (some p5)), (11, Value.int .i64 x11), (12, Value.bool (x11 == 4)), (13, Value.bool (x11 == 4)), (14, Value.pointer (some p5)), (15, Value.int .i64 x15), (16, Value.bool (x15 == 5)), (17, Value.bool (x15 == 5))]) h2 w0 aa ww ∧ J_1 x23) ?_ ?_
      · rcases Bool.eq_false_or_eq_true (x15 == 5) with hb_1 | hb_1
        · replace H := H.1 hb_1
          refine OL.pure S (Lf.run_fa (S.ev rfl) fa61_5) rfl rfl (GOk.mk rfl rfl hb_1) ?_
          clear S; intro aa S
          obtain ⟨x19, c_3, H⟩ := H
          refine OL.pure S (Lf.run_ld (S.ev rfl) fl3 (S.cl c_3)) rfl rfl (GOk.mk rfl rfl hb_1) ?_
          clear S; intro aa S
          refine OL.pure S (Lf.run_fa (S.ev rfl) fa61_6) rfl rfl (GOk.mk rfl rfl hb_1) ?_
          clear S; intro aa S
          obtain ⟨x21, c_4, H⟩ := H
          refine OL.pure S (Lf.run_ld (S.ev rfl) fl3 (S.cl c_4)) rfl rfl (GOk.mk rfl rfl hb_1) ?_
          clear S; intro aa S
          refine OL.pure S (Lf.run_eql (S.ev rfl) (S.ev rfl)) rfl rfl (GOk.mk rfl rfl hb_1) ?_
          clear S; intro aa S
          refine OL.pure S (Lf.run_pickT (S.ev rfl) hb_1 (S.ev rfl)) rfl rfl (GOk.mk rfl rfl hb) ?_
          clear S; intro aa S
          refine OL.nil ?_
          exact ⟨_, S.sub _ ⟨rfl, rfl, rfl, rfl, rfl, rfl, rfl, rfl, rfl, rfl, rfl, trivial⟩, H⟩
        · replace H := H.2 hb_1
          refine OL.not S rfl rfl (GNo.mk rfl rfl hb_1) ?_
          clear S; intro aa S
          refine OL.not S rfl rfl (GNo.mk rfl rfl hb_1) ?_
          clear S; intro aa S
          refine OL.not S rfl rfl (GNo.mk rfl rfl hb_1) ?_
          clear S; intro aa S
          refine OL.not S rfl rfl (GNo.mk rfl rfl hb_1) ?_
          clear S; intro aa S
          refine OL.not S rfl rfl (GNo.mk rfl rfl hb_1) ?_
          clear S; intro aa S
          refine OL.pure S (Lf.run_pickF (S.ev rfl) hb_1 (S.ev rfl)) rfl rfl (GOk.mk rfl rfl hb) ?_
          clear S; intro aa S
          refine OL.nil ?_
          exact ⟨_, S.sub _ ⟨rfl, rfl, rfl, rfl, rfl, rfl, rfl, rfl, rfl, rfl, rfl, trivial⟩, H⟩
      · clear S aa
        rintro aa ww ⟨x23, S, HJ⟩
        replace H := HK_1 _ HJ
        clear HK_1 HJ
        refine OL.pure S (Lf.run_pickF (S.ev rfl) hb (S.ev rfl)) rfl rfl trivial ?_
        clear S; intro aa S
        refine OL.nil ?_
        exact ⟨_, S.sub _ ⟨rfl, rfl, rfl, rfl, rfl, rfl, rfl, trivial⟩, H⟩
  · clear S aa
    rintro aa ww ⟨x24, S, HJ⟩
    replace H := HK _ HJ
    clear HK HJ
    refine OL.nil ?_
    refine W.cond S (b := x24) rfl (fun hb_2 => ?_) (fun hb_2 => ?_)
    · replace H := H.1 hb_2
      refine W.seq ?_
      replace S := S.sub [(5, Value.pointer (some p5))] ⟨rfl, trivial⟩
      refine W.region ?_
      refine OL.pure S (Lf.run_fa (S.ev rfl) fa61_5) rfl rfl trivial ?_
      clear S; intro aa S
      obtain ⟨x26, c_5, H⟩ := H
      refine OL.pure S (Lf.run_ld (S.ev rfl) fl3 (S.cl c_5)) rfl rfl trivial ?_
      clear S; intro aa S
      refine ol_newS S H Try.underlying22 ti3 (by decide) (parts_map S rfl) (by kernel_rfl) (by decide) rfl trivial ?_
      clear S H aa; intro s27 aa ww h3 H S
      refine OL.pure S (Lf.run_assign (S.ev rfl)) rfl rfl trivial ?_
      clear S; intro aa S
      refine OL.nil ?_
      refine W.ret ?_
      exact Ret.one S rfl rfl H
    · replace H := H.2 hb_2
      refine W.skip ?_
      refine W.seq ?_
      refine W.seq ?_
      replace S := S.sub [(1, Value.int .i64 i1), (5, Value.pointer (some p5))] ⟨rfl, rfl, trivial⟩
      refine W.region ?_
      refine OL.pure S (Lf.run_fa (S.ev rfl) fa61_0) rfl rfl trivial ?_
      clear S; intro aa S
      obtain ⟨x29, c_6, H⟩ := H
      refine OL.pure S (Lf.run_ld (S.ev rfl) fl3 (S.cl c_6)) rfl rfl trivial ?_
      clear S; intro aa S
      refine OL.pure S (Lf.run_eql (S.ev rfl) (S.ev rfl)) rfl rfl trivial ?_
      clear S; intro aa S
      refine OL.nil ?_
      refine W.cond S (b := (x29 == 5)) rfl (fun hb_3 => ?_) (fun hb_3 => ?_)
      · replace H := H.1 hb_3
        refine W.seq ?_
        replace S := S.sub [(5, Value.pointer (some p5))] ⟨rfl, trivial⟩
        refine W.region ?_
        refine OL.pure S (Lf.run_fa (S.ev rfl) fa61_5) rfl rfl trivial ?_
        clear S; intro aa S
        obtain ⟨x32, c_7, H⟩ := H
        refine OL.pure S (Lf.run_ld (S.ev rfl) fl3 (S.cl c_7)) rfl rfl trivial ?_
        clear S; intro aa S
        refine OL.pure S (Lf.run_fa (S.ev rfl) fa61_6) rfl rfl trivial ?_
        clear S; intro aa S
        obtain ⟨x34, c_8, H⟩ := H
        refine OL.pure S (Lf.run_ld (S.ev rfl) fl3 (S.cl c_8)) rfl rfl trivial ?_
        clear S; intro aa S
        refine ol_newS S H Try.underlying22 ti3 (by decide) (parts_map S rfl) (by kernel_rfl) (by decide) rfl trivial ?_
        clear S H aa; intro s35 aa ww h4 H S
        refine OL.pure S (Lf.run_assign (S.ev rfl)) rfl rfl trivial ?_
        clear S; intro aa S
        refine OL.nil ?_
        refine W.ret ?_
        exact Ret.one S rfl rfl H
      · replace H := H.2 hb_3
        refine W.skip ?_
        refine W.seq ?_
        refine W.seq ?_
        replace S := S.sub [(1, Value.int .i64 i1), (5, Value.pointer (some p5))] ⟨rfl, rfl, trivial⟩
        refine W.region ?_
        refine OL.pure S (Lf.run_fa (S.ev rfl) fa61_0) rfl rfl trivial ?_
        clear S; intro aa S
        obtain ⟨x37, c_9, H⟩ := H
        refine OL.pure S (Lf.run_ld (S.ev rfl) fl3 (S.cl c_9)) rfl rfl trivial ?_
        clear S; intro aa S
        refine OL.pure S (Lf.run_eql (S.ev rfl) (S.ev rfl)) rfl rfl trivial ?_
        clear S; intro aa S
        refine OL.pure S (Lf.run_move (S.ev rfl)) rfl rfl trivial ?_
        clear S; intro aa S
        obtain ⟨J_2, H, HK_2⟩ := H
        refine OL.cutN 4 (fun aa ww => ∃ x43, St 47 ((43, Value.bool x43) :: [(1, Value.int .i64 i1), (5, Value.pointer (some p5)), (36, Value.pointer (some p5)), (37, Value.int .i64 x37), (38, Value.bool (x37 == 6)), (39, Value.bool (x37 == 6))]) h2 w0 aa ww ∧ J_2 x43) ?_ ?_
        · rcases Bool.eq_false_or_eq_true (x37 == 6) with hb_4 | hb_4
          · replace H := H.1 hb_4
            refine OL.not S rfl rfl (GNo.mk rfl rfl hb_4) ?_
            clear S; intro aa S
            refine OL.not S rfl rfl (GNo.mk rfl rfl hb_4) ?_
            clear S; intro aa S
            refine OL.not S rfl rfl (GNo.mk rfl rfl hb_4) ?_
            clear S; intro aa S
            refine OL.pure S (Lf.run_pickT (S.ev rfl) hb_4 (S.ev rfl)) rfl rfl trivial ?_
            clear S; intro aa S
            refine OL.nil ?_
            exact ⟨_, S.sub _ ⟨rfl, rfl, rfl, rfl, rfl, rfl, rfl, trivial⟩, H⟩
          · replace H := H.2 hb_4
            refine OL.pure S (Lf.run_fa (S.ev rfl) fa61_0) rfl rfl (GOk.mk rfl rfl hb_4) ?_
            clear S; intro aa S
            obtain ⟨x41, c_10, H⟩ := H
            refine OL.pure S (Lf.run_ld (S.ev rfl) fl3 (S.cl c_10)) rfl rfl (GOk.mk rfl rfl hb_4) ?_
            clear S; intro aa S
            refine OL.pure S (Lf.run_eql (S.ev rfl) (S.ev rfl)) rfl rfl (GOk.mk rfl rfl hb_4) ?_
            clear S; intro aa S
            refine OL.pure S (Lf.run_pickF (S.ev rfl) hb_4 (S.ev rfl)) rfl rfl trivial ?_
            clear S; intro aa S
            refine OL.nil ?_
            exact ⟨_, S.sub _ ⟨rfl, rfl, rfl, rfl, rfl, rfl, rfl, trivial⟩, H⟩
        · clear S aa
          rintro aa ww ⟨x43, S, HJ⟩
          replace H := HK_2 _ HJ
          clear HK_2 HJ
          refine OL.nil ?_
          refine W.cond S (b := x43) rfl (fun hb_5 => ?_) (fun hb_5 => ?_)
          · replace H := H.1 hb_5
            refine W.seq ?_
            replace S := S.sub [] trivial
            refine W.region ?_
            refine OL.pure S (Lf.run_assign (S.ev rfl)) rfl rfl trivial ?_
            clear S; intro aa S
            refine OL.nil ?_
            refine W.ret ?_
            exact Ret.one S rfl rfl H
          · replace H := H.2 hb_5
            refine W.skip ?_
            refine W.seq ?_
            replace S := S.sub [(1, Value.int .i64 i1)] ⟨rfl, trivial⟩
            refine W.region ?_
            refine OL.pure S (Lf.run_move (S.ev rfl)) rfl rfl trivial ?_
            clear S; intro aa S
            refine OL.pure S (Lf.run_add (S.ev rfl) (S.ev rfl)) rfl rfl trivial ?_
            clear S; intro aa S
            refine ol_newS S H Try.underlying22 ti3 (by decide) (parts_map S rfl) (by kernel_rfl) (by decide) rfl trivial ?_
            clear S H aa; intro s46 aa ww h5 H S
            refine OL.pure S (Lf.run_assign (S.ev rfl)) rfl rfl trivial ?_
            clear S; intro aa S
            refine OL.nil ?_
            refine W.ret ?_
            exact Ret.one S rfl rfl H

/-- chattel mir.instr -/
def L23 (b0 : Option Addr) (x1 : Int) (x1_1 : Int) (x1_2 : Int) (x1_3 : Sv) (x1_4 : Int) (x1_5 : Sv) (x1_6 : Int) (x1_7 : Sv) (x1_8 : Bool) (x1_9 : ByteArray) (x1_10 : Int) (x1_11 : Sv) (x1_12 : Int) (x1_13 : Int) (x1_14 : Sv) (x1_15 : Int) (x1_16 : Int) (x1_17 : Int) (x1_18 : Int) (x1_19 : Int) (x1_20 : Int) (h : Heap) (R : Value → Heap → Prop) : Prop :=
  new 61 #[Value.int .i64 x1, Value.int .i64 x1_1, Value.int .i64 x1_2, Value.slice x1_3.a x1_3.n x1_3.c, Value.int .i64 x1_4, Value.slice x1_5.a x1_5.n x1_5.c, Value.int .i64 x1_6, Value.slice x1_7.a x1_7.n x1_7.c, Value.bool x1_8, Value.string x1_9, Value.int .i64 x1_10, Value.slice x1_11.a x1_11.n x1_11.c, Value.int .i64 x1_12, Value.int .i64 x1_13, Value.slice x1_14.a x1_14.n x1_14.c, Value.int .i64 x1_15, Value.int .u64 x1_16, Value.int .i64 x1_17, Value.int .i64 x1_18, Value.int .i64 x1_19, Value.int .i64 x1_20] h fun p3 h1 =>
  ldI .i64 h1 p3 fun x6 =>
  ∃ J : Bool → Prop, (
    ifb (x6 == 1) (
      J (x6 == 1)) (
      J (x6 == 2))) ∧ (∀ x7, J x7 →
  ifb x7 (
    ldI .i64 h1 (p3.add 1) fun x12 =>
    cal Try.prog 33 #[Value.pointer b0, Value.int .i64 x12] h1 fun u h2 => asB u fun x13 =>
    R (Value.bool x13) h2) (
    ifb (x6 == 3) (
      ∃ (y18 : Int) (y18_1 : Sv), cl h1 (p3.add 2) = some (Value.int .i64 y18) ∧ cl h1 ((p3.add 2).add 1) = some (Value.slice y18_1.a y18_1.n y18_1.c) ∧
      cal Try.prog 34 #[Value.pointer b0, Value.agg #[Value.int .i64 y18, Value.slice y18_1.a y18_1.n y18_1.c]] h1 fun u_1 h3 => asB u_1 fun x19 =>
      ∃ J_1 : Bool → Heap → Prop, (andj x19 (fun k =>
        ∃ (y23 : Int) (y23_1 : Sv) (y23_2 : Int) (y23_3 : Sv) (y23_4 : Bool) (y23_5 : ByteArray) (y23_6 : Int) (y23_7 : Sv), cl h3 (p3.add 4) = some (Value.int .i64 y23) ∧ cl h3 ((p3.add 4).add 1) = some (Value.slice y23_1.a y23_1.n y23_1.c) ∧ cl h3 ((p3.add 4).add 2) = some (Value.int .i64 y23_2) ∧ cl h3 ((p3.add 4).add 3) = some (Value.slice y23_3.a y23_3.n y23_3.c) ∧ cl h3 ((p3.add 4).add 4) = some (Value.bool y23_4) ∧ cl h3 ((p3.add 4).add 5) = some (Value.string y23_5) ∧ cl h3 ((p3.add 4).add 6) = some (Value.int .i64 y23_6) ∧ cl h3 ((p3.add 4).add 7) = some (Value.slice y23_7.a y23_7.n y23_7.c) ∧
        cal Try.prog 35 #[Value.pointer b0, Value.agg #[Value.int .i64 y23, Value.slice y23_1.a y23_1.n y23_1.c, Value.int .i64 y23_2, Value.slice y23_3.a y23_3.n y23_3.c, Value.bool y23_4, Value.string y23_5, Value.int .i64 y23_6, Value.slice y23_7.a y23_7.n y23_7.c]] h3 fun u_2 h5 => asB u_2 fun x24 =>
        k x24 h5) h3 J_1) ∧ ∀ x25 h4, J_1 x25 h4 →
      R (Value.bool x25) h4) (
      ifb (x6 == 5) (
        ∃ (y30 : Int) (y30_1 : Int) (y30_2 : Sv) (y30_3 : Int) (y30_4 : Int), cl h1 (p3.add 12) = some (Value.int .i64 y30) ∧ cl h1 ((p3.add 12).add 1) = some (Value.int .i64 y30_1) ∧ cl h1 ((p3.add 12).add 2) = some (Value.slice y30_2.a y30_2.n y30_2.c) ∧ cl h1 ((p3.add 12).add 3) = some (Value.int .i64 y30_3) ∧ cl h1 ((p3.add 12).add 4) = some (Value.int .u64 y30_4) ∧
        cal Try.prog 36 #[Value.pointer b0, Value.agg #[Value.int .i64 y30, Value.int .i64 y30_1, Value.slice y30_2.a y30_2.n y30_2.c, Value.int .i64 y30_3, Value.int .u64 y30_4]] h1 fun u_3 h6 => asB u_3 fun x31 =>
        R (Value.bool x31) h6) (
        ldI .i64 h1 p3 fun x33 =>
        ∃ J_2 : Bool → Prop, (andr (decide (1 ≤ x33)) (fun k_1 =>
          ldI .i64 h1 p3 fun x37 =>
          k_1 (decide (x37 ≤ 7))) J_2) ∧ ∀ x39, J_2 x39 →
        R (Value.bool x39) h1))))

set_option maxRecDepth 100000 in

theorem F23 {b0 x1 x1_1 x1_2 x1_3 x1_4 x1_5 x1_6 x1_7 x1_8 x1_9 x1_10 x1_11 x1_12 x1_13 x1_14 x1_15 x1_16 x1_17 x1_18 x1_19 x1_20 h : _} {R : Value → Heap → Prop} (H : L23 b0 x1 x1_1 x1_2 x1_3 x1_4 x1_5 x1_6 x1_7 x1_8 x1_9 x1_10 x1_11 x1_12 x1_13 x1_14 x1_15 x1_16 x1_17 x1_18 x1_19 x1_20 h R) : CallsH Try.prog 23 #[Value.pointer b0, Value.agg #[Value.int .i64 x1, Value.int .i64 x1_1, Value.int .i64 x1_2, Value.slice x1_3.a x1_3.n x1_3.c, Value.int .i64 x1_4, Value.slice x1_5.a x1_5.n x1_5.c, Value.int .i64 x1_6, Value.slice x1_7.a x1_7.n x1_7.c, Value.bool x1_8, Value.string x1_9, Value.int .i64 x1_10, Value.slice x1_11.a x1_11.n x1_11.c, Value.int .i64 x1_12, Value.int .i64 x1_13, Value.slice x1_14.a x1_14.n x1_14.c, Value.int .i64 x1_15, Value.int .u64 x1_16, Value.int .i64 x1_17, Value.int .i64 x1_18, Value.int .i64 x1_19, Value.int .i64 x1_20]] h R := by
  refine CallsH.enter (n := 40) Try.func23 rfl rfl rfl rfl ?_
  intro w0 aa ww S
  unfold L23 at H
  refine W.seq ?_
  replace S := S.sub [(0, Value.pointer b0), (1, Value.agg #[Value.int .i64 x1, Value.int .i64 x1_1, Value.int .i64 x1_2, Value.slice x1_3.a x1_3.n x1_3.c, Value.int .i64 x1_4, Value.slice x1_5.a x1_5.n x1_5.c, Value.int .i64 x1_6, Value.slice x1_7.a x1_7.n x1_7.c, Value.bool x1_8, Value.string x1_9, Value.int .i64 x1_10, Value.slice x1_11.a x1_11.n x1_11.c, Value.int .i64 x1_12, Value.int .i64 x1_13, Value.slice x1_14.a x1_14.n x1_14.c, Value.int .i64 x1_15, Value.int .u64 x1_16, Value.int .i64 x1_17, Value.int .i64 x1_18, Value.int .i64 x1_19, Value.int .i64 x1_20])] ⟨rfl, rfl, trivial⟩
  refine W.region ?_
  refine ol_box S H rfl rfl rfl trivial ?_
  clear S H aa; intro p3 aa ww h1 H S
  refine OL.pure S (Lf.run_assign (S.ev rfl)) rfl rfl trivial ?_
  clear S; intro aa S
  refine OL.nil ?_
  refine W.seq ?_
  refine W.seq ?_
  replace S := S.sub [(0, Value.pointer b0), (3, Value.pointer (some p3))] ⟨rfl, rfl, trivial⟩
  refine W.region ?_
  refine OL.pure S (Lf.run_fa (S.ev rfl) fa61_0) rfl rfl trivial ?_
  clear S; intro aa S
  obtain ⟨x6, c, H⟩ := H
  refine OL.pure S (Lf.run_ld (S.ev rfl) fl3 (S.cl c)) rfl rfl trivial ?_
  clear S; intro aa S
  refine OL.nil ?_
  refine W.block ?_
  obtain ⟨J, H, HK⟩ := H
  refine W.seqJ (fun aa ww => ∃ x7, St 40 [(0, Value.pointer b0), (3, Value.pointer (some p3)), (6, Value.int .i64 x6), (7, Value.bool x7)] h1 w0 aa ww ∧ J x7) ?_ ?_
  · clear HK
    refine W.seq ?_
    replace S := S.sub [(0, Value.pointer b0), (3, Value.pointer (some p3)), (6, Value.int .i64 x6)] ⟨rfl, rfl, rfl, trivial⟩
    refine W.region ?_
    refine OL.pure S (Lf.run_eql (S.ev rfl) (S.ev rfl)) rfl rfl trivial ?_
    clear S; intro aa S
    refine OL.pure S (Lf.run_assign (S.ev rfl)) rfl rfl trivial ?_
    clear S; intro aa S
    refine OL.nil ?_
    refine W.cond S (b := (x6 == 1)) rfl (fun hb => ?_) (fun hb => ?_)
    · replace H := H.1 hb
      refine W.skip ?_
      exact ⟨(x6 == 1), S.sub _ ⟨rfl, rfl, rfl, rfl, trivial⟩, H⟩
    · replace H := H.2 hb
      replace S := S.sub [(0, Value.pointer b0), (3, Value.pointer (some p3)), (6, Value.int .i64 x6)] ⟨rfl, rfl, rfl, trivial⟩
      refine W.region ?_
      refine OL.pure S (Lf.run_eql (S.ev rfl) (S.ev rfl)) rfl rfl trivial ?_
      clear S; intro aa S
      refine OL.pure S (Lf.run_assign (S.ev rfl)) rfl rfl trivial ?_
      clear S; intro aa S
      refine OL.nil ?_
      exact ⟨(x6 == 2), S.sub _ ⟨rfl, rfl, rfl, rfl, trivial⟩, H⟩
  · clear H S aa
    rintro aa ww ⟨x7, S, HJ⟩
    have H := HK _ HJ
    clear HK HJ
    refine W.cond S (b := x7) rfl (fun hb_1 => ?_) (fun hb_1 => ?_)
    · replace H := H.1 hb_1
      refine W.seq ?_
      replace S := S.sub [(0, Value.pointer b0), (3, Value.pointer (some p3))] ⟨rfl, rfl, trivial⟩
      refine W.region ?_
      refine OL.pure S (Lf.run_move (S.ev rfl)) rfl rfl trivial ?_
      clear S; intro aa S
      refine OL.pure S (Lf.run_fa (S.ev rfl) fa61_1) rfl rfl trivial ?_
      clear S; intro aa S
      obtain ⟨x12, c_1, H⟩ := H
      refine OL.pure S (Lf.run_ld (S.ev rfl) fl3 (S.cl c_1)) rfl rfl trivial ?_
      clear S; intro aa S
      refine ol_cal S H isfn33 rfl rfl trivial ?_
      clear S H aa; intro u aa ww h2 H S
      obtain ⟨x13, rfl, H⟩ := H
      refine OL.pure S (Lf.run_assign (S.ev rfl)) rfl rfl trivial ?_
      clear S; intro aa S
      refine OL.nil ?_
      refine W.ret ?_
      exact Ret.one S rfl rfl H
    · replace H := H.2 hb_1
      refine W.seq ?_
      replace S := S.sub [(0, Value.pointer b0), (3, Value.pointer (some p3)), (6, Value.int .i64 x6)] ⟨rfl, rfl, rfl, trivial⟩
      refine W.region ?_
      refine OL.pure S (Lf.run_eql (S.ev rfl) (S.ev rfl)) rfl rfl trivial ?_
      clear S; intro aa S
      refine OL.pure S (Lf.run_assign (S.ev rfl)) rfl rfl trivial ?_
      clear S; intro aa S
      refine OL.nil ?_
      refine W.cond S (b := (x6 == 3)) rfl (fun hb_2 => ?_) (fun hb_2 => ?_)
      · replace H := H.1 hb_2
        refine W.seq ?_
        replace S := S.sub [(0, Value.pointer b0), (3, Value.pointer (some p3))] ⟨rfl, rfl, trivial⟩
        refine W.region ?_
        refine OL.pure S (Lf.run_move (S.ev rfl)) rfl rfl trivial ?_
        clear S; intro aa S
        refine OL.pure S (Lf.run_fa (S.ev rfl) fa61_2) rfl rfl trivial ?_
        clear S; intro aa S
        obtain ⟨y18, y18_1, c_12, c_13, H⟩ := H
        refine OL.pure S (Lf.run_ldA (cs := [Value.int .i64 y18, Value.slice y18_1.a y18_1.n y18_1.c]) (S.ev rfl) ag24 ti24 (by rw [S.heap]; exact RowL.toRow ⟨c_12, c_13, trivial⟩)) rfl rfl trivial ?_
        clear S; intro aa S
        refine ol_cal S H isfn34 rfl rfl trivial ?_
        clear S H aa; intro u_1 aa ww h3 H S
        obtain ⟨x19, rfl, H⟩ := H
        refine OL.pure S (Lf.run_move (S.ev rfl)) rfl rfl trivial ?_
        clear S; intro aa S
        obtain ⟨J_1, H, HK_1⟩ := H
        refine OL.cutN 5 (fun aa ww => ∃ x25 h4, St 40 ((25, Value.bool x25) :: [(0, Value.pointer b0), (3, Value.pointer (some p3)), (16, Value.pointer b0), (17, Value.pointer (some (p3.add 2))), (18, Value.agg #[Value.int .i64 y18, Value.slice y18_1.a y18_1.n y18_1.c]), (19, Value.bool x19), (20, Value.bool x19)]) h4 w0 aa ww ∧ J_1 x25 h4) ?_ ?_
        · rcases Bool.eq_false_or_eq_true x19 with hb_3 | hb_3
          · replace H := H.1 hb_3
            refine OL.pure S (Lf.run_move (S.ev rfl)) rfl rfl (GOk.mk rfl rfl hb_3) ?_
            clear S; intro aa S
            refine OL.pure S (Lf.run_fa (S.ev rfl) fa61_3) rfl rfl (GOk.mk rfl rfl hb_3) ?_
            clear S; intro aa S
            obtain ⟨y23, y23_1, y23_2, y23_3, y23_4, y23_5, y23_6, y23_7, c_4, c_5, c_6, c_7, c_8, c_9, c_10, c_11, H⟩ := H
            refine OL.pure S (Lf.run_ldA (cs := [Value.int .i64 y23, Value.slice y23_1.a y23_1.n y23_1.c, Value.int .i64 y23_2, Value.slice y23_3.a y23_3.n y23_3.c, Value.bool y23_4, Value.string y23_5, Value.int .i64 y23_6, Value.slice y23_7.a y23_7.n y23_7.c]) (S.ev rfl) ag56 ti56 (by rw [S.heap]; exact RowL.toRow ⟨c_4, c_5, c_6, c_7, c_8, c_9, c_10, c_11, trivial⟩)) rfl rfl (GOk.mk rfl rfl hb_3) ?_
            clear S; intro aa S
            refine ol_cal S H isfn35 rfl rfl (GOk.mk rfl rfl hb_3) ?_
            clear S H aa; intro u_2 aa ww h5 H S
            obtain ⟨x24, rfl, H⟩ := H
            refine OL.pure S (Lf.run_pickT (S.ev rfl) hb_3 (S.ev rfl)) rfl rfl trivial ?_
            clear S; intro aa S
            refine OL.nil ?_
            exact ⟨_, _, S.sub _ ⟨rfl, rfl, rfl, rfl, rfl, rfl, rfl, rfl, trivial⟩, H⟩
          · replace H := H.2 hb_3
            refine OL.not S rfl rfl (GNo.mk rfl rfl hb_3) ?_
            clear S; intro aa S
            refine OL.not S rfl rfl (GNo.mk rfl rfl hb_3) ?_
            clear S; intro aa S
            refine OL.not S rfl rfl (GNo.mk rfl rfl hb_3) ?_
            clear S; intro aa S
            refine OL.not S rfl rfl (GNo.mk rfl rfl hb_3) ?_
            clear S; intro aa S
            refine OL.pure S (Lf.run_pickF (S.ev rfl) hb_3 (S.ev rfl)) rfl rfl trivial ?_
            clear S; intro aa S
            refine OL.nil ?_
            exact ⟨_, _, S.sub _ ⟨rfl, rfl, rfl, rfl, rfl, rfl, rfl, rfl, trivial⟩, H⟩
        · clear S aa
          rintro aa ww ⟨x25, h4, S, HJ⟩
          replace H := HK_1 _ _ HJ
          clear HK_1 HJ
          refine OL.pure S (Lf.run_assign (S.ev rfl)) rfl rfl trivial ?_
          clear S; intro aa S
          refine OL.nil ?_
          refine W.ret ?_
          exact Ret.one S rfl rfl H
      · replace H := H.2 hb_2
        refine W.seq ?_
        replace S := S.sub [(0, Value.pointer b0), (3, Value.pointer (some p3)), (6, Value.int .i64 x6)] ⟨rfl, rfl, rfl, trivial⟩
        refine W.region ?_
        refine OL.pure S (Lf.run_eql (S.ev rfl) (S.ev rfl)) rfl rfl trivial ?_
        clear S; intro aa S
        refine OL.pure S (Lf.run_assign (S.ev rfl)) rfl rfl trivial ?_
        clear S; intro aa S
        refine OL.nil ?_
        refine W.cond S (b := (x6 == 5)) rfl (fun hb_4 => ?_) (fun hb_4 => ?_)
        · replace H := H.1 hb_4
          refine W.seq ?_
          replace S := S.sub [(0, Value.pointer b0), (3, Value.pointer (some p3))] ⟨rfl, rfl, trivial⟩
          refine W.region ?_
          refine OL.pure S (Lf.run_move (S.ev rfl)) rfl rfl trivial ?_
          clear S; intro aa S
          refine OL.pure S (Lf.run_fa (S.ev rfl) fa61_4) rfl rfl trivial ?_
          clear S; intro aa S
          obtain ⟨y30, y30_1, y30_2, y30_3, y30_4, c_15, c_16, c_17, c_18, c_19, H⟩ := H
          refine OL.pure S (Lf.run_ldA (cs := [Value.int .i64 y30, Value.int .i64 y30_1, Value.slice y30_2.a y30_2.n y30_2.c, Value.int .i64 y30_3, Value.int .u64 y30_4]) (S.ev rfl) ag59 ti59 (by rw [S.heap]; exact RowL.toRow ⟨c_15, c_16, c_17, c_18, c_19, trivial⟩)) rfl rfl trivial ?_
          clear S; intro aa S
          refine ol_cal S H isfn36 rfl rfl trivial ?_
          clear S H aa; intro u_3 aa ww h6 H S
          obtain ⟨x31, rfl, H⟩ := H
          refine OL.pure S (Lf.run_assign (S.ev rfl)) rfl rfl trivial ?_
          clear S; intro aa S
          refine OL.nil ?_
          refine W.ret ?_
          exact Ret.one S rfl rfl H
        · replace H := H.2 hb_4
          refine W.skip ?_
          refine W.seq ?_
          replace S := S.sub [(3, Value.pointer (some p3))] ⟨rfl, trivial⟩
          refine W.region ?_
          refine OL.pure S (Lf.run_fa (S.ev rfl) fa61_0) rfl rfl trivial ?_
          clear S; intro aa S
          obtain ⟨x33, c_20, H⟩ := H
          refine OL.pure S (Lf.run_ld (S.ev rfl) fl3 (S.cl c_20)) rfl rfl trivial ?_
          clear S; intro aa S
          refine OL.pure S (Lf.run_geq (S.ev rfl) (S.ev rfl)) rfl rfl trivial ?_
          clear S; intro aa S
          refine OL.pure S (Lf.run_move (S.ev rfl)) rfl rfl trivial ?_
          clear S; intro aa S
          obtain ⟨J_2, H, HK_2⟩ := H
          refine OL.cutN 4 (fun aa ww => ∃ x39, St 40 ((39, Value.bool x39) :: [(3, Value.pointer (some p3)), (32, Value.pointer (some p3)), (33, Value.int .i64 x33), (34, Value.bool (decide (1 ≤ x33))), (35, Value.bool (decide (1 ≤ x33)))]) h1 w0 aa ww ∧ J_2 x39) ?_ ?_
          · rcases Bool.eq_false_or_eq_true (decide (1 ≤ x33)) with hb_5 | hb_5
            · replace H := H.1 hb_5
              refine OL.pure S (Lf.run_fa (S.ev rfl) fa61_0) rfl rfl (GOk.mk rfl rfl hb_5) ?_
              clear S; intro aa S
              obtain ⟨x37, c_21, H⟩ := H
              refine OL.pure S (Lf.run_ld (S.ev rfl) fl3 (S.cl c_21)) rfl rfl (GOk.mk rfl rfl hb_5) ?_
              clear S; intro aa S
              refine OL.pure S (Lf.run_leq (S.ev rfl) (S.ev rfl)) rfl rfl (GOk.mk rfl rfl hb_5) ?_
              clear S; intro aa S
              refine OL.pure S (Lf.run_pickT (S.ev rfl) hb_5 (S.ev rfl)) rfl rfl trivial ?_
              clear S; intro aa S
              refine OL.nil ?_
              exact ⟨_, S.sub _ ⟨rfl, rfl, rfl, rfl, rfl, rfl, trivial⟩, H⟩
            · replace H := H.2 hb_5
              refine OL.not S rfl rfl (GNo.mk rfl rfl hb_5) ?_
              clear S; intro aa S
              refine OL.not S rfl rfl (GNo.mk rfl rfl hb_5) ?_
              clear S; intro aa S
              refine OL.not S rfl rfl (GNo.mk rfl rfl hb_5) ?_
              clear S; intro aa S
              refine OL.pure S (Lf.run_pickF (S.ev rfl) hb_5 (S.ev rfl)) rfl rfl trivial ?_
              clear S; intro aa S
              refine OL.nil ?_
              exact ⟨_, S.sub _ ⟨rfl, rfl, rfl, rfl, rfl, rfl, trivial⟩, H⟩
          · clear S aa
            rintro aa ww ⟨x39, S, HJ⟩
            replace H := HK_2 _ HJ
            clear HK_2 HJ
            refine OL.pure S (Lf.run_assign (S.ev rfl)) rfl rfl trivial ?_
            clear S; intro aa S
            refine OL.nil ?_
            refine W.ret ?_
            exact Ret.one S rfl rfl H

/-- slices.ContainsFunc[[]int,int] -/
def L24 (s0 : Sv) (f1 : Value) (h : Heap) (R : Value → Heap → Prop) : Prop :=
  cal Try.prog 37 #[Value.slice s0.a s0.n s0.c, f1] h fun u h1 => asI .i64 u fun x7 =>
  R (Value.bool (decide (0 ≤ x7))) h1

set_option maxRecDepth 100000 in

theorem F24 {s0 f1 h : _} {R : Value → Heap → Prop} (H : L24 s0 f1 h R) : CallsH Try.prog 24 #[Value.slice s0.a s0.n s0.c, f1] h R := by
  refine CallsH.enter (n := 9) Try.func24 rfl rfl rfl rfl ?_
  intro w0 aa ww S
  unfold L24 at H
  refine W.seq ?_
  replace S := S.sub [(0, Value.slice s0.a s0.n s0.c), (1, f1)] ⟨rfl, rfl, trivial⟩
  refine W.region ?_
  refine OL.pure S (Lf.run_assign (S.ev rfl)) rfl rfl trivial ?_
  clear S; intro aa S
  refine OL.nil ?_
  refine W.seq ?_
  replace S := S.sub [(0, Value.slice s0.a s0.n s0.c), (1, f1)] ⟨rfl, rfl, trivial⟩
  refine W.region ?_
  refine OL.pure S (Lf.run_move (S.ev rfl)) rfl rfl trivial ?_
  clear S; intro aa S
  refine OL.pure S (Lf.run_move (S.ev rfl)) rfl rfl trivial ?_
  clear S; intro aa S
  refine ol_cal S H isfn37 rfl rfl trivial ?_
  clear S H aa; intro u aa ww h1 H S
  obtain ⟨x7, rfl, H⟩ := H
  refine OL.pure S (Lf.run_geq (S.ev rfl) (S.ev rfl)) rfl rfl trivial ?_
  clear S; intro aa S
  refine OL.pure S (Lf.run_assign (S.ev rfl)) rfl rfl trivial ?_
  clear S; intro aa S
  refine OL.nil ?_
  refine W.ret ?_
  exact Ret.one S rfl rfl H

/-- chattel mir.Check$1 -/
def L25 (vto0 : Int) (x1 : Addr) (h : Heap) (R : Value → Heap → Prop) : Prop :=
  ∃ J : Bool → Prop, (orr (decide (vto0 < 0)) (fun k =>
    ldP h x1 fun x8 =>
    nn x8 fun p9 =>
    ldS h (p9.add 3) fun x11 =>
    k (decide (((x11.n : Nat) : Int) ≤ vto0))) J) ∧ ∀ x14, J x14 →
  R (Value.bool x14) h

set_option maxRecDepth 100000 in

theorem F25 {vto0 x1 h : _} {R : Value → Heap → Prop} (H : L25 vto0 x1 h R) : CallsH Try.prog 25 #[Value.int .i64 vto0, Value.pointer (some x1)] h R := by
  refine CallsH.enter (n := 15) Try.func25 rfl rfl rfl rfl ?_
  intro w0 aa ww S
  unfold L25 at H
  refine W.seq ?_
  replace S := S.sub [(0, Value.int .i64 vto0), (1, Value.pointer (some x1))] ⟨rfl, rfl, trivial⟩
  refine W.region ?_
  refine OL.pure S (Lf.run_assign (S.ev rfl)) rfl rfl trivial ?_
  clear S; intro aa S
  refine OL.nil ?_
  refine W.seq ?_
  replace S := S.sub [(0, Value.int .i64 vto0), (1, Value.pointer (some x1))] ⟨rfl, rfl, trivial⟩
  refine W.region ?_
  refine OL.pure S (Lf.run_move (S.ev rfl)) rfl rfl trivial ?_
  clear S; intro aa S
  refine OL.pure S (Lf.run_lss (S.ev rfl) (S.ev rfl)) rfl rfl trivial ?_
  clear S; intro aa S
  refine OL.pure S (Lf.run_move (S.ev rfl)) rfl rfl trivial ?_
  clear S; intro aa S
  obtain ⟨J, H, HK⟩ := H
  refine OL.cutN 8 (fun aa ww => ∃ x14, St 15 ((14, Value.bool x14) :: [(0, Value.int .i64 vto0), (1, Value.pointer (some x1)), (4, Value.int .i64 vto0), (5, Value.bool (decide (vto0 < 0))), (6, Value.bool (decide (vto0 < 0)))]) h w0 aa ww ∧ J x14) ?_ ?_
  · rcases Bool.eq_false_or_eq_true (decide (vto0 < 0)) with hb | hb
    · replace H := H.1 hb
      refine OL.not S rfl rfl (GNo.mk rfl rfl hb) ?_
      clear S; intro aa S
      refine OL.not S rfl rfl (GNo.mk rfl rfl hb) ?_
      clear S; intro aa S
      refine OL.not S rfl rfl (GNo.mk rfl rfl hb) ?_
      clear S; intro aa S
      refine OL.not S rfl rfl (GNo.mk rfl rfl hb) ?_
      clear S; intro aa S
      refine OL.not S rfl rfl (GNo.mk rfl rfl hb) ?_
      clear S; intro aa S
      refine OL.not S rfl rfl (GNo.mk rfl rfl hb) ?_
      clear S; intro aa S
      refine OL.not S rfl rfl (GNo.mk rfl rfl hb) ?_
      clear S; intro aa S
      refine OL.pure S (Lf.run_pickT (S.ev rfl) hb (S.ev rfl)) rfl rfl trivial ?_
      clear S; intro aa S
      refine OL.nil ?_
      exact ⟨_, S.sub _ ⟨rfl, rfl, rfl, rfl, rfl, rfl, trivial⟩, H⟩
    · replace H := H.2 hb
      refine OL.pure S (Lf.run_move (S.ev rfl)) rfl rfl (GOk.mk rfl rfl hb) ?_
      clear S; intro aa S
      obtain ⟨x8, c, H⟩ := H
      refine OL.pure S (Lf.run_ld (S.ev rfl) fl37 (S.cl c)) rfl rfl (GOk.mk rfl rfl hb) ?_
      clear S; intro aa S
      obtain ⟨p9, e, H⟩ := H
      refine OL.pure S (Lf.run_nc' (S.ev rfl) e) rfl rfl (GOk.mk rfl rfl hb) ?_
      clear S; intro aa S
      refine OL.pure S (Lf.run_fa (S.ev rfl) fa33_3) rfl rfl (GOk.mk rfl rfl hb) ?_
      clear S; intro aa S
      obtain ⟨x11, c_1, H⟩ := H
      refine OL.pure S (Lf.run_ld (S.ev rfl) fl31 (S.cl c_1)) rfl rfl (GOk.mk rfl rfl hb) ?_
      clear S; intro aa S
      refine OL.pure S (Lf.run_lens (S.ev rfl) rfl Try.underlying31) rfl rfl (GOk.mk rfl rfl hb) ?_
      clear S; intro aa S
      refine OL.pure S (Lf.run_geq (S.ev rfl) (S.ev rfl)) rfl rfl (GOk.mk rfl rfl hb) ?_
      clear S; intro aa S
      refine OL.pure S (Lf.run_pickF (S.ev rfl) hb (S.ev rfl)) rfl rfl trivial ?_
      clear S; intro aa S
      refine OL.nil ?_
      exact ⟨_, S.sub _ ⟨rfl, rfl, rfl, rfl, rfl, rfl, trivial⟩, H⟩
  · clear S aa
    rintro aa ww ⟨x14, S, HJ⟩
    replace H := HK _ HJ
    clear HK HJ
    refine OL.pure S (Lf.run_assign (S.ev rfl)) rfl rfl trivial ?_
    clear S; intro aa S
    refine OL.nil ?_
    refine W.ret ?_
    exact Ret.one S rfl rfl H

/-- chattel mir.of -/
def L26 (o0 : Int) (o0_1 : Int) (o0_2 : Sv) (o0_3 : Int) (o0_4 : Int) (h : Heap) (R : Value → Heap → Prop) : Prop :=
  new 59 #[Value.int .i64 o0, Value.int .i64 o0_1, Value.slice o0_2.a o0_2.n o0_2.c, Value.int .i64 o0_3, Value.int .u64 o0_4] h fun p1 h1 =>
  new 67 #[Value.int .i64 0, Value.slice (⟨none, 0, 0⟩ : Sv).a (⟨none, 0, 0⟩ : Sv).n (⟨none, 0, 0⟩ : Sv).c, Value.int .i64 0] h1 fun p2 h2 =>
  ldI .i64 h2 p1 fun x5 =>
  ifb (x5 == 2) (
    ∃ (y9 : Int) (y9_1 : Sv), cl h2 (p1.add 1) = some (Value.int .i64 y9) ∧ cl h2 ((p1.add 1).add 1) = some (Value.slice y9_1.a y9_1.n y9_1.c) ∧
    stoA h2 p2 [Value.int .i64 y9, Value.slice y9_1.a y9_1.n y9_1.c, Value.int .i64 1] fun h3 =>
    ∃ (y : Int) (y_1 : Sv) (y_2 : Int), cl h3 p2 = some (Value.int .i64 y) ∧ cl h3 (p2.add 1) = some (Value.slice y_1.a y_1.n y_1.c) ∧ cl h3 (p2.add 2) = some (Value.int .i64 y_2) ∧
    R (.tuple #[Value.agg #[Value.int .i64 y, Value.slice y_1.a y_1.n y_1.c, Value.int .i64 y_2], Value.bool true]) h3) (
    ifb (x5 == 3) (
      ∃ (y14 : Int) (y14_1 : Sv), cl h2 (p1.add 1) = some (Value.int .i64 y14) ∧ cl h2 ((p1.add 1).add 1) = some (Value.slice y14_1.a y14_1.n y14_1.c) ∧
      stoA h2 p2 [Value.int .i64 y14, Value.slice y14_1.a y14_1.n y14_1.c, Value.int .i64 2] fun h4 =>
      ∃ (y_3 : Int) (y_4 : Sv) (y_5 : Int), cl h4 p2 = some (Value.int .i64 y_3) ∧ cl h4 (p2.add 1) = some (Value.slice y_4.a y_4.n y_4.c) ∧ cl h4 (p2.add 2) = some (Value.int .i64 y_5) ∧
      R (.tuple #[Value.agg #[Value.int .i64 y_3, Value.slice y_4.a y_4.n y_4.c, Value.int .i64 y_5], Value.bool true]) h4) (
      stoA h2 p2 [Value.int .i64 0, Value.slice (⟨none, 0, 0⟩ : Sv).a (⟨none, 0, 0⟩ : Sv).n (⟨none, 0, 0⟩ : Sv).c, Value.int .i64 0] fun h5 =>
      ∃ (y_6 : Int) (y_7 : Sv) (y_8 : Int), cl h5 p2 = some (Value.int .i64 y_6) ∧ cl h5 (p2.add 1) = some (Value.slice y_7.a y_7.n y_7.c) ∧ cl h5 (p2.add 2) = some (Value.int .i64 y_8) ∧
      R (.tuple #[Value.agg #[Value.int .i64 y_6, Value.slice y_7.a y_7.n y_7.c, Value.int .i64 y_8], Value.bool false]) h5))

set_option maxRecDepth 100000 in

theorem F26 {o0 o0_1 o0_2 o0_3 o0_4 h : _} {R : Value → Heap → Prop} (H : L26 o0 o0_1 o0_2 o0_3 o0_4 h R) : CallsH Try.prog 26 #[Value.agg #[Value.int .i64 o0, Value.int .i64 o0_1, Value.slice o0_2.a o0_2.n o0_2.c, Value.int .i64 o0_3, Value.int .u64 o0_4]] h R := by
  refine CallsH.enter (n := 17) Try.func26 rfl rfl rfl rfl ?_
  intro w0 aa ww S
  unfold L26 at H
  refine W.seq ?_
  replace S := S.sub [(0, Value.agg #[Value.int .i64 o0, Value.int .i64 o0_1, Value.slice o0_2.a o0_2.n o0_2.c, Value.int .i64 o0_3, Value.int .u64 o0_4])] ⟨rfl, trivial⟩
  refine W.region ?_
  refine ol_box S H rfl rfl rfl trivial ?_
  clear S H aa; intro p1 aa ww h1 H S
  refine ol_alloc S H ti67 rfl rfl trivial ?_
  clear S H aa; intro p2 aa ww h2 H S
  refine OL.pure S (Lf.run_assign (S.ev rfl)) rfl rfl trivial ?_
  clear S; intro aa S
  refine OL.nil ?_
  refine W.seq ?_
  refine W.seq ?_
  replace S := S.sub [(1, Value.pointer (some p1)), (2, Value.pointer (some p2))] ⟨rfl, rfl, trivial⟩
  refine W.region ?_
  refine OL.pure S (Lf.run_fa (S.ev rfl) fa59_0) rfl rfl trivial ?_
  clear S; intro aa S
  obtain ⟨x5, c, H⟩ := H
  refine OL.pure S (Lf.run_ld (S.ev rfl) fl3 (S.cl c)) rfl rfl trivial ?_
  clear S; intro aa S
  refine OL.nil ?_
  refine W.block ?_
  refine W.seq ?_
  replace S := S.sub [(1, Value.pointer (some p1)), (2, Value.pointer (some p2)), (5, Value.int .i64 x5)] ⟨rfl, rfl, rfl, trivial⟩
  refine W.region ?_
  refine OL.pure S (Lf.run_eql (S.ev rfl) (S.ev rfl)) rfl rfl trivial ?_
  clear S; intro aa S
  refine OL.pure S (Lf.run_assign (S.ev rfl)) rfl rfl trivial ?_
  clear S; intro aa S
  refine OL.nil ?_
  refine W.cond S (b := (x5 == 2)) rfl (fun hb => ?_) (fun hb => ?_)
  · replace H := H.1 hb
    refine W.seq ?_
    replace S := S.sub [(1, Value.pointer (some p1)), (2, Value.pointer (some p2))] ⟨rfl, rfl, trivial⟩
    refine W.region ?_
    refine OL.pure S (Lf.run_fa (S.ev rfl) fa59_1) rfl rfl trivial ?_
    clear S; intro aa S
    obtain ⟨y9, y9_1, c_5, c_6, H⟩ := H
    refine OL.pure S (Lf.run_ldA (cs := [Value.int .i64 y9, Value.slice y9_1.a y9_1.n y9_1.c]) (S.ev rfl) ag24 ti24 (by rw [S.heap]; exact RowL.toRow ⟨c_5, c_6, trivial⟩)) rfl rfl trivial ?_
    clear S; intro aa S
    refine OL.pure S (Lf.run_build (cs := #[Value.int .i64 y9, Value.slice y9_1.a y9_1.n y9_1.c, Value.int .i64 1]) pl67 ti67 (parts_map S rfl) (by kernel_rfl)) rfl rfl trivial ?_
    clear S; intro aa S
    refine ol_stoA S H rfl rfl ti67 trivial ?_
    clear S H aa; intro aa ww h3 H S
    refine OL.pure S (Lf.run_assign (S.ev rfl)) rfl rfl trivial ?_
    clear S; intro aa S
    refine OL.nil ?_
    refine W.ret ?_
    obtain ⟨y, y_1, y_2, c_2, c_3, c_4, H⟩ := H
    exact Ret.gen S rfl (RV.cellA (cs := [Value.int .i64 y, Value.slice y_1.a y_1.n y_1.c, Value.int .i64 y_2]) rfl ag67 ti67 ⟨c_2, c_3, c_4, trivial⟩ (RV.tmp rfl RV.nil)) rfl H
  · replace H := H.2 hb
    refine W.seq ?_
    replace S := S.sub [(1, Value.pointer (some p1)), (2, Value.pointer (some p2)), (5, Value.int .i64 x5)] ⟨rfl, rfl, rfl, trivial⟩
    refine W.region ?_
    refine OL.pure S (Lf.run_eql (S.ev rfl) (S.ev rfl)) rfl rfl trivial ?_
    clear S; intro aa S
    refine OL.pure S (Lf.run_assign (S.ev rfl)) rfl rfl trivial ?_
    clear S; intro aa S
    refine OL.nil ?_
    refine W.cond S (b := (x5 == 3)) rfl (fun hb_1 => ?_) (fun hb_1 => ?_)
    · replace H := H.1 hb_1
      refine W.seq ?_
      replace S := S.sub [(1, Value.pointer (some p1)), (2, Value.pointer (some p2))] ⟨rfl, rfl, trivial⟩
      refine W.region ?_
      refine OL.pure S (Lf.run_fa (S.ev rfl) fa59_1) rfl rfl trivial ?_
      clear S; intro aa S
      obtain ⟨y14, y14_1, c_11, c_12, H⟩ := H
      refine OL.pure S (Lf.run_ldA (cs := [Value.int .i64 y14, Value.slice y14_1.a y14_1.n y14_1.c]) (S.ev rfl) ag24 ti24 (by rw [S.heap]; exact RowL.toRow ⟨c_11, c_12, trivial⟩)) rfl rfl trivial ?_
      clear S; intro aa S
      refine OL.pure S (Lf.run_build (cs := #[Value.int .i64 y14, Value.slice y14_1.a y14_1.n y14_1.c, Value.int .i64 2]) pl67 ti67 (parts_map S rfl) (by kernel_rfl)) rfl rfl trivial ?_
      clear S; intro aa S
      refine ol_stoA S H rfl rfl ti67 trivial ?_
      clear S H aa; intro aa ww h4 H S
      refine OL.pure S (Lf.run_assign (S.ev rfl)) rfl rfl trivial ?_
      clear S; intro aa S
      refine OL.nil ?_
      refine W.ret ?_
      obtain ⟨y_3, y_4, y_5, c_8, c_9, c_10, H⟩ := H
      exact Ret.gen S rfl (RV.cellA (cs := [Value.int .i64 y_3, Value.slice y_4.a y_4.n y_4.c, Value.int .i64 y_5]) rfl ag67 ti67 ⟨c_8, c_9, c_10, trivial⟩ (RV.tmp rfl RV.nil)) rfl H
    · replace H := H.2 hb_1
      refine W.skip ?_
      refine W.seq ?_
      replace S := S.sub [(2, Value.pointer (some p2))] ⟨rfl, trivial⟩
      refine W.region ?_
      refine OL.pure S (Lf.run_build (cs := #[Value.int .i64 0, Value.slice (⟨none, 0, 0⟩ : Sv).a (⟨none, 0, 0⟩ : Sv).n (⟨none, 0, 0⟩ : Sv).c, Value.int .i64 0]) pl67 ti67 (parts_map S rfl) (by kernel_rfl)) rfl rfl trivial ?_
      clear S; intro aa S
      refine ol_stoA S H rfl rfl ti67 trivial ?_
      clear S H aa; intro aa ww h5 H S
      refine OL.pure S (Lf.run_assign (S.ev rfl)) rfl rfl trivial ?_
      clear S; intro aa S
      refine OL.nil ?_
      refine W.ret ?_
      obtain ⟨y_6, y_7, y_8, c_13, c_14, c_15, H⟩ := H
      exact Ret.gen S rfl (RV.cellA (cs := [Value.int .i64 y_6, Value.slice y_7.a y_7.n y_7.c, Value.int .i64 y_8]) rfl ag67 ti67 ⟨c_13, c_14, c_15, trivial⟩ (RV.tmp rfl RV.nil)) rfl H

/-- chattel mir.dec -/
def L27 (n0 : Int) (h : Heap) (R : Value → Heap → Prop) : Prop :=
  cal Try.prog 38 #[Value.int .i64 n0] h fun u h1 => asT u fun x4 =>
  R (Value.string x4) h1

set_option maxRecDepth 100000 in

theorem F27 {n0 h : _} {R : Value → Heap → Prop} (H : L27 n0 h R) : CallsH Try.prog 27 #[Value.int .i64 n0] h R := by
  refine CallsH.enter (n := 5) Try.func27 rfl rfl rfl rfl ?_
  intro w0 aa ww S
  unfold L27 at H
  refine W.seq ?_
  replace S := S.sub [(0, Value.int .i64 n0)] ⟨rfl, trivial⟩
  refine W.region ?_
  refine OL.pure S (Lf.run_assign (S.ev rfl)) rfl rfl trivial ?_
  clear S; intro aa S
  refine OL.nil ?_
  refine W.seq ?_
  replace S := S.sub [(0, Value.int .i64 n0)] ⟨rfl, trivial⟩
  refine W.region ?_
  refine OL.pure S (Lf.run_move (S.ev rfl)) rfl rfl trivial ?_
  clear S; intro aa S
  refine ol_cal S H isfn38 rfl rfl trivial ?_
  clear S H aa; intro u aa ww h1 H S
  obtain ⟨x4, rfl, H⟩ := H
  refine OL.pure S (Lf.run_assign (S.ev rfl)) rfl rfl trivial ?_
  clear S; intro aa S
  refine OL.nil ?_
  refine W.ret ?_
  exact Ret.one S rfl rfl H

/-- chattel types.Text -/
def L28 (x0 : Int) (x0_1 : ByteArray) (x0_2 : Bool) (x0_3 : Int) (x0_4 : Sv) (x0_5 : Sv) (h : Heap) (R : Value → Heap → Prop) : Prop :=
  new 49 #[Value.int .i64 x0, Value.string x0_1, Value.bool x0_2, Value.int .i64 x0_3, Value.slice x0_4.a x0_4.n x0_4.c, Value.slice x0_5.a x0_5.n x0_5.c] h fun p1 h1 =>
  ∃ J : ByteArray → Heap → Prop, (
    ldI .i64 h1 p1 fun x9 =>
    ifb (x9 == 1) (
      J (⟨#[105, 110, 116]⟩ : ByteArray) h1) (
      ifb (x9 == 2) (
        J (⟨#[98, 111, 111, 108]⟩ : ByteArray) h1) (
        ifb (x9 == 3) (
          J (⟨#[102, 54, 52]⟩ : ByteArray) h1) (
          ifb (x9 == 4) (
            J (⟨#[40, 41]⟩ : ByteArray) h1) (
            ifb (x9 == 5) (
              ldT h1 (p1.add 1) fun x21 =>
              ldS h1 (p1.add 4) fun x23 =>
              ∃ (I : ByteArray → Int → Heap → Prop) (m : ByteArray → Int → Heap → Nat), I x21 0 h1 ∧ ∀ s3 x25 h2, I s3 x25 h2 →
              ifb (decide (x25 < ((x23.n : Nat) : Int))) (
                ixS x23 x25 fun q27 =>
                ldI .i64 h2 (q27.add ((x25 : Int).toNat * 1)) fun x28 =>
                cal Try.prog 38 #[Value.int .i64 x28] h2 fun u h3 => asT u fun x31 =>
                (((⟨#[39]⟩ : ByteArray).size : Nat) : Int) + ((x31.size : Nat) : Int) ≤ 9223372036854775807 ∧
                ((s3.size : Nat) : Int) + ((((⟨#[39]⟩ : ByteArray) ++ x31).size : Nat) : Int) ≤ 9223372036854775807 ∧
                I (s3 ++ ((⟨#[39]⟩ : ByteArray) ++ x31)) (IntKind.i64.wrap (x25 + 1)) h3 ∧ m (s3 ++ ((⟨#[39]⟩ : ByteArray) ++ x31)) (IntKind.i64.wrap (x25 + 1)) h3 < m s3 x25 h2) (
                J s3 h2)) (
              ifb (x9 == 6) (
                J (⟨#[66, 111, 120]⟩ : ByteArray) h1) (
                ifb (x9 == 7) (
                  ldI .i64 h1 (p1.add 3) fun x40 =>
                  cal Try.prog 38 #[Value.int .i64 x40] h1 fun u_1 h4 => asT u_1 fun x41 =>
                  (((⟨#[38]⟩ : ByteArray).size : Nat) : Int) + ((x41.size : Nat) : Int) ≤ 9223372036854775807 ∧
                  ldB h4 (p1.add 2) fun x44 =>
                  ifb x44 (
                    ((((⟨#[38]⟩ : ByteArray) ++ x41).size : Nat) : Int) + (((⟨#[109, 117, 116]⟩ : ByteArray).size : Nat) : Int) ≤ 9223372036854775807 ∧
                    J (((⟨#[38]⟩ : ByteArray) ++ x41) ++ (⟨#[109, 117, 116]⟩ : ByteArray)) h4) (
                    J ((⟨#[38]⟩ : ByteArray) ++ x41) h4)) (
                  ifb (x9 == 8) (
                    ∃ Sq : Heap → Prop, Sq h1 ∧ (
                      hlT Sq (p1.add 1) fun x50 =>
                      (((⟨#[100, 121, 110, 32]⟩ : ByteArray).size : Nat) : Int) + ((x50.size : Nat) : Int) ≤ 9223372036854775807 ∧
                      ((((⟨#[100, 121, 110, 32]⟩ : ByteArray) ++ x50).size : Nat) : Int) + (((⟨#[43]⟩ : ByteArray).size : Nat) : Int) ≤ 9223372036854775807 ∧
                      ldI .i64 h1 (p1.add 3) fun x54 =>
                      cal Try.prog 38 #[Value.int .i64 x54] h1 fun u_2 h5 => asT u_2 fun x55 =>
                      Sq h5 ∧
                      (((((⟨#[100, 121, 110, 32]⟩ : ByteArray) ++ x50) ++ (⟨#[43]⟩ : ByteArray)).size : Nat) : Int) + ((x55.size : Nat) : Int) ≤ 9223372036854775807 ∧
                      J ((((⟨#[100, 121, 110, 32]⟩ : ByteArray) ++ x50) ++ (⟨#[43]⟩ : ByteArray)) ++ x55) h5)) (
                    ifb (x9 == 9) (
                      ∃ Sq_1 : Heap → Prop, Sq_1 h1 ∧ (
                        hlT Sq_1 (p1.add 1) fun x60 =>
                        ((x60.size : Nat) : Int) + (((⟨#[63]⟩ : ByteArray).size : Nat) : Int) ≤ 9223372036854775807 ∧
                        ldI .i64 h1 (p1.add 3) fun x63 =>
                        cal Try.prog 38 #[Value.int .i64 x63] h1 fun u_3 h6 => asT u_3 fun x64 =>
                        Sq_1 h6 ∧
                        (((x60 ++ (⟨#[63]⟩ : ByteArray)).size : Nat) : Int) + ((x64.size : Nat) : Int) ≤ 9223372036854775807 ∧
                        J ((x60 ++ (⟨#[63]⟩ : ByteArray)) ++ x64) h6)) (
                      J (⟨#[]⟩ : ByteArray) h1)))))))))) ∧ (∀ s3_1 h7, J s3_1 h7 →
  ldS h7 (p1.add 5) fun x67 =>
  ∃ (I_1 : ByteArray → Int → Heap → Prop) (m_1 : ByteArray → Int → Heap → Nat), I_1 s3_1 0 h7 ∧ ∀ s3_2 x69 h8, I_1 s3_2 x69 h8 →
  ifb (decide (x69 < ((x67.n : Nat) : Int))) (
    ixS x67 x69 fun q71 =>
    ∃ (y72 : Int) (y72_1 : ByteArray) (y72_2 : Bool) (y72_3 : Int) (y72_4 : Sv) (y72_5 : Sv), cl h8 (q71.add ((x69 : Int).toNat * 6)) = some (Value.int .i64 y72) ∧ cl h8 ((q71.add ((x69 : Int).toNat * 6)).add 1) = some (Value.string y72_1) ∧ cl h8 ((q71.add ((x69 : Int).toNat * 6)).add 2) = some (Value.bool y72_2) ∧ cl h8 ((q71.add ((x69 : Int).toNat * 6)).add 3) = some (Value.int .i64 y72_3) ∧ cl h8 ((q71.add ((x69 : Int).toNat * 6)).add 4) = some (Value.slice y72_4.a y72_4.n y72_4.c) ∧ cl h8 ((q71.add ((x69 : Int).toNat * 6)).add 5) = some (Value.slice y72_5.a y72_5.n y72_5.c) ∧
    new 49 #[Value.int .i64 0, Value.string (⟨#[]⟩ : ByteArray), Value.bool false, Value.int .i64 0, Value.slice (⟨none, 0, 0⟩ : Sv).a (⟨none, 0, 0⟩ : Sv).n (⟨none, 0, 0⟩ : Sv).c, Value.slice (⟨none, 0, 0⟩ : Sv).a (⟨none, 0, 0⟩ : Sv).n (⟨none, 0, 0⟩ : Sv).c] h8 fun p7 h9 =>
    stoA h9 p7 [Value.int .i64 y72, Value.string y72_1, Value.bool y72_2, Value.int .i64 y72_3, Value.slice y72_4.a y72_4.n y72_4.c, Value.slice y72_5.a y72_5.n y72_5.c] fun h10 =>
    ∃ (y74 : Int) (y74_1 : ByteArray) (y74_2 : Bool) (y74_3 : Int) (y74_4 : Sv) (y74_5 : Sv), cl h10 p7 = some (Value.int .i64 y74) ∧ cl h10 (p7.add 1) = some (Value.string y74_1) ∧ cl h10 (p7.add 2) = some (Value.bool y74_2) ∧ cl h10 (p7.add 3) = some (Value.int .i64 y74_3) ∧ cl h10 (p7.add 4) = some (Value.slice y74_4.a y74_4.n y74_4.c) ∧ cl h10 (p7.add 5) = some (Value.slice y74_5.a y74_5.n y74_5.c) ∧
    cal Try.prog 28 #[Value.agg #[Value.int .i64 y74, Value.string y74_1, Value.bool y74_2, Value.int .i64 y74_3, Value.slice y74_4.a y74_4.n y74_4.c, Value.slice y74_5.a y74_5.n y74_5.c]] h10 fun u_4 h11 => asT u_4 fun x75 =>
    (((⟨#[60]⟩ : ByteArray).size : Nat) : Int) + ((x75.size : Nat) : Int) ≤ 9223372036854775807 ∧
    ((((⟨#[60]⟩ : ByteArray) ++ x75).size : Nat) : Int) + (((⟨#[62]⟩ : ByteArray).size : Nat) : Int) ≤ 9223372036854775807 ∧
    ((s3_2.size : Nat) : Int) + (((((⟨#[60]⟩ : ByteArray) ++ x75) ++ (⟨#[62]⟩ : ByteArray)).size : Nat) : Int) ≤ 9223372036854775807 ∧
    I_1 (s3_2 ++ (((⟨#[60]⟩ : ByteArray) ++ x75) ++ (⟨#[62]⟩ : ByteArray))) (IntKind.i64.wrap (x69 + 1)) h11 ∧ m_1 (s3_2 ++ (((⟨#[60]⟩ : ByteArray) ++ x75) ++ (⟨#[62]⟩ : ByteArray))) (IntKind.i64.wrap (x69 + 1)) h11 < m_1 s3_2 x69 h8) (
    R (Value.string s3_2) h8))

set_option maxRecDepth 100000 in

theorem F28 {x0 x0_1 x0_2 x0_3 x0_4 x0_5 h : _} {R : Value → Heap → Prop} (H : L28 x0 x0_1 x0_2 x0_3 x0_4 x0_5 h R) : CallsH Try.prog 28 #[Value.agg #[Value.int .i64 x0, Value.string x0_1, Value.bool x0_2, Value.int .i64 x0_3, Value.slice x0_4.a x0_4.n x0_4.c, Value.slice x0_5.a x0_5.n x0_5.c]] h R := by
  refine CallsH.enter (n := 81) Try.func28 rfl rfl rfl rfl ?_
  intro w0 aa ww S
  unfold L28 at H
  refine W.seq ?_
  replace S := S.sub [(0, Value.agg #[Value.int .i64 x0, Value.string x0_1, Value.bool x0_2, Value.int .i64 x0_3, Value.slice x0_4.a x0_4.n x0_4.c, Value.slice x0_5.a x0_5.n x0_5.c])] ⟨rfl, trivial⟩
  refine W.region ?_
  refine ol_box S H rfl rfl rfl trivial ?_
  clear S H aa; intro p1 aa ww h1 H S
  refine OL.pure S (Lf.run_assign (S.ev rfl)) rfl rfl trivial ?_
  clear S; intro aa S
  refine OL.nil ?_
  refine W.seq ?_
  replace S := S.sub [(1, Value.pointer (some p1))] ⟨rfl, trivial⟩
  refine W.region ?_
  refine OL.pure S (Lf.run_assign (S.ev rfl)) rfl rfl trivial ?_
  clear S; intro aa S
  refine OL.nil ?_
  obtain ⟨J, H, HK⟩ := H
  refine W.seqJ (fun aa ww => ∃ s3_1 h7, St 81 [(1, Value.pointer (some p1)), (3, Value.string s3_1)] h7 w0 aa ww ∧ J s3_1 h7) ?_ ?_
  · clear HK
    refine W.seq ?_
    replace S := S.sub [(1, Value.pointer (some p1)), (3, Value.string (⟨#[]⟩ : ByteArray))] ⟨rfl, rfl, trivial⟩
    refine W.region ?_
    refine OL.pure S (Lf.run_fa (S.ev rfl) fa49_0) rfl rfl trivial ?_
    clear S; intro aa S
    obtain ⟨x9, c, H⟩ := H
    refine OL.pure S (Lf.run_ld (S.ev rfl) fl3 (S.cl c)) rfl rfl trivial ?_
    clear S; intro aa S
    refine OL.nil ?_
    refine W.block ?_
    refine W.seq ?_
    replace S := S.sub [(1, Value.pointer (some p1)), (3, Value.string (⟨#[]⟩ : ByteArray)), (9, Value.int .i64 x9)] ⟨rfl, rfl, rfl, trivial⟩
    refine W.region ?_
    refine OL.pure S (Lf.run_eql (S.ev rfl) (S.ev rfl)) rfl rfl trivial ?_
    clear S; intro aa S
    refine OL.pure S (Lf.run_assign (S.ev rfl)) rfl rfl trivial ?_
    clear S; intro aa S
    refine OL.nil ?_
    refine W.cond S (b := (x9 == 1)) rfl (fun hb => ?_) (fun hb => ?_)
    · replace H := H.1 hb
      replace S := S.sub [(1, Value.pointer (some p1))] ⟨rfl, trivial⟩
      refine W.region ?_
      refine OL.pure S (Lf.run_assign (S.ev rfl)) rfl rfl trivial ?_
      clear S; intro aa S
      refine OL.nil ?_
      exact ⟨(⟨#[105, 110, 116]⟩ : ByteArray), h1, S.sub _ ⟨rfl, rfl, trivial⟩, H⟩
    · replace H := H.2 hb
      refine W.seq ?_
      replace S := S.sub [(1, Value.pointer (some p1)), (3, Value.string (⟨#[]⟩ : ByteArray)), (9, Value.int .i64 x9)] ⟨rfl, rfl, rfl, trivial⟩
      refine W.region ?_
      refine OL.pure S (Lf.run_eql (S.ev rfl) (S.ev rfl)) rfl rfl trivial ?_
      clear S; intro aa S
      refine OL.pure S (Lf.run_assign (S.ev rfl)) rfl rfl trivial ?_
      clear S; intro aa S
      refine OL.nil ?_
      refine W.cond S (b := (x9 == 2)) rfl (fun hb_1 => ?_) (fun hb_1 => ?_)
      · replace H := H.1 hb_1
        replace S := S.sub [(1, Value.pointer (some p1))] ⟨rfl, trivial⟩
        refine W.region ?_
        refine OL.pure S (Lf.run_assign (S.ev rfl)) rfl rfl trivial ?_
        clear S; intro aa S
        refine OL.nil ?_
        exact ⟨(⟨#[98, 111, 111, 108]⟩ : ByteArray), h1, S.sub _ ⟨rfl, rfl, trivial⟩, H⟩
      · replace H := H.2 hb_1
        refine W.seq ?_
        replace S := S.sub [(1, Value.pointer (some p1)), (3, Value.string (⟨#[]⟩ : ByteArray)), (9, Value.int .i64 x9)] ⟨rfl, rfl, rfl, trivial⟩
        refine W.region ?_
        refine OL.pure S (Lf.run_eql (S.ev rfl) (S.ev rfl)) rfl rfl trivial ?_
        clear S; intro aa S
        refine OL.pure S (Lf.run_assign (S.ev rfl)) rfl rfl trivial ?_
        clear S; intro aa S
        refine OL.nil ?_
        refine W.cond S (b := (x9 == 3)) rfl (fun hb_2 => ?_) (fun hb_2 => ?_)
        · replace H := H.1 hb_2
          replace S := S.sub [(1, Value.pointer (some p1))] ⟨rfl, trivial⟩
          refine W.region ?_
          refine OL.pure S (Lf.run_assign (S.ev rfl)) rfl rfl trivial ?_
          clear S; intro aa S
          refine OL.nil ?_
          exact ⟨(⟨#[102, 54, 52]⟩ : ByteArray), h1, S.sub _ ⟨rfl, rfl, trivial⟩, H⟩
        · replace H := H.2 hb_2
          refine W.seq ?_
          replace S := S.sub [(1, Value.pointer (some p1)), (3, Value.string (⟨#[]⟩ : ByteArray)), (9, Value.int .i64 x9)] ⟨rfl, rfl, rfl, trivial⟩
          refine W.region ?_
          refine OL.pure S (Lf.run_eql (S.ev rfl) (S.ev rfl)) rfl rfl trivial ?_
          clear S; intro aa S
          refine OL.pure S (Lf.run_assign (S.ev rfl)) rfl rfl trivial ?_
          clear S; intro aa S
          refine OL.nil ?_
          refine W.cond S (b := (x9 == 4)) rfl (fun hb_3 => ?_) (fun hb_3 => ?_)
          · replace H := H.1 hb_3
            replace S := S.sub [(1, Value.pointer (some p1))] ⟨rfl, trivial⟩
            refine W.region ?_
            refine OL.pure S (Lf.run_assign (S.ev rfl)) rfl rfl trivial ?_
            clear S; intro aa S
            refine OL.nil ?_
            exact ⟨(⟨#[40, 41]⟩ : ByteArray), h1, S.sub _ ⟨rfl, rfl, trivial⟩, H⟩
          · replace H := H.2 hb_3
            refine W.seq ?_
            replace S := S.sub [(1, Value.pointer (some p1)), (3, Value.string (⟨#[]⟩ : ByteArray)), (9, Value.int .i64 x9)] ⟨rfl, rfl, rfl, trivial⟩
            refine W.region ?_
            refine OL.pure S (Lf.run_eql (S.ev rfl) (S.ev rfl)) rfl rfl trivial ?_
            clear S; intro aa S
            refine OL.pure S (Lf.run_assign (S.ev rfl)) rfl rfl trivial ?_
            clear S; intro aa S
            refine OL.nil ?_
            refine W.cond S (b := (x9 == 5)) rfl (fun hb_4 => ?_) (fun hb_4 => ?_)
            · replace H := H.1 hb_4
              refine W.seq ?_
              replace S := S.sub [(1, Value.pointer (some p1))] ⟨rfl, trivial⟩
              refine W.region ?_
              refine OL.pure S (Lf.run_fa (S.ev rfl) fa49_1) rfl rfl trivial ?_
              clear S; intro aa S
              obtain ⟨x21, c_1, H⟩ := H
              refine OL.pure S (Lf.run_ld (S.ev rfl) fl9 (S.cl c_1)) rfl rfl trivial ?_
              clear S; intro aa S
              refine OL.pure S (Lf.run_assign (S.ev rfl)) rfl rfl trivial ?_
              clear S; intro aa S
              refine OL.nil ?_
              refine W.seq ?_
              replace S := S.sub [(1, Value.pointer (some p1)), (3, Value.string x21)] ⟨rfl, rfl, trivial⟩
              refine W.region ?_
              refine OL.pure S (Lf.run_fa (S.ev rfl) fa49_4) rfl rfl trivial ?_
              clear S; intro aa S
              obtain ⟨x23, c_2, H⟩ := H
              refine OL.pure S (Lf.run_ld (S.ev rfl) fl22 (S.cl c_2)) rfl rfl trivial ?_
              clear S; intro aa S
              refine OL.pure S (Lf.run_lens (S.ev rfl) rfl Try.underlying22) rfl rfl trivial ?_
              clear S; intro aa S
              refine OL.pure S (Lf.run_move (S.ev rfl)) rfl rfl trivial ?_
              clear S; intro aa S
              refine OL.nil ?_
              refine W.block ?_
              obtain ⟨I, m, H, HB⟩ := H
              refine W.loopS (σ := ByteArray × Int × Heap) (fun s aa ww => St 81 [(1, Value.pointer (some p1)), (3, Value.string s.1), (23, Value.slice x23.a x23.n x23.c), (24, Value.int .i64 ((x23.n : Nat) : Int)), (25, Value.int .i64 s.2.1)] s.2.2 w0 aa ww ∧ I s.1 s.2.1 s.2.2) (fun s => m s.1 s.2.1 s.2.2) (x21, 0, h1) ⟨S.sub _ ⟨rfl, rfl, rfl, rfl, rfl, trivial⟩, H⟩ ?_
              clear H S aa
              rintro ⟨s3, x25, h2⟩ aa ww ⟨S, HI⟩
              replace S : St 81 [(1, Value.pointer (some p1)), (3, Value.string s3), (23, Value.slice x23.a x23.n x23.c), (24, Value.int .i64 ((x23.n : Nat) : Int)), (25, Value.int .i64 x25)] h2 w0 aa ww := S
              have H := HB s3 x25 h2 HI
              clear HI
              refine W.seq ?_
              replace S := S.sub [(1, Value.pointer (some p1)), (3, Value.string s3), (23, Value.slice x23.a x23.n x23.c), (24, Value.int .i64 ((x23.n : Nat) : Int)), (25, Value.int .i64 x25)] ⟨rfl, rfl, rfl, rfl, rfl, trivial⟩
              refine W.region ?_
              refine OL.pure S (Lf.run_lss (S.ev rfl) (S.ev rfl)) rfl rfl trivial ?_
              clear S; intro aa S
              refine OL.nil ?_
              refine W.seq ?_
              refine W.cond S (b := (decide (x25 < ((x23.n : Nat) : Int)))) rfl (fun hb_5 => ?_) (fun hb_5 => ?_)
              · replace H := H.1 hb_5
                refine W.skip ?_
                refine W.seq ?_
                refine W.block ?_
                refine W.seq ?_
                replace S := S.sub [(1, Value.pointer (some p1)), (3, Value.string s3), (23, Value.slice x23.a x23.n x23.c), (24, Value.int .i64 ((x23.n : Nat) : Int)), (25, Value.int .i64 x25)] ⟨rfl, rfl, rfl, rfl, rfl, trivial⟩
                refine W.region ?_
                obtain ⟨q27, e, e_1, e_2, H⟩ := H
                refine OL.pure S (Lf.run_ixs (S.ev rfl) (S.ev rfl) Try.underlying22 ti3 e e_1 e_2) rfl rfl trivial ?_
                clear S; intro aa S
                obtain ⟨x28, c_3, H⟩ := H
                refine OL.pure S (Lf.run_ld (S.ev rfl) fl3 (S.cl c_3)) rfl rfl trivial ?_
                clear S; intro aa S
                refine OL.pure S (Lf.run_assign (S.ev rfl)) rfl rfl trivial ?_
                clear S; intro aa S
                refine OL.nil ?_
                replace S := S.sub [(1, Value.pointer (some p1)), (3, Value.string s3), (5, Value.int .i64 x28), (23, Value.slice x23.a x23.n x23.c), (24, Value.int .i64 ((x23.n : Nat) : Int)), (25, Value.int .i64 x25)] ⟨rfl, rfl, rfl, rfl, rfl, rfl, trivial⟩
                refine W.region ?_
                refine OL.pure S (Lf.run_move (S.ev rfl)) rfl rfl trivial ?_
                clear S; intro aa S
                refine OL.pure S (Lf.run_move (S.ev rfl)) rfl rfl trivial ?_
                clear S; intro aa S
                refine ol_cal S H isfn38 rfl rfl trivial ?_
                clear S H aa; intro u aa ww h3 H S
                obtain ⟨x31, rfl, H⟩ := H
                obtain ⟨c_4, H⟩ := H
                refine OL.pure S (Lf.run_addt (S.ev rfl) (S.ev rfl) c_4) rfl rfl trivial ?_
                clear S; intro aa S
                obtain ⟨c_5, H⟩ := H
                refine OL.pure S (Lf.run_addt (S.ev rfl) (S.ev rfl) c_5) rfl rfl trivial ?_
                clear S; intro aa S
                refine OL.pure S (Lf.run_assign (S.ev rfl)) rfl rfl trivial ?_
                clear S; intro aa S
                refine OL.nil ?_
                replace S := S.sub [(1, Value.pointer (some p1)), (3, Value.string (s3 ++ ((⟨#[39]⟩ : ByteArray) ++ x31))), (23, Value.slice x23.a x23.n x23.c), (24, Value.int .i64 ((x23.n : Nat) : Int)), (25, Value.int .i64 x25)] ⟨rfl, rfl, rfl, rfl, rfl, trivial⟩
                refine W.region ?_
                refine OL.pure S (Lf.run_add (S.ev rfl) (S.ev rfl)) rfl rfl trivial ?_
                clear S; intro aa S
                refine OL.pure S (Lf.run_move (S.ev rfl)) rfl rfl trivial ?_
                clear S; intro aa S
                refine OL.nil ?_
                exact ⟨((s3 ++ ((⟨#[39]⟩ : ByteArray) ++ x31)), (IntKind.i64.wrap (x25 + 1)), h3), ⟨S.sub _ ⟨rfl, rfl, rfl, rfl, rfl, trivial⟩, H.1⟩, H.2⟩
              · replace H := H.2 hb_5
                refine W.exit_ ?_
                refine xhit ?_
                exact ⟨s3, h2, S.sub _ ⟨rfl, rfl, trivial⟩, H⟩
            · replace H := H.2 hb_4
              refine W.seq ?_
              replace S := S.sub [(1, Value.pointer (some p1)), (3, Value.string (⟨#[]⟩ : ByteArray)), (9, Value.int .i64 x9)] ⟨rfl, rfl, rfl, trivial⟩
              refine W.region ?_
              refine OL.pure S (Lf.run_eql (S.ev rfl) (S.ev rfl)) rfl rfl trivial ?_
              clear S; intro aa S
              refine OL.pure S (Lf.run_assign (S.ev rfl)) rfl rfl trivial ?_
              clear S; intro aa S
              refine OL.nil ?_
              refine W.cond S (b := (x9 == 6)) rfl (fun hb_6 => ?_) (fun hb_6 => ?_)
              · replace H := H.1 hb_6
                replace S := S.sub [(1, Value.pointer (some p1))] ⟨rfl, trivial⟩
                refine W.region ?_
                refine OL.pure S (Lf.run_assign (S.ev rfl)) rfl rfl trivial ?_
                clear S; intro aa S
                refine OL.nil ?_
                exact ⟨(⟨#[66, 111, 120]⟩ : ByteArray), h1, S.sub _ ⟨rfl, rfl, trivial⟩, H⟩
              · replace H := H.2 hb_6
                refine W.seq ?_
                replace S := S.sub [(1, Value.pointer (some p1)), (3, Value.string (⟨#[]⟩ : ByteArray)), (9, Value.int .i64 x9)] ⟨rfl, rfl, rfl, trivial⟩
                refine W.region ?_
                refine OL.pure S (Lf.run_eql (S.ev rfl) (S.ev rfl)) rfl rfl trivial ?_
                clear S; intro aa S
                refine OL.pure S (Lf.run_assign (S.ev rfl)) rfl rfl trivial ?_
                clear S; intro aa S
                refine OL.nil ?_
                refine W.cond S (b := (x9 == 7)) rfl (fun hb_7 => ?_) (fun hb_7 => ?_)
                · replace H := H.1 hb_7
                  refine W.seq ?_
                  replace S := S.sub [(1, Value.pointer (some p1))] ⟨rfl, trivial⟩
                  refine W.region ?_
                  refine OL.pure S (Lf.run_fa (S.ev rfl) fa49_3) rfl rfl trivial ?_
                  clear S; intro aa S
                  obtain ⟨x40, c_6, H⟩ := H
                  refine OL.pure S (Lf.run_ld (S.ev rfl) fl3 (S.cl c_6)) rfl rfl trivial ?_
                  clear S; intro aa S
                  refine ol_cal S H isfn38 rfl rfl trivial ?_
                  clear S H aa; intro u_1 aa ww h4 H S
                  obtain ⟨x41, rfl, H⟩ := H
                  obtain ⟨c_7, H⟩ := H
                  refine OL.pure S (Lf.run_addt (S.ev rfl) (S.ev rfl) c_7) rfl rfl trivial ?_
                  clear S; intro aa S
                  refine OL.pure S (Lf.run_assign (S.ev rfl)) rfl rfl trivial ?_
                  clear S; intro aa S
                  refine OL.nil ?_
                  refine W.seq ?_
                  replace S := S.sub [(1, Value.pointer (some p1)), (3, Value.string ((⟨#[38]⟩ : ByteArray) ++ x41))] ⟨rfl, rfl, trivial⟩
                  refine W.region ?_
                  refine OL.pure S (Lf.run_fa (S.ev rfl) fa49_2) rfl rfl trivial ?_
                  clear S; intro aa S
                  obtain ⟨x44, c_8, H⟩ := H
                  refine OL.pure S (Lf.run_ld (S.ev rfl) fl4 (S.cl c_8)) rfl rfl trivial ?_
                  clear S; intro aa S
                  refine OL.nil ?_
                  refine W.cond S (b := x44) rfl (fun hb_8 => ?_) (fun hb_8 => ?_)
                  · replace H := H.1 hb_8
                    replace S := S.sub [(1, Value.pointer (some p1)), (3, Value.string ((⟨#[38]⟩ : ByteArray) ++ x41))] ⟨rfl, rfl, trivial⟩
                    refine W.region ?_
                    refine OL.pure S (Lf.run_move (S.ev rfl)) rfl rfl trivial ?_
                    clear S; intro aa S
                    obtain ⟨c_9, H⟩ := H
                    refine OL.pure S (Lf.run_addt (S.ev rfl) (S.ev rfl) c_9) rfl rfl trivial ?_
                    clear S; intro aa S
                    refine OL.pure S (Lf.run_assign (S.ev rfl)) rfl rfl trivial ?_
                    clear S; intro aa S
                    refine OL.nil ?_
                    exact ⟨(((⟨#[38]⟩ : ByteArray) ++ x41) ++ (⟨#[109, 117, 116]⟩ : ByteArray)), h4, S.sub _ ⟨rfl, rfl, trivial⟩, H⟩
                  · replace H := H.2 hb_8
                    refine W.skip ?_
                    exact ⟨((⟨#[38]⟩ : ByteArray) ++ x41), h4, S.sub _ ⟨rfl, rfl, trivial⟩, H⟩
                · replace H := H.2 hb_7
                  refine W.seq ?_
                  replace S := S.sub [(1, Value.pointer (some p1)), (3, Value.string (⟨#[]⟩ : ByteArray)), (9, Value.int .i64 x9)] ⟨rfl, rfl, rfl, trivial⟩
                  refine W.region ?_
                  refine OL.pure S (Lf.run_eql (S.ev rfl) (S.ev rfl)) rfl rfl trivial ?_
                  clear S; intro aa S
                  refine OL.pure S (Lf.run_assign (S.ev rfl)) rfl rfl trivial ?_
                  clear S; intro aa S
                  refine OL.nil ?_
                  refine W.cond S (b := (x9 == 8)) rfl (fun hb_9 => ?_) (fun hb_9 => ?_)
                  · replace H := H.1 hb_9
                    replace S := S.sub [(1, Value.pointer (some p1))] ⟨rfl, trivial⟩
                    obtain ⟨Sq, HS, H⟩ := H
                    refine W.regionN [1] [6] Sq S (by kernel_rfl) ?_
                    clear S; intro ww S
                    refine BN.pure 0 S (fun _ => HS) rfl (by kernel_rfl) (by kernel_rfl) (fun _ => Lf.run_fa (S.ev rfl) fa49_1) rfl rfl trivial ?_
                    clear S; intro aa S
                    refine BN.pure 4 S (fun _ => HS) rfl (by kernel_rfl) (by kernel_rfl) (fun _ => Lf.run_fa (S.ev rfl) fa49_3) rfl rfl trivial ?_
                    clear S; intro aa S
                    obtain ⟨x50, c_10, H⟩ := H
                    refine BN.held 1 S HS rfl (by kernel_rfl) (fun _ hq => Lf.run_ld (S.ev rfl) fl9 (c_10 _ hq)) rfl rfl trivial ?_
                    clear S; intro aa S
                    obtain ⟨c_11, H⟩ := H
                    refine BN.pure 2 S (fun _ => HS) rfl (by kernel_rfl) (by kernel_rfl) (fun _ => Lf.run_addt (S.ev rfl) (S.ev rfl) c_11) rfl rfl trivial ?_
                    clear S; intro aa S
                    obtain ⟨c_12, H⟩ := H
                    refine BN.pure 3 S (fun _ => HS) rfl (by kernel_rfl) (by kernel_rfl) (fun _ => Lf.run_addt (S.ev rfl) (S.ev rfl) c_12) rfl rfl trivial ?_
                    clear S; intro aa S
                    obtain ⟨x54, c_13, H⟩ := H
                    refine BN.load 5 S (fun _ => HS) rfl (by kernel_rfl) (by kernel_rfl) (fun _ hx => Lf.run_ld (S.ev rfl) fl3 (hx.cell _ _ (S.cl c_13))) rfl rfl trivial ?_
                    clear S; intro aa S
                    refine BN.eff 6 rfl (by kernel_rfl) ?_
                    refine ol_cal S H isfn38 rfl rfl trivial ?_
                    clear S H aa; intro u_2 aa ww h5 H S
                    obtain ⟨x55, rfl, H⟩ := H
                    refine OL.nil ?_
                    clear HS; obtain ⟨HS, H⟩ := H
                    refine ⟨fun _ => by rw [S.heap]; exact HS, ?_⟩
                    obtain ⟨c_14, H⟩ := H
                    refine BN.pure 7 S (fun _ => HS) rfl (by kernel_rfl) (by kernel_rfl) (fun _ => Lf.run_addt (S.ev rfl) (S.ev rfl) c_14) rfl rfl trivial ?_
                    clear S; intro aa S
                    refine BN.pure 8 S (fun _ => HS) rfl (by kernel_rfl) (by kernel_rfl) (fun _ => Lf.run_assign (S.ev rfl)) rfl rfl trivial ?_
                    clear S; intro aa S
                    refine BN.done (by kernel_rfl) ?_
                    exact ⟨((((⟨#[100, 121, 110, 32]⟩ : ByteArray) ++ x50) ++ (⟨#[43]⟩ : ByteArray)) ++ x55), h5, S.sub _ ⟨rfl, rfl, trivial⟩, H⟩
                  · replace H := H.2 hb_9
                    refine W.seq ?_
                    replace S := S.sub [(1, Value.pointer (some p1)), (3, Value.string (⟨#[]⟩ : ByteArray)), (9, Value.int .i64 x9)] ⟨rfl, rfl, rfl, trivial⟩
                    refine W.region ?_
                    refine OL.pure S (Lf.run_eql (S.ev rfl) (S.ev rfl)) rfl rfl trivial ?_
                    clear S; intro aa S
                    refine OL.pure S (Lf.run_assign (S.ev rfl)) rfl rfl trivial ?_
                    clear S; intro aa S
                    refine OL.nil ?_
                    refine W.cond S (b := (x9 == 9)) rfl (fun hb_10 => ?_) (fun hb_10 => ?_)
                    · replace H := H.1 hb_10
                      replace S := S.sub [(1, Value.pointer (some p1))] ⟨rfl, trivial⟩
                      obtain ⟨Sq_1, HS_1, H⟩ := H
                      refine W.regionN [1] [5] Sq_1 S (by kernel_rfl) ?_
                      clear S; intro ww S
                      refine BN.pure 0 S (fun _ => HS_1) rfl (by kernel_rfl) (by kernel_rfl) (fun _ => Lf.run_fa (S.ev rfl) fa49_1) rfl rfl trivial ?_
                      clear S; intro aa S
                      refine BN.pure 3 S (fun _ => HS_1) rfl (by kernel_rfl) (by kernel_rfl) (fun _ => Lf.run_fa (S.ev rfl) fa49_3) rfl rfl trivial ?_
                      clear S; intro aa S
                      obtain ⟨x60, c_15, H⟩ := H
                      refine BN.held 1 S HS_1 rfl (by kernel_rfl) (fun _ hq => Lf.run_ld (S.ev rfl) fl9 (c_15 _ hq)) rfl rfl trivial ?_
                      clear S; intro aa S
                      obtain ⟨c_16, H⟩ := H
                      refine BN.pure 2 S (fun _ => HS_1) rfl (by kernel_rfl) (by kernel_rfl) (fun _ => Lf.run_addt (S.ev rfl) (S.ev rfl) c_16) rfl rfl trivial ?_
                      clear S; intro aa S
                      obtain ⟨x63, c_17, H⟩ := H
                      refine BN.load 4 S (fun _ => HS_1) rfl (by kernel_rfl) (by kernel_rfl) (fun _ hx => Lf.run_ld (S.ev rfl) fl3 (hx.cell _ _ (S.cl c_17))) rfl rfl trivial ?_
                      clear S; intro aa S
                      refine BN.eff 5 rfl (by kernel_rfl) ?_
                      refine ol_cal S H isfn38 rfl rfl trivial ?_
                      clear S H aa; intro u_3 aa ww h6 H S
                      obtain ⟨x64, rfl, H⟩ := H
                      refine OL.nil ?_
                      clear HS_1; obtain ⟨HS_1, H⟩ := H
                      refine ⟨fun _ => by rw [S.heap]; exact HS_1, ?_⟩
                      obtain ⟨c_18, H⟩ := H
                      refine BN.pure 6 S (fun _ => HS_1) rfl (by kernel_rfl) (by kernel_rfl) (fun _ => Lf.run_addt (S.ev rfl) (S.ev rfl) c_18) rfl rfl trivial ?_
                      clear S; intro aa S
                      refine BN.pure 7 S (fun _ => HS_1) rfl (by kernel_rfl) (by kernel_rfl) (fun _ => Lf.run_assign (S.ev rfl)) rfl rfl trivial ?_
                      clear S; intro aa S
                      refine BN.done (by kernel_rfl) ?_
                      exact ⟨((x60 ++ (⟨#[63]⟩ : ByteArray)) ++ x64), h6, S.sub _ ⟨rfl, rfl, trivial⟩, H⟩
                    · replace H := H.2 hb_10
                      refine W.skip ?_
                      exact ⟨(⟨#[]⟩ : ByteArray), h1, S.sub _ ⟨rfl, rfl, trivial⟩, H⟩
  · clear H S aa
    rintro aa ww ⟨s3_1, h7, S, HJ⟩
    have H := HK _ _ HJ
    clear HK HJ
    refine W.seq ?_
    refine W.seq ?_
    replace S := S.sub [(1, Value.pointer (some p1)), (3, Value.string s3_1)] ⟨rfl, rfl, trivial⟩
    refine W.region ?_
    refine OL.pure S (Lf.run_fa (S.ev rfl) fa49_5) rfl rfl trivial ?_
    clear S; intro aa S
    obtain ⟨x67, c_19, H⟩ := H
    refine OL.pure S (Lf.run_ld (S.ev rfl) fl47 (S.cl c_19)) rfl rfl trivial ?_
    clear S; intro aa S
    refine OL.pure S (Lf.run_lens (S.ev rfl) rfl Try.underlying47) rfl rfl trivial ?_
    clear S; intro aa S
    refine OL.pure S (Lf.run_move (S.ev rfl)) rfl rfl trivial ?_
    clear S; intro aa S
    refine OL.nil ?_
    refine W.block ?_
    obtain ⟨I_1, m_1, H, HB_1⟩ := H
    refine W.loopS (σ := ByteArray × Int × Heap) (fun s aa ww => St 81 [(3, Value.string s.1), (67, Value.slice x67.a x67.n x67.c), (68, Value.int .i64 ((x67.n : Nat) : Int)), (69, Value.int .i64 s.2.1)] s.2.2 w0 aa ww ∧ I_1 s.1 s.2.1 s.2.2) (fun s => m_1 s.1 s.2.1 s.2.2) (s3_1, 0, h7) ⟨S.sub _ ⟨rfl, rfl, rfl, rfl, trivial⟩, H⟩ ?_
    clear H S aa
    rintro ⟨s3_2, x69, h8⟩ aa ww ⟨S, HI⟩
    replace S : St 81 [(3, Value.string s3_2), (67, Value.slice x67.a x67.n x67.c), (68, Value.int .i64 ((x67.n : Nat) : Int)), (69, Value.int .i64 x69)] h8 w0 aa ww := S
    have H := HB_1 s3_2 x69 h8 HI
    clear HI
    refine W.seq ?_
    replace S := S.sub [(3, Value.string s3_2), (67, Value.slice x67.a x67.n x67.c), (68, Value.int .i64 ((x67.n : Nat) : Int)), (69, Value.int .i64 x69)] ⟨rfl, rfl, rfl, rfl, trivial⟩
    refine W.region ?_
    refine OL.pure S (Lf.run_lss (S.ev rfl) (S.ev rfl)) rfl rfl trivial ?_
    clear S; intro aa S
    refine OL.nil ?_
    refine W.seq ?_
    refine W.cond S (b := (decide (x69 < ((x67.n : Nat) : Int)))) rfl (fun hb_11 => ?_) (fun hb_11 => ?_)
    · replace H := H.1 hb_11
      refine W.skip ?_
      refine W.seq ?_
      refine W.block ?_
      refine W.seq ?_
      replace S := S.sub [(3, Value.string s3_2), (67, Value.slice x67.a x67.n x67.c), (68, Value.int .i64 ((x67.n : Nat) : Int)), (69, Value.int .i64 x69)] ⟨rfl, rfl, rfl, rfl, trivial⟩
      refine W.region ?_
      obtain ⟨q71, e_3, e_4, e_5, H⟩ := H
      refine OL.pure S (Lf.run_ixs (S.ev rfl) (S.ev rfl) Try.underlying47 ti49 e_3 e_4 e_5) rfl rfl trivial ?_
      clear S; intro aa S
      obtain ⟨y72, y72_1, y72_2, y72_3, y72_4, y72_5, c_31, c_32, c_33, c_34, c_35, c_36, H⟩ := H
      refine OL.pure S (Lf.run_ldA (cs := [Value.int .i64 y72, Value.string y72_1, Value.bool y72_2, Value.int .i64 y72_3, Value.slice y72_4.a y72_4.n y72_4.c, Value.slice y72_5.a y72_5.n y72_5.c]) (S.ev rfl) ag49 ti49 (by rw [S.heap]; exact RowL.toRow ⟨c_31, c_32, c_33, c_34, c_35, c_36, trivial⟩)) rfl rfl trivial ?_
      clear S; intro aa S
      refine ol_alloc S H ti49 rfl rfl trivial ?_
      clear S H aa; intro p7 aa ww h9 H S
      refine ol_stoA S H rfl rfl ti49 trivial ?_
      clear S H aa; intro aa ww h10 H S
      refine OL.nil ?_
      replace S := S.sub [(3, Value.string s3_2), (7, Value.pointer (some p7)), (67, Value.slice x67.a x67.n x67.c), (68, Value.int .i64 ((x67.n : Nat) : Int)), (69, Value.int .i64 x69)] ⟨rfl, rfl, rfl, rfl, rfl, trivial⟩
      refine W.region ?_
      refine OL.pure S (Lf.run_move (S.ev rfl)) rfl rfl trivial ?_
      clear S; intro aa S
      obtain ⟨y74, y74_1, y74_2, y74_3, y74_4, y74_5, c_25, c_26, c_27, c_28, c_29, c_30, H⟩ := H
      refine OL.pure S (Lf.run_ldA (cs := [Value.int .i64 y74, Value.string y74_1, Value.bool y74_2, Value.int .i64 y74_3, Value.slice y74_4.a y74_4.n y74_4.c, Value.slice y74_5.a y74_5.n y74_5.c]) (S.ev rfl) ag49 ti49 (by rw [S.heap]; exact RowL.toRow ⟨c_25, c_26, c_27, c_28, c_29, c_30, trivial⟩)) rfl rfl trivial ?_
      clear S; intro aa S
      refine ol_cal S H isfn28 rfl rfl trivial ?_
      clear S H aa; intro u_4 aa ww h11 H S
      obtain ⟨x75, rfl, H⟩ := H
      obtain ⟨c_22, H⟩ := H
      refine OL.pure S (Lf.run_addt (S.ev rfl) (S.ev rfl) c_22) rfl rfl trivial ?_
      clear S; intro aa S
      obtain ⟨c_23, H⟩ := H
      refine OL.pure S (Lf.run_addt (S.ev rfl) (S.ev rfl) c_23) rfl rfl trivial ?_
      clear S; intro aa S
      obtain ⟨c_24, H⟩ := H
      refine OL.pure S (Lf.run_addt (S.ev rfl) (S.ev rfl) c_24) rfl rfl trivial ?_
      clear S; intro aa S
      refine OL.pure S (Lf.run_assign (S.ev rfl)) rfl rfl trivial ?_
      clear S; intro aa S
      refine OL.nil ?_
      replace S := S.sub [(3, Value.string (s3_2 ++ (((⟨#[60]⟩ : ByteArray) ++ x75) ++ (⟨#[62]⟩ : ByteArray)))), (67, Value.slice x67.a x67.n x67.c), (68, Value.int .i64 ((x67.n : Nat) : Int)), (69, Value.int .i64 x69)] ⟨rfl, rfl, rfl, rfl, trivial⟩
      refine W.region ?_
      refine OL.pure S (Lf.run_add (S.ev rfl) (S.ev rfl)) rfl rfl trivial ?_
      clear S; intro aa S
      refine OL.pure S (Lf.run_move (S.ev rfl)) rfl rfl trivial ?_
      clear S; intro aa S
      refine OL.nil ?_
      exact ⟨((s3_2 ++ (((⟨#[60]⟩ : ByteArray) ++ x75) ++ (⟨#[62]⟩ : ByteArray))), (IntKind.i64.wrap (x69 + 1)), h11), ⟨S.sub _ ⟨rfl, rfl, rfl, rfl, trivial⟩, H.1⟩, H.2⟩
    · replace H := H.2 hb_11
      refine W.exit_ ?_
      refine xhit ?_
      refine W.seq ?_
      replace S := S.sub [(3, Value.string s3_2)] ⟨rfl, trivial⟩
      refine W.region ?_
      refine OL.pure S (Lf.run_move (S.ev rfl)) rfl rfl trivial ?_
      clear S; intro aa S
      refine OL.pure S (Lf.run_assign (S.ev rfl)) rfl rfl trivial ?_
      clear S; intro aa S
      refine OL.nil ?_
      refine W.ret ?_
      exact Ret.one S rfl rfl H

/-- chattel mir.instrText -/
def L29 (x0 : Int) (x0_1 : Int) (x0_2 : Int) (x0_3 : Sv) (x0_4 : Int) (x0_5 : Sv) (x0_6 : Int) (x0_7 : Sv) (x0_8 : Bool) (x0_9 : ByteArray) (x0_10 : Int) (x0_11 : Sv) (x0_12 : Int) (x0_13 : Int) (x0_14 : Sv) (x0_15 : Int) (x0_16 : Int) (x0_17 : Int) (x0_18 : Int) (x0_19 : Int) (x0_20 : Int) (h : Heap) (R : Value → Heap → Prop) : Prop :=
  new 61 #[Value.int .i64 x0, Value.int .i64 x0_1, Value.int .i64 x0_2, Value.slice x0_3.a x0_3.n x0_3.c, Value.int .i64 x0_4, Value.slice x0_5.a x0_5.n x0_5.c, Value.int .i64 x0_6, Value.slice x0_7.a x0_7.n x0_7.c, Value.bool x0_8, Value.string x0_9, Value.int .i64 x0_10, Value.slice x0_11.a x0_11.n x0_11.c, Value.int .i64 x0_12, Value.int .i64 x0_13, Value.slice x0_14.a x0_14.n x0_14.c, Value.int .i64 x0_15, Value.int .u64 x0_16, Value.int .i64 x0_17, Value.int .i64 x0_18, Value.int .i64 x0_19, Value.int .i64 x0_20] h fun p1 h1 =>
  ldI .i64 h1 p1 fun x4 =>
  ifb (x4 == 1) (
    ldI .i64 h1 (p1.add 1) fun x8 =>
    cal Try.prog 27 #[Value.int .i64 x8] h1 fun u h2 => asT u fun x9 =>
    (((⟨#[108, 105, 118, 101, 32]⟩ : ByteArray).size : Nat) : Int) + ((x9.size : Nat) : Int) ≤ 9223372036854775807 ∧
    R (Value.string ((⟨#[108, 105, 118, 101, 32]⟩ : ByteArray) ++ x9)) h2) (
    ifb (x4 == 2) (
      ldI .i64 h1 (p1.add 1) fun x14 =>
      cal Try.prog 27 #[Value.int .i64 x14] h1 fun u_1 h3 => asT u_1 fun x15 =>
      (((⟨#[100, 101, 97, 100, 32]⟩ : ByteArray).size : Nat) : Int) + ((x15.size : Nat) : Int) ≤ 9223372036854775807 ∧
      R (Value.string ((⟨#[100, 101, 97, 100, 32]⟩ : ByteArray) ++ x15)) h3) (
      ifb (x4 == 3) (
        ∃ Sq : Heap → Prop, Sq h1 ∧ (
          ∃ (y20 : Int) (y20_1 : Sv), cl h1 (p1.add 2) = some (Value.int .i64 y20) ∧ cl h1 ((p1.add 2).add 1) = some (Value.slice y20_1.a y20_1.n y20_1.c) ∧
          ∃ (y24 : Int) (y24_1 : Sv) (y24_2 : Int) (y24_3 : Sv) (y24_4 : Bool) (y24_5 : ByteArray) (y24_6 : Int) (y24_7 : Sv), hld Sq (p1.add 4) (Value.int .i64 y24) ∧ hld Sq ((p1.add 4).add 1) (Value.slice y24_1.a y24_1.n y24_1.c) ∧ hld Sq ((p1.add 4).add 2) (Value.int .i64 y24_2) ∧ hld Sq ((p1.add 4).add 3) (Value.slice y24_3.a y24_3.n y24_3.c) ∧ hld Sq ((p1.add 4).add 4) (Value.bool y24_4) ∧ hld Sq ((p1.add 4).add 5) (Value.string y24_5) ∧ hld Sq ((p1.add 4).add 6) (Value.int .i64 y24_6) ∧ hld Sq ((p1.add 4).add 7) (Value.slice y24_7.a y24_7.n y24_7.c) ∧
          cal Try.prog 39 #[Value.agg #[Value.int .i64 y20, Value.slice y20_1.a y20_1.n y20_1.c]] h1 fun u_2 h4 => asT u_2 fun x21 =>
          Sq h4 ∧
          ((x21.size : Nat) : Int) + (((⟨#[32, 61, 32]⟩ : ByteArray).size : Nat) : Int) ≤ 9223372036854775807 ∧
          cal Try.prog 40 #[Value.agg #[Value.int .i64 y24, Value.slice y24_1.a y24_1.n y24_1.c, Value.int .i64 y24_2, Value.slice y24_3.a y24_3.n y24_3.c, Value.bool y24_4, Value.string y24_5, Value.int .i64 y24_6, Value.slice y24_7.a y24_7.n y24_7.c]] h4 fun u_3 h5 => asT u_3 fun x25 =>
          (((x21 ++ (⟨#[32, 61, 32]⟩ : ByteArray)).size : Nat) : Int) + ((x25.size : Nat) : Int) ≤ 9223372036854775807 ∧
          R (Value.string ((x21 ++ (⟨#[32, 61, 32]⟩ : ByteArray)) ++ x25)) h5)) (
        ifb (x4 == 4) (
          ldI .i64 h1 (p1.add 17) fun x30 =>
          cal Try.prog 27 #[Value.int .i64 x30] h1 fun u_4 h6 => asT u_4 fun x31 =>
          (((⟨#[106, 117, 109, 112, 32]⟩ : ByteArray).size : Nat) : Int) + ((x31.size : Nat) : Int) ≤ 9223372036854775807 ∧
          R (Value.string ((⟨#[106, 117, 109, 112, 32]⟩ : ByteArray) ++ x31)) h6) (
          ifb (x4 == 5) (
            ∃ Sq_1 : Heap → Prop, Sq_1 h1 ∧ (
              ∃ (y36 : Int) (y36_1 : Int) (y36_2 : Sv) (y36_3 : Int) (y36_4 : Int), cl h1 (p1.add 12) = some (Value.int .i64 y36) ∧ cl h1 ((p1.add 12).add 1) = some (Value.int .i64 y36_1) ∧ cl h1 ((p1.add 12).add 2) = some (Value.slice y36_2.a y36_2.n y36_2.c) ∧ cl h1 ((p1.add 12).add 3) = some (Value.int .i64 y36_3) ∧ cl h1 ((p1.add 12).add 4) = some (Value.int .u64 y36_4) ∧
              hlI .i64 Sq_1 (p1.add 17) fun x41 =>
              hlI .i64 Sq_1 (p1.add 18) fun x46 =>
              cal Try.prog 41 #[Value.agg #[Value.int .i64 y36, Value.int .i64 y36_1, Value.slice y36_2.a y36_2.n y36_2.c, Value.int .i64 y36_3, Value.int .u64 y36_4]] h1 fun u_5 h7 => asT u_5 fun x37 =>
              Sq_1 h7 ∧
              (((⟨#[105, 102, 32]⟩ : ByteArray).size : Nat) : Int) + ((x37.size : Nat) : Int) ≤ 9223372036854775807 ∧
              ((((⟨#[105, 102, 32]⟩ : ByteArray) ++ x37).size : Nat) : Int) + (((⟨#[32]⟩ : ByteArray).size : Nat) : Int) ≤ 9223372036854775807 ∧
              cal Try.prog 27 #[Value.int .i64 x41] h7 fun u_6 h8 => asT u_6 fun x42 =>
              Sq_1 h8 ∧
              (((((⟨#[105, 102, 32]⟩ : ByteArray) ++ x37) ++ (⟨#[32]⟩ : ByteArray)).size : Nat) : Int) + ((x42.size : Nat) : Int) ≤ 9223372036854775807 ∧
              ((((((⟨#[105, 102, 32]⟩ : ByteArray) ++ x37) ++ (⟨#[32]⟩ : ByteArray)) ++ x42).size : Nat) : Int) + (((⟨#[32]⟩ : ByteArray).size : Nat) : Int) ≤ 9223372036854775807 ∧
              cal Try.prog 27 #[Value.int .i64 x46] h8 fun u_7 h9 => asT u_7 fun x47 =>
              (((((((⟨#[105, 102, 32]⟩ : ByteArray) ++ x37) ++ (⟨#[32]⟩ : ByteArray)) ++ x42) ++ (⟨#[32]⟩ : ByteArray)).size : Nat) : Int) + ((x47.size : Nat) : Int) ≤ 9223372036854775807 ∧
              R (Value.string ((((((⟨#[105, 102, 32]⟩ : ByteArray) ++ x37) ++ (⟨#[32]⟩ : ByteArray)) ++ x42) ++ (⟨#[32]⟩ : ByteArray)) ++ x47)) h9)) (
            ifb (x4 == 6) (
              R (Value.string (⟨#[114, 101, 116, 117, 114, 110]⟩ : ByteArray)) h1) (
              R (Value.string (⟨#[97, 98, 111, 114, 116]⟩ : ByteArray)) h1))))))

set_option maxRecDepth 100000 in

theorem F29 {x0 x0_1 x0_2 x0_3 x0_4 x0_5 x0_6 x0_7 x0_8 x0_9 x0_10 x0_11 x0_12 x0_13 x0_14 x0_15 x0_16 x0_17 x0_18 x0_19 x0_20 h : _} {R : Value → Heap → Prop} (H : L29 x0 x0_1 x0_2 x0_3 x0_4 x0_5 x0_6 x0_7 x0_8 x0_9 x0_10 x0_11 x0_12 x0_13 x0_14 x0_15 x0_16 x0_17 x0_18 x0_19 x0_20 h R) : CallsH Try.prog 29 #[Value.agg #[Value.int .i64 x0, Value.int .i64 x0_1, Value.int .i64 x0_2, Value.slice x0_3.a x0_3.n x0_3.c, Value.int .i64 x0_4, Value.slice x0_5.a x0_5.n x0_5.c, Value.int .i64 x0_6, Value.slice x0_7.a x0_7.n x0_7.c, Value.bool x0_8, Value.string x0_9, Value.int .i64 x0_10, Value.slice x0_11.a x0_11.n x0_11.c, Value.int .i64 x0_12, Value.int .i64 x0_13, Value.slice x0_14.a x0_14.n x0_14.c, Value.int .i64 x0_15, Value.int .u64 x0_16, Value.int .i64 x0_17, Value.int .i64 x0_18, Value.int .i64 x0_19, Value.int .i64 x0_20]] h R := by
  refine CallsH.enter (n := 51) Try.func29 rfl rfl rfl rfl ?_
  intro w0 aa ww S
  unfold L29 at H
  refine W.seq ?_
  replace S := S.sub [(0, Value.agg #[Value.int .i64 x0, Value.int .i64 x0_1, Value.int .i64 x0_2, Value.slice x0_3.a x0_3.n x0_3.c, Value.int .i64 x0_4, Value.slice x0_5.a x0_5.n x0_5.c, Value.int .i64 x0_6, Value.slice x0_7.a x0_7.n x0_7.c, Value.bool x0_8, Value.string x0_9, Value.int .i64 x0_10, Value.slice x0_11.a x0_11.n x0_11.c, Value.int .i64 x0_12, Value.int .i64 x0_13, Value.slice x0_14.a x0_14.n x0_14.c, Value.int .i64 x0_15, Value.int .u64 x0_16, Value.int .i64 x0_17, Value.int .i64 x0_18, Value.int .i64 x0_19, Value.int .i64 x0_20])] ⟨rfl, trivial⟩
  refine W.region ?_
  refine ol_box S H rfl rfl rfl trivial ?_
  clear S H aa; intro p1 aa ww h1 H S
  refine OL.pure S (Lf.run_assign (S.ev rfl)) rfl rfl trivial ?_
  clear S; intro aa S
  refine OL.nil ?_
  refine W.seq ?_
  refine W.seq ?_
  replace S := S.sub [(1, Value.pointer (some p1))] ⟨rfl, trivial⟩
  refine W.region ?_
  refine OL.pure S (Lf.run_fa (S.ev rfl) fa61_0) rfl rfl trivial ?_
  clear S; intro aa S
  obtain ⟨x4, c, H⟩ := H
  refine OL.pure S (Lf.run_ld (S.ev rfl) fl3 (S.cl c)) rfl rfl trivial ?_
  clear S; intro aa S
  refine OL.nil ?_
  refine W.block ?_
  refine W.seq ?_
  replace S := S.sub [(1, Value.pointer (some p1)), (4, Value.int .i64 x4)] ⟨rfl, rfl, trivial⟩
  refine W.region ?_
  refine OL.pure S (Lf.run_eql (S.ev rfl) (S.ev rfl)) rfl rfl trivial ?_
  clear S; intro aa S
  refine OL.pure S (Lf.run_assign (S.ev rfl)) rfl rfl trivial ?_
  clear S; intro aa S
  refine OL.nil ?_
  refine W.cond S (b := (x4 == 1)) rfl (fun hb => ?_) (fun hb => ?_)
  · replace H := H.1 hb
    refine W.seq ?_
    replace S := S.sub [(1, Value.pointer (some p1))] ⟨rfl, trivial⟩
    refine W.region ?_
    refine OL.pure S (Lf.run_fa (S.ev rfl) fa61_1) rfl rfl trivial ?_
    clear S; intro aa S
    obtain ⟨x8, c_1, H⟩ := H
    refine OL.pure S (Lf.run_ld (S.ev rfl) fl3 (S.cl c_1)) rfl rfl trivial ?_
    clear S; intro aa S
    refine ol_cal S H isfn27 rfl rfl trivial ?_
    clear S H aa; intro u aa ww h2 H S
    obtain ⟨x9, rfl, H⟩ := H
    obtain ⟨c_2, H⟩ := H
    refine OL.pure S (Lf.run_addt (S.ev rfl) (S.ev rfl) c_2) rfl rfl trivial ?_
    clear S; intro aa S
    refine OL.pure S (Lf.run_assign (S.ev rfl)) rfl rfl trivial ?_
    clear S; intro aa S
    refine OL.nil ?_
    refine W.ret ?_
    exact Ret.one S rfl rfl H
  · replace H := H.2 hb
    refine W.seq ?_
    replace S := S.sub [(1, Value.pointer (some p1)), (4, Value.int .i64 x4)] ⟨rfl, rfl, trivial⟩
    refine W.region ?_
    refine OL.pure S (Lf.run_eql (S.ev rfl) (S.ev rfl)) rfl rfl trivial ?_
    clear S; intro aa S
    refine OL.pure S (Lf.run_assign (S.ev rfl)) rfl rfl trivial ?_
    clear S; intro aa S
    refine OL.nil ?_
    refine W.cond S (b := (x4 == 2)) rfl (fun hb_1 => ?_) (fun hb_1 => ?_)
    · replace H := H.1 hb_1
      refine W.seq ?_
      replace S := S.sub [(1, Value.pointer (some p1))] ⟨rfl, trivial⟩
      refine W.region ?_
      refine OL.pure S (Lf.run_fa (S.ev rfl) fa61_1) rfl rfl trivial ?_
      clear S; intro aa S
      obtain ⟨x14, c_3, H⟩ := H
      refine OL.pure S (Lf.run_ld (S.ev rfl) fl3 (S.cl c_3)) rfl rfl trivial ?_
      clear S; intro aa S
      refine ol_cal S H isfn27 rfl rfl trivial ?_
      clear S H aa; intro u_1 aa ww h3 H S
      obtain ⟨x15, rfl, H⟩ := H
      obtain ⟨c_4, H⟩ := H
      refine OL.pure S (Lf.run_addt (S.ev rfl) (S.ev rfl) c_4) rfl rfl trivial ?_
      clear S; intro aa S
      refine OL.pure S (Lf.run_assign (S.ev rfl)) rfl rfl trivial ?_
      clear S; intro aa S
      refine OL.nil ?_
      refine W.ret ?_
      exact Ret.one S rfl rfl H
    · replace H := H.2 hb_1
      refine W.seq ?_
      replace S := S.sub [(1, Value.pointer (some p1)), (4, Value.int .i64 x4)] ⟨rfl, rfl, trivial⟩
      refine W.region ?_
      refine OL.pure S (Lf.run_eql (S.ev rfl) (S.ev rfl)) rfl rfl trivial ?_
      clear S; intro aa S
      refine OL.pure S (Lf.run_assign (S.ev rfl)) rfl rfl trivial ?_
      clear S; intro aa S
      refine OL.nil ?_
      refine W.cond S (b := (x4 == 3)) rfl (fun hb_2 => ?_) (fun hb_2 => ?_)
      · replace H := H.1 hb_2
        refine W.seq ?_
        replace S := S.sub [(1, Value.pointer (some p1))] ⟨rfl, trivial⟩
        obtain ⟨Sq, HS, H⟩ := H
        refine W.regionN [5] [2, 6] Sq S (by kernel_rfl) ?_
        clear S; intro ww S
        refine BN.pure 0 S (fun _ => HS) rfl (by kernel_rfl) (by kernel_rfl) (fun _ => Lf.run_fa (S.ev rfl) fa61_2) rfl rfl trivial ?_
        clear S; intro aa S
        obtain ⟨y20, y20_1, c_17, c_18, H⟩ := H
        refine BN.load 1 S (fun _ => HS) rfl (by kernel_rfl) (by kernel_rfl) (fun _ hx => Lf.run_ldA (cs := [Value.int .i64 y20, Value.slice y20_1.a y20_1.n y20_1.c]) (S.ev rfl) ag24 ti24 (hx.row (S.row ⟨c_17, c_18, trivial⟩))) rfl rfl trivial ?_
        clear S; intro aa S
        refine BN.pure 4 S (fun _ => HS) rfl (by kernel_rfl) (by kernel_rfl) (fun _ => Lf.run_fa (S.ev rfl) fa61_3) rfl rfl trivial ?_
        clear S; intro aa S
        obtain ⟨y24, y24_1, y24_2, y24_3, y24_4, y24_5, y24_6, y24_7, c_9, c_10, c_11, c_12, c_13, c_14, c_15, c_16, H⟩ := H
        refine BN.held 5 S HS rfl (by kernel_rfl) (fun _ hq => Lf.run_ldA (cs := [Value.int .i64 y24, Value.slice y24_1.a y24_1.n y24_1.c, Value.int .i64 y24_2, Value.slice y24_3.a y24_3.n y24_3.c, Value.bool y24_4, Value.string y24_5, Value.int .i64 y24_6, Value.slice y24_7.a y24_7.n y24_7.c]) (S.ev rfl) ag56 ti56 (hlRow hq fun h_ hs_ => ⟨c_9 h_ hs_, c_10 h_ hs_, c_11 h_ hs_, c_12 h_ hs_, c_13 h_ hs_, c_14 h_ hs_, c_15 h_ hs_, c_16 h_ hs_, trivial⟩)) rfl rfl trivial ?_
        clear S; intro aa S
        refine BN.eff 2 rfl (by kernel_rfl) ?_
        refine ol_cal S H isfn39 rfl rfl trivial ?_
        clear S H aa; intro u_2 aa ww h4 H S
        obtain ⟨x21, rfl, H⟩ := H
        refine OL.nil ?_
        clear HS; obtain ⟨HS, H⟩ := H
        refine ⟨fun _ => by rw [S.heap]; exact HS, ?_⟩
        obtain ⟨c_7, H⟩ := H
        refine BN.pure 3 S (fun _ => HS) rfl (by kernel_rfl) (by kernel_rfl) (fun _ => Lf.run_addt (S.ev rfl) (S.ev rfl) c_7) rfl rfl trivial ?_
        clear S; intro aa S
        refine BN.eff 6 rfl (by kernel_rfl) ?_
        refine ol_cal S H isfn40 rfl rfl trivial ?_
        clear S H aa; intro u_3 aa ww h5 H S
        obtain ⟨x25, rfl, H⟩ := H
        refine OL.nil ?_
        refine ⟨noNeed (by kernel_rfl), ?_⟩
        obtain ⟨c_8, H⟩ := H
        refine BN.pure 7 S (noNeed (by kernel_rfl)) rfl (by kernel_rfl) (by kernel_rfl) (fun _ => Lf.run_addt (S.ev rfl) (S.ev rfl) c_8) rfl rfl trivial ?_
        clear S; intro aa S
        refine BN.pure 8 S (noNeed (by kernel_rfl)) rfl (by kernel_rfl) (by kernel_rfl) (fun _ => Lf.run_assign (S.ev rfl)) rfl rfl trivial ?_
        clear S; intro aa S
        refine BN.done (by kernel_rfl) ?_
        refine W.ret ?_
        exact Ret.one S rfl rfl H
      · replace H := H.2 hb_2
        refine W.seq ?_
        replace S := S.sub [(1, Value.pointer (some p1)), (4, Value.int .i64 x4)] ⟨rfl, rfl, trivial⟩
        refine W.region ?_
        refine OL.pure S (Lf.run_eql (S.ev rfl) (S.ev rfl)) rfl rfl trivial ?_
        clear S; intro aa S
        refine OL.pure S (Lf.run_assign (S.ev rfl)) rfl rfl trivial ?_
        clear S; intro aa S
        refine OL.nil ?_
        refine W.cond S (b := (x4 == 4)) rfl (fun hb_3 => ?_) (fun hb_3 => ?_)
        · replace H := H.1 hb_3
          refine W.seq ?_
          replace S := S.sub [(1, Value.pointer (some p1))] ⟨rfl, trivial⟩
          refine W.region ?_
          refine OL.pure S (Lf.run_fa (S.ev rfl) fa61_5) rfl rfl trivial ?_
          clear S; intro aa S
          obtain ⟨x30, c_19, H⟩ := H
          refine OL.pure S (Lf.run_ld (S.ev rfl) fl3 (S.cl c_19)) rfl rfl trivial ?_
          clear S; intro aa S
          refine ol_cal S H isfn27 rfl rfl trivial ?_
          clear S H aa; intro u_4 aa ww h6 H S
          obtain ⟨x31, rfl, H⟩ := H
          obtain ⟨c_20, H⟩ := H
          refine OL.pure S (Lf.run_addt (S.ev rfl) (S.ev rfl) c_20) rfl rfl trivial ?_
          clear S; intro aa S
          refine OL.pure S (Lf.run_assign (S.ev rfl)) rfl rfl trivial ?_
          clear S; intro aa S
          refine OL.nil ?_
          refine W.ret ?_
          exact Ret.one S rfl rfl H
        · replace H := H.2 hb_3
          refine W.seq ?_
          replace S := S.sub [(1, Value.pointer (some p1)), (4, Value.int .i64 x4)] ⟨rfl, rfl, trivial⟩
          refine W.region ?_
          refine OL.pure S (Lf.run_eql (S.ev rfl) (S.ev rfl)) rfl rfl trivial ?_
          clear S; intro aa S
          refine OL.pure S (Lf.run_assign (S.ev rfl)) rfl rfl trivial ?_
          clear S; intro aa S
          refine OL.nil ?_
          refine W.cond S (b := (x4 == 5)) rfl (fun hb_4 => ?_) (fun hb_4 => ?_)
          · replace H := H.1 hb_4
            refine W.seq ?_
            replace S := S.sub [(1, Value.pointer (some p1))] ⟨rfl, trivial⟩
            obtain ⟨Sq_1, HS_1, H⟩ := H
            refine W.regionN [6, 11] [2, 7, 12] Sq_1 S (by kernel_rfl) ?_
            clear S; intro ww S
            refine BN.pure 0 S (fun _ => HS_1) rfl (by kernel_rfl) (by kernel_rfl) (fun _ => Lf.run_fa (S.ev rfl) fa61_4) rfl rfl trivial ?_
            clear S; intro aa S
            obtain ⟨y36, y36_1, y36_2, y36_3, y36_4, c_29, c_30, c_31, c_32, c_33, H⟩ := H
            refine BN.load 1 S (fun _ => HS_1) rfl (by kernel_rfl) (by kernel_rfl) (fun _ hx => Lf.run_ldA (cs := [Value.int .i64 y36, Value.int .i64 y36_1, Value.slice y36_2.a y36_2.n y36_2.c, Value.int .i64 y36_3, Value.int .u64 y36_4]) (S.ev rfl) ag59 ti59 (hx.row (S.row ⟨c_29, c_30, c_31, c_32, c_33, trivial⟩))) rfl rfl trivial ?_
            clear S; intro aa S
            refine BN.pure 5 S (fun _ => HS_1) rfl (by kernel_rfl) (by kernel_rfl) (fun _ => Lf.run_fa (S.ev rfl) fa61_5) rfl rfl trivial ?_
            clear S; intro aa S
            refine BN.pure 10 S (fun _ => HS_1) rfl (by kernel_rfl) (by kernel_rfl) (fun _ => Lf.run_fa (S.ev rfl) fa61_6) rfl rfl trivial ?_
            clear S; intro aa S
            obtain ⟨x41, c_22, H⟩ := H
            refine BN.held 6 S HS_1 rfl (by kernel_rfl) (fun _ hq => Lf.run_ld (S.ev rfl) fl3 (c_22 _ hq)) rfl rfl trivial ?_
            clear S; intro aa S
            obtain ⟨x46, c_23, H⟩ := H
            refine BN.held 11 S HS_1 rfl (by kernel_rfl) (fun _ hq => Lf.run_ld (S.ev rfl) fl3 (c_23 _ hq)) rfl rfl trivial ?_
            clear S; intro aa S
            refine BN.eff 2 rfl (by kernel_rfl) ?_
            refine ol_cal S H isfn41 rfl rfl trivial ?_
            clear S H aa; intro u_5 aa ww h7 H S
            obtain ⟨x37, rfl, H⟩ := H
            refine OL.nil ?_
            clear HS_1; obtain ⟨HS_1, H⟩ := H
            refine ⟨fun _ => by rw [S.heap]; exact HS_1, ?_⟩
            obtain ⟨c_24, H⟩ := H
            refine BN.pure 3 S (fun _ => HS_1) rfl (by kernel_rfl) (by kernel_rfl) (fun _ => Lf.run_addt (S.ev rfl) (S.ev rfl) c_24) rfl rfl trivial ?_
            clear S; intro aa S
            obtain ⟨c_25, H⟩ := H
            refine BN.pure 4 S (fun _ => HS_1) rfl (by kernel_rfl) (by kernel_rfl) (fun _ => Lf.run_addt (S.ev rfl) (S.ev rfl) c_25) rfl rfl trivial ?_
            clear S; intro aa S
            refine BN.eff 7 rfl (by kernel_rfl) ?_
            refine ol_cal S H isfn27 rfl rfl trivial ?_
            clear S H aa; intro u_6 aa ww h8 H S
            obtain ⟨x42, rfl, H⟩ := H
            refine OL.nil ?_
            clear HS_1; obtain ⟨HS_1, H⟩ := H
            refine ⟨fun _ => by rw [S.heap]; exact HS_1, ?_⟩
            obtain ⟨c_26, H⟩ := H
            refine BN.pure 8 S (fun _ => HS_1) rfl (by kernel_rfl) (by kernel_rfl) (fun _ => Lf.run_addt (S.ev rfl) (S.ev rfl) c_26) rfl rfl trivial ?_
            clear S; intro aa S
            obtain ⟨c_27, H⟩ := H
            refine BN.pure 9 S (fun _ => HS_1) rfl (by kernel_rfl) (by kernel_rfl) (fun _ => Lf.run_addt (S.ev rfl) (S.ev rfl) c_27) rfl rfl trivial ?_
            clear S; intro aa S
            refine BN.eff 12 rfl (by kernel_rfl) ?_
            refine ol_cal S H isfn27 rfl rfl trivial ?_
            clear S H aa; intro u_7 aa ww h9 H S
            obtain ⟨x47, rfl, H⟩ := H
            refine OL.nil ?_
            refine ⟨noNeed (by kernel_rfl), ?_⟩
            obtain ⟨c_28, H⟩ := H
            refine BN.pure 13 S (noNeed (by kernel_rfl)) rfl (by kernel_rfl) (by kernel_rfl) (fun _ => Lf.run_addt (S.ev rfl) (S.ev rfl) c_28) rfl rfl trivial ?_
            clear S; intro aa S
            refine BN.pure 14 S (noNeed (by kernel_rfl)) rfl (by kernel_rfl) (by kernel_rfl) (fun _ => Lf.run_assign (S.ev rfl)) rfl rfl trivial ?_
            clear S; intro aa S
            refine BN.done (by kernel_rfl) ?_
            refine W.ret ?_
            exact Ret.one S rfl rfl H
          · replace H := H.2 hb_4
            refine W.seq ?_
            replace S := S.sub [(4, Value.int .i64 x4)] ⟨rfl, trivial⟩
            refine W.region ?_
            refine OL.pure S (Lf.run_eql (S.ev rfl) (S.ev rfl)) rfl rfl trivial ?_
            clear S; intro aa S
            refine OL.pure S (Lf.run_assign (S.ev rfl)) rfl rfl trivial ?_
            clear S; intro aa S
            refine OL.nil ?_
            refine W.cond S (b := (x4 == 6)) rfl (fun hb_5 => ?_) (fun hb_5 => ?_)
            · replace H := H.1 hb_5
              refine W.seq ?_
              replace S := S.sub [] trivial
              refine W.region ?_
              refine OL.pure S (Lf.run_assign (S.ev rfl)) rfl rfl trivial ?_
              clear S; intro aa S
              refine OL.nil ?_
              refine W.ret ?_
              exact Ret.one S rfl rfl H
            · replace H := H.2 hb_5
              refine W.skip ?_
              refine W.seq ?_
              replace S := S.sub [] trivial
              refine W.region ?_
              refine OL.pure S (Lf.run_assign (S.ev rfl)) rfl rfl trivial ?_
              clear S; intro aa S
              refine OL.nil ?_
              refine W.ret ?_
              exact Ret.one S rfl rfl H

/-- slices.Index[[]int,int] -/
def L30 (s0 : Sv) (v1 : Int) (h : Heap) (R : Value → Heap → Prop) : Prop :=
  ∃ (I : Int → Prop) (m : Int → Nat), I 0 ∧ ∀ x8, I x8 →
  ifb (decide (x8 < ((s0.n : Nat) : Int))) (
    ixS s0 x8 fun q14 =>
    ldI .i64 h (q14.add ((x8 : Int).toNat * 1)) fun x15 =>
    ifb (v1 == x15) (
      R (Value.int .i64 x8) h) (
      I (IntKind.i64.wrap (x8 + 1)) ∧ m (IntKind.i64.wrap (x8 + 1)) < m x8)) (
    R (Value.int .i64 (-1)) h)

set_option maxRecDepth 100000 in

theorem F30 {s0 v1 h : _} {R : Value → Heap → Prop} (H : L30 s0 v1 h R) : CallsH Try.prog 30 #[Value.slice s0.a s0.n s0.c, Value.int .i64 v1] h R := by
  refine CallsH.enter (n := 19) Try.func30 rfl rfl rfl rfl ?_
  intro w0 aa ww S
  unfold L30 at H
  refine W.seq ?_
  replace S := S.sub [(0, Value.slice s0.a s0.n s0.c), (1, Value.int .i64 v1)] ⟨rfl, rfl, trivial⟩
  refine W.region ?_
  refine OL.pure S (Lf.run_assign (S.ev rfl)) rfl rfl trivial ?_
  clear S; intro aa S
  refine OL.nil ?_
  refine W.seq ?_
  refine W.seq ?_
  replace S := S.sub [(0, Value.slice s0.a s0.n s0.c), (1, Value.int .i64 v1)] ⟨rfl, rfl, trivial⟩
  refine W.region ?_
  refine OL.pure S (Lf.run_move (S.ev rfl)) rfl rfl trivial ?_
  clear S; intro aa S
  refine OL.pure S (Lf.run_lens (S.ev rfl) rfl Try.underlying22) rfl rfl trivial ?_
  clear S; intro aa S
  refine OL.pure S (Lf.run_move (S.ev rfl)) rfl rfl trivial ?_
  clear S; intro aa S
  refine OL.nil ?_
  refine W.block ?_
  obtain ⟨I, m, H, HB⟩ := H
  refine W.loopS (σ := Int) (fun s aa ww => St 19 [(0, Value.slice s0.a s0.n s0.c), (1, Value.int .i64 v1), (7, Value.int .i64 ((s0.n : Nat) : Int)), (8, Value.int .i64 s)] h w0 aa ww ∧ I s) (fun s => m s) (0) ⟨S.sub _ ⟨rfl, rfl, rfl, rfl, trivial⟩, H⟩ ?_
  clear H S aa
  rintro x8 aa ww ⟨S, HI⟩
  replace S : St 19 [(0, Value.slice s0.a s0.n s0.c), (1, Value.int .i64 v1), (7, Value.int .i64 ((s0.n : Nat) : Int)), (8, Value.int .i64 x8)] h w0 aa ww := S
  have H := HB x8 HI
  clear HI
  refine W.seq ?_
  replace S := S.sub [(0, Value.slice s0.a s0.n s0.c), (1, Value.int .i64 v1), (7, Value.int .i64 ((s0.n : Nat) : Int)), (8, Value.int .i64 x8)] ⟨rfl, rfl, rfl, rfl, trivial⟩
  refine W.region ?_
  refine OL.pure S (Lf.run_lss (S.ev rfl) (S.ev rfl)) rfl rfl trivial ?_
  clear S; intro aa S
  refine OL.nil ?_
  refine W.seq ?_
  refine W.cond S (b := (decide (x8 < ((s0.n : Nat) : Int)))) rfl (fun hb => ?_) (fun hb => ?_)
  · replace H := H.1 hb
    refine W.skip ?_
    refine W.seq ?_
    refine W.block ?_
    refine W.seq ?_
    replace S := S.sub [(0, Value.slice s0.a s0.n s0.c), (1, Value.int .i64 v1), (7, Value.int .i64 ((s0.n : Nat) : Int)), (8, Value.int .i64 x8)] ⟨rfl, rfl, rfl, rfl, trivial⟩
    refine W.region ?_
    refine OL.pure S (Lf.run_move (S.ev rfl)) rfl rfl trivial ?_
    clear S; intro aa S
    refine OL.pure S (Lf.run_assign (S.ev rfl)) rfl rfl trivial ?_
    clear S; intro aa S
    refine OL.nil ?_
    refine W.seq ?_
    replace S := S.sub [(0, Value.slice s0.a s0.n s0.c), (1, Value.int .i64 v1), (5, Value.int .i64 x8), (7, Value.int .i64 ((s0.n : Nat) : Int)), (8, Value.int .i64 x8)] ⟨rfl, rfl, rfl, rfl, rfl, trivial⟩
    refine W.region ?_
    refine OL.pure S (Lf.run_move (S.ev rfl)) rfl rfl trivial ?_
    clear S; intro aa S
    refine OL.pure S (Lf.run_move (S.ev rfl)) rfl rfl trivial ?_
    clear S; intro aa S
    refine OL.pure S (Lf.run_move (S.ev rfl)) rfl rfl trivial ?_
    clear S; intro aa S
    obtain ⟨q14, e, e_1, e_2, H⟩ := H
    refine OL.pure S (Lf.run_ixs (S.ev rfl) (S.ev rfl) Try.underlying22 ti3 e e_1 e_2) rfl rfl trivial ?_
    clear S; intro aa S
    obtain ⟨x15, c, H⟩ := H
    refine OL.pure S (Lf.run_ld (S.ev rfl) fl3 (S.cl c)) rfl rfl trivial ?_
    clear S; intro aa S
    refine OL.pure S (Lf.run_eql (S.ev rfl) (S.ev rfl)) rfl rfl trivial ?_
    clear S; intro aa S
    refine OL.nil ?_
    refine W.cond S (b := (v1 == x15)) rfl (fun hb_1 => ?_) (fun hb_1 => ?_)
    · replace H := H.1 hb_1
      refine W.seq ?_
      replace S := S.sub [(5, Value.int .i64 x8)] ⟨rfl, trivial⟩
      refine W.region ?_
      refine OL.pure S (Lf.run_move (S.ev rfl)) rfl rfl trivial ?_
      clear S; intro aa S
      refine OL.pure S (Lf.run_assign (S.ev rfl)) rfl rfl trivial ?_
      clear S; intro aa S
      refine OL.nil ?_
      refine W.ret ?_
      exact Ret.one S rfl rfl H
    · replace H := H.2 hb_1
      refine W.skip ?_
      replace S := S.sub [(0, Value.slice s0.a s0.n s0.c), (1, Value.int .i64 v1), (7, Value.int .i64 ((s0.n : Nat) : Int)), (8, Value.int .i64 x8)] ⟨rfl, rfl, rfl, rfl, trivial⟩
      refine W.region ?_
      refine OL.pure S (Lf.run_add (S.ev rfl) (S.ev rfl)) rfl rfl trivial ?_
      clear S; intro aa S
      refine OL.pure S (Lf.run_move (S.ev rfl)) rfl rfl trivial ?_
      clear S; intro aa S
      refine OL.nil ?_
      exact ⟨((IntKind.i64.wrap (x8 + 1))), ⟨S.sub _ ⟨rfl, rfl, rfl, rfl, trivial⟩, H.1⟩, H.2⟩
  · replace H := H.2 hb
    refine W.exit_ ?_
    refine xhit ?_
    refine W.seq ?_
    replace S := S.sub [] trivial
    refine W.region ?_
    refine OL.pure S (Lf.run_assign (S.ev rfl)) rfl rfl trivial ?_
    clear S; intro aa S
    refine OL.nil ?_
    refine W.ret ?_
    exact Ret.one S rfl rfl H

/-- slices.Clone[[]int,int] -/
def L31 (s0 : Sv) (h : Heap) (R : Value → Heap → Prop) : Prop :=
  ifb (Option.isNone s0.a) (
    R (Value.slice (⟨none, 0, 0⟩ : Sv).a (⟨none, 0, 0⟩ : Sv).n (⟨none, 0, 0⟩ : Sv).c) h) (
    newS 3 #[] 0 h fun s5 h1 =>
    appS 3 (Value.int .i64 0).cells 1 8 h1 s5 s0 fun s7 h2 =>
    R (Value.slice s7.a s7.n s7.c) h2)

set_option maxRecDepth 100000 in

theorem F31 {s0 h : _} {R : Value → Heap → Prop} (H : L31 s0 h R) : CallsH Try.prog 31 #[Value.slice s0.a s0.n s0.c] h R := by
  refine CallsH.enter (n := 8) Try.func31 rfl rfl rfl rfl ?_
  intro w0 aa ww S
  unfold L31 at H
  refine W.seq ?_
  replace S := S.sub [(0, Value.slice s0.a s0.n s0.c)] ⟨rfl, trivial⟩
  refine W.region ?_
  refine OL.pure S (Lf.run_assign (S.ev rfl)) rfl rfl trivial ?_
  clear S; intro aa S
  refine OL.nil ?_
  refine W.seq ?_
  refine W.seq ?_
  replace S := S.sub [(0, Value.slice s0.a s0.n s0.c)] ⟨rfl, trivial⟩
  refine W.region ?_
  refine OL.pure S (Lf.run_move (S.ev rfl)) rfl rfl trivial ?_
  clear S; intro aa S
  refine OL.pure S (Lf.run_eqlsn Try.underlying22 (S.ev rfl) (S.ev rfl)) rfl rfl trivial ?_
  clear S; intro aa S
  refine OL.nil ?_
  refine W.cond S (b := (Option.isNone s0.a)) rfl (fun hb => ?_) (fun hb => ?_)
  · replace H := H.1 hb
    refine W.seq ?_
    replace S := S.sub [] trivial
    refine W.region ?_
    refine OL.pure S (Lf.run_assign (S.ev rfl)) rfl rfl trivial ?_
    clear S; intro aa S
    refine OL.nil ?_
    refine W.ret ?_
    exact Ret.one S rfl rfl H
  · replace H := H.2 hb
    refine W.skip ?_
    refine W.seq ?_
    replace S := S.sub [(0, Value.slice s0.a s0.n s0.c)] ⟨rfl, trivial⟩
    refine W.region ?_
    refine ol_newS0 S H Try.underlying22 ti3 rfl rfl trivial ?_
    clear S H aa; intro s5 aa ww h1 H S
    refine OL.pure S (Lf.run_move (S.ev rfl)) rfl rfl trivial ?_
    clear S; intro aa S
    refine ol_appS S H Try.underlying22 ti3 rfl rfl rfl trivial ?_
    clear S H aa; intro s7 aa ww h2 H S
    refine OL.pure S (Lf.run_assign (S.ev rfl)) rfl rfl trivial ?_
    clear S; intro aa S
    refine OL.nil ?_
    refine W.ret ?_
    exact Ret.one S rfl rfl H

/-- slices.Equal[[]int,int] -/
def L32 (s10 : Sv) (s21 : Sv) (h : Heap) (R : Value → Heap → Prop) : Prop :=
  ifb (((s10.n : Nat) : Int) != ((s21.n : Nat) : Int)) (
    R (Value.bool false) h) (
    ∃ (I : Int → Prop) (m : Int → Nat), I 0 ∧ ∀ x13, I x13 →
    ifb (decide (x13 < ((s10.n : Nat) : Int))) (
      ixS s10 x13 fun q18 =>
      ldI .i64 h (q18.add ((x13 : Int).toNat * 1)) fun x19 =>
      ixS s21 x13 fun q22 =>
      ldI .i64 h (q22.add ((x13 : Int).toNat * 1)) fun x23 =>
      ifb (x19 != x23) (
        R (Value.bool false) h) (
        I (IntKind.i64.wrap (x13 + 1)) ∧ m (IntKind.i64.wrap (x13 + 1)) < m x13)) (
      R (Value.bool true) h))

set_option maxRecDepth 100000 in

theorem F32 {s10 s21 h : _} {R : Value → Heap → Prop} (H : L32 s10 s21 h R) : CallsH Try.prog 32 #[Value.slice s10.a s10.n s10.c, Value.slice s21.a s21.n s21.c] h R := by
  refine CallsH.enter (n := 26) Try.func32 rfl rfl rfl rfl ?_
  intro w0 aa ww S
  unfold L32 at H
  refine W.seq ?_
  replace S := S.sub [(0, Value.slice s10.a s10.n s10.c), (1, Value.slice s21.a s21.n s21.c)] ⟨rfl, rfl, trivial⟩
  refine W.region ?_
  refine OL.pure S (Lf.run_assign (S.ev rfl)) rfl rfl trivial ?_
  clear S; intro aa S
  refine OL.nil ?_
  refine W.seq ?_
  refine W.seq ?_
  replace S := S.sub [(0, Value.slice s10.a s10.n s10.c), (1, Value.slice s21.a s21.n s21.c)] ⟨rfl, rfl, trivial⟩
  refine W.region ?_
  refine OL.pure S (Lf.run_move (S.ev rfl)) rfl rfl trivial ?_
  clear S; intro aa S
  refine OL.pure S (Lf.run_lens (S.ev rfl) rfl Try.underlying22) rfl rfl trivial ?_
  clear S; intro aa S
  refine OL.pure S (Lf.run_move (S.ev rfl)) rfl rfl trivial ?_
  clear S; intro aa S
  refine OL.pure S (Lf.run_lens (S.ev rfl) rfl Try.underlying22) rfl rfl trivial ?_
  clear S; intro aa S
  refine OL.pure S (Lf.run_neq (S.ev rfl) (S.ev rfl)) rfl rfl trivial ?_
  clear S; intro aa S
  refine OL.nil ?_
  refine W.cond S (b := (((s10.n : Nat) : Int) != ((s21.n : Nat) : Int))) rfl (fun hb => ?_) (fun hb => ?_)
  · replace H := H.1 hb
    refine W.seq ?_
    replace S := S.sub [] trivial
    refine W.region ?_
    refine OL.pure S (Lf.run_assign (S.ev rfl)) rfl rfl trivial ?_
    clear S; intro aa S
    refine OL.nil ?_
    refine W.ret ?_
    exact Ret.one S rfl rfl H
  · replace H := H.2 hb
    refine W.skip ?_
    refine W.seq ?_
    refine W.seq ?_
    replace S := S.sub [(0, Value.slice s10.a s10.n s10.c), (1, Value.slice s21.a s21.n s21.c)] ⟨rfl, rfl, trivial⟩
    refine W.region ?_
    refine OL.pure S (Lf.run_move (S.ev rfl)) rfl rfl trivial ?_
    clear S; intro aa S
    refine OL.pure S (Lf.run_lens (S.ev rfl) rfl Try.underlying22) rfl rfl trivial ?_
    clear S; intro aa S
    refine OL.pure S (Lf.run_move (S.ev rfl)) rfl rfl trivial ?_
    clear S; intro aa S
    refine OL.nil ?_
    refine W.block ?_
    obtain ⟨I, m, H, HB⟩ := H
    refine W.loopS (σ := Int) (fun s aa ww => St 26 [(0, Value.slice s10.a s10.n s10.c), (1, Value.slice s21.a s21.n s21.c), (12, Value.int .i64 ((s10.n : Nat) : Int)), (13, Value.int .i64 s)] h w0 aa ww ∧ I s) (fun s => m s) (0) ⟨S.sub _ ⟨rfl, rfl, rfl, rfl, trivial⟩, H⟩ ?_
    clear H S aa
    rintro x13 aa ww ⟨S, HI⟩
    replace S : St 26 [(0, Value.slice s10.a s10.n s10.c), (1, Value.slice s21.a s21.n s21.c), (12, Value.int .i64 ((s10.n : Nat) : Int)), (13, Value.int .i64 x13)] h w0 aa ww := S
    have H := HB x13 HI
    clear HI
    refine W.seq ?_
    replace S := S.sub [(0, Value.slice s10.a s10.n s10.c), (1, Value.slice s21.a s21.n s21.c), (12, Value.int .i64 ((s10.n : Nat) : Int)), (13, Value.int .i64 x13)] ⟨rfl, rfl, rfl, rfl, trivial⟩
    refine W.region ?_
    refine OL.pure S (Lf.run_lss (S.ev rfl) (S.ev rfl)) rfl rfl trivial ?_
    clear S; intro aa S
    refine OL.nil ?_
    refine W.seq ?_
    refine W.cond S (b := (decide (x13 < ((s10.n : Nat) : Int)))) rfl (fun hb_1 => ?_) (fun hb_1 => ?_)
    · replace H := H.1 hb_1
      refine W.skip ?_
      refine W.seq ?_
      refine W.block ?_
      refine W.seq ?_
      replace S := S.sub [(0, Value.slice s10.a s10.n s10.c), (1, Value.slice s21.a s21.n s21.c), (12, Value.int .i64 ((s10.n : Nat) : Int)), (13, Value.int .i64 x13)] ⟨rfl, rfl, rfl, rfl, trivial⟩
      refine W.region ?_
      refine OL.pure S (Lf.run_move (S.ev rfl)) rfl rfl trivial ?_
      clear S; intro aa S
      refine OL.pure S (Lf.run_assign (S.ev rfl)) rfl rfl trivial ?_
      clear S; intro aa S
      refine OL.nil ?_
      refine W.seq ?_
      replace S := S.sub [(0, Value.slice s10.a s10.n s10.c), (1, Value.slice s21.a s21.n s21.c), (5, Value.int .i64 x13), (12, Value.int .i64 ((s10.n : Nat) : Int)), (13, Value.int .i64 x13)] ⟨rfl, rfl, rfl, rfl, rfl, trivial⟩
      refine W.regionD S (by kernel_rfl) ?_
      clear S; intro ww S
      refine AN.pure 0 S rfl (by kernel_rfl) (fun _ => Lf.run_move (S.ev rfl)) rfl rfl trivial ?_
      clear S; intro aa S
      refine AN.pure 1 S rfl (by kernel_rfl) (fun _ => Lf.run_move (S.ev rfl)) rfl rfl trivial ?_
      clear S; intro aa S
      obtain ⟨q18, e, e_1, e_2, H⟩ := H
      refine AN.pure 2 S rfl (by kernel_rfl) (fun _ => Lf.run_ixs (S.ev rfl) (S.ev rfl) Try.underlying22 ti3 e e_1 e_2) rfl rfl trivial ?_
      clear S; intro aa S
      obtain ⟨x19, c, H⟩ := H
      refine AN.load 3 S rfl (by kernel_rfl) (fun _ hx => Lf.run_ld (S.ev rfl) fl3 (hx.cell _ _ (S.cl c))) rfl rfl trivial ?_
      clear S; intro aa S
      refine AN.pure 4 S rfl (by kernel_rfl) (fun _ => Lf.run_move (S.ev rfl)) rfl rfl trivial ?_
      clear S; intro aa S
      refine AN.pure 5 S rfl (by kernel_rfl) (fun _ => Lf.run_move (S.ev rfl)) rfl rfl trivial ?_
      clear S; intro aa S
      obtain ⟨q22, e_3, e_4, e_5, H⟩ := H
      refine AN.pure 6 S rfl (by kernel_rfl) (fun _ => Lf.run_ixs (S.ev rfl) (S.ev rfl) Try.underlying22 ti3 e_3 e_4 e_5) rfl rfl trivial ?_
      clear S; intro aa S
      obtain ⟨x23, c_1, H⟩ := H
      refine AN.load 7 S rfl (by kernel_rfl) (fun _ hx => Lf.run_ld (S.ev rfl) fl3 (hx.cell _ _ (S.cl c_1))) rfl rfl trivial ?_
      clear S; intro aa S
      refine AN.pure 8 S rfl (by kernel_rfl) (fun _ => Lf.run_neq (S.ev rfl) (S.ev rfl)) rfl rfl trivial ?_
      clear S; intro aa S
      refine AN.done (by kernel_rfl) ?_
      refine W.cond S (b := (x19 != x23)) rfl (fun hb_2 => ?_) (fun hb_2 => ?_)
      · replace H := H.1 hb_2
        refine W.seq ?_
        replace S := S.sub [] trivial
        refine W.region ?_
        refine OL.pure S (Lf.run_assign (S.ev rfl)) rfl rfl trivial ?_
        clear S; intro aa S
        refine OL.nil ?_
        refine W.ret ?_
        exact Ret.one S rfl rfl H
      · replace H := H.2 hb_2
        refine W.skip ?_
        replace S := S.sub [(0, Value.slice s10.a s10.n s10.c), (1, Value.slice s21.a s21.n s21.c), (12, Value.int .i64 ((s10.n : Nat) : Int)), (13, Value.int .i64 x13)] ⟨rfl, rfl, rfl, rfl, trivial⟩
        refine W.region ?_
        refine OL.pure S (Lf.run_add (S.ev rfl) (S.ev rfl)) rfl rfl trivial ?_
        clear S; intro aa S
        refine OL.pure S (Lf.run_move (S.ev rfl)) rfl rfl trivial ?_
        clear S; intro aa S
        refine OL.nil ?_
        exact ⟨((IntKind.i64.wrap (x13 + 1))), ⟨S.sub _ ⟨rfl, rfl, rfl, rfl, trivial⟩, H.1⟩, H.2⟩
    · replace H := H.2 hb_1
      refine W.exit_ ?_
      refine xhit ?_
      refine W.seq ?_
      replace S := S.sub [] trivial
      refine W.region ?_
      refine OL.pure S (Lf.run_assign (S.ev rfl)) rfl rfl trivial ?_
      clear S; intro aa S
      refine OL.nil ?_
      refine W.ret ?_
      exact Ret.one S rfl rfl H

/-- chattel mir.local -/
def L33 (b0 : Option Addr) (n1 : Int) (h : Heap) (R : Value → Heap → Prop) : Prop :=
  ∃ J : Bool → Prop, (andr (decide (0 ≤ n1)) (fun k =>
    nn b0 fun p10 =>
    ldS h (p10.add 2) fun x12 =>
    k (decide (n1 < ((x12.n : Nat) : Int)))) J) ∧ ∀ x15, J x15 →
  R (Value.bool x15) h

set_option maxRecDepth 100000 in

theorem F33 {b0 n1 h : _} {R : Value → Heap → Prop} (H : L33 b0 n1 h R) : CallsH Try.prog 33 #[Value.pointer b0, Value.int .i64 n1] h R := by
  refine CallsH.enter (n := 16) Try.func33 rfl rfl rfl rfl ?_
  intro w0 aa ww S
  unfold L33 at H
  refine W.seq ?_
  replace S := S.sub [(0, Value.pointer b0), (1, Value.int .i64 n1)] ⟨rfl, rfl, trivial⟩
  refine W.region ?_
  refine OL.pure S (Lf.run_assign (S.ev rfl)) rfl rfl trivial ?_
  clear S; intro aa S
  refine OL.nil ?_
  refine W.seq ?_
  replace S := S.sub [(0, Value.pointer b0), (1, Value.int .i64 n1)] ⟨rfl, rfl, trivial⟩
  refine W.region ?_
  refine OL.pure S (Lf.run_move (S.ev rfl)) rfl rfl trivial ?_
  clear S; intro aa S
  refine OL.pure S (Lf.run_geq (S.ev rfl) (S.ev rfl)) rfl rfl trivial ?_
  clear S; intro aa S
  refine OL.pure S (Lf.run_move (S.ev rfl)) rfl rfl trivial ?_
  clear S; intro aa S
  obtain ⟨J, H, HK⟩ := H
  refine OL.cutN 8 (fun aa ww => ∃ x15, St 16 ((15, Value.bool x15) :: [(0, Value.pointer b0), (1, Value.int .i64 n1), (5, Value.int .i64 n1), (6, Value.bool (decide (0 ≤ n1))), (7, Value.bool (decide (0 ≤ n1)))]) h w0 aa ww ∧ J x15) ?_ ?_
  · rcases Bool.eq_false_or_eq_true (decide (0 ≤ n1)) with hb | hb
    · replace H := H.1 hb
      refine OL.pure S (Lf.run_move (S.ev rfl)) rfl rfl (GOk.mk rfl rfl hb) ?_
      clear S; intro aa S
      refine OL.pure S (Lf.run_move (S.ev rfl)) rfl rfl (GOk.mk rfl rfl hb) ?_
      clear S; intro aa S
      obtain ⟨p10, e, H⟩ := H
      refine OL.pure S (Lf.run_nc' (S.ev rfl) e) rfl rfl (GOk.mk rfl rfl hb) ?_
      clear S; intro aa S
      refine OL.pure S (Lf.run_fa (S.ev rfl) fa33_2) rfl rfl (GOk.mk rfl rfl hb) ?_
      clear S; intro aa S
      obtain ⟨x12, c, H⟩ := H
      refine OL.pure S (Lf.run_ld (S.ev rfl) fl30 (S.cl c)) rfl rfl (GOk.mk rfl rfl hb) ?_
      clear S; intro aa S
      refine OL.pure S (Lf.run_lens (S.ev rfl) rfl Try.underlying30) rfl rfl (GOk.mk rfl rfl hb) ?_
      clear S; intro aa S
      refine OL.pure S (Lf.run_lss (S.ev rfl) (S.ev rfl)) rfl rfl (GOk.mk rfl rfl hb) ?_
      clear S; intro aa S
      refine OL.pure S (Lf.run_pickT (S.ev rfl) hb (S.ev rfl)) rfl rfl trivial ?_
      clear S; intro aa S
      refine OL.nil ?_
      exact ⟨_, S.sub _ ⟨rfl, rfl, rfl, rfl, rfl, rfl, trivial⟩, H⟩
    · replace H := H.2 hb
      refine OL.not S rfl rfl (GNo.mk rfl rfl hb) ?_
      clear S; intro aa S
      refine OL.not S rfl rfl (GNo.mk rfl rfl hb) ?_
      clear S; intro aa S
      refine OL.not S rfl rfl (GNo.mk rfl rfl hb) ?_
      clear S; intro aa S
      refine OL.not S rfl rfl (GNo.mk rfl rfl hb) ?_
      clear S; intro aa S
      refine OL.not S rfl rfl (GNo.mk rfl rfl hb) ?_
      clear S; intro aa S
      refine OL.not S rfl rfl (GNo.mk rfl rfl hb) ?_
      clear S; intro aa S
      refine OL.not S rfl rfl (GNo.mk rfl rfl hb) ?_
      clear S; intro aa S
      refine OL.pure S (Lf.run_pickF (S.ev rfl) hb (S.ev rfl)) rfl rfl trivial ?_
      clear S; intro aa S
      refine OL.nil ?_
      exact ⟨_, S.sub _ ⟨rfl, rfl, rfl, rfl, rfl, rfl, trivial⟩, H⟩
  · clear S aa
    rintro aa ww ⟨x15, S, HJ⟩
    replace H := HK _ HJ
    clear HK HJ
    refine OL.pure S (Lf.run_assign (S.ev rfl)) rfl rfl trivial ?_
    clear S; intro aa S
    refine OL.nil ?_
    refine W.ret ?_
    exact Ret.one S rfl rfl H

/-- chattel mir.place -/
def L34 (b0 : Option Addr) (p1 : Int) (p1_1 : Sv) (h : Heap) (R : Value → Heap → Prop) : Prop :=
  new 24 #[Value.int .i64 p1, Value.slice p1_1.a p1_1.n p1_1.c] h fun p3 h1 =>
  ldI .i64 h1 p3 fun x7 =>
  cal Try.prog 33 #[Value.pointer b0, Value.int .i64 x7] h1 fun u h2 => asB u fun x8 =>
  ∃ J : Bool → Heap → Prop, (andj x8 (fun k =>
    ldS h2 (p3.add 1) fun x11 =>
    cal Try.prog 24 #[Value.slice x11.a x11.n x11.c, (Value.func (.func 42) #[] #[])] h2 fun u_1 h4 => asB u_1 fun x12 =>
    k (!x12) h4) h2 J) ∧ ∀ x14 h3, J x14 h3 →
  R (Value.bool x14) h3

set_option maxRecDepth 100000 in

theorem F34 {b0 p1 p1_1 h : _} {R : Value → Heap → Prop} (H : L34 b0 p1 p1_1 h R) : CallsH Try.prog 34 #[Value.pointer b0, Value.agg #[Value.int .i64 p1, Value.slice p1_1.a p1_1.n p1_1.c]] h R := by
  refine CallsH.enter (n := 15) Try.func34 rfl rfl rfl rfl ?_
  intro w0 aa ww S
  unfold L34 at H
  refine W.seq ?_
  replace S := S.sub [(0, Value.pointer b0), (1, Value.agg #[Value.int .i64 p1, Value.slice p1_1.a p1_1.n p1_1.c])] ⟨rfl, rfl, trivial⟩
  refine W.region ?_
  refine ol_box S H rfl rfl rfl trivial ?_
  clear S H aa; intro p3 aa ww h1 H S
  refine OL.pure S (Lf.run_assign (S.ev rfl)) rfl rfl trivial ?_
  clear S; intro aa S
  refine OL.nil ?_
  refine W.seq ?_
  replace S := S.sub [(0, Value.pointer b0), (3, Value.pointer (some p3))] ⟨rfl, rfl, trivial⟩
  refine W.region ?_
  refine OL.pure S (Lf.run_move (S.ev rfl)) rfl rfl trivial ?_
  clear S; intro aa S
  refine OL.pure S (Lf.run_fa (S.ev rfl) fa24_0) rfl rfl trivial ?_
  clear S; intro aa S
  obtain ⟨x7, c, H⟩ := H
  refine OL.pure S (Lf.run_ld (S.ev rfl) fl3 (S.cl c)) rfl rfl trivial ?_
  clear S; intro aa S
  refine ol_cal S H isfn33 rfl rfl trivial ?_
  clear S H aa; intro u aa ww h2 H S
  obtain ⟨x8, rfl, H⟩ := H
  refine OL.pure S (Lf.run_move (S.ev rfl)) rfl rfl trivial ?_
  clear S; intro aa S
  obtain ⟨J, H, HK⟩ := H
  refine OL.cutN 5 (fun aa ww => ∃ x14 h3, St 15 ((14, Value.bool x14) :: [(0, Value.pointer b0), (3, Value.pointer (some p3)), (5, Value.pointer b0), (6, Value.pointer (some p3)), (7, Value.int .i64 x7), (8, Value.bool x8), (9, Value.bool x8)]) h3 w0 aa ww ∧ J x14 h3) ?_ ?_
  · rcases Bool.eq_false_or_eq_true x8 with hb | hb
    · replace H := H.1 hb
      refine OL.pure S (Lf.run_fa (S.ev rfl) fa24_1) rfl rfl (GOk.mk rfl rfl hb) ?_
      clear S; intro aa S
      obtain ⟨x11, c_1, H⟩ := H
      refine OL.pure S (Lf.run_ld (S.ev rfl) fl22 (S.cl c_1)) rfl rfl (GOk.mk rfl rfl hb) ?_
      clear S; intro aa S
      refine ol_cal S H isfn24 rfl rfl (GOk.mk rfl rfl hb) ?_
      clear S H aa; intro u_1 aa ww h4 H S
      obtain ⟨x12, rfl, H⟩ := H
      refine OL.pure S (Lf.run_not (S.ev rfl)) rfl rfl (GOk.mk rfl rfl hb) ?_
      clear S; intro aa S
      refine OL.pure S (Lf.run_pickT (S.ev rfl) hb (S.ev rfl)) rfl rfl trivial ?_
      clear S; intro aa S
      refine OL.nil ?_
      exact ⟨_, _, S.sub _ ⟨rfl, rfl, rfl, rfl, rfl, rfl, rfl, rfl, trivial⟩, H⟩
    · replace H := H.2 hb
      refine OL.not S rfl rfl (GNo.mk rfl rfl hb) ?_
      clear S; intro aa S
      refine OL.not S rfl rfl (GNo.mk rfl rfl hb) ?_
      clear S; intro aa S
      refine OL.not S rfl rfl (GNo.mk rfl rfl hb) ?_
      clear S; intro aa S
      refine OL.not S rfl rfl (GNo.mk rfl rfl hb) ?_
      clear S; intro aa S
      refine OL.pure S (Lf.run_pickF (S.ev rfl) hb (S.ev rfl)) rfl rfl trivial ?_
      clear S; intro aa S
      refine OL.nil ?_
      exact ⟨_, _, S.sub _ ⟨rfl, rfl, rfl, rfl, rfl, rfl, rfl, rfl, trivial⟩, H⟩
  · clear S aa
    rintro aa ww ⟨x14, h3, S, HJ⟩
    replace H := HK _ _ HJ
    clear HK HJ
    refine OL.pure S (Lf.run_assign (S.ev rfl)) rfl rfl trivial ?_
    clear S; intro aa S
    refine OL.nil ?_
    refine W.ret ?_
    exact Ret.one S rfl rfl H

/-- chattel mir.right -/
def L35 (b0 : Option Addr) (r1 : Int) (r1_1 : Sv) (r1_2 : Int) (r1_3 : Sv) (r1_4 : Bool) (r1_5 : ByteArray) (r1_6 : Int) (r1_7 : Sv) (h : Heap) (R : Value → Heap → Prop) : Prop :=
  new 37 #[Value.pointer b0] h fun p2 h1 =>
  new 56 #[Value.int .i64 r1, Value.slice r1_1.a r1_1.n r1_1.c, Value.int .i64 r1_2, Value.slice r1_3.a r1_3.n r1_3.c, Value.bool r1_4, Value.string r1_5, Value.int .i64 r1_6, Value.slice r1_7.a r1_7.n r1_7.c] h1 fun p3 h2 =>
  ldI .i64 h2 p3 fun x7 =>
  cal Try.prog 43 #[Value.int .i64 x7] h2 fun u h3 => asI .i64 u fun x8 =>
  ∃ J : Bool → Prop, (orr (x8 == (-2)) (fun k =>
    ∃ J_1 : Bool → Prop, (andr (decide (0 ≤ x8)) (fun k_1 =>
      ldS h3 (p3.add 1) fun x16 =>
      k_1 (((x16.n : Nat) : Int) != x8)) J_1) ∧ ∀ x20, J_1 x20 →
    k x20) J) ∧ ∀ x21, J x21 →
  ∃ J_2 : Bool → Heap → Prop, (orj x21 (fun k_2 =>
    ldI .i64 h3 p3 fun x24 =>
    ∃ J_3 : Bool → Heap → Prop, (andj (x24 == 2) (fun k_3 =>
      ldP h3 p2 fun x27 =>
      ∃ (y29 : Int) (y29_1 : Sv), cl h3 (p3.add 2) = some (Value.int .i64 y29) ∧ cl h3 ((p3.add 2).add 1) = some (Value.slice y29_1.a y29_1.n y29_1.c) ∧
      cal Try.prog 34 #[Value.pointer x27, Value.agg #[Value.int .i64 y29, Value.slice y29_1.a y29_1.n y29_1.c]] h3 fun u_1 h6 => asB u_1 fun x30 =>
      k_3 (!x30) h6) h3 J_3) ∧ ∀ x32 h5, J_3 x32 h5 →
    k_2 x32 h5) h3 J_2) ∧ ∀ x33 h4, J_2 x33 h4 →
  ∃ J_4 : Bool → Prop, (orr x33 (fun k_4 =>
    ldI .i64 h4 p3 fun x36 =>
    ∃ J_5 : Bool → Prop, (andr (x36 == 9) (fun k_5 =>
      ldS h4 (p3.add 1) fun x40 =>
      ∃ J_6 : Bool → Prop, (orr (((x40.n : Nat) : Int) == 0) (fun k_6 =>
        ldI .i64 h4 (p3.add 6) fun x45 =>
        k_6 (decide (x45 < 0))) J_6) ∧ ∀ x47, J_6 x47 →
      k_5 x47) J_5) ∧ ∀ x48, J_5 x48 →
    k_4 x48) J_4) ∧ ∀ x49, J_4 x49 →
  ifb x49 (
    R (Value.bool false) h4) (
    ldS h4 (p3.add 1) fun x51 =>
    cal Try.prog 44 #[Value.slice x51.a x51.n x51.c, (Value.func (.func 45) #[] #[Value.pointer (some p2)])] h4 fun u_2 h7 => asB u_2 fun x53 =>
    R (Value.bool (!x53)) h7)

set_option maxRecDepth 100000 in

theorem F35 {b0 r1 r1_1 r1_2 r1_3 r1_4 r1_5 r1_6 r1_7 h : _} {R : Value → Heap → Prop} (H : L35 b0 r1 r1_1 r1_2 r1_3 r1_4 r1_5 r1_6 r1_7 h R) : CallsH Try.prog 35 #[Value.pointer b0, Value.agg #[Value.int .i64 r1, Value.slice r1_1.a r1_1.n r1_1.c, Value.int .i64 r1_2, Value.slice r1_3.a r1_3.n r1_3.c, Value.bool r1_4, Value.string r1_5, Value.int .i64 r1_6, Value.slice r1_7.a r1_7.n r1_7.c]] h R := by
  refine CallsH.enter (n := 55) Try.func35 rfl rfl rfl rfl ?_
  intro w0 aa ww S
  unfold L35 at H
  refine W.seq ?_
  replace S := S.sub [(0, Value.pointer b0), (1, Value.agg #[Value.int .i64 r1, Value.slice r1_1.a r1_1.n r1_1.c, Value.int .i64 r1_2, Value.slice r1_3.a r1_3.n r1_3.c, Value.bool r1_4, Value.string r1_5, Value.int .i64 r1_6, Value.slice r1_7.a r1_7.n r1_7.c])] ⟨rfl, rfl, trivial⟩
  refine W.region ?_
  refine ol_box S H rfl rfl rfl trivial ?_
  clear S H aa; intro p2 aa ww h1 H S
  refine ol_box S H rfl rfl rfl trivial ?_
  clear S H aa; intro p3 aa ww h2 H S
  refine OL.pure S (Lf.run_assign (S.ev rfl)) rfl rfl trivial ?_
  clear S; intro aa S
  refine OL.nil ?_
  refine W.seq ?_
  replace S := S.sub [(2, Value.pointer (some p2)), (3, Value.pointer (some p3))] ⟨rfl, rfl, trivial⟩
  refine W.region ?_
  refine OL.pure S (Lf.run_fa (S.ev rfl) fa56_0) rfl rfl trivial ?_
  clear S; intro aa S
  obtain ⟨x7, c, H⟩ := H
  refine OL.pure S (Lf.run_ld (S.ev rfl) fl3 (S.cl c)) rfl rfl trivial ?_
  clear S; intro aa S
  refine ol_cal S H isfn43 rfl rfl trivial ?_
  clear S H aa; intro u aa ww h3 H S
  obtain ⟨x8, rfl, H⟩ := H
  refine OL.pure S (Lf.run_assign (S.ev rfl)) rfl rfl trivial ?_
  clear S; intro aa S
  refine OL.nil ?_
  refine W.seq ?_
  refine W.seq ?_
  replace S := S.sub [(2, Value.pointer (some p2)), (3, Value.pointer (some p3)), (5, Value.int .i64 x8)] ⟨rfl, rfl, rfl, trivial⟩
  refine W.region ?_
  refine OL.pure S (Lf.run_move (S.ev rfl)) rfl rfl trivial ?_
  clear S; intro aa S
  refine OL.pure S (Lf.run_eql (S.ev rfl) (S.ev rfl)) rfl rfl trivial ?_
  clear S; intro aa S
  refine OL.pure S (Lf.run_move (S.ev rfl)) rfl rfl trivial ?_
  clear S; intro aa S
  obtain ⟨J, H, HK⟩ := H
  refine OL.cutN 10 (fun aa ww => ∃ x21, St 55 ((21, Value.bool x21) :: [(2, Value.pointer (some p2)), (3, Value.pointer (some p3)), (5, Value.int .i64 x8), (9, Value.int .i64 x8), (10, Value.bool (x8 == (-2))), (11, Value.bool (x8 == (-2)))]) h3 w0 aa ww ∧ J x21) ?_ ?_
  · rcases Bool.eq_false_or_eq_true (x8 == (-2)) with hb | hb
    · replace H := H.1 hb
      refine OL.not S rfl rfl (GNo.mk rfl rfl hb) ?_
      clear S; intro aa S
      refine OL.not S rfl rfl (GNo.mk rfl rfl hb) ?_
      clear S; intro aa S
      refine OL.not S rfl rfl (GNo.mk rfl rfl hb) ?_
      clear S; intro aa S
      refine OL.not S rfl rfl (GNo.un rfl rfl) ?_
      clear S; intro aa S
      refine OL.not S rfl rfl (GNo.un rfl rfl) ?_
      clear S; intro aa S
      refine OL.not S rfl rfl (GNo.un rfl rfl) ?_
      clear S; intro aa S
      refine OL.not S rfl rfl (GNo.un rfl rfl) ?_
      clear S; intro aa S
      refine OL.not S rfl rfl (GNo.un rfl rfl) ?_
      clear S; intro aa S
      refine OL.not S rfl rfl (GNo.mk rfl rfl hb) ?_
      clear S; intro aa S
      refine OL.pure S (Lf.run_pickT (S.ev rfl) hb (S.ev rfl)) rfl rfl trivial ?_
      clear S; intro aa S
      refine OL.nil ?_
      exact ⟨_, S.sub _ ⟨rfl, rfl, rfl, rfl, rfl, rfl, rfl, trivial⟩, H⟩
    · replace H := H.2 hb
      refine OL.pure S (Lf.run_move (S.ev rfl)) rfl rfl (GOk.mk rfl rfl hb) ?_
      clear S; intro aa S
      refine OL.pure S (Lf.run_geq (S.ev rfl) (S.ev rfl)) rfl rfl (GOk.mk rfl rfl hb) ?_
      clear S; intro aa S
      refine OL.pure S (Lf.run_move (S.ev rfl)) rfl rfl (GOk.mk rfl rfl hb) ?_
      clear S; intro aa S
      obtain ⟨J_1, H, HK_1⟩ := H
      refine OL.cutN 6 (fun aa ww => ∃ x20, St 55 ((20, Value.bool x20) :: [(2, Value.pointer (some p2)), (3, Value.pointer (some p3)), (5, Value.int .i64 x8), (9, Value.int .i64 x8), (10, Value.bool (x8 == (-2))), (11, Value.bool (x8 == (-2))), (12, Value.int .i64 x8), (13, Value.bool (decide (0 ≤ x8))), (14, Value.bool (decide (0 ≤ x8)))]) h3 w0 aa ww ∧ J_1 x20) ?_ ?_
      · rcases Bool.eq_false_or_eq_true (decide (0 ≤ x8)) with hb_1 | hb_1
        · replace H := H.1 hb_1
          refine OL.pure S (Lf.run_fa (S.ev rfl) fa56_1) rfl rfl (GOk.mk rfl rfl hb_1) ?_
          clear S; intro aa S
          obtain ⟨x16, c_1, H⟩ := H
          refine OL.pure S (Lf.run_ld (S.ev rfl) fl54 (S.cl c_1)) rfl rfl (GOk.mk rfl rfl hb_1) ?_
          clear S; intro aa S
          refine OL.pure S (Lf.run_lens (S.ev rfl) rfl Try.underlying54) rfl rfl (GOk.mk rfl rfl hb_1) ?_
          clear S; intro aa S
          refine OL.pure S (Lf.run_move (S.ev rfl)) rfl rfl (GOk.mk rfl rfl hb_1) ?_
          clear S; intro aa S
          refine OL.pure S (Lf.run_neq (S.ev rfl) (S.ev rfl)) rfl rfl (GOk.mk rfl rfl hb_1) ?_
          clear S; intro aa S
          refine OL.pure S (Lf.run_pickT (S.ev rfl) hb_1 (S.ev rfl)) rfl rfl (GOk.mk rfl rfl hb) ?_
          clear S; intro aa S
          refine OL.nil ?_
          exact ⟨_, S.sub _ ⟨rfl, rfl, rfl, rfl, rfl, rfl, rfl, rfl, rfl, rfl, trivial⟩, H⟩
        · replace H := H.2 hb_1
          refine OL.not S rfl rfl (GNo.mk rfl rfl hb_1) ?_
          clear S; intro aa S
          refine OL.not S rfl rfl (GNo.mk rfl rfl hb_1) ?_
          clear S; intro aa S
          refine OL.not S rfl rfl (GNo.mk rfl rfl hb_1) ?_
          clear S; intro aa S
          refine OL.not S rfl rfl (GNo.mk rfl rfl hb_1) ?_
          clear S; intro aa S
          refine OL.not S rfl rfl (GNo.mk rfl rfl hb_1) ?_
          clear S; intro aa S
          refine OL.pure S (Lf.run_pickF (S.ev rfl) hb_1 (S.ev rfl)) rfl rfl (GOk.mk rfl rfl hb) ?_
          clear S; intro aa S
          refine OL.nil ?_
          exact ⟨_, S.sub _ ⟨rfl, rfl, rfl, rfl, rfl, rfl, rfl, rfl, rfl, rfl, trivial⟩, H⟩
      · clear S aa
        rintro aa ww ⟨x20, S, HJ⟩
        replace H := HK_1 _ HJ
        clear HK_1 HJ
        refine OL.pure S (Lf.run_pickF (S.ev rfl) hb (S.ev rfl)) rfl rfl trivial ?_
        clear S; intro aa S
        refine OL.nil ?_
        exact ⟨_, S.sub _ ⟨rfl, rfl, rfl, rfl, rfl, rfl, rfl, trivial⟩, H⟩
  · clear S aa
    rintro aa ww ⟨x21, S, HJ⟩
    replace H := HK _ HJ
    clear HK HJ
    refine OL.pure S (Lf.run_move (S.ev rfl)) rfl rfl trivial ?_
    clear S; intro aa S
    obtain ⟨J_2, H, HK_2⟩ := H
    refine OL.cutN 11 (fun aa ww => ∃ x33 h4, St 55 ((33, Value.bool x33) :: [(2, Value.pointer (some p2)), (3, Value.pointer (some p3)), (5, Value.int .i64 x8), (9, Value.int .i64 x8), (10, Value.bool (x8 == (-2))), (11, Value.bool (x8 == (-2))), (21, Value.bool x21), (22, Value.bool x21)]) h4 w0 aa ww ∧ J_2 x33 h4) ?_ ?_
    · rcases Bool.eq_false_or_eq_true x21 with hb_2 | hb_2
      · replace H := H.1 hb_2
        refine OL.not S rfl rfl (GNo.mk rfl rfl hb_2) ?_
        clear S; intro aa S
        refine OL.not S rfl rfl (GNo.mk rfl rfl hb_2) ?_
        clear S; intro aa S
        refine OL.not S rfl rfl (GNo.mk rfl rfl hb_2) ?_
        clear S; intro aa S
        refine OL.not S rfl rfl (GNo.mk rfl rfl hb_2) ?_
        clear S; intro aa S
        refine OL.not S rfl rfl (GNo.un rfl rfl) ?_
        clear S; intro aa S
        refine OL.not S rfl rfl (GNo.un rfl rfl) ?_
        clear S; intro aa S
        refine OL.not S rfl rfl (GNo.un rfl rfl) ?_
        clear S; intro aa S
        refine OL.not S rfl rfl (GNo.un rfl rfl) ?_
        clear S; intro aa S
        refine OL.not S rfl rfl (GNo.un rfl rfl) ?_
        clear S; intro aa S
        refine OL.not S rfl rfl (GNo.mk rfl rfl hb_2) ?_
        clear S; intro aa S
        refine OL.pure S (Lf.run_pickT (S.ev rfl) hb_2 (S.ev rfl)) rfl rfl trivial ?_
        clear S; intro aa S
        refine OL.nil ?_
        exact ⟨_, _, S.sub _ ⟨rfl, rfl, rfl, rfl, rfl, rfl, rfl, rfl, rfl, trivial⟩, H⟩
      · replace H := H.2 hb_2
        refine OL.pure S (Lf.run_fa (S.ev rfl) fa56_0) rfl rfl (GOk.mk rfl rfl hb_2) ?_
        clear S; intro aa S
        obtain ⟨x24, c_2, H⟩ := H
        refine OL.pure S (Lf.run_ld (S.ev rfl) fl3 (S.cl c_2)) rfl rfl (GOk.mk rfl rfl hb_2) ?_
        clear S; intro aa S
        refine OL.pure S (Lf.run_eql (S.ev rfl) (S.ev rfl)) rfl rfl (GOk.mk rfl rfl hb_2) ?_
        clear S; intro aa S
        refine OL.pure S (Lf.run_move (S.ev rfl)) rfl rfl (GOk.mk rfl rfl hb_2) ?_
        clear S; intro aa S
        obtain ⟨J_3, H, HK_3⟩ := H
        refine OL.cutN 6 (fun aa ww => ∃ x32 h5, St 55 ((32, Value.bool x32) :: [(2, Value.pointer (some p2)), (3, Value.pointer (some p3)), (5, Value.int .i64 x8), (9, Value.int .i64 x8), (10, Value.bool (x8 == (-2))), (11, Value.bool (x8 == (-2))), (21, Value.bool x21), (22, Value.bool x21), (23, Value.pointer (some p3)), (24, Value.int .i64 x24), (25, Value.bool (x24 == 2)), (26, Value.bool (x24 == 2))]) h5 w0 aa ww ∧ J_3 x32 h5) ?_ ?_
        · rcases Bool.eq_false_or_eq_true (x24 == 2) with hb_3 | hb_3
          · replace H := H.1 hb_3
            obtain ⟨x27, c_3, H⟩ := H
            refine OL.pure S (Lf.run_ld (S.ev rfl) fl37 (S.cl c_3)) rfl rfl (GOk.mk rfl rfl hb_3) ?_
            clear S; intro aa S
            refine OL.pure S (Lf.run_fa (S.ev rfl) fa56_2) rfl rfl (GOk.mk rfl rfl hb_3) ?_
            clear S; intro aa S
            obtain ⟨y29, y29_1, c_5, c_6, H⟩ := H
            refine OL.pure S (Lf.run_ldA (cs := [Value.int .i64 y29, Value.slice y29_1.a y29_1.n y29_1.c]) (S.ev rfl) ag24 ti24 (by rw [S.heap]; exact RowL.toRow ⟨c_5, c_6, trivial⟩)) rfl rfl (GOk.mk rfl rfl hb_3) ?_
            clear S; intro aa S
            refine ol_cal S H isfn34 rfl rfl (GOk.mk rfl rfl hb_3) ?_
            clear S H aa; intro u_1 aa ww h6 H S
            obtain ⟨x30, rfl, H⟩ := H
            refine OL.pure S (Lf.run_not (S.ev rfl)) rfl rfl (GOk.mk rfl rfl hb_3) ?_
            clear S; intro aa S
            refine OL.pure S (Lf.run_pickT (S.ev rfl) hb_3 (S.ev rfl)) rfl rfl (GOk.mk rfl rfl hb_2) ?_
            clear S; intro aa S
            refine OL.nil ?_
            exact ⟨_, _, S.sub _ ⟨rfl, rfl, rfl, rfl, rfl, rfl, rfl, rfl, rfl, rfl, rfl, rfl, rfl, trivial⟩, H⟩
          · replace H := H.2 hb_3
            refine OL.not S rfl rfl (GNo.mk rfl rfl hb_3) ?_
            clear S; intro aa S
            refine OL.not S rfl rfl (GNo.mk rfl rfl hb_3) ?_
            clear S; intro aa S
            refine OL.not S rfl rfl (GNo.mk rfl rfl hb_3) ?_
            clear S; intro aa S
            refine OL.not S rfl rfl (GNo.mk rfl rfl hb_3) ?_
            clear S; intro aa S
            refine OL.not S rfl rfl (GNo.mk rfl rfl hb_3) ?_
            clear S; intro aa S
            refine OL.pure S (Lf.run_pickF (S.ev rfl) hb_3 (S.ev rfl)) rfl rfl (GOk.mk rfl rfl hb_2) ?_
            clear S; intro aa S
            refine OL.nil ?_
            exact ⟨_, _, S.sub _ ⟨rfl, rfl, rfl, rfl, rfl, rfl, rfl, rfl, rfl, rfl, rfl, rfl, rfl, trivial⟩, H⟩
        · clear S aa
          rintro aa ww ⟨x32, h5, S, HJ⟩
          replace H := HK_3 _ _ HJ
          clear HK_3 HJ
          refine OL.pure S (Lf.run_pickF (S.ev rfl) hb_2 (S.ev rfl)) rfl rfl trivial ?_
          clear S; intro aa S
          refine OL.nil ?_
          exact ⟨_, _, S.sub _ ⟨rfl, rfl, rfl, rfl, rfl, rfl, rfl, rfl, rfl, trivial⟩, H⟩
    · clear S aa
      rintro aa ww ⟨x33, h4, S, HJ⟩
      replace H := HK_2 _ _ HJ
      clear HK_2 HJ
      refine OL.pure S (Lf.run_move (S.ev rfl)) rfl rfl trivial ?_
      clear S; intro aa S
      obtain ⟨J_4, H, HK_4⟩ := H
      refine OL.cutN 15 (fun aa ww => ∃ x49, St 55 ((49, Value.bool x49) :: [(2, Value.pointer (some p2)), (3, Value.pointer (some p3)), (5, Value.int .i64 x8), (9, Value.int .i64 x8), (10, Value.bool (x8 == (-2))), (11, Value.bool (x8 == (-2))), (21, Value.bool x21), (22, Value.bool x21), (33, Value.bool x33), (34, Value.bool x33)]) h4 w0 aa ww ∧ J_4 x49) ?_ ?_
      · rcases Bool.eq_false_or_eq_true x33 with hb_4 | hb_4
        · replace H := H.1 hb_4
          refine OL.not S rfl rfl (GNo.mk rfl rfl hb_4) ?_
          clear S; intro aa S
          refine OL.not S rfl rfl (GNo.mk rfl rfl hb_4) ?_
          clear S; intro aa S
          refine OL.not S rfl rfl (GNo.mk rfl rfl hb_4) ?_
          clear S; intro aa S
          refine OL.not S rfl rfl (GNo.mk rfl rfl hb_4) ?_
          clear S; intro aa S
          refine OL.not S rfl rfl (GNo.un rfl rfl) ?_
          clear S; intro aa S
          refine OL.not S rfl rfl (GNo.un rfl rfl) ?_
          clear S; intro aa S
          refine OL.not S rfl rfl (GNo.un rfl rfl) ?_
          clear S; intro aa S
          refine OL.not S rfl rfl (GNo.un rfl rfl) ?_
          clear S; intro aa S
          refine OL.not S rfl rfl (GNo.un rfl rfl) ?_
          clear S; intro aa S
          refine OL.not S rfl rfl (GNo.un rfl rfl) ?_
          clear S; intro aa S
          refine OL.not S rfl rfl (GNo.un rfl rfl) ?_
          clear S; intro aa S
          refine OL.not S rfl rfl (GNo.un rfl rfl) ?_
          clear S; intro aa S
          refine OL.not S rfl rfl (GNo.un rfl rfl) ?_
          clear S; intro aa S
          refine OL.not S rfl rfl (GNo.mk rfl rfl hb_4) ?_
          clear S; intro aa S
          refine OL.pure S (Lf.run_pickT (S.ev rfl) hb_4 (S.ev rfl)) rfl rfl trivial ?_
          clear S; intro aa S
          refine OL.nil ?_
          exact ⟨_, S.sub _ ⟨rfl, rfl, rfl, rfl, rfl, rfl, rfl, rfl, rfl, rfl, rfl, trivial⟩, H⟩
        · replace H := H.2 hb_4
          refine OL.pure S (Lf.run_fa (S.ev rfl) fa56_0) rfl rfl (GOk.mk rfl rfl hb_4) ?_
          clear S; intro aa S
          obtain ⟨x36, c_7, H⟩ := H
          refine OL.pure S (Lf.run_ld (S.ev rfl) fl3 (S.cl c_7)) rfl rfl (GOk.mk rfl rfl hb_4) ?_
          clear S; intro aa S
          refine OL.pure S (Lf.run_eql (S.ev rfl) (S.ev rfl)) rfl rfl (GOk.mk rfl rfl hb_4) ?_
          clear S; intro aa S
          refine OL.pure S (Lf.run_move (S.ev rfl)) rfl rfl (GOk.mk rfl rfl hb_4) ?_
          clear S; intro aa S
          obtain ⟨J_5, H, HK_5⟩ := H
          refine OL.cutN 10 (fun aa ww => ∃ x48, St 55 ((48, Value.bool x48) :: [(2, Value.pointer (some p2)), (3, Value.pointer (some p3)), (5, Value.int .i64 x8), (9, Value.int .i64 x8), (10, Value.bool (x8 == (-2))), (11, Value.bool (x8 == (-2))), (21, Value.bool x21), (22, Value.bool x21), (33, Value.bool x33), (34, Value.bool x33), (35, Value.pointer (some p3)), (36, Value.int .i64 x36), (37, Value.bool (x36 == 9)), (38, Value.bool (x36 == 9))]) h4 w0 aa ww ∧ J_5 x48) ?_ ?_
          · rcases Bool.eq_false_or_eq_true (x36 == 9) with hb_5 | hb_5
            · replace H := H.1 hb_5
              refine OL.pure S (Lf.run_fa (S.ev rfl) fa56_1) rfl rfl (GOk.mk rfl rfl hb_5) ?_
              clear S; intro aa S
              obtain ⟨x40, c_8, H⟩ := H
              refine OL.pure S (Lf.run_ld (S.ev rfl) fl54 (S.cl c_8)) rfl rfl (GOk.mk rfl rfl hb_5) ?_
              clear S; intro aa S
              refine OL.pure S (Lf.run_lens (S.ev rfl) rfl Try.underlying54) rfl rfl (GOk.mk rfl rfl hb_5) ?_
              clear S; intro aa S
              refine OL.pure S (Lf.run_eql (S.ev rfl) (S.ev rfl)) rfl rfl (GOk.mk rfl rfl hb_5) ?_
              clear S; intro aa S
              refine OL.pure S (Lf.run_move (S.ev rfl)) rfl rfl (GOk.mk rfl rfl hb_5) ?_
              clear S; intro aa S
              obtain ⟨J_6, H, HK_6⟩ := H
              refine OL.cutN 4 (fun aa ww => ∃ x47, St 55 ((47, Value.bool x47) :: [(2, Value.pointer (some p2)), (3, Value.pointer (some p3)), (5, Value.int .i64 x8), (9, Value.int .i64 x8), (10, Value.bool (x8 == (-2))), (11, Value.bool (x8 == (-2))), (21, Value.bool x21), (22, Value.bool x21), (33, Value.bool x33), (34, Value.bool x33), (35, Value.pointer (some p3)), (36, Value.int .i64 x36), (37, Value.bool (x36 == 9)), (38, Value.bool (x36 == 9)), (39, Value.pointer (some (p3.add 1))), (40, Value.slice x40.a x40.n x40.c), (41, Value.int .i64 ((x40.n : Nat) : Int)), (42, Value.bool (((x40.n : Nat) : Int) == 0)), (43, Value.bool (((x40.n : Nat) : Int) == 0))]) h4 w0 aa ww ∧ J_6 x47) ?_ ?_
              · rcases Bool.eq_false_or_eq_true (((x40.n : Nat) : Int) == 0) with hb_6 | hb_6
                · replace H := H.1 hb_6
                  refine OL.not S rfl rfl (GNo.mk rfl rfl hb_6) ?_
                  clear S; intro aa S
                  refine OL.not S rfl rfl (GNo.mk rfl rfl hb_6) ?_
                  clear S; intro aa S
                  refine OL.not S rfl rfl (GNo.mk rfl rfl hb_6) ?_
                  clear S; intro aa S
                  refine OL.pure S (Lf.run_pickT (S.ev rfl) hb_6 (S.ev rfl)) rfl rfl (GOk.mk rfl rfl hb_5) ?_
                  clear S; intro aa S
                  refine OL.nil ?_
                  exact ⟨_, S.sub _ ⟨rfl, rfl, rfl, rfl, rfl, rfl, rfl, rfl, rfl, rfl, rfl, rfl, rfl, rfl, rfl, rfl, rfl, rfl, rfl, rfl, trivial⟩, H⟩
                · replace H := H.2 hb_6
                  refine OL.pure S (Lf.run_fa (S.ev rfl) fa56_5) rfl rfl (GOk.mk rfl rfl hb_6) ?_
                  clear S; intro aa S
                  obtain ⟨x45, c_9, H⟩ := H
                  refine OL.pure S (Lf.run_ld (S.ev rfl) fl3 (S.cl c_9)) rfl rfl (GOk.mk rfl rfl hb_6) ?_
                  clear S; intro aa S
                  refine OL.pure S (Lf.run_lss (S.ev rfl) (S.ev rfl)) rfl rfl (GOk.mk rfl rfl hb_6) ?_
                  clear S; intro aa S
                  refine OL.pure S (Lf.run_pickF (S.ev rfl) hb_6 (S.ev rfl)) rfl rfl (GOk.mk rfl rfl hb_5) ?_
                  clear S; intro aa S
                  refine OL.nil ?_
                  exact ⟨_, S.sub _ ⟨rfl, rfl, rfl, rfl, rfl, rfl, rfl, rfl, rfl, rfl, rfl, rfl, rfl, rfl, rfl, rfl, rfl, rfl, rfl, rfl, trivial⟩, H⟩
              · clear S aa
                rintro aa ww ⟨x47, S, HJ⟩
                replace H := HK_6 _ HJ
                clear HK_6 HJ
                refine OL.pure S (Lf.run_pickT (S.ev rfl) hb_5 (S.ev rfl)) rfl rfl (GOk.mk rfl rfl hb_4) ?_
                clear S; intro aa S
                refine OL.nil ?_
                exact ⟨_, S.sub _ ⟨rfl, rfl, rfl, rfl, rfl, rfl, rfl, rfl, rfl, rfl, rfl, rfl, rfl, rfl, rfl, trivial⟩, H⟩
            · replace H := H.2 hb_5
              refine OL.not S rfl rfl (GNo.mk rfl rfl hb_5) ?_
              clear S; intro aa S
              refine OL.not S rfl rfl (GNo.mk rfl rfl hb_5) ?_
              clear S; intro aa S
              refine OL.not S rfl rfl (GNo.mk rfl rfl hb_5) ?_
              clear S; intro aa S
              refine OL.not S rfl rfl (GNo.mk rfl rfl hb_5) ?_
              clear S; intro aa S
              refine OL.not S rfl rfl (GNo.mk rfl rfl hb_5) ?_
              clear S; intro aa S
              refine OL.not S rfl rfl (GNo.un rfl rfl) ?_
              clear S; intro aa S
              refine OL.not S rfl rfl (GNo.un rfl rfl) ?_
              clear S; intro aa S
              refine OL.not S rfl rfl (GNo.un rfl rfl) ?_
              clear S; intro aa S
              refine OL.not S rfl rfl (GNo.mk rfl rfl hb_5) ?_
              clear S; intro aa S
              refine OL.pure S (Lf.run_pickF (S.ev rfl) hb_5 (S.ev rfl)) rfl rfl (GOk.mk rfl rfl hb_4) ?_
              clear S; intro aa S
              refine OL.nil ?_
              exact ⟨_, S.sub _ ⟨rfl, rfl, rfl, rfl, rfl, rfl, rfl, rfl, rfl, rfl, rfl, rfl, rfl, rfl, rfl, trivial⟩, H⟩
          · clear S aa
            rintro aa ww ⟨x48, S, HJ⟩
            replace H := HK_5 _ HJ
            clear HK_5 HJ
            refine OL.pure S (Lf.run_pickF (S.ev rfl) hb_4 (S.ev rfl)) rfl rfl trivial ?_
            clear S; intro aa S
            refine OL.nil ?_
            exact ⟨_, S.sub _ ⟨rfl, rfl, rfl, rfl, rfl, rfl, rfl, rfl, rfl, rfl, rfl, trivial⟩, H⟩
      · clear S aa
        rintro aa ww ⟨x49, S, HJ⟩
        replace H := HK_4 _ HJ
        clear HK_4 HJ
        refine OL.nil ?_
        refine W.cond S (b := x49) rfl (fun hb_7 => ?_) (fun hb_7 => ?_)
        · replace H := H.1 hb_7
          refine W.seq ?_
          replace S := S.sub [] trivial
          refine W.region ?_
          refine OL.pure S (Lf.run_assign (S.ev rfl)) rfl rfl trivial ?_
          clear S; intro aa S
          refine OL.nil ?_
          refine W.ret ?_
          exact Ret.one S rfl rfl H
        · replace H := H.2 hb_7
          refine W.skip ?_
          refine W.seq ?_
          replace S := S.sub [(2, Value.pointer (some p2)), (3, Value.pointer (some p3))] ⟨rfl, rfl, trivial⟩
          refine W.region ?_
          refine OL.pure S (Lf.run_fa (S.ev rfl) fa56_1) rfl rfl trivial ?_
          clear S; intro aa S
          obtain ⟨x51, c_10, H⟩ := H
          refine OL.pure S (Lf.run_ld (S.ev rfl) fl54 (S.cl c_10)) rfl rfl trivial ?_
          clear S; intro aa S
          refine OL.pure S (Lf.run_mf (evs_map S rfl)) rfl rfl trivial ?_
          clear S; intro aa S
          refine ol_cal S H isfn44 rfl rfl trivial ?_
          clear S H aa; intro u_2 aa ww h7 H S
          obtain ⟨x53, rfl, H⟩ := H
          refine OL.pure S (Lf.run_not (S.ev rfl)) rfl rfl trivial ?_
          clear S; intro aa S
          refine OL.pure S (Lf.run_assign (S.ev rfl)) rfl rfl trivial ?_
          clear S; intro aa S
          refine OL.nil ?_
          refine W.ret ?_
          exact Ret.one S rfl rfl H

/-- chattel mir.operand -/
def L36 (b0 : Option Addr) (o1 : Int) (o1_1 : Int) (o1_2 : Sv) (o1_3 : Int) (o1_4 : Int) (h : Heap) (R : Value → Heap → Prop) : Prop :=
  new 59 #[Value.int .i64 o1, Value.int .i64 o1_1, Value.slice o1_2.a o1_2.n o1_2.c, Value.int .i64 o1_3, Value.int .u64 o1_4] h fun p3 h1 =>
  ldI .i64 h1 p3 fun x6 =>
  ifb (x6 == 1) (
    ldI .i64 h1 (p3.add 3) fun x10 =>
    ∃ J : Bool → Prop, (andr (decide (1 ≤ x10)) (fun k =>
      ldI .i64 h1 (p3.add 3) fun x14 =>
      k (decide (x14 ≤ 4))) J) ∧ ∀ x16, J x16 →
    R (Value.bool x16) h1) (
    ∃ J_1 : Bool → Prop, (
      ifb (x6 == 2) (
        J_1 (x6 == 2)) (
        J_1 (x6 == 3))) ∧ (∀ x17, J_1 x17 →
    ifb x17 (
      ∃ (y22 : Int) (y22_1 : Sv), cl h1 (p3.add 1) = some (Value.int .i64 y22) ∧ cl h1 ((p3.add 1).add 1) = some (Value.slice y22_1.a y22_1.n y22_1.c) ∧
      cal Try.prog 34 #[Value.pointer b0, Value.agg #[Value.int .i64 y22, Value.slice y22_1.a y22_1.n y22_1.c]] h1 fun u h2 => asB u fun x23 =>
      R (Value.bool x23) h2) (
      R (Value.bool false) h1)))

set_option maxRecDepth 100000 in

theorem F36 {b0 o1 o1_1 o1_2 o1_3 o1_4 h : _} {R : Value → Heap → Prop} (H : L36 b0 o1 o1_1 o1_2 o1_3 o1_4 h R) : CallsH Try.prog 36 #[Value.pointer b0, Value.agg #[Value.int .i64 o1, Value.int .i64 o1_1, Value.slice o1_2.a o1_2.n o1_2.c, Value.int .i64 o1_3, Value.int .u64 o1_4]] h R := by
  refine CallsH.enter (n := 24) Try.func36 rfl rfl rfl rfl ?_
  intro w0 aa ww S
  unfold L36 at H
  refine W.seq ?_
  replace S := S.sub [(0, Value.pointer b0), (1, Value.agg #[Value.int .i64 o1, Value.int .i64 o1_1, Value.slice o1_2.a o1_2.n o1_2.c, Value.int .i64 o1_3, Value.int .u64 o1_4])] ⟨rfl, rfl, trivial⟩
  refine W.region ?_
  refine ol_box S H rfl rfl rfl trivial ?_
  clear S H aa; intro p3 aa ww h1 H S
  refine OL.pure S (Lf.run_assign (S.ev rfl)) rfl rfl trivial ?_
  clear S; intro aa S
  refine OL.nil ?_
  refine W.seq ?_
  refine W.seq ?_
  replace S := S.sub [(0, Value.pointer b0), (3, Value.pointer (some p3))] ⟨rfl, rfl, trivial⟩
  refine W.region ?_
  refine OL.pure S (Lf.run_fa (S.ev rfl) fa59_0) rfl rfl trivial ?_
  clear S; intro aa S
  obtain ⟨x6, c, H⟩ := H
  refine OL.pure S (Lf.run_ld (S.ev rfl) fl3 (S.cl c)) rfl rfl trivial ?_
  clear S; intro aa S
  refine OL.nil ?_
  refine W.block ?_
  refine W.seq ?_
  replace S := S.sub [(0, Value.pointer b0), (3, Value.pointer (some p3)), (6, Value.int .i64 x6)] ⟨rfl, rfl, rfl, trivial⟩
  refine W.region ?_
  refine OL.pure S (Lf.run_eql (S.ev rfl) (S.ev rfl)) rfl rfl trivial ?_
  clear S; intro aa S
  refine OL.pure S (Lf.run_assign (S.ev rfl)) rfl rfl trivial ?_
  clear S; intro aa S
  refine OL.nil ?_
  refine W.cond S (b := (x6 == 1)) rfl (fun hb => ?_) (fun hb => ?_)
  · replace H := H.1 hb
    refine W.seq ?_
    replace S := S.sub [(3, Value.pointer (some p3))] ⟨rfl, trivial⟩
    refine W.region ?_
    refine OL.pure S (Lf.run_fa (S.ev rfl) fa59_2) rfl rfl trivial ?_
    clear S; intro aa S
    obtain ⟨x10, c_1, H⟩ := H
    refine OL.pure S (Lf.run_ld (S.ev rfl) fl3 (S.cl c_1)) rfl rfl trivial ?_
    clear S; intro aa S
    refine OL.pure S (Lf.run_geq (S.ev rfl) (S.ev rfl)) rfl rfl trivial ?_
    clear S; intro aa S
    refine OL.pure S (Lf.run_move (S.ev rfl)) rfl rfl trivial ?_
    clear S; intro aa S
    obtain ⟨J, H, HK⟩ := H
    refine OL.cutN 4 (fun aa ww => ∃ x16, St 24 ((16, Value.bool x16) :: [(3, Value.pointer (some p3)), (9, Value.pointer (some (p3.add 3))), (10, Value.int .i64 x10), (11, Value.bool (decide (1 ≤ x10))), (12, Value.bool (decide (1 ≤ x10)))]) h1 w0 aa ww ∧ J x16) ?_ ?_
    · rcases Bool.eq_false_or_eq_true (decide (1 ≤ x10)) with hb_1 | hb_1
      · replace H := H.1 hb_1
        refine OL.pure S (Lf.run_fa (S.ev rfl) fa59_2) rfl rfl (GOk.mk rfl rfl hb_1) ?_
        clear S; intro aa S
        obtain ⟨x14, c_2, H⟩ := H
        refine OL.pure S (Lf.run_ld (S.ev rfl) fl3 (S.cl c_2)) rfl rfl (GOk.mk rfl rfl hb_1) ?_
        clear S; intro aa S
        refine OL.pure S (Lf.run_leq (S.ev rfl) (S.ev rfl)) rfl rfl (GOk.mk rfl rfl hb_1) ?_
        clear S; intro aa S
        refine OL.pure S (Lf.run_pickT (S.ev rfl) hb_1 (S.ev rfl)) rfl rfl trivial ?_
        clear S; intro aa S
        refine OL.nil ?_
        exact ⟨_, S.sub _ ⟨rfl, rfl, rfl, rfl, rfl, rfl, trivial⟩, H⟩
      · replace H := H.2 hb_1
        refine OL.not S rfl rfl (GNo.mk rfl rfl hb_1) ?_
        clear S; intro aa S
        refine OL.not S rfl rfl (GNo.mk rfl rfl hb_1) ?_
        clear S; intro aa S
        refine OL.not S rfl rfl (GNo.mk rfl rfl hb_1) ?_
        clear S; intro aa S
        refine OL.pure S (Lf.run_pickF (S.ev rfl) hb_1 (S.ev rfl)) rfl rfl trivial ?_
        clear S; intro aa S
        refine OL.nil ?_
        exact ⟨_, S.sub _ ⟨rfl, rfl, rfl, rfl, rfl, rfl, trivial⟩, H⟩
    · clear S aa
      rintro aa ww ⟨x16, S, HJ⟩
      replace H := HK _ HJ
      clear HK HJ
      refine OL.pure S (Lf.run_assign (S.ev rfl)) rfl rfl trivial ?_
      clear S; intro aa S
      refine OL.nil ?_
      refine W.ret ?_
      exact Ret.one S rfl rfl H
  · replace H := H.2 hb
    obtain ⟨J_1, H, HK_1⟩ := H
    refine W.seqJ (fun aa ww => ∃ x17, St 24 [(0, Value.pointer b0), (3, Value.pointer (some p3)), (17, Value.bool x17)] h1 w0 aa ww ∧ J_1 x17) ?_ ?_
    · clear HK_1
      refine W.seq ?_
      replace S := S.sub [(0, Value.pointer b0), (3, Value.pointer (some p3)), (6, Value.int .i64 x6)] ⟨rfl, rfl, rfl, trivial⟩
      refine W.region ?_
      refine OL.pure S (Lf.run_eql (S.ev rfl) (S.ev rfl)) rfl rfl trivial ?_
      clear S; intro aa S
      refine OL.pure S (Lf.run_assign (S.ev rfl)) rfl rfl trivial ?_
      clear S; intro aa S
      refine OL.nil ?_
      refine W.cond S (b := (x6 == 2)) rfl (fun hb_2 => ?_) (fun hb_2 => ?_)
      · replace H := H.1 hb_2
        refine W.skip ?_
        exact ⟨(x6 == 2), S.sub _ ⟨rfl, rfl, rfl, trivial⟩, H⟩
      · replace H := H.2 hb_2
        replace S := S.sub [(0, Value.pointer b0), (3, Value.pointer (some p3)), (6, Value.int .i64 x6)] ⟨rfl, rfl, rfl, trivial⟩
        refine W.region ?_
        refine OL.pure S (Lf.run_eql (S.ev rfl) (S.ev rfl)) rfl rfl trivial ?_
        clear S; intro aa S
        refine OL.pure S (Lf.run_assign (S.ev rfl)) rfl rfl trivial ?_
        clear S; intro aa S
        refine OL.nil ?_
        exact ⟨(x6 == 3), S.sub _ ⟨rfl, rfl, rfl, trivial⟩, H⟩
    · clear H S aa
      rintro aa ww ⟨x17, S, HJ⟩
      have H := HK_1 _ HJ
      clear HK_1 HJ
      refine W.cond S (b := x17) rfl (fun hb_3 => ?_) (fun hb_3 => ?_)
      · replace H := H.1 hb_3
        refine W.seq ?_
        replace S := S.sub [(0, Value.pointer b0), (3, Value.pointer (some p3))] ⟨rfl, rfl, trivial⟩
        refine W.region ?_
        refine OL.pure S (Lf.run_move (S.ev rfl)) rfl rfl trivial ?_
        clear S; intro aa S
        refine OL.pure S (Lf.run_fa (S.ev rfl) fa59_1) rfl rfl trivial ?_
        clear S; intro aa S
        obtain ⟨y22, y22_1, c_4, c_5, H⟩ := H
        refine OL.pure S (Lf.run_ldA (cs := [Value.int .i64 y22, Value.slice y22_1.a y22_1.n y22_1.c]) (S.ev rfl) ag24 ti24 (by rw [S.heap]; exact RowL.toRow ⟨c_4, c_5, trivial⟩)) rfl rfl trivial ?_
        clear S; intro aa S
        refine ol_cal S H isfn34 rfl rfl trivial ?_
        clear S H aa; intro u aa ww h2 H S
        obtain ⟨x23, rfl, H⟩ := H
        refine OL.pure S (Lf.run_assign (S.ev rfl)) rfl rfl trivial ?_
        clear S; intro aa S
        refine OL.nil ?_
        refine W.ret ?_
        exact Ret.one S rfl rfl H
      · replace H := H.2 hb_3
        refine W.skip ?_
        refine W.seq ?_
        replace S := S.sub [] trivial
        refine W.region ?_
        refine OL.pure S (Lf.run_assign (S.ev rfl)) rfl rfl trivial ?_
        clear S; intro aa S
        refine OL.nil ?_
        refine W.ret ?_
        exact Ret.one S rfl rfl H

/-- slices.IndexFunc[[]int,int] -/
def L37 (s0 : Sv) (f1 : Value) (h : Heap) (R : Value → Heap → Prop) : Prop :=
  ∃ (I : Int → Heap → Prop) (m : Int → Heap → Nat), I 0 h ∧ ∀ x8 h1, I x8 h1 →
  ifb (decide (x8 < ((s0.n : Nat) : Int))) (
    ixS s0 x8 fun q14 =>
    ldI .i64 h1 (q14.add ((x8 : Int).toNat * 1)) fun x15 =>
    calV Try.prog f1 #[Value.int .i64 x15] h1 fun u h2 => asB u fun x16 =>
    ifb x16 (
      R (Value.int .i64 x8) h2) (
      I (IntKind.i64.wrap (x8 + 1)) h2 ∧ m (IntKind.i64.wrap (x8 + 1)) h2 < m x8 h1)) (
    R (Value.int .i64 (-1)) h1)

set_option maxRecDepth 100000 in

theorem F37 {s0 f1 h : _} {R : Value → Heap → Prop} (H : L37 s0 f1 h R) : CallsH Try.prog 37 #[Value.slice s0.a s0.n s0.c, f1] h R := by
  refine CallsH.enter (n := 19) Try.func37 rfl rfl rfl rfl ?_
  intro w0 aa ww S
  unfold L37 at H
  refine W.seq ?_
  replace S := S.sub [(0, Value.slice s0.a s0.n s0.c), (1, f1)] ⟨rfl, rfl, trivial⟩
  refine W.region ?_
  refine OL.pure S (Lf.run_assign (S.ev rfl)) rfl rfl trivial ?_
  clear S; intro aa S
  refine OL.nil ?_
  refine W.seq ?_
  refine W.seq ?_
  replace S := S.sub [(0, Value.slice s0.a s0.n s0.c), (1, f1)] ⟨rfl, rfl, trivial⟩
  refine W.region ?_
  refine OL.pure S (Lf.run_move (S.ev rfl)) rfl rfl trivial ?_
  clear S; intro aa S
  refine OL.pure S (Lf.run_lens (S.ev rfl) rfl Try.underlying22) rfl rfl trivial ?_
  clear S; intro aa S
  refine OL.pure S (Lf.run_move (S.ev rfl)) rfl rfl trivial ?_
  clear S; intro aa S
  refine OL.nil ?_
  refine W.block ?_
  obtain ⟨I, m, H, HB⟩ := H
  refine W.loopS (σ := Int × Heap) (fun s aa ww => St 19 [(0, Value.slice s0.a s0.n s0.c), (1, f1), (7, Value.int .i64 ((s0.n : Nat) : Int)), (8, Value.int .i64 s.1)] s.2 w0 aa ww ∧ I s.1 s.2) (fun s => m s.1 s.2) (0, h) ⟨S.sub _ ⟨rfl, rfl, rfl, rfl, trivial⟩, H⟩ ?_
  clear H S aa
  rintro ⟨x8, h1⟩ aa ww ⟨S, HI⟩
  replace S : St 19 [(0, Value.slice s0.a s0.n s0.c), (1, f1), (7, Value.int .i64 ((s0.n : Nat) : Int)), (8, Value.int .i64 x8)] h1 w0 aa ww := S
  have H := HB x8 h1 HI
  clear HI
  refine W.seq ?_
  replace S := S.sub [(0, Value.slice s0.a s0.n s0.c), (1, f1), (7, Value.int .i64 ((s0.n : Nat) : Int)), (8, Value.int .i64 x8)] ⟨rfl, rfl, rfl, rfl, trivial⟩
  refine W.region ?_
  refine OL.pure S (Lf.run_lss (S.ev rfl) (S.ev rfl)) rfl rfl trivial ?_
  clear S; intro aa S
  refine OL.nil ?_
  refine W.seq ?_
  refine W.cond S (b := (decide (x8 < ((s0.n : Nat) : Int)))) rfl (fun hb => ?_) (fun hb => ?_)
  · replace H := H.1 hb
    refine W.skip ?_
    refine W.seq ?_
    refine W.block ?_
    refine W.seq ?_
    replace S := S.sub [(0, Value.slice s0.a s0.n s0.c), (1, f1), (7, Value.int .i64 ((s0.n : Nat) : Int)), (8, Value.int .i64 x8)] ⟨rfl, rfl, rfl, rfl, trivial⟩
    refine W.region ?_
    refine OL.pure S (Lf.run_move (S.ev rfl)) rfl rfl trivial ?_
    clear S; intro aa S
    refine OL.pure S (Lf.run_assign (S.ev rfl)) rfl rfl trivial ?_
    clear S; intro aa S
    refine OL.nil ?_
    refine W.seq ?_
    replace S := S.sub [(0, Value.slice s0.a s0.n s0.c), (1, f1), (5, Value.int .i64 x8), (7, Value.int .i64 ((s0.n : Nat) : Int)), (8, Value.int .i64 x8)] ⟨rfl, rfl, rfl, rfl, rfl, trivial⟩
    refine W.region ?_
    refine OL.pure S (Lf.run_move (S.ev rfl)) rfl rfl trivial ?_
    clear S; intro aa S
    refine OL.pure S (Lf.run_move (S.ev rfl)) rfl rfl trivial ?_
    clear S; intro aa S
    refine OL.pure S (Lf.run_move (S.ev rfl)) rfl rfl trivial ?_
    clear S; intro aa S
    obtain ⟨q14, e, e_1, e_2, H⟩ := H
    refine OL.pure S (Lf.run_ixs (S.ev rfl) (S.ev rfl) Try.underlying22 ti3 e e_1 e_2) rfl rfl trivial ?_
    clear S; intro aa S
    obtain ⟨x15, c, H⟩ := H
    refine OL.pure S (Lf.run_ld (S.ev rfl) fl3 (S.cl c)) rfl rfl trivial ?_
    clear S; intro aa S
    refine ol_calV S H rfl rfl rfl trivial ?_
    clear S H aa; intro u aa ww h2 H S
    obtain ⟨x16, rfl, H⟩ := H
    refine OL.nil ?_
    refine W.cond S (b := x16) rfl (fun hb_1 => ?_) (fun hb_1 => ?_)
    · replace H := H.1 hb_1
      refine W.seq ?_
      replace S := S.sub [(5, Value.int .i64 x8)] ⟨rfl, trivial⟩
      refine W.region ?_
      refine OL.pure S (Lf.run_move (S.ev rfl)) rfl rfl trivial ?_
      clear S; intro aa S
      refine OL.pure S (Lf.run_assign (S.ev rfl)) rfl rfl trivial ?_
      clear S; intro aa S
      refine OL.nil ?_
      refine W.ret ?_
      exact Ret.one S rfl rfl H
    · replace H := H.2 hb_1
      refine W.skip ?_
      replace S := S.sub [(0, Value.slice s0.a s0.n s0.c), (1, f1), (7, Value.int .i64 ((s0.n : Nat) : Int)), (8, Value.int .i64 x8)] ⟨rfl, rfl, rfl, rfl, trivial⟩
      refine W.region ?_
      refine OL.pure S (Lf.run_add (S.ev rfl) (S.ev rfl)) rfl rfl trivial ?_
      clear S; intro aa S
      refine OL.pure S (Lf.run_move (S.ev rfl)) rfl rfl trivial ?_
      clear S; intro aa S
      refine OL.nil ?_
      exact ⟨((IntKind.i64.wrap (x8 + 1)), h2), ⟨S.sub _ ⟨rfl, rfl, rfl, rfl, trivial⟩, H.1⟩, H.2⟩
  · replace H := H.2 hb
    refine W.exit_ ?_
    refine xhit ?_
    refine W.seq ?_
    replace S := S.sub [] trivial
    refine W.region ?_
    refine OL.pure S (Lf.run_assign (S.ev rfl)) rfl rfl trivial ?_
    clear S; intro aa S
    refine OL.nil ?_
    refine W.ret ?_
    exact Ret.one S rfl rfl H

/-- chattel num.Dec -/
def L38 (n0 : Int) (h : Heap) (R : Value → Heap → Prop) : Prop :=
  ifb (decide (n0 < 0)) (
    cal Try.prog 46 #[Value.int .u64 (IntKind.u64.wrap (0 - (IntKind.u64.wrap n0)))] h fun u h1 => asT u fun x8 =>
    (((⟨#[45]⟩ : ByteArray).size : Nat) : Int) + ((x8.size : Nat) : Int) ≤ 9223372036854775807 ∧
    R (Value.string ((⟨#[45]⟩ : ByteArray) ++ x8)) h1) (
    cal Try.prog 46 #[Value.int .u64 (IntKind.u64.wrap n0)] h fun u_1 h2 => asT u_1 fun x12 =>
    R (Value.string x12) h2)

set_option maxRecDepth 100000 in

theorem F38 {n0 h : _} {R : Value → Heap → Prop} (H : L38 n0 h R) : CallsH Try.prog 38 #[Value.int .i64 n0] h R := by
  refine CallsH.enter (n := 13) Try.func38 rfl rfl rfl rfl ?_
  intro w0 aa ww S
  unfold L38 at H
  refine W.seq ?_
  replace S := S.sub [(0, Value.int .i64 n0)] ⟨rfl, trivial⟩
  refine W.region ?_
  refine OL.pure S (Lf.run_assign (S.ev rfl)) rfl rfl trivial ?_
  clear S; intro aa S
  refine OL.nil ?_
  refine W.seq ?_
  refine W.seq ?_
  replace S := S.sub [(0, Value.int .i64 n0)] ⟨rfl, trivial⟩
  refine W.region ?_
  refine OL.pure S (Lf.run_move (S.ev rfl)) rfl rfl trivial ?_
  clear S; intro aa S
  refine OL.pure S (Lf.run_lss (S.ev rfl) (S.ev rfl)) rfl rfl trivial ?_
  clear S; intro aa S
  refine OL.nil ?_
  refine W.cond S (b := (decide (n0 < 0))) rfl (fun hb => ?_) (fun hb => ?_)
  · replace H := H.1 hb
    refine W.seq ?_
    replace S := S.sub [(0, Value.int .i64 n0)] ⟨rfl, trivial⟩
    refine W.region ?_
    refine OL.pure S (Lf.run_move (S.ev rfl)) rfl rfl trivial ?_
    clear S; intro aa S
    refine OL.pure S (Lf.run_cvi Try.underlying2 Try.underlying57 (S.ev rfl)) rfl rfl trivial ?_
    clear S; intro aa S
    refine OL.pure S (Lf.run_neg (S.ev rfl)) rfl rfl trivial ?_
    clear S; intro aa S
    refine ol_cal S H isfn46 rfl rfl trivial ?_
    clear S H aa; intro u aa ww h1 H S
    obtain ⟨x8, rfl, H⟩ := H
    obtain ⟨c, H⟩ := H
    refine OL.pure S (Lf.run_addt (S.ev rfl) (S.ev rfl) c) rfl rfl trivial ?_
    clear S; intro aa S
    refine OL.pure S (Lf.run_assign (S.ev rfl)) rfl rfl trivial ?_
    clear S; intro aa S
    refine OL.nil ?_
    refine W.ret ?_
    exact Ret.one S rfl rfl H
  · replace H := H.2 hb
    refine W.skip ?_
    refine W.seq ?_
    replace S := S.sub [(0, Value.int .i64 n0)] ⟨rfl, trivial⟩
    refine W.region ?_
    refine OL.pure S (Lf.run_move (S.ev rfl)) rfl rfl trivial ?_
    clear S; intro aa S
    refine OL.pure S (Lf.run_cvi Try.underlying2 Try.underlying57 (S.ev rfl)) rfl rfl trivial ?_
    clear S; intro aa S
    refine ol_cal S H isfn46 rfl rfl trivial ?_
    clear S H aa; intro u_1 aa ww h2 H S
    obtain ⟨x12, rfl, H⟩ := H
    refine OL.pure S (Lf.run_assign (S.ev rfl)) rfl rfl trivial ?_
    clear S; intro aa S
    refine OL.nil ?_
    refine W.ret ?_
    exact Ret.one S rfl rfl H

/-- chattel mir.placeText -/
def L39 (p0 : Int) (p0_1 : Sv) (h : Heap) (R : Value → Heap → Prop) : Prop :=
  new 24 #[Value.int .i64 p0, Value.slice p0_1.a p0_1.n p0_1.c] h fun p1 h1 =>
  ldI .i64 h1 p1 fun x7 =>
  cal Try.prog 27 #[Value.int .i64 x7] h1 fun u h2 => asT u fun x8 =>
  (((⟨#[95]⟩ : ByteArray).size : Nat) : Int) + ((x8.size : Nat) : Int) ≤ 9223372036854775807 ∧
  ldS h2 (p1.add 1) fun x11 =>
  ∃ (I : ByteArray → Int → Heap → Prop) (m : ByteArray → Int → Heap → Nat), I ((⟨#[95]⟩ : ByteArray) ++ x8) 0 h2 ∧ ∀ s3 x13 h3, I s3 x13 h3 →
  ifb (decide (x13 < ((x11.n : Nat) : Int))) (
    ixS x11 x13 fun q15 =>
    ldI .i64 h3 (q15.add ((x13 : Int).toNat * 1)) fun x16 =>
    cal Try.prog 27 #[Value.int .i64 x16] h3 fun u_1 h4 => asT u_1 fun x19 =>
    (((⟨#[46]⟩ : ByteArray).size : Nat) : Int) + ((x19.size : Nat) : Int) ≤ 9223372036854775807 ∧
    ((s3.size : Nat) : Int) + ((((⟨#[46]⟩ : ByteArray) ++ x19).size : Nat) : Int) ≤ 9223372036854775807 ∧
    I (s3 ++ ((⟨#[46]⟩ : ByteArray) ++ x19)) (IntKind.i64.wrap (x13 + 1)) h4 ∧ m (s3 ++ ((⟨#[46]⟩ : ByteArray) ++ x19)) (IntKind.i64.wrap (x13 + 1)) h4 < m s3 x13 h3) (
    R (Value.string s3) h3)

set_option maxRecDepth 100000 in

theorem F39 {p0 p0_1 h : _} {R : Value → Heap → Prop} (H : L39 p0 p0_1 h R) : CallsH Try.prog 39 #[Value.agg #[Value.int .i64 p0, Value.slice p0_1.a p0_1.n p0_1.c]] h R := by
  refine CallsH.enter (n := 24) Try.func39 rfl rfl rfl rfl ?_
  intro w0 aa ww S
  unfold L39 at H
  refine W.seq ?_
  replace S := S.sub [(0, Value.agg #[Value.int .i64 p0, Value.slice p0_1.a p0_1.n p0_1.c])] ⟨rfl, trivial⟩
  refine W.region ?_
  refine ol_box S H rfl rfl rfl trivial ?_
  clear S H aa; intro p1 aa ww h1 H S
  refine OL.pure S (Lf.run_assign (S.ev rfl)) rfl rfl trivial ?_
  clear S; intro aa S
  refine OL.nil ?_
  refine W.seq ?_
  replace S := S.sub [(1, Value.pointer (some p1))] ⟨rfl, trivial⟩
  refine W.region ?_
  refine OL.pure S (Lf.run_fa (S.ev rfl) fa24_0) rfl rfl trivial ?_
  clear S; intro aa S
  obtain ⟨x7, c, H⟩ := H
  refine OL.pure S (Lf.run_ld (S.ev rfl) fl3 (S.cl c)) rfl rfl trivial ?_
  clear S; intro aa S
  refine ol_cal S H isfn27 rfl rfl trivial ?_
  clear S H aa; intro u aa ww h2 H S
  obtain ⟨x8, rfl, H⟩ := H
  obtain ⟨c_1, H⟩ := H
  refine OL.pure S (Lf.run_addt (S.ev rfl) (S.ev rfl) c_1) rfl rfl trivial ?_
  clear S; intro aa S
  refine OL.pure S (Lf.run_assign (S.ev rfl)) rfl rfl trivial ?_
  clear S; intro aa S
  refine OL.nil ?_
  refine W.seq ?_
  refine W.seq ?_
  replace S := S.sub [(1, Value.pointer (some p1)), (3, Value.string ((⟨#[95]⟩ : ByteArray) ++ x8))] ⟨rfl, rfl, trivial⟩
  refine W.region ?_
  refine OL.pure S (Lf.run_fa (S.ev rfl) fa24_1) rfl rfl trivial ?_
  clear S; intro aa S
  obtain ⟨x11, c_2, H⟩ := H
  refine OL.pure S (Lf.run_ld (S.ev rfl) fl22 (S.cl c_2)) rfl rfl trivial ?_
  clear S; intro aa S
  refine OL.pure S (Lf.run_lens (S.ev rfl) rfl Try.underlying22) rfl rfl trivial ?_
  clear S; intro aa S
  refine OL.pure S (Lf.run_move (S.ev rfl)) rfl rfl trivial ?_
  clear S; intro aa S
  refine OL.nil ?_
  refine W.block ?_
  obtain ⟨I, m, H, HB⟩ := H
  refine W.loopS (σ := ByteArray × Int × Heap) (fun s aa ww => St 24 [(3, Value.string s.1), (11, Value.slice x11.a x11.n x11.c), (12, Value.int .i64 ((x11.n : Nat) : Int)), (13, Value.int .i64 s.2.1)] s.2.2 w0 aa ww ∧ I s.1 s.2.1 s.2.2) (fun s => m s.1 s.2.1 s.2.2) (((⟨#[95]⟩ : ByteArray) ++ x8), 0, h2) ⟨S.sub _ ⟨rfl, rfl, rfl, rfl, trivial⟩, H⟩ ?_
  clear H S aa
  rintro ⟨s3, x13, h3⟩ aa ww ⟨S, HI⟩
  replace S : St 24 [(3, Value.string s3), (11, Value.slice x11.a x11.n x11.c), (12, Value.int .i64 ((x11.n : Nat) : Int)), (13, Value.int .i64 x13)] h3 w0 aa ww := S
  have H := HB s3 x13 h3 HI
  clear HI
  refine W.seq ?_
  replace S := S.sub [(3, Value.string s3), (11, Value.slice x11.a x11.n x11.c), (12, Value.int .i64 ((x11.n : Nat) : Int)), (13, Value.int .i64 x13)] ⟨rfl, rfl, rfl, rfl, trivial⟩
  refine W.region ?_
  refine OL.pure S (Lf.run_lss (S.ev rfl) (S.ev rfl)) rfl rfl trivial ?_
  clear S; intro aa S
  refine OL.nil ?_
  refine W.seq ?_
  refine W.cond S (b := (decide (x13 < ((x11.n : Nat) : Int)))) rfl (fun hb => ?_) (fun hb => ?_)
  · replace H := H.1 hb
    refine W.skip ?_
    refine W.seq ?_
    refine W.block ?_
    refine W.seq ?_
    replace S := S.sub [(3, Value.string s3), (11, Value.slice x11.a x11.n x11.c), (12, Value.int .i64 ((x11.n : Nat) : Int)), (13, Value.int .i64 x13)] ⟨rfl, rfl, rfl, rfl, trivial⟩
    refine W.region ?_
    obtain ⟨q15, e, e_1, e_2, H⟩ := H
    refine OL.pure S (Lf.run_ixs (S.ev rfl) (S.ev rfl) Try.underlying22 ti3 e e_1 e_2) rfl rfl trivial ?_
    clear S; intro aa S
    obtain ⟨x16, c_3, H⟩ := H
    refine OL.pure S (Lf.run_ld (S.ev rfl) fl3 (S.cl c_3)) rfl rfl trivial ?_
    clear S; intro aa S
    refine OL.pure S (Lf.run_assign (S.ev rfl)) rfl rfl trivial ?_
    clear S; intro aa S
    refine OL.nil ?_
    replace S := S.sub [(3, Value.string s3), (5, Value.int .i64 x16), (11, Value.slice x11.a x11.n x11.c), (12, Value.int .i64 ((x11.n : Nat) : Int)), (13, Value.int .i64 x13)] ⟨rfl, rfl, rfl, rfl, rfl, trivial⟩
    refine W.region ?_
    refine OL.pure S (Lf.run_move (S.ev rfl)) rfl rfl trivial ?_
    clear S; intro aa S
    refine OL.pure S (Lf.run_move (S.ev rfl)) rfl rfl trivial ?_
    clear S; intro aa S
    refine ol_cal S H isfn27 rfl rfl trivial ?_
    clear S H aa; intro u_1 aa ww h4 H S
    obtain ⟨x19, rfl, H⟩ := H
    obtain ⟨c_4, H⟩ := H
    refine OL.pure S (Lf.run_addt (S.ev rfl) (S.ev rfl) c_4) rfl rfl trivial ?_
    clear S; intro aa S
    obtain ⟨c_5, H⟩ := H
    refine OL.pure S (Lf.run_addt (S.ev rfl) (S.ev rfl) c_5) rfl rfl trivial ?_
    clear S; intro aa S
    refine OL.pure S (Lf.run_assign (S.ev rfl)) rfl rfl trivial ?_
    clear S; intro aa S
    refine OL.nil ?_
    replace S := S.sub [(3, Value.string (s3 ++ ((⟨#[46]⟩ : ByteArray) ++ x19))), (11, Value.slice x11.a x11.n x11.c), (12, Value.int .i64 ((x11.n : Nat) : Int)), (13, Value.int .i64 x13)] ⟨rfl, rfl, rfl, rfl, trivial⟩
    refine W.region ?_
    refine OL.pure S (Lf.run_add (S.ev rfl) (S.ev rfl)) rfl rfl trivial ?_
    clear S; intro aa S
    refine OL.pure S (Lf.run_move (S.ev rfl)) rfl rfl trivial ?_
    clear S; intro aa S
    refine OL.nil ?_
    exact ⟨((s3 ++ ((⟨#[46]⟩ : ByteArray) ++ x19)), (IntKind.i64.wrap (x13 + 1)), h4), ⟨S.sub _ ⟨rfl, rfl, rfl, rfl, trivial⟩, H.1⟩, H.2⟩
  · replace H := H.2 hb
    refine W.exit_ ?_
    refine xhit ?_
    refine W.seq ?_
    replace S := S.sub [(3, Value.string s3)] ⟨rfl, trivial⟩
    refine W.region ?_
    refine OL.pure S (Lf.run_move (S.ev rfl)) rfl rfl trivial ?_
    clear S; intro aa S
    refine OL.pure S (Lf.run_assign (S.ev rfl)) rfl rfl trivial ?_
    clear S; intro aa S
    refine OL.nil ?_
    refine W.ret ?_
    exact Ret.one S rfl rfl H

end Go.Proofs.Ytifjmbbnpkgmaaa

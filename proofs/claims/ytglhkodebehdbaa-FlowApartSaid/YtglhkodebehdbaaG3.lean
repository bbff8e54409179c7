/- Lifted by program off the elaborated code: each Go function, read as a proposition over typed variables and the heap. -/
import Derived.Test.YtglhkodebehdbaaG0
namespace Go.Proofs.Ytglhkodebehdbaa
open Go Go.Lf
set_option linter.unusedVariables false

/-- chattel chattelref15.Way -/
def L13 (p0 : Sv) (p0_1 : Int) (p0_2 : Sv) (p0_3 : Sv) (p0_4 : Sv) (e1 : Int) (vfrom2 : Int) (vto3 : Int) (steps4 : Int) (h : Heap) (R : Value → Heap → Prop) : Prop :=
  new 25 #[Value.slice p0.a p0.n p0.c, Value.int .i64 p0_1, Value.slice p0_2.a p0_2.n p0_2.c, Value.slice p0_3.a p0_3.n p0_3.c, Value.slice p0_4.a p0_4.n p0_4.c] h fun p5 h1 =>
  ifb (vfrom2 == vto3) (
    R (Value.bool true) h1) (
    ∃ J : Bool → Heap → Prop, (orj (steps4 == 0) (fun k =>
      ldS h1 (p5.add 3) fun x19 =>
      cal Try.prog 27 #[Value.slice x19.a x19.n x19.c, Value.int .i64 vfrom2, Value.int .i64 e1] h1 fun u h3 => asB u fun x22 =>
      ∃ J_1 : Bool → Heap → Prop, (andj x22 (fun k_1 =>
        ldS h3 (p5.add 2) fun x25 =>
        cal Try.prog 27 #[Value.slice x25.a x25.n x25.c, Value.int .i64 vfrom2, Value.int .i64 e1] h3 fun u_1 h5 => asB u_1 fun x28 =>
        k_1 (!x28) h5) h3 J_1) ∧ ∀ x30 h4, J_1 x30 h4 →
      k x30 h4) h1 J) ∧ ∀ x31 h2, J x31 h2 →
    ifb x31 (
      R (Value.bool false) h2) (
      ∃ (I : Int → Heap → Prop) (m : Int → Heap → Nat), I 0 h2 ∧ ∀ k11 h6, I k11 h6 →
      ldS h6 p5 fun x34 =>
      ixS x34 vfrom2 fun q36 =>
      ldS h6 (q36.add ((vfrom2 : Int).toNat * 1)) fun x37 =>
      ifb (decide (k11 < ((x37.n : Nat) : Int))) (
        ∃ (y42 : Sv) (y42_1 : Int) (y42_2 : Sv) (y42_3 : Sv) (y42_4 : Sv), cl h6 p5 = some (Value.slice y42.a y42.n y42.c) ∧ cl h6 (p5.add 1) = some (Value.int .i64 y42_1) ∧ cl h6 (p5.add 2) = some (Value.slice y42_2.a y42_2.n y42_2.c) ∧ cl h6 (p5.add 3) = some (Value.slice y42_3.a y42_3.n y42_3.c) ∧ cl h6 (p5.add 4) = some (Value.slice y42_4.a y42_4.n y42_4.c) ∧
        ldS h6 p5 fun x45 =>
        ixS x45 vfrom2 fun q47 =>
        ldS h6 (q47.add ((vfrom2 : Int).toNat * 1)) fun x48 =>
        ixS x48 k11 fun q50 =>
        ldI .i64 h6 (q50.add ((k11 : Int).toNat * 1)) fun x51 =>
        cal Try.prog 13 #[Value.agg #[Value.slice y42.a y42.n y42.c, Value.int .i64 y42_1, Value.slice y42_2.a y42_2.n y42_2.c, Value.slice y42_3.a y42_3.n y42_3.c, Value.slice y42_4.a y42_4.n y42_4.c], Value.int .i64 e1, Value.int .i64 x51, Value.int .i64 vto3, Value.int .i64 (IntKind.i64.wrap (steps4 - 1))] h6 fun u_2 h7 => asB u_2 fun x55 =>
        ifb x55 (
          R (Value.bool true) h7) (
          I (IntKind.i64.wrap (k11 + 1)) h7 ∧ m (IntKind.i64.wrap (k11 + 1)) h7 < m k11 h6)) (
        R (Value.bool false) h6)))

set_option maxRecDepth 100000 in

theorem F13 {p0 p0_1 p0_2 p0_3 p0_4 e1 vfrom2 vto3 steps4 h : _} {R : Value → Heap → Prop} (H : L13 p0 p0_1 p0_2 p0_3 p0_4 e1 vfrom2 vto3 steps4 h R) : CallsH Try.prog 13 #[Value.agg #[Value.slice p0.a p0.n p0.c, Value.int .i64 p0_1, Value.slice p0_2.a p0_2.n p0_2.c, Value.slice p0_3.a p0_3.n p0_3.c, Value.slice p0_4.a p0_4.n p0_4.c], Value.int .i64 e1, Value.int .i64 vfrom2, Value.int .i64 vto3, Value.int .i64 steps4] h R := by
  refine CallsH.enter (n := 56) Try.func13 rfl rfl rfl rfl ?_
  intro w0 aa ww S
  unfold L13 at H
  refine W.seq ?_
  replace S := S.sub [(0, Value.agg #[Value.slice p0.a p0.n p0.c, Value.int .i64 p0_1, Value.slice p0_2.a p0_2.n p0_2.c, Value.slice p0_3.a p0_3.n p0_3.c, Value.slice p0_4.a p0_4.n p0_4.c]), (1, Value.int .i64 e1), (2, Value.int .i64 vfrom2), (3, Value.int .i64 vto3), (4, Value.int .i64 steps4)] ⟨rfl, rfl, rfl, rfl, rfl, trivial⟩
  refine W.region ?_
  refine ol_box S H rfl rfl rfl trivial ?_
  clear S H aa; intro p5 aa ww h1 H S
  refine OL.pure S (Lf.run_assign (S.ev rfl)) rfl rfl trivial ?_
  clear S; intro aa S
  refine OL.nil ?_
  refine W.seq ?_
  refine W.seq ?_
  replace S := S.sub [(1, Value.int .i64 e1), (2, Value.int .i64 vfrom2), (3, Value.int .i64 vto3), (4, Value.int .i64 steps4), (5, Value.pointer (some p5))] ⟨rfl, rfl, rfl, rfl, rfl, trivial⟩
  refine W.region ?_
  refine OL.pure S (Lf.run_move (S.ev rfl)) rfl rfl trivial ?_
  clear S; intro aa S
  refine OL.pure S (Lf.run_move (S.ev rfl)) rfl rfl trivial ?_
  clear S; intro aa S
  refine OL.pure S (Lf.run_eql (S.ev rfl) (S.ev rfl)) rfl rfl trivial ?_
  clear S; intro aa S
  refine OL.nil ?_
  refine W.cond S (b := (vfrom2 == vto3)) rfl (fun hb => ?_) (fun hb => ?_)
  · replace H := H.1 hb
    refine W.seq ?_
    replace S := S.sub [] trivial
    refine W.region ?_
    refine OL.pure S (Lf.run_assign (S.ev rfl)) rfl rfl trivial ?_
    clear S; intro aa S
    refine OL.nil ?_
    refine W.ret ?_
    exact Ret.one S rfl rfl H
  · replace H := H.2 hb
    refine W.skip ?_
    refine W.seq ?_
    refine W.seq ?_
    replace S := S.sub [(1, Value.int .i64 e1), (2, Value.int .i64 vfrom2), (3, Value.int .i64 vto3), (4, Value.int .i64 steps4), (5, Value.pointer (some p5))] ⟨rfl, rfl, rfl, rfl, rfl, trivial⟩
    refine W.region ?_
    refine OL.pure S (Lf.run_move (S.ev rfl)) rfl rfl trivial ?_
    clear S; intro aa S
    refine OL.pure S (Lf.run_eql (S.ev rfl) (S.ev rfl)) rfl rfl trivial ?_
    clear S; intro aa S
    refine OL.pure S (Lf.run_move (S.ev rfl)) rfl rfl trivial ?_
    clear S; intro aa S
    obtain ⟨J, H, HK⟩ := H
    refine OL.cutN 14 (fun aa ww => ∃ x31 h2, St 56 ((31, Value.bool x31) :: [(1, Value.int .i64 e1), (2, Value.int .i64 vfrom2), (3, Value.int .i64 vto3), (4, Value.int .i64 steps4), (5, Value.pointer (some p5)), (15, Value.int .i64 steps4), (16, Value.bool (steps4 == 0)), (17, Value.bool (steps4 == 0))]) h2 w0 aa ww ∧ J x31 h2) ?_ ?_
    · rcases Bool.eq_false_or_eq_true (steps4 == 0) with hb_1 | hb_1
      · replace H := H.1 hb_1
        refine OL.not S rfl rfl (GNo.mk rfl rfl hb_1) ?_
        clear S; intro aa S
        refine OL.not S rfl rfl (GNo.mk rfl rfl hb_1) ?_
        clear S; intro aa S
        refine OL.not S rfl rfl (GNo.mk rfl rfl hb_1) ?_
        clear S; intro aa S
        refine OL.not S rfl rfl (GNo.mk rfl rfl hb_1) ?_
        clear S; intro aa S
        refine OL.not S rfl rfl (GNo.mk rfl rfl hb_1) ?_
        clear S; intro aa S
        refine OL.not S rfl rfl (GNo.mk rfl rfl hb_1) ?_
        clear S; intro aa S
        refine OL.not S rfl rfl (GNo.un rfl rfl) ?_
        clear S; intro aa S
        refine OL.not S rfl rfl (GNo.un rfl rfl) ?_
        clear S; intro aa S
        refine OL.not S rfl rfl (GNo.un rfl rfl) ?_
        clear S; intro aa S
        refine OL.not S rfl rfl (GNo.un rfl rfl) ?_
        clear S; intro aa S
        refine OL.not S rfl rfl (GNo.un rfl rfl) ?_
        clear S; intro aa S
        refine OL.not S rfl rfl (GNo.un rfl rfl) ?_
        clear S; intro aa S
        refine OL.not S rfl rfl (GNo.mk rfl rfl hb_1) ?_
        clear S; intro aa S
        refine OL.pure S (Lf.run_pickT (S.ev rfl) hb_1 (S.ev rfl)) rfl rfl trivial ?_
        clear S; intro aa S
        refine OL.nil ?_
        exact ⟨_, _, S.sub _ ⟨rfl, rfl, rfl, rfl, rfl, rfl, rfl, rfl, rfl, trivial⟩, H⟩
      · replace H := H.2 hb_1
        refine OL.pure S (Lf.run_fa (S.ev rfl) fa25_3) rfl rfl (GOk.mk rfl rfl hb_1) ?_
        clear S; intro aa S
        obtain ⟨x19, c, H⟩ := H
        refine OL.pure S (Lf.run_ld (S.ev rfl) fl22 (S.cl c)) rfl rfl (GOk.mk rfl rfl hb_1) ?_
        clear S; intro aa S
        refine OL.pure S (Lf.run_move (S.ev rfl)) rfl rfl (GOk.mk rfl rfl hb_1) ?_
        clear S; intro aa S
        refine OL.pure S (Lf.run_move (S.ev rfl)) rfl rfl (GOk.mk rfl rfl hb_1) ?_
        clear S; intro aa S
        refine ol_cal S H isfn27 rfl rfl (GOk.mk rfl rfl hb_1) ?_
        clear S H aa; intro u aa ww h3 H S
        obtain ⟨x22, rfl, H⟩ := H
        refine OL.pure S (Lf.run_move (S.ev rfl)) rfl rfl (GOk.mk rfl rfl hb_1) ?_
        clear S; intro aa S
        obtain ⟨J_1, H, HK_1⟩ := H
        refine OL.cutN 7 (fun aa ww => ∃ x30 h4, St 56 ((30, Value.bool x30) :: [(1, Value.int .i64 e1), (2, Value.int .i64 vfrom2), (3, Value.int .i64 vto3), (4, Value.int .i64 steps4), (5, Value.pointer (some p5)), (15, Value.int .i64 steps4), (16, Value.bool (steps4 == 0)), (17, Value.bool (steps4 == 0)), (18, Value.pointer (some (p5.add 3))), (19, Value.slice x19.a x19.n x19.c), (20, Value.int .i64 vfrom2), (21, Value.int .i64 e1), (22, Value.bool x22), (23, Value.bool x22)]) h4 w0 aa ww ∧ J_1 x30 h4) ?_ ?_
        · rcases Bool.eq_false_or_eq_true x22 with hb_2 | hb_2
          · replace H := H.1 hb_2
            refine OL.pure S (Lf.run_fa (S.ev rfl) fa25_2) rfl rfl (GOk.mk rfl rfl hb_2) ?_
            clear S; intro aa S
            obtain ⟨x25, c_1, H⟩ := H
            refine OL.pure S (Lf.run_ld (S.ev rfl) fl22 (S.cl c_1)) rfl rfl (GOk.mk rfl rfl hb_2) ?_
            clear S; intro aa S
            refine OL.pure S (Lf.run_move (S.ev rfl)) rfl rfl (GOk.mk rfl rfl hb_2) ?_
            clear S; intro aa S
            refine OL.pure S (Lf.run_move (S.ev rfl)) rfl rfl (GOk.mk rfl rfl hb_2) ?_
            clear S; intro aa S
            refine ol_cal S H isfn27 rfl rfl (GOk.mk rfl rfl hb_2) ?_
            clear S H aa; intro u_1 aa ww h5 H S
            obtain ⟨x28, rfl, H⟩ := H
            refine OL.pure S (Lf.run_not (S.ev rfl)) rfl rfl (GOk.mk rfl rfl hb_2) ?_
            clear S; intro aa S
            refine OL.pure S (Lf.run_pickT (S.ev rfl) hb_2 (S.ev rfl)) rfl rfl (GOk.mk rfl rfl hb_1) ?_
            clear S; intro aa S
            refine OL.nil ?_
            exact ⟨_, _, S.sub _ ⟨rfl, rfl, rfl, rfl, rfl, rfl, rfl, rfl, rfl, rfl, rfl, rfl, rfl, rfl, rfl, trivial⟩, H⟩
          · replace H := H.2 hb_2
            refine OL.not S rfl rfl (GNo.mk rfl rfl hb_2) ?_
            clear S; intro aa S
            refine OL.not S rfl rfl (GNo.mk rfl rfl hb_2) ?_
            clear S; intro aa S
            refine OL.not S rfl rfl (GNo.mk rfl rfl hb_2) ?_
            clear S; intro aa S
            refine OL.not S rfl rfl (GNo.mk rfl rfl hb_2) ?_
            clear S; intro aa S
            refine OL.not S rfl rfl (GNo.mk rfl rfl hb_2) ?_
            clear S; intro aa S
            refine OL.not S rfl rfl (GNo.mk rfl rfl hb_2) ?_
            clear S; intro aa S
            refine OL.pure S (Lf.run_pickF (S.ev rfl) hb_2 (S.ev rfl)) rfl rfl (GOk.mk rfl rfl hb_1) ?_
            clear S; intro aa S
            refine OL.nil ?_
            exact ⟨_, _, S.sub _ ⟨rfl, rfl, rfl, rfl, rfl, rfl, rfl, rfl, rfl, rfl, rfl, rfl, rfl, rfl, rfl, trivial⟩, H⟩
        · clear S aa
          rintro aa ww ⟨x30, h4, S, HJ⟩
          replace H := HK_1 _ _ HJ
          clear HK_1 HJ
          refine OL.pure S (Lf.run_pickF (S.ev rfl) hb_1 (S.ev rfl)) rfl rfl trivial ?_
          clear S; intro aa S
          refine OL.nil ?_
          exact ⟨_, _, S.sub _ ⟨rfl, rfl, rfl, rfl, rfl, rfl, rfl, rfl, rfl, trivial⟩, H⟩
    · clear S aa
      rintro aa ww ⟨x31, h2, S, HJ⟩
      replace H := HK _ _ HJ
      clear HK HJ
      refine OL.nil ?_
      refine W.cond S (b := x31) rfl (fun hb_3 => ?_) (fun hb_3 => ?_)
      · replace H := H.1 hb_3
        refine W.seq ?_
        replace S := S.sub [] trivial
        refine W.region ?_
        refine OL.pure S (Lf.run_assign (S.ev rfl)) rfl rfl trivial ?_
        clear S; intro aa S
        refine OL.nil ?_
        refine W.ret ?_
        exact Ret.one S rfl rfl H
      · replace H := H.2 hb_3
        refine W.skip ?_
        refine W.seq ?_
        refine W.seq ?_
        replace S := S.sub [(1, Value.int .i64 e1), (2, Value.int .i64 vfrom2), (3, Value.int .i64 vto3), (4, Value.int .i64 steps4), (5, Value.pointer (some p5))] ⟨rfl, rfl, rfl, rfl, rfl, trivial⟩
        refine W.region ?_
        refine OL.pure S (Lf.run_assign (S.ev rfl)) rfl rfl trivial ?_
        clear S; intro aa S
        refine OL.nil ?_
        refine W.block ?_
        obtain ⟨I, m, H, HB⟩ := H
        refine W.loopS (σ := Int × Heap) (fun s aa ww => St 56 [(1, Value.int .i64 e1), (2, Value.int .i64 vfrom2), (3, Value.int .i64 vto3), (4, Value.int .i64 steps4), (5, Value.pointer (some p5)), (11, Value.int .i64 s.1)] s.2 w0 aa ww ∧ I s.1 s.2) (fun s => m s.1 s.2) (0, h2) ⟨S.sub _ ⟨rfl, rfl, rfl, rfl, rfl, rfl, trivial⟩, H⟩ ?_
        clear H S aa
        rintro ⟨k11, h6⟩ aa ww ⟨S, HI⟩
        replace S : St 56 [(1, Value.int .i64 e1), (2, Value.int .i64 vfrom2), (3, Value.int .i64 vto3), (4, Value.int .i64 steps4), (5, Value.pointer (some p5)), (11, Value.int .i64 k11)] h6 w0 aa ww := S
        have H := HB k11 h6 HI
        clear HI
        refine W.seq ?_
        refine W.seq ?_
        replace S := S.sub [(1, Value.int .i64 e1), (2, Value.int .i64 vfrom2), (3, Value.int .i64 vto3), (4, Value.int .i64 steps4), (5, Value.pointer (some p5)), (11, Value.int .i64 k11)] ⟨rfl, rfl, rfl, rfl, rfl, rfl, trivial⟩
        refine W.region ?_
        refine OL.pure S (Lf.run_move (S.ev rfl)) rfl rfl trivial ?_
        clear S; intro aa S
        refine OL.pure S (Lf.run_fa (S.ev rfl) fa25_0) rfl rfl trivial ?_
        clear S; intro aa S
        obtain ⟨x34, c_2, H⟩ := H
        refine OL.pure S (Lf.run_ld (S.ev rfl) fl22 (S.cl c_2)) rfl rfl trivial ?_
        clear S; intro aa S
        refine OL.pure S (Lf.run_move (S.ev rfl)) rfl rfl trivial ?_
        clear S; intro aa S
        obtain ⟨q36, e, e_1, e_2, H⟩ := H
        refine OL.pure S (Lf.run_ixs (S.ev rfl) (S.ev rfl) Try.underlying22 ti23 e e_1 e_2) rfl rfl trivial ?_
        clear S; intro aa S
        obtain ⟨x37, c_3, H⟩ := H
        refine OL.pure S (Lf.run_ld (S.ev rfl) fl23 (S.cl c_3)) rfl rfl trivial ?_
        clear S; intro aa S
        refine OL.pure S (Lf.run_lens (S.ev rfl) rfl Try.underlying23) rfl rfl trivial ?_
        clear S; intro aa S
        refine OL.pure S (Lf.run_lss (S.ev rfl) (S.ev rfl)) rfl rfl trivial ?_
        clear S; intro aa S
        refine OL.nil ?_
        refine W.cond S (b := (decide (k11 < ((x37.n : Nat) : Int)))) rfl (fun hb_4 => ?_) (fun hb_4 => ?_)
        · replace H := H.1 hb_4
          refine W.skip ?_
          refine W.seq ?_
          refine W.block ?_
          refine W.seq ?_
          replace S := S.sub [(1, Value.int .i64 e1), (2, Value.int .i64 vfrom2), (3, Value.int .i64 vto3), (4, Value.int .i64 steps4), (5, Value.pointer (some p5)), (11, Value.int .i64 k11)] ⟨rfl, rfl, rfl, rfl, rfl, rfl, trivial⟩
          refine W.regionD S (by kernel_rfl) ?_
          clear S; intro ww S
          obtain ⟨y42, y42_1, y42_2, y42_3, y42_4, c_8, c_9, c_10, c_11, c_12, H⟩ := H
          refine AN.load 0 S rfl (by kernel_rfl) (fun _ hx => Lf.run_ldA (cs := [Value.slice y42.a y42.n y42.c, Value.int .i64 y42_1, Value.slice y42_2.a y42_2.n y42_2.c, Value.slice y42_3.a y42_3.n y42_3.c, Value.slice y42_4.a y42_4.n y42_4.c]) (S.ev rfl) ag25 ti25 (hx.row (S.row ⟨c_8, c_9, c_10, c_11, c_12, trivial⟩))) rfl rfl trivial ?_
          clear S; intro aa S
          refine AN.pure 1 S rfl (by kernel_rfl) (fun _ => Lf.run_move (S.ev rfl)) rfl rfl trivial ?_
          clear S; intro aa S
          refine AN.pure 2 S rfl (by kernel_rfl) (fun _ => Lf.run_fa (S.ev rfl) fa25_0) rfl rfl trivial ?_
          clear S; intro aa S
          obtain ⟨x45, c_5, H⟩ := H
          refine AN.load 3 S rfl (by kernel_rfl) (fun _ hx => Lf.run_ld (S.ev rfl) fl22 (hx.cell _ _ (S.cl c_5))) rfl rfl trivial ?_
          clear S; intro aa S
          refine AN.pure 4 S rfl (by kernel_rfl) (fun _ => Lf.run_move (S.ev rfl)) rfl rfl trivial ?_
          clear S; intro aa S
          obtain ⟨q47, e_3, e_4, e_5, H⟩ := H
          refine AN.pure 5 S rfl (by kernel_rfl) (fun _ => Lf.run_ixs (S.ev rfl) (S.ev rfl) Try.underlying22 ti23 e_3 e_4 e_5) rfl rfl trivial ?_
          clear S; intro aa S
          obtain ⟨x48, c_6, H⟩ := H
          refine AN.load 6 S rfl (by kernel_rfl) (fun _ hx => Lf.run_ld (S.ev rfl) fl23 (hx.cell _ _ (S.cl c_6))) rfl rfl trivial ?_
          clear S; intro aa S
          refine AN.pure 7 S rfl (by kernel_rfl) (fun _ => Lf.run_move (S.ev rfl)) rfl rfl trivial ?_
          clear S; intro aa S
          obtain ⟨q50, e_6, e_7, e_8, H⟩ := H
          refine AN.pure 8 S rfl (by kernel_rfl) (fun _ => Lf.run_ixs (S.ev rfl) (S.ev rfl) Try.underlying23 ti3 e_6 e_7 e_8) rfl rfl trivial ?_
          clear S; intro aa S
          obtain ⟨x51, c_7, H⟩ := H
          refine AN.load 9 S rfl (by kernel_rfl) (fun _ hx => Lf.run_ld (S.ev rfl) fl3 (hx.cell _ _ (S.cl c_7))) rfl rfl trivial ?_
          clear S; intro aa S
          refine AN.pure 10 S rfl (by kernel_rfl) (fun _ => Lf.run_move (S.ev rfl)) rfl rfl trivial ?_
          clear S; intro aa S
          refine AN.pure 11 S rfl (by kernel_rfl) (fun _ => Lf.run_move (S.ev rfl)) rfl rfl trivial ?_
          clear S; intro aa S
          refine AN.pure 12 S rfl (by kernel_rfl) (fun _ => Lf.run_sub (S.ev rfl) (S.ev rfl)) rfl rfl trivial ?_
          clear S; intro aa S
          refine AN.eff 13 rfl (by kernel_rfl) ?_
          refine ol_cal S H isfn13 rfl rfl trivial ?_
          clear S H aa; intro u_2 aa ww h7 H S
          obtain ⟨x55, rfl, H⟩ := H
          refine OL.nil ?_
          refine AN.done (by kernel_rfl) ?_
          refine W.cond S (b := x55) rfl (fun hb_5 => ?_) (fun hb_5 => ?_)
          · replace H := H.1 hb_5
            refine W.seq ?_
            replace S := S.sub [] trivial
            refine W.region ?_
            refine OL.pure S (Lf.run_assign (S.ev rfl)) rfl rfl trivial ?_
            clear S; intro aa S
            refine OL.nil ?_
            refine W.ret ?_
            exact Ret.one S rfl rfl H
          · replace H := H.2 hb_5
            refine W.skip ?_
            replace S := S.sub [(1, Value.int .i64 e1), (2, Value.int .i64 vfrom2), (3, Value.int .i64 vto3), (4, Value.int .i64 steps4), (5, Value.pointer (some p5)), (11, Value.int .i64 k11)] ⟨rfl, rfl, rfl, rfl, rfl, rfl, trivial⟩
            refine W.region ?_
            refine OL.pure S (Lf.run_move (S.ev rfl)) rfl rfl trivial ?_
            clear S; intro aa S
            refine OL.pure S (Lf.run_add (S.ev rfl) (S.ev rfl)) rfl rfl trivial ?_
            clear S; intro aa S
            refine OL.pure S (Lf.run_assign (S.ev rfl)) rfl rfl trivial ?_
            clear S; intro aa S
            refine OL.nil ?_
            exact ⟨((IntKind.i64.wrap (k11 + 1)), h7), ⟨S.sub _ ⟨rfl, rfl, rfl, rfl, rfl, rfl, trivial⟩, H.1⟩, H.2⟩
        · replace H := H.2 hb_4
          refine W.exit_ ?_
          refine xhit ?_
          refine W.seq ?_
          replace S := S.sub [] trivial
          refine W.region ?_
          refine OL.pure S (Lf.run_assign (S.ev rfl)) rfl rfl trivial ?_
          clear S; intro aa S
          refine OL.nil ?_
          refine W.ret ?_
          exact Ret.one S rfl rfl H

/-- (*chattel flow.Answer).Has -/
def L14 (a0 : Option Addr) (i1 : Int) (e2 : Int) (h : Heap) (R : Value → Heap → Prop) : Prop :=
  ∃ J : Bool → Prop, (andr ((Option.isSome a0) && (decide (0 ≤ i1))) (fun k =>
    nn a0 fun p16 =>
    ldS h (p16.add 1) fun x18 =>
    k (decide (i1 < ((x18.n : Nat) : Int)))) J) ∧ ∀ x21, J x21 →
  ∃ J_1 : Bool → Prop, (andr (x21 && (decide (0 ≤ e2))) (fun k_1 =>
    nn a0 fun p29 =>
    ldI .i64 h p29 fun x31 =>
    k_1 (decide (e2 < x31))) J_1) ∧ ∀ x33, J_1 x33 →
  ∃ J_2 : Bool → Prop, (andr x33 (fun k_2 =>
    nn a0 fun p36 =>
    ldS h (p36.add 1) fun x38 =>
    ixS x38 i1 fun q40 =>
    ldS h (q40.add ((i1 : Int).toNat * 1)) fun x41 =>
    ixS x41 (IntKind.i64.wrap ((e2 : Int).tdiv 64)) fun q44 =>
    ldI .u64 h (q44.add (((IntKind.i64.wrap ((e2 : Int).tdiv 64)) : Int).toNat * 1)) fun x45 =>
    (0 ≤ ((e2 : Int).tmod 64)) ∧
    k_2 ((bitsI .and .u64 ((x45 : Int).fdiv (2 ^ (min (((e2 : Int).tmod 64)).toNat IntKind.u64.bits))) 1) == 1)) J_2) ∧ ∀ x51, J_2 x51 →
  R (Value.bool x51) h

set_option maxRecDepth 100000 in

theorem F14 {a0 i1 e2 h : _} {R : Value → Heap → Prop} (H : L14 a0 i1 e2 h R) : CallsH Try.prog 14 #[Value.pointer a0, Value.int .i64 i1, Value.int .i64 e2] h R := by
  refine CallsH.enter (n := 52) Try.func14 rfl rfl rfl rfl ?_
  intro w0 aa ww S
  unfold L14 at H
  refine W.seq ?_
  replace S := S.sub [(0, Value.pointer a0), (1, Value.int .i64 i1), (2, Value.int .i64 e2)] ⟨rfl, rfl, rfl, trivial⟩
  refine W.region ?_
  refine OL.pure S (Lf.run_assign (S.ev rfl)) rfl rfl trivial ?_
  clear S; intro aa S
  refine OL.nil ?_
  refine W.seq ?_
  replace S := S.sub [(0, Value.pointer a0), (1, Value.int .i64 i1), (2, Value.int .i64 e2)] ⟨rfl, rfl, rfl, trivial⟩
  refine W.region ?_
  refine OL.pure S (Lf.run_move (S.ev rfl)) rfl rfl trivial ?_
  clear S; intro aa S
  refine OL.pure S (Lf.run_neqpn Try.underlying29 (S.ev rfl) (S.ev rfl)) rfl rfl trivial ?_
  clear S; intro aa S
  refine OL.pure S (Lf.run_move (S.ev rfl)) rfl rfl trivial ?_
  clear S; intro aa S
  refine OL.cutN 3 (fun aa ww => St 52 ((12, Value.bool ((Option.isSome a0) && (decide (0 ≤ i1)))) :: [(0, Value.pointer a0), (1, Value.int .i64 i1), (2, Value.int .i64 e2), (7, Value.pointer a0), (8, Value.bool (Option.isSome a0)), (9, Value.bool (Option.isSome a0))]) h w0 aa ww) ?_ ?_
  · rcases Bool.eq_false_or_eq_true (Option.isSome a0) with hb | hb
    · refine OL.pure S (Lf.run_move (S.ev rfl)) rfl rfl (GOk.mk rfl rfl hb) ?_
      clear S; intro aa S
      refine OL.pure S (Lf.run_geq (S.ev rfl) (S.ev rfl)) rfl rfl (GOk.mk rfl rfl hb) ?_
      clear S; intro aa S
      refine OL.pure S (Lf.run_pickT (S.ev rfl) hb (S.ev rfl)) rfl rfl trivial ?_
      clear S; intro aa S
      refine OL.nil ?_
      exact (S.hd (by rw [hb, Bool.true_and])).sub _ ⟨rfl, rfl, rfl, rfl, rfl, rfl, rfl, trivial⟩
    · refine OL.not S rfl rfl (GNo.mk rfl rfl hb) ?_
      clear S; intro aa S
      refine OL.not S rfl rfl (GNo.mk rfl rfl hb) ?_
      clear S; intro aa S
      refine OL.pure S (Lf.run_pickF (S.ev rfl) hb (S.ev rfl)) rfl rfl trivial ?_
      clear S; intro aa S
      refine OL.nil ?_
      exact (S.hd (by rw [hb, Bool.false_and])).sub _ ⟨rfl, rfl, rfl, rfl, rfl, rfl, rfl, trivial⟩
  · clear S aa
    intro aa ww S
    refine OL.pure S (Lf.run_move (S.ev rfl)) rfl rfl trivial ?_
    clear S; intro aa S
    obtain ⟨J, H, HK⟩ := H
    refine OL.cutN 8 (fun aa ww => ∃ x21, St 52 ((21, Value.bool x21) :: [(0, Value.pointer a0), (1, Value.int .i64 i1), (2, Value.int .i64 e2), (7, Value.pointer a0), (8, Value.bool (Option.isSome a0)), (9, Value.bool (Option.isSome a0)), (12, Value.bool ((Option.isSome a0) && (decide (0 ≤ i1)))), (13, Value.bool ((Option.isSome a0) && (decide (0 ≤ i1))))]) h w0 aa ww ∧ J x21) ?_ ?_
    · rcases Bool.eq_false_or_eq_true ((Option.isSome a0) && (decide (0 ≤ i1))) with hb_1 | hb_1
      · replace H := H.1 hb_1
        refine OL.pure S (Lf.run_move (S.ev rfl)) rfl rfl (GOk.mk rfl rfl hb_1) ?_
        clear S; intro aa S
        refine OL.pure S (Lf.run_move (S.ev rfl)) rfl rfl (GOk.mk rfl rfl hb_1) ?_
        clear S; intro aa S
        obtain ⟨p16, e, H⟩ := H
        refine OL.pure S (Lf.run_nc' (S.ev rfl) e) rfl rfl (GOk.mk rfl rfl hb_1) ?_
        clear S; intro aa S
        refine OL.pure S (Lf.run_fa (S.ev rfl) fa49_1) rfl rfl (GOk.mk rfl rfl hb_1) ?_
        clear S; intro aa S
        obtain ⟨x18, c, H⟩ := H
        refine OL.pure S (Lf.run_ld (S.ev rfl) fl47 (S.cl c)) rfl rfl (GOk.mk rfl rfl hb_1) ?_
        clear S; intro aa S
        refine OL.pure S (Lf.run_lens (S.ev rfl) rfl Try.underlying47) rfl rfl (GOk.mk rfl rfl hb_1) ?_
        clear S; intro aa S
        refine OL.pure S (Lf.run_lss (S.ev rfl) (S.ev rfl)) rfl rfl (GOk.mk rfl rfl hb_1) ?_
        clear S; intro aa S
        refine OL.pure S (Lf.run_pickT (S.ev rfl) hb_1 (S.ev rfl)) rfl rfl trivial ?_
        clear S; intro aa S
        refine OL.nil ?_
        exact ⟨_, S.sub _ ⟨rfl, rfl, rfl, rfl, rfl, rfl, rfl, rfl, rfl, trivial⟩, H⟩
      · replace H := H.2 hb_1
        refine OL.not S rfl rfl (GNo.mk rfl rfl hb_1) ?_
        clear S; intro aa S
        refine OL.not S rfl rfl (GNo.mk rfl rfl hb_1) ?_
        clear S; intro aa S
        refine OL.not S rfl rfl (GNo.mk rfl rfl hb_1) ?_
        clear S; intro aa S
        refine OL.not S rfl rfl (GNo.mk rfl rfl hb_1) ?_
        clear S; intro aa S
        refine OL.not S rfl rfl (GNo.mk rfl rfl hb_1) ?_
        clear S; intro aa S
        refine OL.not S rfl rfl (GNo.mk rfl rfl hb_1) ?_
        clear S; intro aa S
        refine OL.not S rfl rfl (GNo.mk rfl rfl hb_1) ?_
        clear S; intro aa S
        refine OL.pure S (Lf.run_pickF (S.ev rfl) hb_1 (S.ev rfl)) rfl rfl trivial ?_
        clear S; intro aa S
        refine OL.nil ?_
        exact ⟨_, S.sub _ ⟨rfl, rfl, rfl, rfl, rfl, rfl, rfl, rfl, rfl, trivial⟩, H⟩
    · clear S aa
      rintro aa ww ⟨x21, S, HJ⟩
      replace H := HK _ HJ
      clear HK HJ
      refine OL.pure S (Lf.run_move (S.ev rfl)) rfl rfl trivial ?_
      clear S; intro aa S
      refine OL.cutN 3 (fun aa ww => St 52 ((25, Value.bool (x21 && (decide (0 ≤ e2)))) :: [(0, Value.pointer a0), (1, Value.int .i64 i1), (2, Value.int .i64 e2), (7, Value.pointer a0), (8, Value.bool (Option.isSome a0)), (9, Value.bool (Option.isSome a0)), (12, Value.bool ((Option.isSome a0) && (decide (0 ≤ i1)))), (13, Value.bool ((Option.isSome a0) && (decide (0 ≤ i1)))), (21, Value.bool x21), (22, Value.bool x21)]) h w0 aa ww) ?_ ?_
      · rcases Bool.eq_false_or_eq_true x21 with hb_2 | hb_2
        · refine OL.pure S (Lf.run_move (S.ev rfl)) rfl rfl (GOk.mk rfl rfl hb_2) ?_
          clear S; intro aa S
          refine OL.pure S (Lf.run_geq (S.ev rfl) (S.ev rfl)) rfl rfl (GOk.mk rfl rfl hb_2) ?_
          clear S; intro aa S
          refine OL.pure S (Lf.run_pickT (S.ev rfl) hb_2 (S.ev rfl)) rfl rfl trivial ?_
          clear S; intro aa S
          refine OL.nil ?_
          exact (S.hd (by rw [hb_2, Bool.true_and])).sub _ ⟨rfl, rfl, rfl, rfl, rfl, rfl, rfl, rfl, rfl, rfl, rfl, trivial⟩
        · refine OL.not S rfl rfl (GNo.mk rfl rfl hb_2) ?_
          clear S; intro aa S
          refine OL.not S rfl rfl (GNo.mk rfl rfl hb_2) ?_
          clear S; intro aa S
          refine OL.pure S (Lf.run_pickF (S.ev rfl) hb_2 (S.ev rfl)) rfl rfl trivial ?_
          clear S; intro aa S
          refine OL.nil ?_
          exact (S.hd (by rw [hb_2, Bool.false_and])).sub _ ⟨rfl, rfl, rfl, rfl, rfl, rfl, rfl, rfl, rfl, rfl, rfl, trivial⟩
      · clear S aa
        intro aa ww S
        refine OL.pure S (Lf.run_move (S.ev rfl)) rfl rfl trivial ?_
        clear S; intro aa S
        obtain ⟨J_1, H, HK_1⟩ := H
        refine OL.cutN 7 (fun aa ww => ∃ x33, St 52 ((33, Value.bool x33) :: [(0, Value.pointer a0), (1, Value.int .i64 i1), (2, Value.int .i64 e2), (7, Value.pointer a0), (8, Value.bool (Option.isSome a0)), (9, Value.bool (Option.isSome a0)), (12, Value.bool ((Option.isSome a0) && (decide (0 ≤ i1)))), (13, Value.bool ((Option.isSome a0) && (decide (0 ≤ i1)))), (21, Value.bool x21), (22, Value.bool x21), (25, Value.bool (x21 && (decide (0 ≤ e2)))), (26, Value.bool (x21 && (decide (0 ≤ e2))))]) h w0 aa ww ∧ J_1 x33) ?_ ?_
        · rcases Bool.eq_false_or_eq_true (x21 && (decide (0 ≤ e2))) with hb_3 | hb_3
          · replace H := H.1 hb_3
            refine OL.pure S (Lf.run_move (S.ev rfl)) rfl rfl (GOk.mk rfl rfl hb_3) ?_
            clear S; intro aa S
            refine OL.pure S (Lf.run_move (S.ev rfl)) rfl rfl (GOk.mk rfl rfl hb_3) ?_
            clear S; intro aa S
            obtain ⟨p29, e_1, H⟩ := H
            refine OL.pure S (Lf.run_nc' (S.ev rfl) e_1) rfl rfl (GOk.mk rfl rfl hb_3) ?_
            clear S; intro aa S
            refine OL.pure S (Lf.run_fa (S.ev rfl) fa49_0) rfl rfl (GOk.mk rfl rfl hb_3) ?_
            clear S; intro aa S
            obtain ⟨x31, c_1, H⟩ := H
            refine OL.pure S (Lf.run_ld (S.ev rfl) fl3 (S.cl c_1)) rfl rfl (GOk.mk rfl rfl hb_3) ?_
            clear S; intro aa S
            refine OL.pure S (Lf.run_lss (S.ev rfl) (S.ev rfl)) rfl rfl (GOk.mk rfl rfl hb_3) ?_
            clear S; intro aa S
            refine OL.pure S (Lf.run_pickT (S.ev rfl) hb_3 (S.ev rfl)) rfl rfl trivial ?_
            clear S; intro aa S
            refine OL.nil ?_
            exact ⟨_, S.sub _ ⟨rfl, rfl, rfl, rfl, rfl, rfl, rfl, rfl, rfl, rfl, rfl, rfl, rfl, trivial⟩, H⟩
          · replace H := H.2 hb_3
            refine OL.not S rfl rfl (GNo.mk rfl rfl hb_3) ?_
            clear S; intro aa S
            refine OL.not S rfl rfl (GNo.mk rfl rfl hb_3) ?_
            clear S; intro aa S
            refine OL.not S rfl rfl (GNo.mk rfl rfl hb_3) ?_
            clear S; intro aa S
            refine OL.not S rfl rfl (GNo.mk rfl rfl hb_3) ?_
            clear S; intro aa S
            refine OL.not S rfl rfl (GNo.mk rfl rfl hb_3) ?_
            clear S; intro aa S
            refine OL.not S rfl rfl (GNo.mk rfl rfl hb_3) ?_
            clear S; intro aa S
            refine OL.pure S (Lf.run_pickF (S.ev rfl) hb_3 (S.ev rfl)) rfl rfl trivial ?_
            clear S; intro aa S
            refine OL.nil ?_
            exact ⟨_, S.sub _ ⟨rfl, rfl, rfl, rfl, rfl, rfl, rfl, rfl, rfl, rfl, rfl, rfl, rfl, trivial⟩, H⟩
        · clear S aa
          rintro aa ww ⟨x33, S, HJ⟩
          replace H := HK_1 _ HJ
          clear HK_1 HJ
          refine OL.pure S (Lf.run_move (S.ev rfl)) rfl rfl trivial ?_
          clear S; intro aa S
          obtain ⟨J_2, H, HK_2⟩ := H
          refine OL.cutN 17 (fun aa ww => ∃ x51, St 52 ((51, Value.bool x51) :: [(0, Value.pointer a0), (1, Value.int .i64 i1), (2, Value.int .i64 e2), (7, Value.pointer a0), (8, Value.bool (Option.isSome a0)), (9, Value.bool (Option.isSome a0)), (12, Value.bool ((Option.isSome a0) && (decide (0 ≤ i1)))), (13, Value.bool ((Option.isSome a0) && (decide (0 ≤ i1)))), (21, Value.bool x21), (22, Value.bool x21), (25, Value.bool (x21 && (decide (0 ≤ e2)))), (26, Value.bool (x21 && (decide (0 ≤ e2)))), (33, Value.bool x33), (34, Value.bool x33)]) h w0 aa ww ∧ J_2 x51) ?_ ?_
          · rcases Bool.eq_false_or_eq_true x33 with hb_4 | hb_4
            · replace H := H.1 hb_4
              refine OL.pure S (Lf.run_move (S.ev rfl)) rfl rfl (GOk.mk rfl rfl hb_4) ?_
              clear S; intro aa S
              obtain ⟨p36, e_2, H⟩ := H
              refine OL.pure S (Lf.run_nc' (S.ev rfl) e_2) rfl rfl (GOk.mk rfl rfl hb_4) ?_
              clear S; intro aa S
              refine OL.pure S (Lf.run_fa (S.ev rfl) fa49_1) rfl rfl (GOk.mk rfl rfl hb_4) ?_
              clear S; intro aa S
              obtain ⟨x38, c_2, H⟩ := H
              refine OL.pure S (Lf.run_ld (S.ev rfl) fl47 (S.cl c_2)) rfl rfl (GOk.mk rfl rfl hb_4) ?_
              clear S; intro aa S
              refine OL.pure S (Lf.run_move (S.ev rfl)) rfl rfl (GOk.mk rfl rfl hb_4) ?_
              clear S; intro aa S
              obtain ⟨q40, e_3, e_4, e_5, H⟩ := H
              refine OL.pure S (Lf.run_ixs (S.ev rfl) (S.ev rfl) Try.underlying47 ti51 e_3 e_4 e_5) rfl rfl (GOk.mk rfl rfl hb_4) ?_
              clear S; intro aa S
              obtain ⟨x41, c_3, H⟩ := H
              refine OL.pure S (Lf.run_ld (S.ev rfl) fl51 (S.cl c_3)) rfl rfl (GOk.mk rfl rfl hb_4) ?_
              clear S; intro aa S
              refine OL.pure S (Lf.run_move (S.ev rfl)) rfl rfl (GOk.mk rfl rfl hb_4) ?_
              clear S; intro aa S
              refine OL.pure S (Lf.run_quo (S.ev rfl) (S.ev rfl) (by decide)) rfl rfl (GOk.mk rfl rfl hb_4) ?_
              clear S; intro aa S
              obtain ⟨q44, e_6, e_7, e_8, H⟩ := H
              refine OL.pure S (Lf.run_ixs (S.ev rfl) (S.ev rfl) Try.underlying51 ti36 e_6 e_7 e_8) rfl rfl (GOk.mk rfl rfl hb_4) ?_
              clear S; intro aa S
              obtain ⟨x45, c_4, H⟩ := H
              refine OL.pure S (Lf.run_ld (S.ev rfl) fl36 (S.cl c_4)) rfl rfl (GOk.mk rfl rfl hb_4) ?_
              clear S; intro aa S
              refine OL.pure S (Lf.run_move (S.ev rfl)) rfl rfl (GOk.mk rfl rfl hb_4) ?_
              clear S; intro aa S
              refine OL.pure S (Lf.run_rem (S.ev rfl) (S.ev rfl) (by decide)) rfl rfl (GOk.mk rfl rfl hb_4) ?_
              clear S; intro aa S
              obtain ⟨c_5, H⟩ := H
              refine OL.pure S (Lf.run_shr (S.ev rfl) (S.ev rfl) c_5) rfl rfl (GOk.mk rfl rfl hb_4) ?_
              clear S; intro aa S
              refine OL.pure S (Lf.run_bits (op := .and) (by simp) (S.ev rfl) (S.ev rfl)) rfl rfl (GOk.mk rfl rfl hb_4) ?_
              clear S; intro aa S
              refine OL.pure S (Lf.run_eql (S.ev rfl) (S.ev rfl)) rfl rfl (GOk.mk rfl rfl hb_4) ?_
              clear S; intro aa S
              refine OL.pure S (Lf.run_pickT (S.ev rfl) hb_4 (S.ev rfl)) rfl rfl trivial ?_
              clear S; intro aa S
              refine OL.nil ?_
              exact ⟨_, S.sub _ ⟨rfl, rfl, rfl, rfl, rfl, rfl, rfl, rfl, rfl, rfl, rfl, rfl, rfl, rfl, rfl, trivial⟩, H⟩
            · replace H := H.2 hb_4
              refine OL.not S rfl rfl (GNo.mk rfl rfl hb_4) ?_
              clear S; intro aa S
              refine OL.not S rfl rfl (GNo.mk rfl rfl hb_4) ?_
              clear S; intro aa S
              refine OL.not S rfl rfl (GNo.mk rfl rfl hb_4) ?_
              clear S; intro aa S
              refine OL.not S rfl rfl (GNo.mk rfl rfl hb_4) ?_
              clear S; intro aa S
              refine OL.not S rfl rfl (GNo.mk rfl rfl hb_4) ?_
              clear S; intro aa S
              refine OL.not S rfl rfl (GNo.mk rfl rfl hb_4) ?_
              clear S; intro aa S
              refine OL.not S rfl rfl (GNo.mk rfl rfl hb_4) ?_
              clear S; intro aa S
              refine OL.not S rfl rfl (GNo.mk rfl rfl hb_4) ?_
              clear S; intro aa S
              refine OL.not S rfl rfl (GNo.mk rfl rfl hb_4) ?_
              clear S; intro aa S
              refine OL.not S rfl rfl (GNo.mk rfl rfl hb_4) ?_
              clear S; intro aa S
              refine OL.not S rfl rfl (GNo.mk rfl rfl hb_4) ?_
              clear S; intro aa S
              refine OL.not S rfl rfl (GNo.mk rfl rfl hb_4) ?_
              clear S; intro aa S
              refine OL.not S rfl rfl (GNo.mk rfl rfl hb_4) ?_
              clear S; intro aa S
              refine OL.not S rfl rfl (GNo.mk rfl rfl hb_4) ?_
              clear S; intro aa S
              refine OL.not S rfl rfl (GNo.mk rfl rfl hb_4) ?_
              clear S; intro aa S
              refine OL.not S rfl rfl (GNo.mk rfl rfl hb_4) ?_
              clear S; intro aa S
              refine OL.pure S (Lf.run_pickF (S.ev rfl) hb_4 (S.ev rfl)) rfl rfl trivial ?_
              clear S; intro aa S
              refine OL.nil ?_
              exact ⟨_, S.sub _ ⟨rfl, rfl, rfl, rfl, rfl, rfl, rfl, rfl, rfl, rfl, rfl, rfl, rfl, rfl, rfl, trivial⟩, H⟩
          · clear S aa
            rintro aa ww ⟨x51, S, HJ⟩
            replace H := HK_2 _ HJ
            clear HK_2 HJ
            refine OL.pure S (Lf.run_assign (S.ev rfl)) rfl rfl trivial ?_
            clear S; intro aa S
            refine OL.nil ?_
            refine W.ret ?_
            exact Ret.one S rfl rfl H

/-- chattel flow.Check -/
def L15 (p0 : Sv) (p0_1 : Int) (p0_2 : Sv) (p0_3 : Sv) (p0_4 : Sv) (h : Heap) (R : Value → Heap → Prop) : Prop :=
  new 25 #[Value.slice p0.a p0.n p0.c, Value.int .i64 p0_1, Value.slice p0_2.a p0_2.n p0_2.c, Value.slice p0_3.a p0_3.n p0_3.c, Value.slice p0_4.a p0_4.n p0_4.c] h fun p1 h1 =>
  ldS h1 p1 fun x5 =>
  ∃ J : Bool → Prop, (orr (decide (1201 < ((x5.n : Nat) : Int))) (fun k =>
    ldI .i64 h1 (p1.add 1) fun x11 =>
    k (decide (x11 < 0))) J) ∧ ∀ x13, J x13 →
  ∃ J_1 : Bool → Prop, (orr x13 (fun k_1 =>
    ldI .i64 h1 (p1.add 1) fun x16 =>
    k_1 (decide (4000 < x16))) J_1) ∧ ∀ x18, J_1 x18 →
  ifb x18 (
    R (Value.int .i64 2) h1) (
    ldS h1 p1 fun x20 =>
    cal Try.prog 28 #[Value.slice x20.a x20.n x20.c, Value.int .i64 ((x5.n : Nat) : Int), Value.int .i64 ((x5.n : Nat) : Int)] h1 fun u h2 => asB u fun x23 =>
    ∃ J_2 : Bool → Heap → Prop, (orj (!x23) (fun k_2 =>
      ldS h2 (p1.add 2) fun x27 =>
      ldI .i64 h2 (p1.add 1) fun x30 =>
      cal Try.prog 28 #[Value.slice x27.a x27.n x27.c, Value.int .i64 ((x5.n : Nat) : Int), Value.int .i64 x30] h2 fun u_1 h4 => asB u_1 fun x31 =>
      k_2 (!x31) h4) h2 J_2) ∧ ∀ x33 h3, J_2 x33 h3 →
    ∃ J_3 : Bool → Heap → Prop, (orj x33 (fun k_3 =>
      ldS h3 (p1.add 3) fun x36 =>
      ldI .i64 h3 (p1.add 1) fun x39 =>
      cal Try.prog 28 #[Value.slice x36.a x36.n x36.c, Value.int .i64 ((x5.n : Nat) : Int), Value.int .i64 x39] h3 fun u_2 h6 => asB u_2 fun x40 =>
      k_3 (!x40) h6) h3 J_3) ∧ ∀ x42 h5, J_3 x42 h5 →
    ∃ J_4 : Bool → Heap → Prop, (orj x42 (fun k_4 =>
      ldS h5 (p1.add 4) fun x45 =>
      newS 23 #[Value.slice x45.a x45.n x45.c] 1 h5 fun s46 h8 =>
      ldI .i64 h8 (p1.add 1) fun x48 =>
      cal Try.prog 28 #[Value.slice s46.a s46.n s46.c, Value.int .i64 1, Value.int .i64 x48] h8 fun u_3 h9 => asB u_3 fun x49 =>
      k_4 (!x49) h9) h5 J_4) ∧ ∀ x51 h7, J_4 x51 h7 →
    ifb x51 (
      R (Value.int .i64 14) h7) (
      R (Value.int .i64 0) h7))

set_option maxRecDepth 100000 in

theorem F15 {p0 p0_1 p0_2 p0_3 p0_4 h : _} {R : Value → Heap → Prop} (H : L15 p0 p0_1 p0_2 p0_3 p0_4 h R) : CallsH Try.prog 15 #[Value.agg #[Value.slice p0.a p0.n p0.c, Value.int .i64 p0_1, Value.slice p0_2.a p0_2.n p0_2.c, Value.slice p0_3.a p0_3.n p0_3.c, Value.slice p0_4.a p0_4.n p0_4.c]] h R := by
  refine CallsH.enter (n := 52) Try.func15 rfl rfl rfl rfl ?_
  intro w0 aa ww S
  unfold L15 at H
  refine W.seq ?_
  replace S := S.sub [(0, Value.agg #[Value.slice p0.a p0.n p0.c, Value.int .i64 p0_1, Value.slice p0_2.a p0_2.n p0_2.c, Value.slice p0_3.a p0_3.n p0_3.c, Value.slice p0_4.a p0_4.n p0_4.c])] ⟨rfl, trivial⟩
  refine W.region ?_
  refine ol_box S H rfl rfl rfl trivial ?_
  clear S H aa; intro p1 aa ww h1 H S
  refine OL.pure S (Lf.run_assign (S.ev rfl)) rfl rfl trivial ?_
  clear S; intro aa S
  refine OL.nil ?_
  refine W.seq ?_
  replace S := S.sub [(1, Value.pointer (some p1))] ⟨rfl, trivial⟩
  refine W.region ?_
  refine OL.pure S (Lf.run_fa (S.ev rfl) fa25_0) rfl rfl trivial ?_
  clear S; intro aa S
  obtain ⟨x5, c, H⟩ := H
  refine OL.pure S (Lf.run_ld (S.ev rfl) fl22 (S.cl c)) rfl rfl trivial ?_
  clear S; intro aa S
  refine OL.pure S (Lf.run_lens (S.ev rfl) rfl Try.underlying22) rfl rfl trivial ?_
  clear S; intro aa S
  refine OL.pure S (Lf.run_assign (S.ev rfl)) rfl rfl trivial ?_
  clear S; intro aa S
  refine OL.nil ?_
  refine W.seq ?_
  refine W.seq ?_
  replace S := S.sub [(1, Value.pointer (some p1)), (3, Value.int .i64 ((x5.n : Nat) : Int))] ⟨rfl, rfl, trivial⟩
  refine W.region ?_
  refine OL.pure S (Lf.run_move (S.ev rfl)) rfl rfl trivial ?_
  clear S; intro aa S
  refine OL.pure S (Lf.run_gtr (S.ev rfl) (S.ev rfl)) rfl rfl trivial ?_
  clear S; intro aa S
  refine OL.pure S (Lf.run_move (S.ev rfl)) rfl rfl trivial ?_
  clear S; intro aa S
  obtain ⟨J, H, HK⟩ := H
  refine OL.cutN 4 (fun aa ww => ∃ x13, St 52 ((13, Value.bool x13) :: [(1, Value.pointer (some p1)), (3, Value.int .i64 ((x5.n : Nat) : Int)), (7, Value.int .i64 ((x5.n : Nat) : Int)), (8, Value.bool (decide (1201 < ((x5.n : Nat) : Int)))), (9, Value.bool (decide (1201 < ((x5.n : Nat) : Int))))]) h1 w0 aa ww ∧ J x13) ?_ ?_
  · rcases Bool.eq_false_or_eq_true (decide (1201 < ((x5.n : Nat) : Int))) with hb | hb
    · replace H := H.1 hb
      refine OL.not S rfl rfl (GNo.mk rfl rfl hb) ?_
      clear S; intro aa S
      refine OL.not S rfl rfl (GNo.mk rfl rfl hb) ?_
      clear S; intro aa S
      refine OL.not S rfl rfl (GNo.mk rfl rfl hb) ?_
      clear S; intro aa S
      refine OL.pure S (Lf.run_pickT (S.ev rfl) hb (S.ev rfl)) rfl rfl trivial ?_
      clear S; intro aa S
      refine OL.nil ?_
      exact ⟨_, S.sub _ ⟨rfl, rfl, rfl, rfl, rfl, rfl, trivial⟩, H⟩
    · replace H := H.2 hb
      refine OL.pure S (Lf.run_fa (S.ev rfl) fa25_1) rfl rfl (GOk.mk rfl rfl hb) ?_
      clear S; intro aa S
      obtain ⟨x11, c_1, H⟩ := H
      refine OL.pure S (Lf.run_ld (S.ev rfl) fl3 (S.cl c_1)) rfl rfl (GOk.mk rfl rfl hb) ?_
      clear S; intro aa S
      refine OL.pure S (Lf.run_lss (S.ev rfl) (S.ev rfl)) rfl rfl (GOk.mk rfl rfl hb) ?_
      clear S; intro aa S
      refine OL.pure S (Lf.run_pickF (S.ev rfl) hb (S.ev rfl)) rfl rfl trivial ?_
      clear S; intro aa S
      refine OL.nil ?_
      exact ⟨_, S.sub _ ⟨rfl, rfl, rfl, rfl, rfl, rfl, trivial⟩, H⟩
  · clear S aa
    rintro aa ww ⟨x13, S, HJ⟩
    replace H := HK _ HJ
    clear HK HJ
    refine OL.pure S (Lf.run_move (S.ev rfl)) rfl rfl trivial ?_
    clear S; intro aa S
    obtain ⟨J_1, H, HK_1⟩ := H
    refine OL.cutN 4 (fun aa ww => ∃ x18, St 52 ((18, Value.bool x18) :: [(1, Value.pointer (some p1)), (3, Value.int .i64 ((x5.n : Nat) : Int)), (7, Value.int .i64 ((x5.n : Nat) : Int)), (8, Value.bool (decide (1201 < ((x5.n : Nat) : Int)))), (9, Value.bool (decide (1201 < ((x5.n : Nat) : Int)))), (13, Value.bool x13), (14, Value.bool x13)]) h1 w0 aa ww ∧ J_1 x18) ?_ ?_
    · rcases Bool.eq_false_or_eq_true x13 with hb_1 | hb_1
      · replace H := H.1 hb_1
        refine OL.not S rfl rfl (GNo.mk rfl rfl hb_1) ?_
        clear S; intro aa S
        refine OL.not S rfl rfl (GNo.mk rfl rfl hb_1) ?_
        clear S; intro aa S
        refine OL.not S rfl rfl (GNo.mk rfl rfl hb_1) ?_
        clear S; intro aa S
        refine OL.pure S (Lf.run_pickT (S.ev rfl) hb_1 (S.ev rfl)) rfl rfl trivial ?_
        clear S; intro aa S
        refine OL.nil ?_
        exact ⟨_, S.sub _ ⟨rfl, rfl, rfl, rfl, rfl, rfl, rfl, rfl, trivial⟩, H⟩
      · replace H := H.2 hb_1
        refine OL.pure S (Lf.run_fa (S.ev rfl) fa25_1) rfl rfl (GOk.mk rfl rfl hb_1) ?_
        clear S; intro aa S
        obtain ⟨x16, c_2, H⟩ := H
        refine OL.pure S (Lf.run_ld (S.ev rfl) fl3 (S.cl c_2)) rfl rfl (GOk.mk rfl rfl hb_1) ?_
        clear S; intro aa S
        refine OL.pure S (Lf.run_gtr (S.ev rfl) (S.ev rfl)) rfl rfl (GOk.mk rfl rfl hb_1) ?_
        clear S; intro aa S
        refine OL.pure S (Lf.run_pickF (S.ev rfl) hb_1 (S.ev rfl)) rfl rfl trivial ?_
        clear S; intro aa S
        refine OL.nil ?_
        exact ⟨_, S.sub _ ⟨rfl, rfl, rfl, rfl, rfl, rfl, rfl, rfl, trivial⟩, H⟩
    · clear S aa
      rintro aa ww ⟨x18, S, HJ⟩
      replace H := HK_1 _ HJ
      clear HK_1 HJ
      refine OL.nil ?_
      refine W.cond S (b := x18) rfl (fun hb_2 => ?_) (fun hb_2 => ?_)
      · replace H := H.1 hb_2
        refine W.seq ?_
        replace S := S.sub [] trivial
        refine W.region ?_
        refine OL.pure S (Lf.run_assign (S.ev rfl)) rfl rfl trivial ?_
        clear S; intro aa S
        refine OL.nil ?_
        refine W.ret ?_
        exact Ret.one S rfl rfl H
      · replace H := H.2 hb_2
        refine W.skip ?_
        refine W.seq ?_
        refine W.seq ?_
        replace S := S.sub [(1, Value.pointer (some p1)), (3, Value.int .i64 ((x5.n : Nat) : Int))] ⟨rfl, rfl, trivial⟩
        refine W.region ?_
        refine OL.pure S (Lf.run_fa (S.ev rfl) fa25_0) rfl rfl trivial ?_
        clear S; intro aa S
        obtain ⟨x20, c_3, H⟩ := H
        refine OL.pure S (Lf.run_ld (S.ev rfl) fl22 (S.cl c_3)) rfl rfl trivial ?_
        clear S; intro aa S
        refine OL.pure S (Lf.run_move (S.ev rfl)) rfl rfl trivial ?_
        clear S; intro aa S
        refine OL.pure S (Lf.run_move (S.ev rfl)) rfl rfl trivial ?_
        clear S; intro aa S
        refine ol_cal S H isfn28 rfl rfl trivial ?_
        clear S H aa; intro u aa ww h2 H S
        obtain ⟨x23, rfl, H⟩ := H
        refine OL.pure S (Lf.run_not (S.ev rfl)) rfl rfl trivial ?_
        clear S; intro aa S
        refine OL.pure S (Lf.run_move (S.ev rfl)) rfl rfl trivial ?_
        clear S; intro aa S
        obtain ⟨J_2, H, HK_2⟩ := H
        refine OL.cutN 8 (fun aa ww => ∃ x33 h3, St 52 ((33, Value.bool x33) :: [(1, Value.pointer (some p1)), (3, Value.int .i64 ((x5.n : Nat) : Int)), (19, Value.pointer (some p1)), (20, Value.slice x20.a x20.n x20.c), (21, Value.int .i64 ((x5.n : Nat) : Int)), (22, Value.int .i64 ((x5.n : Nat) : Int)), (23, Value.bool x23), (24, Value.bool (!x23)), (25, Value.bool (!x23))]) h3 w0 aa ww ∧ J_2 x33 h3) ?_ ?_
        · rcases Bool.eq_false_or_eq_true (!x23) with hb_3 | hb_3
          · replace H := H.1 hb_3
            refine OL.not S rfl rfl (GNo.mk rfl rfl hb_3) ?_
            clear S; intro aa S
            refine OL.not S rfl rfl (GNo.mk rfl rfl hb_3) ?_
            clear S; intro aa S
            refine OL.not S rfl rfl (GNo.mk rfl rfl hb_3) ?_
            clear S; intro aa S
            refine OL.not S rfl rfl (GNo.mk rfl rfl hb_3) ?_
            clear S; intro aa S
            refine OL.not S rfl rfl (GNo.mk rfl rfl hb_3) ?_
            clear S; intro aa S
            refine OL.not S rfl rfl (GNo.mk rfl rfl hb_3) ?_
            clear S; intro aa S
            refine OL.not S rfl rfl (GNo.mk rfl rfl hb_3) ?_
            clear S; intro aa S
            refine OL.pure S (Lf.run_pickT (S.ev rfl) hb_3 (S.ev rfl)) rfl rfl trivial ?_
            clear S; intro aa S
            refine OL.nil ?_
            exact ⟨_, _, S.sub _ ⟨rfl, rfl, rfl, rfl, rfl, rfl, rfl, rfl, rfl, rfl, trivial⟩, H⟩
          · replace H := H.2 hb_3
            refine OL.pure S (Lf.run_fa (S.ev rfl) fa25_2) rfl rfl (GOk.mk rfl rfl hb_3) ?_
            clear S; intro aa S
            obtain ⟨x27, c_4, H⟩ := H
            refine OL.pure S (Lf.run_ld (S.ev rfl) fl22 (S.cl c_4)) rfl rfl (GOk.mk rfl rfl hb_3) ?_
            clear S; intro aa S
            refine OL.pure S (Lf.run_move (S.ev rfl)) rfl rfl (GOk.mk rfl rfl hb_3) ?_
            clear S; intro aa S
            refine OL.pure S (Lf.run_fa (S.ev rfl) fa25_1) rfl rfl (GOk.mk rfl rfl hb_3) ?_
            clear S; intro aa S
            obtain ⟨x30, c_5, H⟩ := H
            refine OL.pure S (Lf.run_ld (S.ev rfl) fl3 (S.cl c_5)) rfl rfl (GOk.mk rfl rfl hb_3) ?_
            clear S; intro aa S
            refine ol_cal S H isfn28 rfl rfl (GOk.mk rfl rfl hb_3) ?_
            clear S H aa; intro u_1 aa ww h4 H S
            obtain ⟨x31, rfl, H⟩ := H
            refine OL.pure S (Lf.run_not (S.ev rfl)) rfl rfl (GOk.mk rfl rfl hb_3) ?_
            clear S; intro aa S
            refine OL.pure S (Lf.run_pickF (S.ev rfl) hb_3 (S.ev rfl)) rfl rfl trivial ?_
            clear S; intro aa S
            refine OL.nil ?_
            exact ⟨_, _, S.sub _ ⟨rfl, rfl, rfl, rfl, rfl, rfl, rfl, rfl, rfl, rfl, trivial⟩, H⟩
        · clear S aa
          rintro aa ww ⟨x33, h3, S, HJ⟩
          replace H := HK_2 _ _ HJ
          clear HK_2 HJ
          refine OL.pure S (Lf.run_move (S.ev rfl)) rfl rfl trivial ?_
          clear S; intro aa S
          obtain ⟨J_3, H, HK_3⟩ := H
          refine OL.cutN 8 (fun aa ww => ∃ x42 h5, St 52 ((42, Value.bool x42) :: [(1, Value.pointer (some p1)), (3, Value.int .i64 ((x5.n : Nat) : Int)), (19, Value.pointer (some p1)), (20, Value.slice x20.a x20.n x20.c), (21, Value.int .i64 ((x5.n : Nat) : Int)), (22, Value.int .i64 ((x5.n : Nat) : Int)), (23, Value.bool x23), (24, Value.bool (!x23)), (25, Value.bool (!x23)), (33, Value.bool x33), (34, Value.bool x33)]) h5 w0 aa ww ∧ J_3 x42 h5) ?_ ?_
          · rcases Bool.eq_false_or_eq_true x33 with hb_4 | hb_4
            · replace H := H.1 hb_4
              refine OL.not S rfl rfl (GNo.mk rfl rfl hb_4) ?_
              clear S; intro aa S
              refine OL.not S rfl rfl (GNo.mk rfl rfl hb_4) ?_
              clear S; intro aa S
              refine OL.not S rfl rfl (GNo.mk rfl rfl hb_4) ?_
              clear S; intro aa S
              refine OL.not S rfl rfl (GNo.mk rfl rfl hb_4) ?_
              clear S; intro aa S
              refine OL.not S rfl rfl (GNo.mk rfl rfl hb_4) ?_
              clear S; intro aa S
              refine OL.not S rfl rfl (GNo.mk rfl rfl hb_4) ?_
              clear S; intro aa S
              refine OL.not S rfl rfl (GNo.mk rfl rfl hb_4) ?_
              clear S; intro aa S
              refine OL.pure S (Lf.run_pickT (S.ev rfl) hb_4 (S.ev rfl)) rfl rfl trivial ?_
              clear S; intro aa S
              refine OL.nil ?_
              exact ⟨_, _, S.sub _ ⟨rfl, rfl, rfl, rfl, rfl, rfl, rfl, rfl, rfl, rfl, rfl, rfl, trivial⟩, H⟩
            · replace H := H.2 hb_4
              refine OL.pure S (Lf.run_fa (S.ev rfl) fa25_3) rfl rfl (GOk.mk rfl rfl hb_4) ?_
              clear S; intro aa S
              obtain ⟨x36, c_6, H⟩ := H
              refine OL.pure S (Lf.run_ld (S.ev rfl) fl22 (S.cl c_6)) rfl rfl (GOk.mk rfl rfl hb_4) ?_
              clear S; intro aa S
              refine OL.pure S (Lf.run_move (S.ev rfl)) rfl rfl (GOk.mk rfl rfl hb_4) ?_
              clear S; intro aa S
              refine OL.pure S (Lf.run_fa (S.ev rfl) fa25_1) rfl rfl (GOk.mk rfl rfl hb_4) ?_
              clear S; intro aa S
              obtain ⟨x39, c_7, H⟩ := H
              refine OL.pure S (Lf.run_ld (S.ev rfl) fl3 (S.cl c_7)) rfl rfl (GOk.mk rfl rfl hb_4) ?_
              clear S; intro aa S
              refine ol_cal S H isfn28 rfl rfl (GOk.mk rfl rfl hb_4) ?_
              clear S H aa; intro u_2 aa ww h6 H S
              obtain ⟨x40, rfl, H⟩ := H
              refine OL.pure S (Lf.run_not (S.ev rfl)) rfl rfl (GOk.mk rfl rfl hb_4) ?_
              clear S; intro aa S
              refine OL.pure S (Lf.run_pickF (S.ev rfl) hb_4 (S.ev rfl)) rfl rfl trivial ?_
              clear S; intro aa S
              refine OL.nil ?_
              exact ⟨_, _, S.sub _ ⟨rfl, rfl, rfl, rfl, rfl, rfl, rfl, rfl, rfl, rfl, rfl, rfl, trivial⟩, H⟩
          · clear S aa
            rintro aa ww ⟨x42, h5, S, HJ⟩
            replace H := HK_3 _ _ HJ
            clear HK_3 HJ
            refine OL.pure S (Lf.run_move (S.ev rfl)) rfl rfl trivial ?_
            clear S; intro aa S
            obtain ⟨J_4, H, HK_4⟩ := H
            refine OL.cutN 8 (fun aa ww => ∃ x51 h7, St 52 ((51, Value.bool x51) :: [(1, Value.pointer (some p1)), (3, Value.int .i64 ((x5.n : Nat) : Int)), (19, Value.pointer (some p1)), (20, Value.slice x20.a x20.n x20.c), (21, Value.int .i64 ((x5.n : Nat) : Int)), (22, Value.int .i64 ((x5.n : Nat) : Int)), (23, Value.bool x23), (24, Value.bool (!x23)), (25, Value.bool (!x23)), (33, Value.bool x33), (34, Value.bool x33), (42, Value.bool x42), (43, Value.bool x42)]) h7 w0 aa ww ∧ J_4 x51 h7) ?_ ?_
            · rcases Bool.eq_false_or_eq_true x42 with hb_5 | hb_5
              · replace H := H.1 hb_5
                refine OL.not S rfl rfl (GNo.mk rfl rfl hb_5) ?_
                clear S; intro aa S
                refine OL.not S rfl rfl (GNo.mk rfl rfl hb_5) ?_
                clear S; intro aa S
                refine OL.not S rfl rfl (GNo.mk rfl rfl hb_5) ?_
                clear S; intro aa S
                refine OL.not S rfl rfl (GNo.mk rfl rfl hb_5) ?_
                clear S; intro aa S
                refine OL.not S rfl rfl (GNo.mk rfl rfl hb_5) ?_
                clear S; intro aa S
                refine OL.not S rfl rfl (GNo.mk rfl rfl hb_5) ?_
                clear S; intro aa S
                refine OL.not S rfl rfl (GNo.mk rfl rfl hb_5) ?_
                clear S; intro aa S
                refine OL.pure S (Lf.run_pickT (S.ev rfl) hb_5 (S.ev rfl)) rfl rfl trivial ?_
                clear S; intro aa S
                refine OL.nil ?_
                exact ⟨_, _, S.sub _ ⟨rfl, rfl, rfl, rfl, rfl, rfl, rfl, rfl, rfl, rfl, rfl, rfl, rfl, rfl, trivial⟩, H⟩
              · replace H := H.2 hb_5
                refine OL.pure S (Lf.run_fa (S.ev rfl) fa25_4) rfl rfl (GOk.mk rfl rfl hb_5) ?_
                clear S; intro aa S
                obtain ⟨x45, c_8, H⟩ := H
                refine OL.pure S (Lf.run_ld (S.ev rfl) fl23 (S.cl c_8)) rfl rfl (GOk.mk rfl rfl hb_5) ?_
                clear S; intro aa S
                refine ol_newS S H Try.underlying22 ti23 (by decide) (parts_map S rfl) (by kernel_rfl) (by decide) rfl (GOk.mk rfl rfl hb_5) ?_
                clear S H aa; intro s46 aa ww h8 H S
                refine OL.pure S (Lf.run_fa (S.ev rfl) fa25_1) rfl rfl (GOk.mk rfl rfl hb_5) ?_
                clear S; intro aa S
                obtain ⟨x48, c_9, H⟩ := H
                refine OL.pure S (Lf.run_ld (S.ev rfl) fl3 (S.cl c_9)) rfl rfl (GOk.mk rfl rfl hb_5) ?_
                clear S; intro aa S
                refine ol_cal S H isfn28 rfl rfl (GOk.mk rfl rfl hb_5) ?_
                clear S H aa; intro u_3 aa ww h9 H S
                obtain ⟨x49, rfl, H⟩ := H
                refine OL.pure S (Lf.run_not (S.ev rfl)) rfl rfl (GOk.mk rfl rfl hb_5) ?_
                clear S; intro aa S
                refine OL.pure S (Lf.run_pickF (S.ev rfl) hb_5 (S.ev rfl)) rfl rfl trivial ?_
                clear S; intro aa S
                refine OL.nil ?_
                exact ⟨_, _, S.sub _ ⟨rfl, rfl, rfl, rfl, rfl, rfl, rfl, rfl, rfl, rfl, rfl, rfl, rfl, rfl, trivial⟩, H⟩
            · clear S aa
              rintro aa ww ⟨x51, h7, S, HJ⟩
              replace H := HK_4 _ _ HJ
              clear HK_4 HJ
              refine OL.nil ?_
              refine W.cond S (b := x51) rfl (fun hb_6 => ?_) (fun hb_6 => ?_)
              · replace H := H.1 hb_6
                refine W.seq ?_
                replace S := S.sub [] trivial
                refine W.region ?_
                refine OL.pure S (Lf.run_assign (S.ev rfl)) rfl rfl trivial ?_
                clear S; intro aa S
                refine OL.nil ?_
                refine W.ret ?_
                exact Ret.one S rfl rfl H
              · replace H := H.2 hb_6
                refine W.skip ?_
                refine W.seq ?_
                replace S := S.sub [] trivial
                refine W.region ?_
                refine OL.pure S (Lf.run_assign (S.ev rfl)) rfl rfl trivial ?_
                clear S; intro aa S
                refine OL.nil ?_
                refine W.ret ?_
                exact Ret.one S rfl rfl H

/-- chattel chattellaw15.same -/
def L16 (a0 : Option Addr) (p1 : Sv) (p1_1 : Int) (p1_2 : Sv) (p1_3 : Sv) (p1_4 : Sv) (vof2 : Value) (h : Heap) (R : Value → Heap → Prop) : Prop :=
  new 25 #[Value.slice p1.a p1.n p1.c, Value.int .i64 p1_1, Value.slice p1_2.a p1_2.n p1_2.c, Value.slice p1_3.a p1_3.n p1_3.c, Value.slice p1_4.a p1_4.n p1_4.c] h fun p4 h1 =>
  ∃ (I : Int → Heap → Prop) (m : Int → Heap → Nat), I 0 h1 ∧ ∀ e7 h2, I e7 h2 →
  ldI .i64 h2 (p4.add 1) fun x15 =>
  ifb (decide (e7 < x15)) (
    ∃ (y20 : Sv) (y20_1 : Int) (y20_2 : Sv) (y20_3 : Sv) (y20_4 : Sv), cl h2 p4 = some (Value.slice y20.a y20.n y20.c) ∧ cl h2 (p4.add 1) = some (Value.int .i64 y20_1) ∧ cl h2 (p4.add 2) = some (Value.slice y20_2.a y20_2.n y20_2.c) ∧ cl h2 (p4.add 3) = some (Value.slice y20_3.a y20_3.n y20_3.c) ∧ cl h2 (p4.add 4) = some (Value.slice y20_4.a y20_4.n y20_4.c) ∧
    calV Try.prog vof2 #[Value.agg #[Value.slice y20.a y20.n y20.c, Value.int .i64 y20_1, Value.slice y20_2.a y20_2.n y20_2.c, Value.slice y20_3.a y20_3.n y20_3.c, Value.slice y20_4.a y20_4.n y20_4.c], Value.int .i64 e7] h2 fun u h3 => asS u fun x22 =>
    ∃ (I_1 : Int → Heap → Prop) (m_1 : Int → Heap → Nat), I_1 0 h3 ∧ ∀ i9 h4, I_1 i9 h4 →
    ifb (decide (i9 < ((x22.n : Nat) : Int))) (
      ∃ Sq : Heap → Prop, Sq h4 ∧ (
        ixS x22 i9 fun q35 =>
        hlB Sq (q35.add ((i9 : Int).toNat * 1)) fun x36 =>
        cal Try.prog 14 #[Value.pointer a0, Value.int .i64 i9, Value.int .i64 e7] h4 fun u_1 h5 => asB u_1 fun x32 =>
        Sq h5 ∧
        ifb (x32 != x36) (
          R (Value.bool false) h5) (
          I_1 (IntKind.i64.wrap (i9 + 1)) h5 ∧ m_1 (IntKind.i64.wrap (i9 + 1)) h5 < m_1 i9 h4))) (
      I (IntKind.i64.wrap (e7 + 1)) h4 ∧ m (IntKind.i64.wrap (e7 + 1)) h4 < m e7 h2)) (
    ∃ (I_2 : Int → Heap → Prop) (m_2 : Int → Heap → Nat), I_2 0 h2 ∧ ∀ i10 h6, I_2 i10 h6 →
    ldS h6 p4 fun x40 =>
    ifb (decide (i10 < ((x40.n : Nat) : Int))) (
      ∃ (I_3 : Sv → Int → Heap → Prop) (m_3 : Sv → Int → Heap → Nat), I_3 (⟨none, 0, 0⟩ : Sv) 0 h6 ∧ ∀ want11 e12 h7, I_3 want11 e12 h7 →
      ldI .i64 h7 (p4.add 1) fun x47 =>
      ifb (decide (e12 < x47)) (
        ∃ J : Sv → Heap → Prop, (
          cal Try.prog 14 #[Value.pointer a0, Value.int .i64 i10, Value.int .i64 e12] h7 fun u_2 h8 => asB u_2 fun x54 =>
          ifb x54 (
            newS 3 #[Value.int .i64 e12] 1 h8 fun s57 h9 =>
            appS 3 (Value.int .i64 0).cells 1 8 h9 want11 s57 fun s58 h10 =>
            J s58 h10) (
            J want11 h8)) ∧ (∀ want11_1 h11, J want11_1 h11 →
        I_3 want11_1 (IntKind.i64.wrap (e12 + 1)) h11 ∧ m_3 want11_1 (IntKind.i64.wrap (e12 + 1)) h11 < m_3 want11 e12 h7)) (
        cal Try.prog 21 #[Value.pointer a0, Value.int .i64 i10] h7 fun u_3 h12 => asS u_3 fun x61 =>
        cal Try.prog 29 #[Value.slice x61.a x61.n x61.c, Value.slice want11.a want11.n want11.c] h12 fun u_4 h13 => asB u_4 fun x63 =>
        ifb (!x63) (
          R (Value.bool false) h13) (
          I_2 (IntKind.i64.wrap (i10 + 1)) h13 ∧ m_2 (IntKind.i64.wrap (i10 + 1)) h13 < m_2 i10 h6))) (
      ldS h6 p4 fun x67 =>
      cal Try.prog 14 #[Value.pointer a0, Value.int .i64 ((x67.n : Nat) : Int), Value.int .i64 0] h6 fun u_5 h14 => asB u_5 fun x69 =>
      ∃ J_1 : Bool → Heap → Prop, (andj (!x69) (fun k =>
        cal Try.prog 14 #[Value.pointer a0, Value.int .i64 (-1), Value.int .i64 0] h14 fun u_6 h16 => asB u_6 fun x73 =>
        k (!x73) h16) h14 J_1) ∧ ∀ x75 h15, J_1 x75 h15 →
      ∃ J_2 : Bool → Heap → Prop, (andj x75 (fun k_1 =>
        ldI .i64 h15 (p4.add 1) fun x79 =>
        cal Try.prog 14 #[Value.pointer a0, Value.int .i64 0, Value.int .i64 x79] h15 fun u_7 h18 => asB u_7 fun x80 =>
        k_1 (!x80) h18) h15 J_2) ∧ ∀ x82 h17, J_2 x82 h17 →
      ∃ J_3 : Bool → Heap → Prop, (andj x82 (fun k_2 =>
        cal Try.prog 14 #[Value.pointer a0, Value.int .i64 0, Value.int .i64 (-1)] h17 fun u_8 h20 => asB u_8 fun x85 =>
        k_2 (!x85) h20) h17 J_3) ∧ ∀ x87 h19, J_3 x87 h19 →
      R (Value.bool x87) h19))

set_option maxRecDepth 100000 in

theorem F16 {a0 p1 p1_1 p1_2 p1_3 p1_4 vof2 h : _} {R : Value → Heap → Prop} (H : L16 a0 p1 p1_1 p1_2 p1_3 p1_4 vof2 h R) : CallsH Try.prog 16 #[Value.pointer a0, Value.agg #[Value.slice p1.a p1.n p1.c, Value.int .i64 p1_1, Value.slice p1_2.a p1_2.n p1_2.c, Value.slice p1_3.a p1_3.n p1_3.c, Value.slice p1_4.a p1_4.n p1_4.c], vof2] h R := by
  refine CallsH.enter (n := 88) Try.func16 rfl rfl rfl rfl ?_
  intro w0 aa ww S
  unfold L16 at H
  refine W.seq ?_
  replace S := S.sub [(0, Value.pointer a0), (1, Value.agg #[Value.slice p1.a p1.n p1.c, Value.int .i64 p1_1, Value.slice p1_2.a p1_2.n p1_2.c, Value.slice p1_3.a p1_3.n p1_3.c, Value.slice p1_4.a p1_4.n p1_4.c]), (2, vof2)] ⟨rfl, rfl, rfl, trivial⟩
  refine W.region ?_
  refine ol_box S H rfl rfl rfl trivial ?_
  clear S H aa; intro p4 aa ww h1 H S
  refine OL.pure S (Lf.run_assign (S.ev rfl)) rfl rfl trivial ?_
  clear S; intro aa S
  refine OL.nil ?_
  refine W.seq ?_
  refine W.seq ?_
  replace S := S.sub [(0, Value.pointer a0), (2, vof2), (4, Value.pointer (some p4))] ⟨rfl, rfl, rfl, trivial⟩
  refine W.region ?_
  refine OL.pure S (Lf.run_assign (S.ev rfl)) rfl rfl trivial ?_
  clear S; intro aa S
  refine OL.nil ?_
  refine W.block ?_
  obtain ⟨I, m, H, HB_3⟩ := H
  refine W.loopS (σ := Int × Heap) (fun s aa ww => St 88 [(0, Value.pointer a0), (2, vof2), (4, Value.pointer (some p4)), (7, Value.int .i64 s.1)] s.2 w0 aa ww ∧ I s.1 s.2) (fun s => m s.1 s.2) (0, h1) ⟨S.sub _ ⟨rfl, rfl, rfl, rfl, trivial⟩, H⟩ ?_
  clear H S aa
  rintro ⟨e7, h2⟩ aa ww ⟨S, HI⟩
  replace S : St 88 [(0, Value.pointer a0), (2, vof2), (4, Value.pointer (some p4)), (7, Value.int .i64 e7)] h2 w0 aa ww := S
  have H := HB_3 e7 h2 HI
  clear HI
  refine W.seq ?_
  refine W.seq ?_
  replace S := S.sub [(0, Value.pointer a0), (2, vof2), (4, Value.pointer (some p4)), (7, Value.int .i64 e7)] ⟨rfl, rfl, rfl, rfl, trivial⟩
  refine W.region ?_
  refine OL.pure S (Lf.run_move (S.ev rfl)) rfl rfl trivial ?_
  clear S; intro aa S
  refine OL.pure S (Lf.run_fa (S.ev rfl) fa25_1) rfl rfl trivial ?_
  clear S; intro aa S
  obtain ⟨x15, c, H⟩ := H
  refine OL.pure S (Lf.run_ld (S.ev rfl) fl3 (S.cl c)) rfl rfl trivial ?_
  clear S; intro aa S
  refine OL.pure S (Lf.run_lss (S.ev rfl) (S.ev rfl)) rfl rfl trivial ?_
  clear S; intro aa S
  refine OL.nil ?_
  refine W.cond S (b := (decide (e7 < x15))) rfl (fun hb => ?_) (fun hb => ?_)
  · replace H := H.1 hb
    refine W.skip ?_
    refine W.seq ?_
    refine W.block ?_
    refine W.seq ?_
    replace S := S.sub [(0, Value.pointer a0), (2, vof2), (4, Value.pointer (some p4)), (7, Value.int .i64 e7)] ⟨rfl, rfl, rfl, rfl, trivial⟩
    refine W.region ?_
    refine OL.pure S (Lf.run_move (S.ev rfl)) rfl rfl trivial ?_
    clear S; intro aa S
    obtain ⟨y20, y20_1, y20_2, y20_3, y20_4, c_3, c_4, c_5, c_6, c_7, H⟩ := H
    refine OL.pure S (Lf.run_ldA (cs := [Value.slice y20.a y20.n y20.c, Value.int .i64 y20_1, Value.slice y20_2.a y20_2.n y20_2.c, Value.slice y20_3.a y20_3.n y20_3.c, Value.slice y20_4.a y20_4.n y20_4.c]) (S.ev rfl) ag25 ti25 (by rw [S.heap]; exact RowL.toRow ⟨c_3, c_4, c_5, c_6, c_7, trivial⟩)) rfl rfl trivial ?_
    clear S; intro aa S
    refine OL.pure S (Lf.run_move (S.ev rfl)) rfl rfl trivial ?_
    clear S; intro aa S
    refine ol_calV S H rfl rfl rfl trivial ?_
    clear S H aa; intro u aa ww h3 H S
    obtain ⟨x22, rfl, H⟩ := H
    refine OL.pure S (Lf.run_assign (S.ev rfl)) rfl rfl trivial ?_
    clear S; intro aa S
    refine OL.nil ?_
    refine W.seq ?_
    replace S := S.sub [(0, Value.pointer a0), (2, vof2), (4, Value.pointer (some p4)), (7, Value.int .i64 e7), (8, Value.slice x22.a x22.n x22.c)] ⟨rfl, rfl, rfl, rfl, rfl, trivial⟩
    refine W.region ?_
    refine OL.pure S (Lf.run_assign (S.ev rfl)) rfl rfl trivial ?_
    clear S; intro aa S
    refine OL.nil ?_
    refine W.block ?_
    obtain ⟨I_1, m_1, H, HB⟩ := H
    refine W.loopS (σ := Int × Heap) (fun s aa ww => St 88 [(0, Value.pointer a0), (2, vof2), (4, Value.pointer (some p4)), (7, Value.int .i64 e7), (8, Value.slice x22.a x22.n x22.c), (9, Value.int .i64 s.1)] s.2 w0 aa ww ∧ I_1 s.1 s.2) (fun s => m_1 s.1 s.2) (0, h3) ⟨S.sub _ ⟨rfl, rfl, rfl, rfl, rfl, rfl, trivial⟩, H⟩ ?_
    clear H S aa
    rintro ⟨i9, h4⟩ aa ww ⟨S, HI⟩
    replace S : St 88 [(0, Value.pointer a0), (2, vof2), (4, Value.pointer (some p4)), (7, Value.int .i64 e7), (8, Value.slice x22.a x22.n x22.c), (9, Value.int .i64 i9)] h4 w0 aa ww := S
    have H := HB i9 h4 HI
    clear HI
    refine W.seq ?_
    refine W.seq ?_
    replace S := S.sub [(0, Value.pointer a0), (2, vof2), (4, Value.pointer (some p4)), (7, Value.int .i64 e7), (8, Value.slice x22.a x22.n x22.c), (9, Value.int .i64 i9)] ⟨rfl, rfl, rfl, rfl, rfl, rfl, trivial⟩
    refine W.region ?_
    refine OL.pure S (Lf.run_move (S.ev rfl)) rfl rfl trivial ?_
    clear S; intro aa S
    refine OL.pure S (Lf.run_move (S.ev rfl)) rfl rfl trivial ?_
    clear S; intro aa S
    refine OL.pure S (Lf.run_lens (S.ev rfl) rfl Try.underlying54) rfl rfl trivial ?_
    clear S; intro aa S
    refine OL.pure S (Lf.run_lss (S.ev rfl) (S.ev rfl)) rfl rfl trivial ?_
    clear S; intro aa S
    refine OL.nil ?_
    refine W.cond S (b := (decide (i9 < ((x22.n : Nat) : Int)))) rfl (fun hb_1 => ?_) (fun hb_1 => ?_)
    · replace H := H.1 hb_1
      refine W.skip ?_
      refine W.seq ?_
      refine W.block ?_
      refine W.seq ?_
      replace S := S.sub [(0, Value.pointer a0), (2, vof2), (4, Value.pointer (some p4)), (7, Value.int .i64 e7), (8, Value.slice x22.a x22.n x22.c), (9, Value.int .i64 i9)] ⟨rfl, rfl, rfl, rfl, rfl, rfl, trivial⟩
      obtain ⟨Sq, HS, H⟩ := H
      refine W.regionN [7] [3] Sq S (by kernel_rfl) ?_
      clear S; intro ww S
      refine BN.pure 0 S (fun _ => HS) rfl (by kernel_rfl) (by kernel_rfl) (fun _ => Lf.run_move (S.ev rfl)) rfl rfl trivial ?_
      clear S; intro aa S
      refine BN.pure 1 S (fun _ => HS) rfl (by kernel_rfl) (by kernel_rfl) (fun _ => Lf.run_move (S.ev rfl)) rfl rfl trivial ?_
      clear S; intro aa S
      refine BN.pure 2 S (fun _ => HS) rfl (by kernel_rfl) (by kernel_rfl) (fun _ => Lf.run_move (S.ev rfl)) rfl rfl trivial ?_
      clear S; intro aa S
      refine BN.pure 4 S (fun _ => HS) rfl (by kernel_rfl) (by kernel_rfl) (fun _ => Lf.run_move (S.ev rfl)) rfl rfl trivial ?_
      clear S; intro aa S
      refine BN.pure 5 S (fun _ => HS) rfl (by kernel_rfl) (by kernel_rfl) (fun _ => Lf.run_move (S.ev rfl)) rfl rfl trivial ?_
      clear S; intro aa S
      obtain ⟨q35, e, e_1, e_2, H⟩ := H
      refine BN.pure 6 S (fun _ => HS) rfl (by kernel_rfl) (by kernel_rfl) (fun _ => Lf.run_ixs (S.ev rfl) (S.ev rfl) Try.underlying54 ti4 e e_1 e_2) rfl rfl trivial ?_
      clear S; intro aa S
      obtain ⟨x36, c_2, H⟩ := H
      refine BN.held 7 S HS rfl (by kernel_rfl) (fun _ hq => Lf.run_ld (S.ev rfl) fl4 (c_2 _ hq)) rfl rfl trivial ?_
      clear S; intro aa S
      refine BN.eff 3 rfl (by kernel_rfl) ?_
      refine ol_cal S H isfn14 rfl rfl trivial ?_
      clear S H aa; intro u_1 aa ww h5 H S
      obtain ⟨x32, rfl, H⟩ := H
      refine OL.nil ?_
      clear HS; obtain ⟨HS, H⟩ := H
      refine ⟨fun _ => by rw [S.heap]; exact HS, ?_⟩
      refine BN.pure 8 S (fun _ => HS) rfl (by kernel_rfl) (by kernel_rfl) (fun _ => Lf.run_neqb Try.underlying4 (S.ev rfl) (S.ev rfl)) rfl rfl trivial ?_
      clear S; intro aa S
      refine BN.done (by kernel_rfl) ?_
      refine W.cond S (b := (x32 != x36)) rfl (fun hb_2 => ?_) (fun hb_2 => ?_)
      · replace H := H.1 hb_2
        refine W.seq ?_
        replace S := S.sub [] trivial
        refine W.region ?_
        refine OL.pure S (Lf.run_assign (S.ev rfl)) rfl rfl trivial ?_
        clear S; intro aa S
        refine OL.nil ?_
        refine W.ret ?_
        exact Ret.one S rfl rfl H
      · replace H := H.2 hb_2
        refine W.skip ?_
        replace S := S.sub [(0, Value.pointer a0), (2, vof2), (4, Value.pointer (some p4)), (7, Value.int .i64 e7), (8, Value.slice x22.a x22.n x22.c), (9, Value.int .i64 i9)] ⟨rfl, rfl, rfl, rfl, rfl, rfl, trivial⟩
        refine W.region ?_
        refine OL.pure S (Lf.run_move (S.ev rfl)) rfl rfl trivial ?_
        clear S; intro aa S
        refine OL.pure S (Lf.run_add (S.ev rfl) (S.ev rfl)) rfl rfl trivial ?_
        clear S; intro aa S
        refine OL.pure S (Lf.run_assign (S.ev rfl)) rfl rfl trivial ?_
        clear S; intro aa S
        refine OL.nil ?_
        exact ⟨((IntKind.i64.wrap (i9 + 1)), h5), ⟨S.sub _ ⟨rfl, rfl, rfl, rfl, rfl, rfl, trivial⟩, H.1⟩, H.2⟩
    · replace H := H.2 hb_1
      refine W.exit_ ?_
      refine xhit ?_
      replace S := S.sub [(0, Value.pointer a0), (2, vof2), (4, Value.pointer (some p4)), (7, Value.int .i64 e7)] ⟨rfl, rfl, rfl, rfl, trivial⟩
      refine W.region ?_
      refine OL.pure S (Lf.run_move (S.ev rfl)) rfl rfl trivial ?_
      clear S; intro aa S
      refine OL.pure S (Lf.run_add (S.ev rfl) (S.ev rfl)) rfl rfl trivial ?_
      clear S; intro aa S
      refine OL.pure S (Lf.run_assign (S.ev rfl)) rfl rfl trivial ?_
      clear S; intro aa S
      refine OL.nil ?_
      exact ⟨((IntKind.i64.wrap (e7 + 1)), h4), ⟨S.sub _ ⟨rfl, rfl, rfl, rfl, trivial⟩, H.1⟩, H.2⟩
  · replace H := H.2 hb
    refine W.exit_ ?_
    refine xhit ?_
    refine W.seq ?_
    refine W.seq ?_
    replace S := S.sub [(0, Value.pointer a0), (4, Value.pointer (some p4))] ⟨rfl, rfl, trivial⟩
    refine W.region ?_
    refine OL.pure S (Lf.run_assign (S.ev rfl)) rfl rfl trivial ?_
    clear S; intro aa S
    refine OL.nil ?_
    refine W.block ?_
    obtain ⟨I_2, m_2, H, HB_2⟩ := H
    refine W.loopS (σ := Int × Heap) (fun s aa ww => St 88 [(0, Value.pointer a0), (4, Value.pointer (some p4)), (10, Value.int .i64 s.1)] s.2 w0 aa ww ∧ I_2 s.1 s.2) (fun s => m_2 s.1 s.2) (0, h2) ⟨S.sub _ ⟨rfl, rfl, rfl, trivial⟩, H⟩ ?_
    clear H S aa
    rintro ⟨i10, h6⟩ aa ww ⟨S, HI⟩
    replace S : St 88 [(0, Value.pointer a0), (4, Value.pointer (some p4)), (10, Value.int .i64 i10)] h6 w0 aa ww := S
    have H := HB_2 i10 h6 HI
    clear HI
    refine W.seq ?_
    refine W.seq ?_
    replace S := S.sub [(0, Value.pointer a0), (4, Value.pointer (some p4)), (10, Value.int .i64 i10)] ⟨rfl, rfl, rfl, trivial⟩
    refine W.region ?_
    refine OL.pure S (Lf.run_move (S.ev rfl)) rfl rfl trivial ?_
    clear S; intro aa S
    refine OL.pure S (Lf.run_fa (S.ev rfl) fa25_0) rfl rfl trivial ?_
    clear S; intro aa S
    obtain ⟨x40, c_8, H⟩ := H
    refine OL.pure S (Lf.run_ld (S.ev rfl) fl22 (S.cl c_8)) rfl rfl trivial ?_
    clear S; intro aa S
    refine OL.pure S (Lf.run_lens (S.ev rfl) rfl Try.underlying22) rfl rfl trivial ?_
    clear S; intro aa S
    refine OL.pure S (Lf.run_lss (S.ev rfl) (S.ev rfl)) rfl rfl trivial ?_
    clear S; intro aa S
    refine OL.nil ?_
    refine W.cond S (b := (decide (i10 < ((x40.n : Nat) : Int)))) rfl (fun hb_3 => ?_) (fun hb_3 => ?_)
    · replace H := H.1 hb_3
      refine W.skip ?_
      refine W.seq ?_
      refine W.block ?_
      refine W.seq ?_
      replace S := S.sub [(0, Value.pointer a0), (4, Value.pointer (some p4)), (10, Value.int .i64 i10)] ⟨rfl, rfl, rfl, trivial⟩
      refine W.region ?_
      refine OL.pure S (Lf.run_assign (S.ev rfl)) rfl rfl trivial ?_
      clear S; intro aa S
      refine OL.nil ?_
      refine W.seq ?_
      refine W.seq ?_
      replace S := S.sub [(0, Value.pointer a0), (4, Value.pointer (some p4)), (10, Value.int .i64 i10), (11, Value.slice (⟨none, 0, 0⟩ : Sv).a (⟨none, 0, 0⟩ : Sv).n (⟨none, 0, 0⟩ : Sv).c)] ⟨rfl, rfl, rfl, rfl, trivial⟩
      refine W.region ?_
      refine OL.pure S (Lf.run_assign (S.ev rfl)) rfl rfl trivial ?_
      clear S; intro aa S
      refine OL.nil ?_
      refine W.block ?_
      obtain ⟨I_3, m_3, H, HB_1⟩ := H
      refine W.loopS (σ := Sv × Int × Heap) (fun s aa ww => St 88 [(0, Value.pointer a0), (4, Value.pointer (some p4)), (10, Value.int .i64 i10), (11, Value.slice s.1.a s.1.n s.1.c), (12, Value.int .i64 s.2.1)] s.2.2 w0 aa ww ∧ I_3 s.1 s.2.1 s.2.2) (fun s => m_3 s.1 s.2.1 s.2.2) ((⟨none, 0, 0⟩ : Sv), 0, h6) ⟨S.sub _ ⟨rfl, rfl, rfl, rfl, rfl, trivial⟩, H⟩ ?_
      clear H S aa
      rintro ⟨want11, e12, h7⟩ aa ww ⟨S, HI⟩
      replace S : St 88 [(0, Value.pointer a0), (4, Value.pointer (some p4)), (10, Value.int .i64 i10), (11, Value.slice want11.a want11.n want11.c), (12, Value.int .i64 e12)] h7 w0 aa ww := S
      have H := HB_1 want11 e12 h7 HI
      clear HI
      refine W.seq ?_
      refine W.seq ?_
      replace S := S.sub [(0, Value.pointer a0), (4, Value.pointer (some p4)), (10, Value.int .i64 i10), (11, Value.slice want11.a want11.n want11.c), (12, Value.int .i64 e12)] ⟨rfl, rfl, rfl, rfl, rfl, trivial⟩
      refine W.region ?_
      refine OL.pure S (Lf.run_move (S.ev rfl)) rfl rfl trivial ?_
      clear S; intro aa S
      refine OL.pure S (Lf.run_fa (S.ev rfl) fa25_1) rfl rfl trivial ?_
      clear S; intro aa S
      obtain ⟨x47, c_9, H⟩ := H
      refine OL.pure S (Lf.run_ld (S.ev rfl) fl3 (S.cl c_9)) rfl rfl trivial ?_
      clear S; intro aa S
      refine OL.pure S (Lf.run_lss (S.ev rfl) (S.ev rfl)) rfl rfl trivial ?_
      clear S; intro aa S
      refine OL.nil ?_
      refine W.cond S (b := (decide (e12 < x47))) rfl (fun hb_4 => ?_) (fun hb_4 => ?_)
      · replace H := H.1 hb_4
        refine W.skip ?_
        obtain ⟨J, H, HK⟩ := H
        refine W.seqJ (fun aa ww => ∃ want11_1 h11, St 88 [(0, Value.pointer a0), (4, Value.pointer (some p4)), (10, Value.int .i64 i10), (11, Value.slice want11_1.a want11_1.n want11_1.c), (12, Value.int .i64 e12)] h11 w0 aa ww ∧ J want11_1 h11) ?_ ?_
        · clear HK
          refine W.block ?_
          refine W.seq ?_
          replace S := S.sub [(0, Value.pointer a0), (4, Value.pointer (some p4)), (10, Value.int .i64 i10), (11, Value.slice want11.a want11.n want11.c), (12, Value.int .i64 e12)] ⟨rfl, rfl, rfl, rfl, rfl, trivial⟩
          refine W.region ?_
          refine OL.pure S (Lf.run_move (S.ev rfl)) rfl rfl trivial ?_
          clear S; intro aa S
          refine OL.pure S (Lf.run_move (S.ev rfl)) rfl rfl trivial ?_
          clear S; intro aa S
          refine OL.pure S (Lf.run_move (S.ev rfl)) rfl rfl trivial ?_
          clear S; intro aa S
          refine ol_cal S H isfn14 rfl rfl trivial ?_
          clear S H aa; intro u_2 aa ww h8 H S
          obtain ⟨x54, rfl, H⟩ := H
          refine OL.nil ?_
          refine W.cond S (b := x54) rfl (fun hb_5 => ?_) (fun hb_5 => ?_)
          · replace H := H.1 hb_5
            replace S := S.sub [(0, Value.pointer a0), (4, Value.pointer (some p4)), (10, Value.int .i64 i10), (11, Value.slice want11.a want11.n want11.c), (12, Value.int .i64 e12)] ⟨rfl, rfl, rfl, rfl, rfl, trivial⟩
            refine W.region ?_
            refine OL.pure S (Lf.run_move (S.ev rfl)) rfl rfl trivial ?_
            clear S; intro aa S
            refine OL.pure S (Lf.run_move (S.ev rfl)) rfl rfl trivial ?_
            clear S; intro aa S
            refine ol_newS S H Try.underlying23 ti3 (by decide) (parts_map S rfl) (by kernel_rfl) (by decide) rfl trivial ?_
            clear S H aa; intro s57 aa ww h9 H S
            refine ol_appS S H Try.underlying23 ti3 rfl rfl rfl trivial ?_
            clear S H aa; intro s58 aa ww h10 H S
            refine OL.pure S (Lf.run_assign (S.ev rfl)) rfl rfl trivial ?_
            clear S; intro aa S
            refine OL.nil ?_
            exact ⟨s58, h10, S.sub _ ⟨rfl, rfl, rfl, rfl, rfl, trivial⟩, H⟩
          · replace H := H.2 hb_5
            refine W.skip ?_
            exact ⟨want11, h8, S.sub _ ⟨rfl, rfl, rfl, rfl, rfl, trivial⟩, H⟩
        · clear H S aa
          rintro aa ww ⟨want11_1, h11, S, HJ⟩
          have H := HK _ _ HJ
          clear HK HJ
          replace S := S.sub [(0, Value.pointer a0), (4, Value.pointer (some p4)), (10, Value.int .i64 i10), (11, Value.slice want11_1.a want11_1.n want11_1.c), (12, Value.int .i64 e12)] ⟨rfl, rfl, rfl, rfl, rfl, trivial⟩
          refine W.region ?_
          refine OL.pure S (Lf.run_move (S.ev rfl)) rfl rfl trivial ?_
          clear S; intro aa S
          refine OL.pure S (Lf.run_add (S.ev rfl) (S.ev rfl)) rfl rfl trivial ?_
          clear S; intro aa S
          refine OL.pure S (Lf.run_assign (S.ev rfl)) rfl rfl trivial ?_
          clear S; intro aa S
          refine OL.nil ?_
          exact ⟨(want11_1, (IntKind.i64.wrap (e12 + 1)), h11), ⟨S.sub _ ⟨rfl, rfl, rfl, rfl, rfl, trivial⟩, H.1⟩, H.2⟩
      · replace H := H.2 hb_4
        refine W.exit_ ?_
        refine xhit ?_
        refine W.seq ?_
        replace S := S.sub [(0, Value.pointer a0), (4, Value.pointer (some p4)), (10, Value.int .i64 i10), (11, Value.slice want11.a want11.n want11.c)] ⟨rfl, rfl, rfl, rfl, trivial⟩
        refine W.region ?_
        refine OL.pure S (Lf.run_move (S.ev rfl)) rfl rfl trivial ?_
        clear S; intro aa S
        refine OL.pure S (Lf.run_move (S.ev rfl)) rfl rfl trivial ?_
        clear S; intro aa S
        refine ol_cal S H isfn21 rfl rfl trivial ?_
        clear S H aa; intro u_3 aa ww h12 H S
        obtain ⟨x61, rfl, H⟩ := H
        refine OL.pure S (Lf.run_move (S.ev rfl)) rfl rfl trivial ?_
        clear S; intro aa S
        refine ol_cal S H isfn29 rfl rfl trivial ?_
        clear S H aa; intro u_4 aa ww h13 H S
        obtain ⟨x63, rfl, H⟩ := H
        refine OL.pure S (Lf.run_not (S.ev rfl)) rfl rfl trivial ?_
        clear S; intro aa S
        refine OL.nil ?_
        refine W.cond S (b := (!x63)) rfl (fun hb_6 => ?_) (fun hb_6 => ?_)
        · replace H := H.1 hb_6
          refine W.seq ?_
          replace S := S.sub [] trivial
          refine W.region ?_
          refine OL.pure S (Lf.run_assign (S.ev rfl)) rfl rfl trivial ?_
          clear S; intro aa S
          refine OL.nil ?_
          refine W.ret ?_
          exact Ret.one S rfl rfl H
        · replace H := H.2 hb_6
          refine W.skip ?_
          replace S := S.sub [(0, Value.pointer a0), (4, Value.pointer (some p4)), (10, Value.int .i64 i10)] ⟨rfl, rfl, rfl, trivial⟩
          refine W.region ?_
          refine OL.pure S (Lf.run_move (S.ev rfl)) rfl rfl trivial ?_
          clear S; intro aa S
          refine OL.pure S (Lf.run_add (S.ev rfl) (S.ev rfl)) rfl rfl trivial ?_
          clear S; intro aa S
          refine OL.pure S (Lf.run_assign (S.ev rfl)) rfl rfl trivial ?_
          clear S; intro aa S
          refine OL.nil ?_
          exact ⟨((IntKind.i64.wrap (i10 + 1)), h13), ⟨S.sub _ ⟨rfl, rfl, rfl, trivial⟩, H.1⟩, H.2⟩
    · replace H := H.2 hb_3
      refine W.exit_ ?_
      refine xhit ?_
      refine W.seq ?_
      replace S := S.sub [(0, Value.pointer a0), (4, Value.pointer (some p4))] ⟨rfl, rfl, trivial⟩
      refine W.region ?_
      refine OL.pure S (Lf.run_move (S.ev rfl)) rfl rfl trivial ?_
      clear S; intro aa S
      refine OL.pure S (Lf.run_fa (S.ev rfl) fa25_0) rfl rfl trivial ?_
      clear S; intro aa S
      obtain ⟨x67, c_10, H⟩ := H
      refine OL.pure S (Lf.run_ld (S.ev rfl) fl22 (S.cl c_10)) rfl rfl trivial ?_
      clear S; intro aa S
      refine OL.pure S (Lf.run_lens (S.ev rfl) rfl Try.underlying22) rfl rfl trivial ?_
      clear S; intro aa S
      refine ol_cal S H isfn14 rfl rfl trivial ?_
      clear S H aa; intro u_5 aa ww h14 H S
      obtain ⟨x69, rfl, H⟩ := H
      refine OL.pure S (Lf.run_not (S.ev rfl)) rfl rfl trivial ?_
      clear S; intro aa S
      refine OL.pure S (Lf.run_move (S.ev rfl)) rfl rfl trivial ?_
      clear S; intro aa S
      obtain ⟨J_1, H, HK_1⟩ := H
      refine OL.cutN 4 (fun aa ww => ∃ x75 h15, St 88 ((75, Value.bool x75) :: [(0, Value.pointer a0), (4, Value.pointer (some p4)), (65, Value.pointer a0), (66, Value.pointer (some p4)), (67, Value.slice x67.a x67.n x67.c), (68, Value.int .i64 ((x67.n : Nat) : Int)), (69, Value.bool x69), (70, Value.bool (!x69)), (71, Value.bool (!x69))]) h15 w0 aa ww ∧ J_1 x75 h15) ?_ ?_
      · rcases Bool.eq_false_or_eq_true (!x69) with hb_7 | hb_7
        · replace H := H.1 hb_7
          refine OL.pure S (Lf.run_move (S.ev rfl)) rfl rfl (GOk.mk rfl rfl hb_7) ?_
          clear S; intro aa S
          refine ol_cal S H isfn14 rfl rfl (GOk.mk rfl rfl hb_7) ?_
          clear S H aa; intro u_6 aa ww h16 H S
          obtain ⟨x73, rfl, H⟩ := H
          refine OL.pure S (Lf.run_not (S.ev rfl)) rfl rfl (GOk.mk rfl rfl hb_7) ?_
          clear S; intro aa S
          refine OL.pure S (Lf.run_pickT (S.ev rfl) hb_7 (S.ev rfl)) rfl rfl trivial ?_
          clear S; intro aa S
          refine OL.nil ?_
          exact ⟨_, _, S.sub _ ⟨rfl, rfl, rfl, rfl, rfl, rfl, rfl, rfl, rfl, rfl, trivial⟩, H⟩
        · replace H := H.2 hb_7
          refine OL.not S rfl rfl (GNo.mk rfl rfl hb_7) ?_
          clear S; intro aa S
          refine OL.not S rfl rfl (GNo.mk rfl rfl hb_7) ?_
          clear S; intro aa S
          refine OL.not S rfl rfl (GNo.mk rfl rfl hb_7) ?_
          clear S; intro aa S
          refine OL.pure S (Lf.run_pickF (S.ev rfl) hb_7 (S.ev rfl)) rfl rfl trivial ?_
          clear S; intro aa S
          refine OL.nil ?_
          exact ⟨_, _, S.sub _ ⟨rfl, rfl, rfl, rfl, rfl, rfl, rfl, rfl, rfl, rfl, trivial⟩, H⟩
      · clear S aa
        rintro aa ww ⟨x75, h15, S, HJ⟩
        replace H := HK_1 _ _ HJ
        clear HK_1 HJ
        refine OL.pure S (Lf.run_move (S.ev rfl)) rfl rfl trivial ?_
        clear S; intro aa S
        obtain ⟨J_2, H, HK_2⟩ := H
        refine OL.cutN 6 (fun aa ww => ∃ x82 h17, St 88 ((82, Value.bool x82) :: [(0, Value.pointer a0), (4, Value.pointer (some p4)), (65, Value.pointer a0), (66, Value.pointer (some p4)), (67, Value.slice x67.a x67.n x67.c), (68, Value.int .i64 ((x67.n : Nat) : Int)), (69, Value.bool x69), (70, Value.bool (!x69)), (71, Value.bool (!x69)), (75, Value.bool x75), (76, Value.bool x75)]) h17 w0 aa ww ∧ J_2 x82 h17) ?_ ?_
        · rcases Bool.eq_false_or_eq_true x75 with hb_8 | hb_8
          · replace H := H.1 hb_8
            refine OL.pure S (Lf.run_move (S.ev rfl)) rfl rfl (GOk.mk rfl rfl hb_8) ?_
            clear S; intro aa S
            refine OL.pure S (Lf.run_fa (S.ev rfl) fa25_1) rfl rfl (GOk.mk rfl rfl hb_8) ?_
            clear S; intro aa S
            obtain ⟨x79, c_11, H⟩ := H
            refine OL.pure S (Lf.run_ld (S.ev rfl) fl3 (S.cl c_11)) rfl rfl (GOk.mk rfl rfl hb_8) ?_
            clear S; intro aa S
            refine ol_cal S H isfn14 rfl rfl (GOk.mk rfl rfl hb_8) ?_
            clear S H aa; intro u_7 aa ww h18 H S
            obtain ⟨x80, rfl, H⟩ := H
            refine OL.pure S (Lf.run_not (S.ev rfl)) rfl rfl (GOk.mk rfl rfl hb_8) ?_
            clear S; intro aa S
            refine OL.pure S (Lf.run_pickT (S.ev rfl) hb_8 (S.ev rfl)) rfl rfl trivial ?_
            clear S; intro aa S
            refine OL.nil ?_
            exact ⟨_, _, S.sub _ ⟨rfl, rfl, rfl, rfl, rfl, rfl, rfl, rfl, rfl, rfl, rfl, rfl, trivial⟩, H⟩
          · replace H := H.2 hb_8
            refine OL.not S rfl rfl (GNo.mk rfl rfl hb_8) ?_
            clear S; intro aa S
            refine OL.not S rfl rfl (GNo.mk rfl rfl hb_8) ?_
            clear S; intro aa S
            refine OL.not S rfl rfl (GNo.mk rfl rfl hb_8) ?_
            clear S; intro aa S
            refine OL.not S rfl rfl (GNo.mk rfl rfl hb_8) ?_
            clear S; intro aa S
            refine OL.not S rfl rfl (GNo.mk rfl rfl hb_8) ?_
            clear S; intro aa S
            refine OL.pure S (Lf.run_pickF (S.ev rfl) hb_8 (S.ev rfl)) rfl rfl trivial ?_
            clear S; intro aa S
            refine OL.nil ?_
            exact ⟨_, _, S.sub _ ⟨rfl, rfl, rfl, rfl, rfl, rfl, rfl, rfl, rfl, rfl, rfl, rfl, trivial⟩, H⟩
        · clear S aa
          rintro aa ww ⟨x82, h17, S, HJ⟩
          replace H := HK_2 _ _ HJ
          clear HK_2 HJ
          refine OL.pure S (Lf.run_move (S.ev rfl)) rfl rfl trivial ?_
          clear S; intro aa S
          obtain ⟨J_3, H, HK_3⟩ := H
          refine OL.cutN 4 (fun aa ww => ∃ x87 h19, St 88 ((87, Value.bool x87) :: [(0, Value.pointer a0), (4, Value.pointer (some p4)), (65, Value.pointer a0), (66, Value.pointer (some p4)), (67, Value.slice x67.a x67.n x67.c), (68, Value.int .i64 ((x67.n : Nat) : Int)), (69, Value.bool x69), (70, Value.bool (!x69)), (71, Value.bool (!x69)), (75, Value.bool x75), (76, Value.bool x75), (82, Value.bool x82), (83, Value.bool x82)]) h19 w0 aa ww ∧ J_3 x87 h19) ?_ ?_
          · rcases Bool.eq_false_or_eq_true x82 with hb_9 | hb_9
            · replace H := H.1 hb_9
              refine OL.pure S (Lf.run_move (S.ev rfl)) rfl rfl (GOk.mk rfl rfl hb_9) ?_
              clear S; intro aa S
              refine ol_cal S H isfn14 rfl rfl (GOk.mk rfl rfl hb_9) ?_
              clear S H aa; intro u_8 aa ww h20 H S
              obtain ⟨x85, rfl, H⟩ := H
              refine OL.pure S (Lf.run_not (S.ev rfl)) rfl rfl (GOk.mk rfl rfl hb_9) ?_
              clear S; intro aa S
              refine OL.pure S (Lf.run_pickT (S.ev rfl) hb_9 (S.ev rfl)) rfl rfl trivial ?_
              clear S; intro aa S
              refine OL.nil ?_
              exact ⟨_, _, S.sub _ ⟨rfl, rfl, rfl, rfl, rfl, rfl, rfl, rfl, rfl, rfl, rfl, rfl, rfl, rfl, trivial⟩, H⟩
            · replace H := H.2 hb_9
              refine OL.not S rfl rfl (GNo.mk rfl rfl hb_9) ?_
              clear S; intro aa S
              refine OL.not S rfl rfl (GNo.mk rfl rfl hb_9) ?_
              clear S; intro aa S
              refine OL.not S rfl rfl (GNo.mk rfl rfl hb_9) ?_
              clear S; intro aa S
              refine OL.pure S (Lf.run_pickF (S.ev rfl) hb_9 (S.ev rfl)) rfl rfl trivial ?_
              clear S; intro aa S
              refine OL.nil ?_
              exact ⟨_, _, S.sub _ ⟨rfl, rfl, rfl, rfl, rfl, rfl, rfl, rfl, rfl, rfl, rfl, rfl, rfl, rfl, trivial⟩, H⟩
          · clear S aa
            rintro aa ww ⟨x87, h19, S, HJ⟩
            replace H := HK_3 _ _ HJ
            clear HK_3 HJ
            refine OL.pure S (Lf.run_assign (S.ev rfl)) rfl rfl trivial ?_
            clear S; intro aa S
            refine OL.nil ?_
            refine W.ret ?_
            exact Ret.one S rfl rfl H

/-- chattel chattelref15.Forward -/
def L17 (p0 : Sv) (p0_1 : Int) (p0_2 : Sv) (p0_3 : Sv) (p0_4 : Sv) (e1 : Int) (h : Heap) (R : Value → Heap → Prop) : Prop :=
  new 25 #[Value.slice p0.a p0.n p0.c, Value.int .i64 p0_1, Value.slice p0_2.a p0_2.n p0_2.c, Value.slice p0_3.a p0_3.n p0_3.c, Value.slice p0_4.a p0_4.n p0_4.c] h fun p2 h1 =>
  ldS h1 p2 fun x11 =>
  mkS 4 (Value.bool false).cells 1 1 ((x11.n : Nat) : Int) ((x11.n : Nat) : Int) h1 fun s14 h2 =>
  ∃ J : Heap → Prop, (
    ∃ J_1 : Bool → Heap → Prop, (andj (decide (0 < ((x11.n : Nat) : Int))) (fun k =>
      ldS h2 (p2.add 4) fun x19 =>
      newS 23 #[Value.slice x19.a x19.n x19.c] 1 h2 fun s20 h4 =>
      cal Try.prog 27 #[Value.slice s20.a s20.n s20.c, Value.int .i64 0, Value.int .i64 e1] h4 fun u h5 => asB u fun x22 =>
      k x22 h5) h2 J_1) ∧ ∀ x23 h3, J_1 x23 h3 →
    ifb x23 (
      ixS s14 0 fun q25 =>
      sto h3 q25 (Value.bool true) fun h6 =>
      J h6) (
      J h3)) ∧ (∀ h7, J h7 →
  ∃ (I : Int → Heap → Prop) (m : Int → Heap → Nat), I 0 h7 ∧ ∀ round7 h8, I round7 h8 →
  ifb (decide (round7 ≤ ((x11.n : Nat) : Int))) (
    ∃ (I_1 : Int → Heap → Prop) (m_1 : Int → Heap → Nat), I_1 0 h8 ∧ ∀ i8 h9, I_1 i8 h9 →
    ifb (decide (i8 < ((x11.n : Nat) : Int))) (
      ∃ J_2 : Heap → Prop, (
        ∃ (y36 : Sv) (y36_1 : Int) (y36_2 : Sv) (y36_3 : Sv) (y36_4 : Sv), cl h9 p2 = some (Value.slice y36.a y36.n y36.c) ∧ cl h9 (p2.add 1) = some (Value.int .i64 y36_1) ∧ cl h9 (p2.add 2) = some (Value.slice y36_2.a y36_2.n y36_2.c) ∧ cl h9 (p2.add 3) = some (Value.slice y36_3.a y36_3.n y36_3.c) ∧ cl h9 (p2.add 4) = some (Value.slice y36_4.a y36_4.n y36_4.c) ∧
        ixS s14 i8 fun q41 =>
        ldB h9 (q41.add ((i8 : Int).toNat * 1)) fun x42 =>
        cal Try.prog 30 #[Value.agg #[Value.slice y36.a y36.n y36.c, Value.int .i64 y36_1, Value.slice y36_2.a y36_2.n y36_2.c, Value.slice y36_3.a y36_3.n y36_3.c, Value.slice y36_4.a y36_4.n y36_4.c], Value.int .i64 i8, Value.int .i64 e1, Value.bool x42] h9 fun u_1 h10 => asB u_1 fun x43 =>
        ifb (!x43) (
          J_2 h10) (
          ∃ (I_2 : Int → Heap → Prop) (m_2 : Int → Heap → Nat), I_2 0 h10 ∧ ∀ k9 h11, I_2 k9 h11 →
          ldS h11 p2 fun x47 =>
          ixS x47 i8 fun q49 =>
          ldS h11 (q49.add ((i8 : Int).toNat * 1)) fun x50 =>
          ifb (decide (k9 < ((x50.n : Nat) : Int))) (
            ldS h11 p2 fun x57 =>
            ixS x57 i8 fun q59 =>
            ldS h11 (q59.add ((i8 : Int).toNat * 1)) fun x60 =>
            ixS x60 k9 fun q62 =>
            ldI .i64 h11 (q62.add ((k9 : Int).toNat * 1)) fun x63 =>
            ixS s14 x63 fun q64 =>
            sto h11 (q64.add ((x63 : Int).toNat * 1)) (Value.bool true) fun h12 =>
            I_2 (IntKind.i64.wrap (k9 + 1)) h12 ∧ m_2 (IntKind.i64.wrap (k9 + 1)) h12 < m_2 k9 h11) (
            J_2 h11))) ∧ (∀ h13, J_2 h13 →
      I_1 (IntKind.i64.wrap (i8 + 1)) h13 ∧ m_1 (IntKind.i64.wrap (i8 + 1)) h13 < m_1 i8 h9)) (
      I (IntKind.i64.wrap (round7 + 1)) h9 ∧ m (IntKind.i64.wrap (round7 + 1)) h9 < m round7 h8)) (
    R (Value.slice s14.a s14.n s14.c) h8))

set_option maxRecDepth 100000 in

theorem F17 {p0 p0_1 p0_2 p0_3 p0_4 e1 h : _} {R : Value → Heap → Prop} (H : L17 p0 p0_1 p0_2 p0_3 p0_4 e1 h R) : CallsH Try.prog 17 #[Value.agg #[Value.slice p0.a p0.n p0.c, Value.int .i64 p0_1, Value.slice p0_2.a p0_2.n p0_2.c, Value.slice p0_3.a p0_3.n p0_3.c, Value.slice p0_4.a p0_4.n p0_4.c], Value.int .i64 e1] h R := by
  refine CallsH.enter (n := 66) Try.func17 rfl rfl rfl rfl ?_
  intro w0 aa ww S
  unfold L17 at H
  refine W.seq ?_
  replace S := S.sub [(0, Value.agg #[Value.slice p0.a p0.n p0.c, Value.int .i64 p0_1, Value.slice p0_2.a p0_2.n p0_2.c, Value.slice p0_3.a p0_3.n p0_3.c, Value.slice p0_4.a p0_4.n p0_4.c]), (1, Value.int .i64 e1)] ⟨rfl, rfl, trivial⟩
  refine W.region ?_
  refine ol_box S H rfl rfl rfl trivial ?_
  clear S H aa; intro p2 aa ww h1 H S
  refine OL.pure S (Lf.run_assign (S.ev rfl)) rfl rfl trivial ?_
  clear S; intro aa S
  refine OL.nil ?_
  refine W.seq ?_
  replace S := S.sub [(1, Value.int .i64 e1), (2, Value.pointer (some p2))] ⟨rfl, rfl, trivial⟩
  refine W.region ?_
  refine OL.pure S (Lf.run_fa (S.ev rfl) fa25_0) rfl rfl trivial ?_
  clear S; intro aa S
  obtain ⟨x11, c, H⟩ := H
  refine OL.pure S (Lf.run_ld (S.ev rfl) fl22 (S.cl c)) rfl rfl trivial ?_
  clear S; intro aa S
  refine OL.pure S (Lf.run_lens (S.ev rfl) rfl Try.underlying22) rfl rfl trivial ?_
  clear S; intro aa S
  refine OL.pure S (Lf.run_assign (S.ev rfl)) rfl rfl trivial ?_
  clear S; intro aa S
  refine OL.nil ?_
  refine W.seq ?_
  replace S := S.sub [(1, Value.int .i64 e1), (2, Value.pointer (some p2)), (5, Value.int .i64 ((x11.n : Nat) : Int))] ⟨rfl, rfl, rfl, trivial⟩
  refine W.region ?_
  refine OL.pure S (Lf.run_move (S.ev rfl)) rfl rfl trivial ?_
  clear S; intro aa S
  refine ol_mkS S H Try.underlying54 ti4 rfl rfl rfl trivial ?_
  clear S H aa; intro s14 aa ww h2 H S
  refine OL.pure S (Lf.run_assign (S.ev rfl)) rfl rfl trivial ?_
  clear S; intro aa S
  refine OL.nil ?_
  obtain ⟨J, H, HK⟩ := H
  refine W.seqJ (fun aa ww => ∃ h7, St 66 [(1, Value.int .i64 e1), (2, Value.pointer (some p2)), (5, Value.int .i64 ((x11.n : Nat) : Int)), (6, Value.slice s14.a s14.n s14.c)] h7 w0 aa ww ∧ J h7) ?_ ?_
  · clear HK
    refine W.seq ?_
    replace S := S.sub [(1, Value.int .i64 e1), (2, Value.pointer (some p2)), (5, Value.int .i64 ((x11.n : Nat) : Int)), (6, Value.slice s14.a s14.n s14.c)] ⟨rfl, rfl, rfl, rfl, trivial⟩
    refine W.region ?_
    refine OL.pure S (Lf.run_move (S.ev rfl)) rfl rfl trivial ?_
    clear S; intro aa S
    refine OL.pure S (Lf.run_gtr (S.ev rfl) (S.ev rfl)) rfl rfl trivial ?_
    clear S; intro aa S
    refine OL.pure S (Lf.run_move (S.ev rfl)) rfl rfl trivial ?_
    clear S; intro aa S
    obtain ⟨J_1, H, HK_1⟩ := H
    refine OL.cutN 6 (fun aa ww => ∃ x23 h3, St 66 ((23, Value.bool x23) :: [(1, Value.int .i64 e1), (2, Value.pointer (some p2)), (5, Value.int .i64 ((x11.n : Nat) : Int)), (6, Value.slice s14.a s14.n s14.c), (15, Value.int .i64 ((x11.n : Nat) : Int)), (16, Value.bool (decide (0 < ((x11.n : Nat) : Int)))), (17, Value.bool (decide (0 < ((x11.n : Nat) : Int))))]) h3 w0 aa ww ∧ J_1 x23 h3) ?_ ?_
    · rcases Bool.eq_false_or_eq_true (decide (0 < ((x11.n : Nat) : Int))) with hb | hb
      · replace H := H.1 hb
        refine OL.pure S (Lf.run_fa (S.ev rfl) fa25_4) rfl rfl (GOk.mk rfl rfl hb) ?_
        clear S; intro aa S
        obtain ⟨x19, c_1, H⟩ := H
        refine OL.pure S (Lf.run_ld (S.ev rfl) fl23 (S.cl c_1)) rfl rfl (GOk.mk rfl rfl hb) ?_
        clear S; intro aa S
        refine ol_newS S H Try.underlying22 ti23 (by decide) (parts_map S rfl) (by kernel_rfl) (by decide) rfl (GOk.mk rfl rfl hb) ?_
        clear S H aa; intro s20 aa ww h4 H S
        refine OL.pure S (Lf.run_move (S.ev rfl)) rfl rfl (GOk.mk rfl rfl hb) ?_
        clear S; intro aa S
        refine ol_cal S H isfn27 rfl rfl (GOk.mk rfl rfl hb) ?_
        clear S H aa; intro u aa ww h5 H S
        obtain ⟨x22, rfl, H⟩ := H
        refine OL.pure S (Lf.run_pickT (S.ev rfl) hb (S.ev rfl)) rfl rfl trivial ?_
        clear S; intro aa S
        refine OL.nil ?_
        exact ⟨_, _, S.sub _ ⟨rfl, rfl, rfl, rfl, rfl, rfl, rfl, rfl, trivial⟩, H⟩
      · replace H := H.2 hb
        refine OL.not S rfl rfl (GNo.mk rfl rfl hb) ?_
        clear S; intro aa S
        refine OL.not S rfl rfl (GNo.mk rfl rfl hb) ?_
        clear S; intro aa S
        refine OL.not S rfl rfl (GNo.mk rfl rfl hb) ?_
        clear S; intro aa S
        refine OL.not S rfl rfl (GNo.mk rfl rfl hb) ?_
        clear S; intro aa S
        refine OL.not S rfl rfl (GNo.mk rfl rfl hb) ?_
        clear S; intro aa S
        refine OL.pure S (Lf.run_pickF (S.ev rfl) hb (S.ev rfl)) rfl rfl trivial ?_
        clear S; intro aa S
        refine OL.nil ?_
        exact ⟨_, _, S.sub _ ⟨rfl, rfl, rfl, rfl, rfl, rfl, rfl, rfl, trivial⟩, H⟩
    · clear S aa
      rintro aa ww ⟨x23, h3, S, HJ⟩
      replace H := HK_1 _ _ HJ
      clear HK_1 HJ
      refine OL.nil ?_
      refine W.cond S (b := x23) rfl (fun hb_1 => ?_) (fun hb_1 => ?_)
      · replace H := H.1 hb_1
        replace S := S.sub [(1, Value.int .i64 e1), (2, Value.pointer (some p2)), (5, Value.int .i64 ((x11.n : Nat) : Int)), (6, Value.slice s14.a s14.n s14.c)] ⟨rfl, rfl, rfl, rfl, trivial⟩
        refine W.region ?_
        refine OL.pure S (Lf.run_move (S.ev rfl)) rfl rfl trivial ?_
        clear S; intro aa S
        obtain ⟨q25, e, e_1, e_2, H⟩ := H
        refine OL.pure S (Lf.run_ixs (S.ev rfl) (S.ev rfl) Try.underlying54 ti4 e e_1 e_2) rfl rfl trivial ?_
        clear S; intro aa S
        refine ol_sto S H rfl rfl rfl ti4 trivial ?_
        clear S H aa; intro aa ww h6 H S
        refine OL.nil ?_
        exact ⟨h6, S.sub _ ⟨rfl, rfl, rfl, rfl, trivial⟩, H⟩
      · replace H := H.2 hb_1
        refine W.skip ?_
        exact ⟨h3, S.sub _ ⟨rfl, rfl, rfl, rfl, trivial⟩, H⟩
  · clear H S aa
    rintro aa ww ⟨h7, S, HJ⟩
    have H := HK _ HJ
    clear HK HJ
    refine W.seq ?_
    refine W.seq ?_
    replace S := S.sub [(1, Value.int .i64 e1), (2, Value.pointer (some p2)), (5, Value.int .i64 ((x11.n : Nat) : Int)), (6, Value.slice s14.a s14.n s14.c)] ⟨rfl, rfl, rfl, rfl, trivial⟩
    refine W.region ?_
    refine OL.pure S (Lf.run_assign (S.ev rfl)) rfl rfl trivial ?_
    clear S; intro aa S
    refine OL.nil ?_
    refine W.block ?_
    obtain ⟨I, m, H, HB_2⟩ := H
    refine W.loopS (σ := Int × Heap) (fun s aa ww => St 66 [(1, Value.int .i64 e1), (2, Value.pointer (some p2)), (5, Value.int .i64 ((x11.n : Nat) : Int)), (6, Value.slice s14.a s14.n s14.c), (7, Value.int .i64 s.1)] s.2 w0 aa ww ∧ I s.1 s.2) (fun s => m s.1 s.2) (0, h7) ⟨S.sub _ ⟨rfl, rfl, rfl, rfl, rfl, trivial⟩, H⟩ ?_
    clear H S aa
    rintro ⟨round7, h8⟩ aa ww ⟨S, HI⟩
    replace S : St 66 [(1, Value.int .i64 e1), (2, Value.pointer (some p2)), (5, Value.int .i64 ((x11.n : Nat) : Int)), (6, Value.slice s14.a s14.n s14.c), (7, Value.int .i64 round7)] h8 w0 aa ww := S
    have H := HB_2 round7 h8 HI
    clear HI
    refine W.seq ?_
    refine W.seq ?_
    replace S := S.sub [(1, Value.int .i64 e1), (2, Value.pointer (some p2)), (5, Value.int .i64 ((x11.n : Nat) : Int)), (6, Value.slice s14.a s14.n s14.c), (7, Value.int .i64 round7)] ⟨rfl, rfl, rfl, rfl, rfl, trivial⟩
    refine W.region ?_
    refine OL.pure S (Lf.run_move (S.ev rfl)) rfl rfl trivial ?_
    clear S; intro aa S
    refine OL.pure S (Lf.run_move (S.ev rfl)) rfl rfl trivial ?_
    clear S; intro aa S
    refine OL.pure S (Lf.run_leq (S.ev rfl) (S.ev rfl)) rfl rfl trivial ?_
    clear S; intro aa S
    refine OL.nil ?_
    refine W.cond S (b := (decide (round7 ≤ ((x11.n : Nat) : Int)))) rfl (fun hb_2 => ?_) (fun hb_2 => ?_)
    · replace H := H.1 hb_2
      refine W.skip ?_
      refine W.seq ?_
      refine W.block ?_
      refine W.seq ?_
      replace S := S.sub [(1, Value.int .i64 e1), (2, Value.pointer (some p2)), (5, Value.int .i64 ((x11.n : Nat) : Int)), (6, Value.slice s14.a s14.n s14.c), (7, Value.int .i64 round7)] ⟨rfl, rfl, rfl, rfl, rfl, trivial⟩
      refine W.region ?_
      refine OL.pure S (Lf.run_assign (S.ev rfl)) rfl rfl trivial ?_
      clear S; intro aa S
      refine OL.nil ?_
      refine W.block ?_
      obtain ⟨I_1, m_1, H, HB_1⟩ := H
      refine W.loopS (σ := Int × Heap) (fun s aa ww => St 66 [(1, Value.int .i64 e1), (2, Value.pointer (some p2)), (5, Value.int .i64 ((x11.n : Nat) : Int)), (6, Value.slice s14.a s14.n s14.c), (7, Value.int .i64 round7), (8, Value.int .i64 s.1)] s.2 w0 aa ww ∧ I_1 s.1 s.2) (fun s => m_1 s.1 s.2) (0, h8) ⟨S.sub _ ⟨rfl, rfl, rfl, rfl, rfl, rfl, trivial⟩, H⟩ ?_
      clear H S aa
      rintro ⟨i8, h9⟩ aa ww ⟨S, HI⟩
      replace S : St 66 [(1, Value.int .i64 e1), (2, Value.pointer (some p2)), (5, Value.int .i64 ((x11.n : Nat) : Int)), (6, Value.slice s14.a s14.n s14.c), (7, Value.int .i64 round7), (8, Value.int .i64 i8)] h9 w0 aa ww := S
      have H := HB_1 i8 h9 HI
      clear HI
      refine W.seq ?_
      refine W.seq ?_
      replace S := S.sub [(1, Value.int .i64 e1), (2, Value.pointer (some p2)), (5, Value.int .i64 ((x11.n : Nat) : Int)), (6, Value.slice s14.a s14.n s14.c), (7, Value.int .i64 round7), (8, Value.int .i64 i8)] ⟨rfl, rfl, rfl, rfl, rfl, rfl, trivial⟩
      refine W.region ?_
      refine OL.pure S (Lf.run_move (S.ev rfl)) rfl rfl trivial ?_
      clear S; intro aa S
      refine OL.pure S (Lf.run_move (S.ev rfl)) rfl rfl trivial ?_
      clear S; intro aa S
      refine OL.pure S (Lf.run_lss (S.ev rfl) (S.ev rfl)) rfl rfl trivial ?_
      clear S; intro aa S
      refine OL.nil ?_
      refine W.cond S (b := (decide (i8 < ((x11.n : Nat) : Int)))) rfl (fun hb_3 => ?_) (fun hb_3 => ?_)
      · replace H := H.1 hb_3
        refine W.skip ?_
        obtain ⟨J_2, H, HK_2⟩ := H
        refine W.seqJ (fun aa ww => ∃ h13, St 66 [(1, Value.int .i64 e1), (2, Value.pointer (some p2)), (5, Value.int .i64 ((x11.n : Nat) : Int)), (6, Value.slice s14.a s14.n s14.c), (7, Value.int .i64 round7), (8, Value.int .i64 i8)] h13 w0 aa ww ∧ J_2 h13) ?_ ?_
        · clear HK_2
          refine W.block ?_
          refine W.seq ?_
          refine W.seq ?_
          replace S := S.sub [(1, Value.int .i64 e1), (2, Value.pointer (some p2)), (5, Value.int .i64 ((x11.n : Nat) : Int)), (6, Value.slice s14.a s14.n s14.c), (7, Value.int .i64 round7), (8, Value.int .i64 i8)] ⟨rfl, rfl, rfl, rfl, rfl, rfl, trivial⟩
          refine W.regionD S (by kernel_rfl) ?_
          clear S; intro ww S
          obtain ⟨y36, y36_1, y36_2, y36_3, y36_4, c_9, c_10, c_11, c_12, c_13, H⟩ := H
          refine AN.load 0 S rfl (by kernel_rfl) (fun _ hx => Lf.run_ldA (cs := [Value.slice y36.a y36.n y36.c, Value.int .i64 y36_1, Value.slice y36_2.a y36_2.n y36_2.c, Value.slice y36_3.a y36_3.n y36_3.c, Value.slice y36_4.a y36_4.n y36_4.c]) (S.ev rfl) ag25 ti25 (hx.row (S.row ⟨c_9, c_10, c_11, c_12, c_13, trivial⟩))) rfl rfl trivial ?_
          clear S; intro aa S
          refine AN.pure 1 S rfl (by kernel_rfl) (fun _ => Lf.run_move (S.ev rfl)) rfl rfl trivial ?_
          clear S; intro aa S
          refine AN.pure 2 S rfl (by kernel_rfl) (fun _ => Lf.run_move (S.ev rfl)) rfl rfl trivial ?_
          clear S; intro aa S
          refine AN.pure 3 S rfl (by kernel_rfl) (fun _ => Lf.run_move (S.ev rfl)) rfl rfl trivial ?_
          clear S; intro aa S
          refine AN.pure 4 S rfl (by kernel_rfl) (fun _ => Lf.run_move (S.ev rfl)) rfl rfl trivial ?_
          clear S; intro aa S
          obtain ⟨q41, e_3, e_4, e_5, H⟩ := H
          refine AN.pure 5 S rfl (by kernel_rfl) (fun _ => Lf.run_ixs (S.ev rfl) (S.ev rfl) Try.underlying54 ti4 e_3 e_4 e_5) rfl rfl trivial ?_
          clear S; intro aa S
          obtain ⟨x42, c_3, H⟩ := H
          refine AN.load 6 S rfl (by kernel_rfl) (fun _ hx => Lf.run_ld (S.ev rfl) fl4 (hx.cell _ _ (S.cl c_3))) rfl rfl trivial ?_
          clear S; intro aa S
          refine AN.eff 7 rfl (by kernel_rfl) ?_
          refine ol_cal S H isfn30 rfl rfl trivial ?_
          clear S H aa; intro u_1 aa ww h10 H S
          obtain ⟨x43, rfl, H⟩ := H
          refine OL.nil ?_
          refine AN.pure 8 S rfl (by kernel_rfl) (fun _ => Lf.run_not (S.ev rfl)) rfl rfl trivial ?_
          clear S; intro aa S
          refine AN.done (by kernel_rfl) ?_
          refine W.cond S (b := (!x43)) rfl (fun hb_4 => ?_) (fun hb_4 => ?_)
          · replace H := H.1 hb_4
            refine W.exit_ ?_
            refine xhit ?_
            exact ⟨h10, S.sub _ ⟨rfl, rfl, rfl, rfl, rfl, rfl, trivial⟩, H⟩
          · replace H := H.2 hb_4
            refine W.skip ?_
            refine W.seq ?_
            replace S := S.sub [(1, Value.int .i64 e1), (2, Value.pointer (some p2)), (5, Value.int .i64 ((x11.n : Nat) : Int)), (6, Value.slice s14.a s14.n s14.c), (7, Value.int .i64 round7), (8, Value.int .i64 i8)] ⟨rfl, rfl, rfl, rfl, rfl, rfl, trivial⟩
            refine W.region ?_
            refine OL.pure S (Lf.run_assign (S.ev rfl)) rfl rfl trivial ?_
            clear S; intro aa S
            refine OL.nil ?_
            refine W.block ?_
            obtain ⟨I_2, m_2, H, HB⟩ := H
            refine W.loopS (σ := Int × Heap) (fun s aa ww => St 66 [(1, Value.int .i64 e1), (2, Value.pointer (some p2)), (5, Value.int .i64 ((x11.n : Nat) : Int)), (6, Value.slice s14.a s14.n s14.c), (7, Value.int .i64 round7), (8, Value.int .i64 i8), (9, Value.int .i64 s.1)] s.2 w0 aa ww ∧ I_2 s.1 s.2) (fun s => m_2 s.1 s.2) (0, h10) ⟨S.sub _ ⟨rfl, rfl, rfl, rfl, rfl, rfl, rfl, trivial⟩, H⟩ ?_
            clear H S aa
            rintro ⟨k9, h11⟩ aa ww ⟨S, HI⟩
            replace S : St 66 [(1, Value.int .i64 e1), (2, Value.pointer (some p2)), (5, Value.int .i64 ((x11.n : Nat) : Int)), (6, Value.slice s14.a s14.n s14.c), (7, Value.int .i64 round7), (8, Value.int .i64 i8), (9, Value.int .i64 k9)] h11 w0 aa ww := S
            have H := HB k9 h11 HI
            clear HI
            refine W.seq ?_
            refine W.seq ?_
            replace S := S.sub [(1, Value.int .i64 e1), (2, Value.pointer (some p2)), (5, Value.int .i64 ((x11.n : Nat) : Int)), (6, Value.slice s14.a s14.n s14.c), (7, Value.int .i64 round7), (8, Value.int .i64 i8), (9, Value.int .i64 k9)] ⟨rfl, rfl, rfl, rfl, rfl, rfl, rfl, trivial⟩
            refine W.region ?_
            refine OL.pure S (Lf.run_move (S.ev rfl)) rfl rfl trivial ?_
            clear S; intro aa S
            refine OL.pure S (Lf.run_fa (S.ev rfl) fa25_0) rfl rfl trivial ?_
            clear S; intro aa S
            obtain ⟨x47, c_4, H⟩ := H
            refine OL.pure S (Lf.run_ld (S.ev rfl) fl22 (S.cl c_4)) rfl rfl trivial ?_
            clear S; intro aa S
            refine OL.pure S (Lf.run_move (S.ev rfl)) rfl rfl trivial ?_
            clear S; intro aa S
            obtain ⟨q49, e_6, e_7, e_8, H⟩ := H
            refine OL.pure S (Lf.run_ixs (S.ev rfl) (S.ev rfl) Try.underlying22 ti23 e_6 e_7 e_8) rfl rfl trivial ?_
            clear S; intro aa S
            obtain ⟨x50, c_5, H⟩ := H
            refine OL.pure S (Lf.run_ld (S.ev rfl) fl23 (S.cl c_5)) rfl rfl trivial ?_
            clear S; intro aa S
            refine OL.pure S (Lf.run_lens (S.ev rfl) rfl Try.underlying23) rfl rfl trivial ?_
            clear S; intro aa S
            refine OL.pure S (Lf.run_lss (S.ev rfl) (S.ev rfl)) rfl rfl trivial ?_
            clear S; intro aa S
            refine OL.nil ?_
            refine W.cond S (b := (decide (k9 < ((x50.n : Nat) : Int)))) rfl (fun hb_5 => ?_) (fun hb_5 => ?_)
            · replace H := H.1 hb_5
              refine W.skip ?_
              refine W.seq ?_
              refine W.block ?_
              replace S := S.sub [(1, Value.int .i64 e1), (2, Value.pointer (some p2)), (5, Value.int .i64 ((x11.n : Nat) : Int)), (6, Value.slice s14.a s14.n s14.c), (7, Value.int .i64 round7), (8, Value.int .i64 i8), (9, Value.int .i64 k9)] ⟨rfl, rfl, rfl, rfl, rfl, rfl, rfl, trivial⟩
              refine W.region ?_
              refine OL.pure S (Lf.run_move (S.ev rfl)) rfl rfl trivial ?_
              clear S; intro aa S
              refine OL.pure S (Lf.run_fa (S.ev rfl) fa25_0) rfl rfl trivial ?_
              clear S; intro aa S
              obtain ⟨x57, c_6, H⟩ := H
              refine OL.pure S (Lf.run_ld (S.ev rfl) fl22 (S.cl c_6)) rfl rfl trivial ?_
              clear S; intro aa S
              refine OL.pure S (Lf.run_move (S.ev rfl)) rfl rfl trivial ?_
              clear S; intro aa S
              obtain ⟨q59, e_9, e_10, e_11, H⟩ := H
              refine OL.pure S (Lf.run_ixs (S.ev rfl) (S.ev rfl) Try.underlying22 ti23 e_9 e_10 e_11) rfl rfl trivial ?_
              clear S; intro aa S
              obtain ⟨x60, c_7, H⟩ := H
              refine OL.pure S (Lf.run_ld (S.ev rfl) fl23 (S.cl c_7)) rfl rfl trivial ?_
              clear S; intro aa S
              refine OL.pure S (Lf.run_move (S.ev rfl)) rfl rfl trivial ?_
              clear S; intro aa S
              obtain ⟨q62, e_12, e_13, e_14, H⟩ := H
              refine OL.pure S (Lf.run_ixs (S.ev rfl) (S.ev rfl) Try.underlying23 ti3 e_12 e_13 e_14) rfl rfl trivial ?_
              clear S; intro aa S
              obtain ⟨x63, c_8, H⟩ := H
              refine OL.pure S (Lf.run_ld (S.ev rfl) fl3 (S.cl c_8)) rfl rfl trivial ?_
              clear S; intro aa S
              obtain ⟨q64, e_15, e_16, e_17, H⟩ := H
              refine OL.pure S (Lf.run_ixs (S.ev rfl) (S.ev rfl) Try.underlying54 ti4 e_15 e_16 e_17) rfl rfl trivial ?_
              clear S; intro aa S
              refine ol_sto S H rfl rfl rfl ti4 trivial ?_
              clear S H aa; intro aa ww h12 H S
              refine OL.nil ?_
              replace S := S.sub [(1, Value.int .i64 e1), (2, Value.pointer (some p2)), (5, Value.int .i64 ((x11.n : Nat) : Int)), (6, Value.slice s14.a s14.n s14.c), (7, Value.int .i64 round7), (8, Value.int .i64 i8), (9, Value.int .i64 k9)] ⟨rfl, rfl, rfl, rfl, rfl, rfl, rfl, trivial⟩
              refine W.region ?_
              refine OL.pure S (Lf.run_move (S.ev rfl)) rfl rfl trivial ?_
              clear S; intro aa S
              refine OL.pure S (Lf.run_add (S.ev rfl) (S.ev rfl)) rfl rfl trivial ?_
              clear S; intro aa S
              refine OL.pure S (Lf.run_assign (S.ev rfl)) rfl rfl trivial ?_
              clear S; intro aa S
              refine OL.nil ?_
              exact ⟨((IntKind.i64.wrap (k9 + 1)), h12), ⟨S.sub _ ⟨rfl, rfl, rfl, rfl, rfl, rfl, rfl, trivial⟩, H.1⟩, H.2⟩
            · replace H := H.2 hb_5
              refine W.exit_ ?_
              refine xhit ?_
              exact ⟨h11, S.sub _ ⟨rfl, rfl, rfl, rfl, rfl, rfl, trivial⟩, H⟩
        · clear H S aa
          rintro aa ww ⟨h13, S, HJ⟩
          have H := HK_2 _ HJ
          clear HK_2 HJ
          replace S := S.sub [(1, Value.int .i64 e1), (2, Value.pointer (some p2)), (5, Value.int .i64 ((x11.n : Nat) : Int)), (6, Value.slice s14.a s14.n s14.c), (7, Value.int .i64 round7), (8, Value.int .i64 i8)] ⟨rfl, rfl, rfl, rfl, rfl, rfl, trivial⟩
          refine W.region ?_
          refine OL.pure S (Lf.run_move (S.ev rfl)) rfl rfl trivial ?_
          clear S; intro aa S
          refine OL.pure S (Lf.run_add (S.ev rfl) (S.ev rfl)) rfl rfl trivial ?_
          clear S; intro aa S
          refine OL.pure S (Lf.run_assign (S.ev rfl)) rfl rfl trivial ?_
          clear S; intro aa S
          refine OL.nil ?_
          exact ⟨((IntKind.i64.wrap (i8 + 1)), h13), ⟨S.sub _ ⟨rfl, rfl, rfl, rfl, rfl, rfl, trivial⟩, H.1⟩, H.2⟩
      · replace H := H.2 hb_3
        refine W.exit_ ?_
        refine xhit ?_
        replace S := S.sub [(1, Value.int .i64 e1), (2, Value.pointer (some p2)), (5, Value.int .i64 ((x11.n : Nat) : Int)), (6, Value.slice s14.a s14.n s14.c), (7, Value.int .i64 round7)] ⟨rfl, rfl, rfl, rfl, rfl, trivial⟩
        refine W.region ?_
        refine OL.pure S (Lf.run_move (S.ev rfl)) rfl rfl trivial ?_
        clear S; intro aa S
        refine OL.pure S (Lf.run_add (S.ev rfl) (S.ev rfl)) rfl rfl trivial ?_
        clear S; intro aa S
        refine OL.pure S (Lf.run_assign (S.ev rfl)) rfl rfl trivial ?_
        clear S; intro aa S
        refine OL.nil ?_
        exact ⟨((IntKind.i64.wrap (round7 + 1)), h9), ⟨S.sub _ ⟨rfl, rfl, rfl, rfl, rfl, trivial⟩, H.1⟩, H.2⟩
    · replace H := H.2 hb_2
      refine W.exit_ ?_
      refine xhit ?_
      refine W.seq ?_
      replace S := S.sub [(6, Value.slice s14.a s14.n s14.c)] ⟨rfl, trivial⟩
      refine W.region ?_
      refine OL.pure S (Lf.run_move (S.ev rfl)) rfl rfl trivial ?_
      clear S; intro aa S
      refine OL.pure S (Lf.run_assign (S.ev rfl)) rfl rfl trivial ?_
      clear S; intro aa S
      refine OL.nil ?_
      refine W.ret ?_
      exact Ret.one S rfl rfl H

/-- chattel chattellaw15.FlowApart$1 -/
def L18 (l0 : Sv) (x1 : Addr) (h : Heap) (R : Value → Heap → Prop) : Prop :=
  ∃ (I : Sv → Int → Heap → Prop) (m : Sv → Int → Heap → Nat), I (⟨none, 0, 0⟩ : Sv) 0 h ∧ ∀ out4 i5 h1, I out4 i5 h1 →
  ifb (decide (i5 < ((l0.n : Nat) : Int))) (
    ∃ (I_1 : Sv → Int → Heap → Prop) (m_1 : Sv → Int → Heap → Nat), I_1 (⟨none, 0, 0⟩ : Sv) 0 h1 ∧ ∀ x6 k7 h2, I_1 x6 k7 h2 →
    ixS l0 i5 fun q17 =>
    ldS h2 (q17.add ((i5 : Int).toNat * 1)) fun x18 =>
    ifb (decide (k7 < ((x18.n : Nat) : Int))) (
      ∃ J : Sv → Heap → Prop, (
        ixS l0 i5 fun q25 =>
        ldS h2 (q25.add ((i5 : Int).toNat * 1)) fun x26 =>
        ixS x26 k7 fun q28 =>
        ldI .i64 h2 (q28.add ((k7 : Int).toNat * 1)) fun x29 =>
        ldI .i64 h2 x1 fun x30 =>
        ifb (x29 == x30) (
          newS 3 #[Value.int .i64 0] 1 h2 fun s33 h3 =>
          appS 3 (Value.int .i64 0).cells 1 8 h3 x6 s33 fun s34 h4 =>
          J s34 h4) (
          J x6 h2)) ∧ (∀ x6_1 h5, J x6_1 h5 →
      I_1 x6_1 (IntKind.i64.wrap (k7 + 1)) h5 ∧ m_1 x6_1 (IntKind.i64.wrap (k7 + 1)) h5 < m_1 x6 k7 h2)) (
      newS 23 #[Value.slice x6.a x6.n x6.c] 1 h2 fun s37 h6 =>
      appS 23 (Value.slice (⟨none, 0, 0⟩ : Sv).a (⟨none, 0, 0⟩ : Sv).n (⟨none, 0, 0⟩ : Sv).c).cells 1 24 h6 out4 s37 fun s38 h7 =>
      I s38 (IntKind.i64.wrap (i5 + 1)) h7 ∧ m s38 (IntKind.i64.wrap (i5 + 1)) h7 < m out4 i5 h1)) (
    R (Value.slice out4.a out4.n out4.c) h1)

set_option maxRecDepth 100000 in

theorem F18 {l0 x1 h : _} {R : Value → Heap → Prop} (H : L18 l0 x1 h R) : CallsH Try.prog 18 #[Value.slice l0.a l0.n l0.c, Value.pointer (some x1)] h R := by
  refine CallsH.enter (n := 40) Try.func18 rfl rfl rfl rfl ?_
  intro w0 aa ww S
  unfold L18 at H
  refine W.seq ?_
  replace S := S.sub [(0, Value.slice l0.a l0.n l0.c), (1, Value.pointer (some x1))] ⟨rfl, rfl, trivial⟩
  refine W.region ?_
  refine OL.pure S (Lf.run_assign (S.ev rfl)) rfl rfl trivial ?_
  clear S; intro aa S
  refine OL.nil ?_
  refine W.seq ?_
  replace S := S.sub [(0, Value.slice l0.a l0.n l0.c), (1, Value.pointer (some x1))] ⟨rfl, rfl, trivial⟩
  refine W.region ?_
  refine OL.pure S (Lf.run_assign (S.ev rfl)) rfl rfl trivial ?_
  clear S; intro aa S
  refine OL.nil ?_
  refine W.seq ?_
  refine W.seq ?_
  replace S := S.sub [(0, Value.slice l0.a l0.n l0.c), (1, Value.pointer (some x1)), (4, Value.slice (⟨none, 0, 0⟩ : Sv).a (⟨none, 0, 0⟩ : Sv).n (⟨none, 0, 0⟩ : Sv).c)] ⟨rfl, rfl, rfl, trivial⟩
  refine W.region ?_
  refine OL.pure S (Lf.run_assign (S.ev rfl)) rfl rfl trivial ?_
  clear S; intro aa S
  refine OL.nil ?_
  refine W.block ?_
  obtain ⟨I, m, H, HB_1⟩ := H
  refine W.loopS (σ := Sv × Int × Heap) (fun s aa ww => St 40 [(0, Value.slice l0.a l0.n l0.c), (1, Value.pointer (some x1)), (4, Value.slice s.1.a s.1.n s.1.c), (5, Value.int .i64 s.2.1)] s.2.2 w0 aa ww ∧ I s.1 s.2.1 s.2.2) (fun s => m s.1 s.2.1 s.2.2) ((⟨none, 0, 0⟩ : Sv), 0, h) ⟨S.sub _ ⟨rfl, rfl, rfl, rfl, trivial⟩, H⟩ ?_
  clear H S aa
  rintro ⟨out4, i5, h1⟩ aa ww ⟨S, HI⟩
  replace S : St 40 [(0, Value.slice l0.a l0.n l0.c), (1, Value.pointer (some x1)), (4, Value.slice out4.a out4.n out4.c), (5, Value.int .i64 i5)] h1 w0 aa ww := S
  have H := HB_1 out4 i5 h1 HI
  clear HI
  refine W.seq ?_
  refine W.seq ?_
  replace S := S.sub [(0, Value.slice l0.a l0.n l0.c), (1, Value.pointer (some x1)), (4, Value.slice out4.a out4.n out4.c), (5, Value.int .i64 i5)] ⟨rfl, rfl, rfl, rfl, trivial⟩
  refine W.region ?_
  refine OL.pure S (Lf.run_move (S.ev rfl)) rfl rfl trivial ?_
  clear S; intro aa S
  refine OL.pure S (Lf.run_move (S.ev rfl)) rfl rfl trivial ?_
  clear S; intro aa S
  refine OL.pure S (Lf.run_lens (S.ev rfl) rfl Try.underlying22) rfl rfl trivial ?_
  clear S; intro aa S
  refine OL.pure S (Lf.run_lss (S.ev rfl) (S.ev rfl)) rfl rfl trivial ?_
  clear S; intro aa S
  refine OL.nil ?_
  refine W.cond S (b := (decide (i5 < ((l0.n : Nat) : Int)))) rfl (fun hb => ?_) (fun hb => ?_)
  · replace H := H.1 hb
    refine W.skip ?_
    refine W.seq ?_
    refine W.block ?_
    refine W.seq ?_
    replace S := S.sub [(0, Value.slice l0.a l0.n l0.c), (1, Value.pointer (some x1)), (4, Value.slice out4.a out4.n out4.c), (5, Value.int .i64 i5)] ⟨rfl, rfl, rfl, rfl, trivial⟩
    refine W.region ?_
    refine OL.pure S (Lf.run_assign (S.ev rfl)) rfl rfl trivial ?_
    clear S; intro aa S
    refine OL.nil ?_
    refine W.seq ?_
    refine W.seq ?_
    replace S := S.sub [(0, Value.slice l0.a l0.n l0.c), (1, Value.pointer (some x1)), (4, Value.slice out4.a out4.n out4.c), (5, Value.int .i64 i5), (6, Value.slice (⟨none, 0, 0⟩ : Sv).a (⟨none, 0, 0⟩ : Sv).n (⟨none, 0, 0⟩ : Sv).c)] ⟨rfl, rfl, rfl, rfl, rfl, trivial⟩
    refine W.region ?_
    refine OL.pure S (Lf.run_assign (S.ev rfl)) rfl rfl trivial ?_
    clear S; intro aa S
    refine OL.nil ?_
    refine W.block ?_
    obtain ⟨I_1, m_1, H, HB⟩ := H
    refine W.loopS (σ := Sv × Int × Heap) (fun s aa ww => St 40 [(0, Value.slice l0.a l0.n l0.c), (1, Value.pointer (some x1)), (4, Value.slice out4.a out4.n out4.c), (5, Value.int .i64 i5), (6, Value.slice s.1.a s.1.n s.1.c), (7, Value.int .i64 s.2.1)] s.2.2 w0 aa ww ∧ I_1 s.1 s.2.1 s.2.2) (fun s => m_1 s.1 s.2.1 s.2.2) ((⟨none, 0, 0⟩ : Sv), 0, h1) ⟨S.sub _ ⟨rfl, rfl, rfl, rfl, rfl, rfl, trivial⟩, H⟩ ?_
    clear H S aa
    rintro ⟨x6, k7, h2⟩ aa ww ⟨S, HI⟩
    replace S : St 40 [(0, Value.slice l0.a l0.n l0.c), (1, Value.pointer (some x1)), (4, Value.slice out4.a out4.n out4.c), (5, Value.int .i64 i5), (6, Value.slice x6.a x6.n x6.c), (7, Value.int .i64 k7)] h2 w0 aa ww := S
    have H := HB x6 k7 h2 HI
    clear HI
    refine W.seq ?_
    refine W.seq ?_
    replace S := S.sub [(0, Value.slice l0.a l0.n l0.c), (1, Value.pointer (some x1)), (4, Value.slice out4.a out4.n out4.c), (5, Value.int .i64 i5), (6, Value.slice x6.a x6.n x6.c), (7, Value.int .i64 k7)] ⟨rfl, rfl, rfl, rfl, rfl, rfl, trivial⟩
    refine W.region ?_
    refine OL.pure S (Lf.run_move (S.ev rfl)) rfl rfl trivial ?_
    clear S; intro aa S
    refine OL.pure S (Lf.run_move (S.ev rfl)) rfl rfl trivial ?_
    clear S; intro aa S
    refine OL.pure S (Lf.run_move (S.ev rfl)) rfl rfl trivial ?_
    clear S; intro aa S
    obtain ⟨q17, e, e_1, e_2, H⟩ := H
    refine OL.pure S (Lf.run_ixs (S.ev rfl) (S.ev rfl) Try.underlying22 ti23 e e_1 e_2) rfl rfl trivial ?_
    clear S; intro aa S
    obtain ⟨x18, c, H⟩ := H
    refine OL.pure S (Lf.run_ld (S.ev rfl) fl23 (S.cl c)) rfl rfl trivial ?_
    clear S; intro aa S
    refine OL.pure S (Lf.run_lens (S.ev rfl) rfl Try.underlying23) rfl rfl trivial ?_
    clear S; intro aa S
    refine OL.pure S (Lf.run_lss (S.ev rfl) (S.ev rfl)) rfl rfl trivial ?_
    clear S; intro aa S
    refine OL.nil ?_
    refine W.cond S (b := (decide (k7 < ((x18.n : Nat) : Int)))) rfl (fun hb_1 => ?_) (fun hb_1 => ?_)
    · replace H := H.1 hb_1
      refine W.skip ?_
      obtain ⟨J, H, HK⟩ := H
      refine W.seqJ (fun aa ww => ∃ x6_1 h5, St 40 [(0, Value.slice l0.a l0.n l0.c), (1, Value.pointer (some x1)), (4, Value.slice out4.a out4.n out4.c), (5, Value.int .i64 i5), (6, Value.slice x6_1.a x6_1.n x6_1.c), (7, Value.int .i64 k7)] h5 w0 aa ww ∧ J x6_1 h5) ?_ ?_
      · clear HK
        refine W.block ?_
        refine W.seq ?_
        replace S := S.sub [(0, Value.slice l0.a l0.n l0.c), (1, Value.pointer (some x1)), (4, Value.slice out4.a out4.n out4.c), (5, Value.int .i64 i5), (6, Value.slice x6.a x6.n x6.c), (7, Value.int .i64 k7)] ⟨rfl, rfl, rfl, rfl, rfl, rfl, trivial⟩
        refine W.regionD S (by kernel_rfl) ?_
        clear S; intro ww S
        refine AN.pure 0 S rfl (by kernel_rfl) (fun _ => Lf.run_move (S.ev rfl)) rfl rfl trivial ?_
        clear S; intro aa S
        refine AN.pure 1 S rfl (by kernel_rfl) (fun _ => Lf.run_move (S.ev rfl)) rfl rfl trivial ?_
        clear S; intro aa S
        obtain ⟨q25, e_3, e_4, e_5, H⟩ := H
        refine AN.pure 2 S rfl (by kernel_rfl) (fun _ => Lf.run_ixs (S.ev rfl) (S.ev rfl) Try.underlying22 ti23 e_3 e_4 e_5) rfl rfl trivial ?_
        clear S; intro aa S
        obtain ⟨x26, c_1, H⟩ := H
        refine AN.load 3 S rfl (by kernel_rfl) (fun _ hx => Lf.run_ld (S.ev rfl) fl23 (hx.cell _ _ (S.cl c_1))) rfl rfl trivial ?_
        clear S; intro aa S
        refine AN.pure 4 S rfl (by kernel_rfl) (fun _ => Lf.run_move (S.ev rfl)) rfl rfl trivial ?_
        clear S; intro aa S
        obtain ⟨q28, e_6, e_7, e_8, H⟩ := H
        refine AN.pure 5 S rfl (by kernel_rfl) (fun _ => Lf.run_ixs (S.ev rfl) (S.ev rfl) Try.underlying23 ti3 e_6 e_7 e_8) rfl rfl trivial ?_
        clear S; intro aa S
        obtain ⟨x29, c_2, H⟩ := H
        refine AN.load 6 S rfl (by kernel_rfl) (fun _ hx => Lf.run_ld (S.ev rfl) fl3 (hx.cell _ _ (S.cl c_2))) rfl rfl trivial ?_
        clear S; intro aa S
        obtain ⟨x30, c_3, H⟩ := H
        refine AN.load 7 S rfl (by kernel_rfl) (fun _ hx => Lf.run_ld (S.ev rfl) fl3 (hx.cell _ _ (S.cl c_3))) rfl rfl trivial ?_
        clear S; intro aa S
        refine AN.pure 8 S rfl (by kernel_rfl) (fun _ => Lf.run_eql (S.ev rfl) (S.ev rfl)) rfl rfl trivial ?_
        clear S; intro aa S
        refine AN.done (by kernel_rfl) ?_
        refine W.cond S (b := (x29 == x30)) rfl (fun hb_2 => ?_) (fun hb_2 => ?_)
        · replace H := H.1 hb_2
          replace S := S.sub [(0, Value.slice l0.a l0.n l0.c), (1, Value.pointer (some x1)), (4, Value.slice out4.a out4.n out4.c), (5, Value.int .i64 i5), (6, Value.slice x6.a x6.n x6.c), (7, Value.int .i64 k7)] ⟨rfl, rfl, rfl, rfl, rfl, rfl, trivial⟩
          refine W.region ?_
          refine OL.pure S (Lf.run_move (S.ev rfl)) rfl rfl trivial ?_
          clear S; intro aa S
          refine ol_newS S H Try.underlying23 ti3 (by decide) (parts_map S rfl) (by kernel_rfl) (by decide) rfl trivial ?_
          clear S H aa; intro s33 aa ww h3 H S
          refine ol_appS S H Try.underlying23 ti3 rfl rfl rfl trivial ?_
          clear S H aa; intro s34 aa ww h4 H S
          refine OL.pure S (Lf.run_assign (S.ev rfl)) rfl rfl trivial ?_
          clear S; intro aa S
          refine OL.nil ?_
          exact ⟨s34, h4, S.sub _ ⟨rfl, rfl, rfl, rfl, rfl, rfl, trivial⟩, H⟩
        · replace H := H.2 hb_2
          refine W.skip ?_
          exact ⟨x6, h2, S.sub _ ⟨rfl, rfl, rfl, rfl, rfl, rfl, trivial⟩, H⟩
      · clear H S aa
        rintro aa ww ⟨x6_1, h5, S, HJ⟩
        have H := HK _ _ HJ
        clear HK HJ
        replace S := S.sub [(0, Value.slice l0.a l0.n l0.c), (1, Value.pointer (some x1)), (4, Value.slice out4.a out4.n out4.c), (5, Value.int .i64 i5), (6, Value.slice x6_1.a x6_1.n x6_1.c), (7, Value.int .i64 k7)] ⟨rfl, rfl, rfl, rfl, rfl, rfl, trivial⟩
        refine W.region ?_
        refine OL.pure S (Lf.run_move (S.ev rfl)) rfl rfl trivial ?_
        clear S; intro aa S
        refine OL.pure S (Lf.run_add (S.ev rfl) (S.ev rfl)) rfl rfl trivial ?_
        clear S; intro aa S
        refine OL.pure S (Lf.run_assign (S.ev rfl)) rfl rfl trivial ?_
        clear S; intro aa S
        refine OL.nil ?_
        exact ⟨(x6_1, (IntKind.i64.wrap (k7 + 1)), h5), ⟨S.sub _ ⟨rfl, rfl, rfl, rfl, rfl, rfl, trivial⟩, H.1⟩, H.2⟩
    · replace H := H.2 hb_1
      refine W.exit_ ?_
      refine xhit ?_
      replace S := S.sub [(0, Value.slice l0.a l0.n l0.c), (1, Value.pointer (some x1)), (4, Value.slice out4.a out4.n out4.c), (5, Value.int .i64 i5), (6, Value.slice x6.a x6.n x6.c)] ⟨rfl, rfl, rfl, rfl, rfl, trivial⟩
      refine W.region ?_
      refine OL.pure S (Lf.run_move (S.ev rfl)) rfl rfl trivial ?_
      clear S; intro aa S
      refine OL.pure S (Lf.run_move (S.ev rfl)) rfl rfl trivial ?_
      clear S; intro aa S
      refine ol_newS S H Try.underlying22 ti23 (by decide) (parts_map S rfl) (by kernel_rfl) (by decide) rfl trivial ?_
      clear S H aa; intro s37 aa ww h6 H S
      refine ol_appS S H Try.underlying22 ti23 rfl rfl rfl trivial ?_
      clear S H aa; intro s38 aa ww h7 H S
      refine OL.pure S (Lf.run_assign (S.ev rfl)) rfl rfl trivial ?_
      clear S; intro aa S
      refine OL.nil ?_
      replace S := S.sub [(0, Value.slice l0.a l0.n l0.c), (1, Value.pointer (some x1)), (4, Value.slice s38.a s38.n s38.c), (5, Value.int .i64 i5)] ⟨rfl, rfl, rfl, rfl, trivial⟩
      refine W.region ?_
      refine OL.pure S (Lf.run_move (S.ev rfl)) rfl rfl trivial ?_
      clear S; intro aa S
      refine OL.pure S (Lf.run_add (S.ev rfl) (S.ev rfl)) rfl rfl trivial ?_
      clear S; intro aa S
      refine OL.pure S (Lf.run_assign (S.ev rfl)) rfl rfl trivial ?_
      clear S; intro aa S
      refine OL.nil ?_
      exact ⟨(s38, (IntKind.i64.wrap (i5 + 1)), h7), ⟨S.sub _ ⟨rfl, rfl, rfl, rfl, trivial⟩, H.1⟩, H.2⟩
  · replace H := H.2 hb
    refine W.exit_ ?_
    refine xhit ?_
    refine W.seq ?_
    replace S := S.sub [(4, Value.slice out4.a out4.n out4.c)] ⟨rfl, trivial⟩
    refine W.region ?_
    refine OL.pure S (Lf.run_move (S.ev rfl)) rfl rfl trivial ?_
    clear S; intro aa S
    refine OL.pure S (Lf.run_assign (S.ev rfl)) rfl rfl trivial ?_
    clear S; intro aa S
    refine OL.nil ?_
    refine W.ret ?_
    exact Ret.one S rfl rfl H

/-- chattel flow.Backward -/
def L19 (p0 : Sv) (p0_1 : Int) (p0_2 : Sv) (p0_3 : Sv) (p0_4 : Sv) (h : Heap) (R : Value → Heap → Prop) : Prop :=
  new 25 #[Value.slice p0.a p0.n p0.c, Value.int .i64 p0_1, Value.slice p0_2.a p0_2.n p0_2.c, Value.slice p0_3.a p0_3.n p0_3.c, Value.slice p0_4.a p0_4.n p0_4.c] h fun p1 h1 =>
  ∃ (y11 : Sv) (y11_1 : Int) (y11_2 : Sv) (y11_3 : Sv) (y11_4 : Sv), cl h1 p1 = some (Value.slice y11.a y11.n y11.c) ∧ cl h1 (p1.add 1) = some (Value.int .i64 y11_1) ∧ cl h1 (p1.add 2) = some (Value.slice y11_2.a y11_2.n y11_2.c) ∧ cl h1 (p1.add 3) = some (Value.slice y11_3.a y11_3.n y11_3.c) ∧ cl h1 (p1.add 4) = some (Value.slice y11_4.a y11_4.n y11_4.c) ∧
  cal Try.prog 15 #[Value.agg #[Value.slice y11.a y11.n y11.c, Value.int .i64 y11_1, Value.slice y11_2.a y11_2.n y11_2.c, Value.slice y11_3.a y11_3.n y11_3.c, Value.slice y11_4.a y11_4.n y11_4.c]] h1 fun u h2 => asI .i64 u fun x12 =>
  ifb (x12 != 0) (
    R (.tuple #[Value.pointer none, Value.int .i64 x12]) h2) (
    ∃ (y16 : Sv) (y16_1 : Int) (y16_2 : Sv) (y16_3 : Sv) (y16_4 : Sv), cl h2 p1 = some (Value.slice y16.a y16.n y16.c) ∧ cl h2 (p1.add 1) = some (Value.int .i64 y16_1) ∧ cl h2 (p1.add 2) = some (Value.slice y16_2.a y16_2.n y16_2.c) ∧ cl h2 (p1.add 3) = some (Value.slice y16_3.a y16_3.n y16_3.c) ∧ cl h2 (p1.add 4) = some (Value.slice y16_4.a y16_4.n y16_4.c) ∧
    cal Try.prog 23 #[Value.agg #[Value.slice y16.a y16.n y16.c, Value.int .i64 y16_1, Value.slice y16_2.a y16_2.n y16_2.c, Value.slice y16_3.a y16_3.n y16_3.c, Value.slice y16_4.a y16_4.n y16_4.c]] h2 fun u_1 h3 => asP u_1 fun x17 =>
    ∃ (I : Bool → Heap → Prop) (m : Bool → Heap → Nat), I true h3 ∧ ∀ again6 h4, I again6 h4 →
    ifb again6 (
      ldS h4 p1 fun x20 =>
      ∃ (I_1 : Bool → Int → Heap → Prop) (m_1 : Bool → Int → Heap → Nat), I_1 false (IntKind.i64.wrap (((x20.n : Nat) : Int) - 1)) h4 ∧ ∀ again6_1 i7 h5, I_1 again6_1 i7 h5 →
      ifb (decide (0 ≤ i7)) (
        ldI .i64 h5 (p1.add 1) fun x28 =>
        mkS 36 (Value.int .u64 0).cells 1 8 (IntKind.i64.wrap (((IntKind.i64.wrap (x28 + 63)) : Int).tdiv 64)) (IntKind.i64.wrap (((IntKind.i64.wrap (x28 + 63)) : Int).tdiv 64)) h5 fun s31 h6 =>
        ldS h6 p1 fun x33 =>
        ixS x33 i7 fun q35 =>
        ldS h6 (q35.add ((i7 : Int).toNat * 1)) fun x36 =>
        ∃ (I_2 : Int → Heap → Prop) (m_2 : Int → Heap → Nat), I_2 0 h6 ∧ ∀ x38 h7, I_2 x38 h7 →
        ifb (decide (x38 < ((x36.n : Nat) : Int))) (
          ixS x36 x38 fun q40 =>
          ldI .i64 h7 (q40.add ((x38 : Int).toNat * 1)) fun x41 =>
          nn x17 fun p44 =>
          ldS h7 (p44.add 1) fun x46 =>
          ixS x46 x41 fun q48 =>
          ldS h7 (q48.add ((x41 : Int).toNat * 1)) fun x49 =>
          cal Try.prog 26 #[Value.slice s31.a s31.n s31.c, Value.slice x49.a x49.n x49.c] h7 fun u_2 h8 => asB u_2 fun x50 =>
          I_2 (IntKind.i64.wrap (x38 + 1)) h8 ∧ m_2 (IntKind.i64.wrap (x38 + 1)) h8 < m_2 x38 h7) (
          ∃ J : Bool → Heap → Prop, (
            ∃ Sq : Heap → Prop, Sq h7 ∧ (
              nn x17 fun p53 =>
              ∃ (y59 : Sv) (y59_1 : Int) (y59_2 : Sv) (y59_3 : Sv) (y59_4 : Sv), cl h7 p1 = some (Value.slice y59.a y59.n y59.c) ∧ cl h7 (p1.add 1) = some (Value.int .i64 y59_1) ∧ cl h7 (p1.add 2) = some (Value.slice y59_2.a y59_2.n y59_2.c) ∧ cl h7 (p1.add 3) = some (Value.slice y59_3.a y59_3.n y59_3.c) ∧ cl h7 (p1.add 4) = some (Value.slice y59_4.a y59_4.n y59_4.c) ∧
              hlS Sq (p53.add 1) fun x55 =>
              ixS x55 i7 fun q57 =>
              hlS Sq (q57.add ((i7 : Int).toNat * 1)) fun x58 =>
              cal Try.prog 25 #[Value.agg #[Value.slice y59.a y59.n y59.c, Value.int .i64 y59_1, Value.slice y59_2.a y59_2.n y59_2.c, Value.slice y59_3.a y59_3.n y59_3.c, Value.slice y59_4.a y59_4.n y59_4.c], Value.int .i64 i7, Value.slice s31.a s31.n s31.c] h7 fun u_3 h9 => asS u_3 fun x62 =>
              Sq h9 ∧
              cal Try.prog 26 #[Value.slice x58.a x58.n x58.c, Value.slice x62.a x62.n x62.c] h9 fun u_4 h10 => asB u_4 fun x63 =>
              ifb x63 (
                J true h10) (
                J again6_1 h10))) ∧ (∀ again6_2 h11, J again6_2 h11 →
          I_1 again6_2 (IntKind.i64.wrap (i7 - 1)) h11 ∧ m_1 again6_2 (IntKind.i64.wrap (i7 - 1)) h11 < m_1 again6_1 i7 h5))) (
        I again6_1 h5 ∧ m again6_1 h5 < m again6 h4)) (
      R (.tuple #[Value.pointer x17, Value.int .i64 0]) h4))

set_option maxRecDepth 100000 in

theorem F19 {p0 p0_1 p0_2 p0_3 p0_4 h : _} {R : Value → Heap → Prop} (H : L19 p0 p0_1 p0_2 p0_3 p0_4 h R) : CallsH Try.prog 19 #[Value.agg #[Value.slice p0.a p0.n p0.c, Value.int .i64 p0_1, Value.slice p0_2.a p0_2.n p0_2.c, Value.slice p0_3.a p0_3.n p0_3.c, Value.slice p0_4.a p0_4.n p0_4.c]] h R := by
  refine CallsH.enter (n := 68) Try.func19 rfl rfl rfl rfl ?_
  intro w0 aa ww S
  unfold L19 at H
  refine W.seq ?_
  replace S := S.sub [(0, Value.agg #[Value.slice p0.a p0.n p0.c, Value.int .i64 p0_1, Value.slice p0_2.a p0_2.n p0_2.c, Value.slice p0_3.a p0_3.n p0_3.c, Value.slice p0_4.a p0_4.n p0_4.c])] ⟨rfl, trivial⟩
  refine W.region ?_
  refine ol_box S H rfl rfl rfl trivial ?_
  clear S H aa; intro p1 aa ww h1 H S
  refine OL.pure S (Lf.run_assign (S.ev rfl)) rfl rfl trivial ?_
  clear S; intro aa S
  refine OL.pure S (Lf.run_assign (S.ev rfl)) rfl rfl trivial ?_
  clear S; intro aa S
  refine OL.nil ?_
  refine W.seq ?_
  refine W.seq ?_
  replace S := S.sub [(1, Value.pointer (some p1))] ⟨rfl, trivial⟩
  refine W.region ?_
  obtain ⟨y11, y11_1, y11_2, y11_3, y11_4, c_23, c_24, c_25, c_26, c_27, H⟩ := H
  refine OL.pure S (Lf.run_ldA (cs := [Value.slice y11.a y11.n y11.c, Value.int .i64 y11_1, Value.slice y11_2.a y11_2.n y11_2.c, Value.slice y11_3.a y11_3.n y11_3.c, Value.slice y11_4.a y11_4.n y11_4.c]) (S.ev rfl) ag25 ti25 (by rw [S.heap]; exact RowL.toRow ⟨c_23, c_24, c_25, c_26, c_27, trivial⟩)) rfl rfl trivial ?_
  clear S; intro aa S
  refine ol_cal S H isfn15 rfl rfl trivial ?_
  clear S H aa; intro u aa ww h2 H S
  obtain ⟨x12, rfl, H⟩ := H
  refine OL.pure S (Lf.run_assign (S.ev rfl)) rfl rfl trivial ?_
  clear S; intro aa S
  refine OL.nil ?_
  refine W.seq ?_
  replace S := S.sub [(1, Value.pointer (some p1)), (4, Value.int .i64 x12)] ⟨rfl, rfl, trivial⟩
  refine W.region ?_
  refine OL.pure S (Lf.run_move (S.ev rfl)) rfl rfl trivial ?_
  clear S; intro aa S
  refine OL.pure S (Lf.run_neq (S.ev rfl) (S.ev rfl)) rfl rfl trivial ?_
  clear S; intro aa S
  refine OL.nil ?_
  refine W.cond S (b := (x12 != 0)) rfl (fun hb => ?_) (fun hb => ?_)
  · replace H := H.1 hb
    refine W.seq ?_
    replace S := S.sub [(4, Value.int .i64 x12)] ⟨rfl, trivial⟩
    refine W.region ?_
    refine OL.pure S (Lf.run_move (S.ev rfl)) rfl rfl trivial ?_
    clear S; intro aa S
    refine OL.pure S (Lf.run_assign (S.ev rfl)) rfl rfl trivial ?_
    clear S; intro aa S
    refine OL.pure S (Lf.run_assign (S.ev rfl)) rfl rfl trivial ?_
    clear S; intro aa S
    refine OL.nil ?_
    refine W.ret ?_
    exact Ret.two S rfl rfl rfl H
  · replace H := H.2 hb
    refine W.skip ?_
    refine W.seq ?_
    replace S := S.sub [(1, Value.pointer (some p1))] ⟨rfl, trivial⟩
    refine W.region ?_
    obtain ⟨y16, y16_1, y16_2, y16_3, y16_4, c_18, c_19, c_20, c_21, c_22, H⟩ := H
    refine OL.pure S (Lf.run_ldA (cs := [Value.slice y16.a y16.n y16.c, Value.int .i64 y16_1, Value.slice y16_2.a y16_2.n y16_2.c, Value.slice y16_3.a y16_3.n y16_3.c, Value.slice y16_4.a y16_4.n y16_4.c]) (S.ev rfl) ag25 ti25 (by rw [S.heap]; exact RowL.toRow ⟨c_18, c_19, c_20, c_21, c_22, trivial⟩)) rfl rfl trivial ?_
    clear S; intro aa S
    refine ol_cal S H isfn23 rfl rfl trivial ?_
    clear S H aa; intro u_1 aa ww h3 H S
    obtain ⟨x17, rfl, H⟩ := H
    refine OL.pure S (Lf.run_assign (S.ev rfl)) rfl rfl trivial ?_
    clear S; intro aa S
    refine OL.nil ?_
    refine W.seq ?_
    refine W.seq ?_
    replace S := S.sub [(1, Value.pointer (some p1)), (5, Value.pointer x17)] ⟨rfl, rfl, trivial⟩
    refine W.region ?_
    refine OL.pure S (Lf.run_assign (S.ev rfl)) rfl rfl trivial ?_
    clear S; intro aa S
    refine OL.nil ?_
    refine W.block ?_
    obtain ⟨I, m, H, HB_2⟩ := H
    refine W.loopS (σ := Bool × Heap) (fun s aa ww => St 68 [(1, Value.pointer (some p1)), (5, Value.pointer x17), (6, Value.bool s.1)] s.2 w0 aa ww ∧ I s.1 s.2) (fun s => m s.1 s.2) (true, h3) ⟨S.sub _ ⟨rfl, rfl, rfl, trivial⟩, H⟩ ?_
    clear H S aa
    rintro ⟨again6, h4⟩ aa ww ⟨S, HI⟩
    replace S : St 68 [(1, Value.pointer (some p1)), (5, Value.pointer x17), (6, Value.bool again6)] h4 w0 aa ww := S
    have H := HB_2 again6 h4 HI
    clear HI
    refine W.seq ?_
    refine W.seq ?_
    replace S := S.sub [(1, Value.pointer (some p1)), (5, Value.pointer x17), (6, Value.bool again6)] ⟨rfl, rfl, rfl, trivial⟩
    refine W.region ?_
    refine OL.pure S (Lf.run_move (S.ev rfl)) rfl rfl trivial ?_
    clear S; intro aa S
    refine OL.nil ?_
    refine W.cond S (b := again6) rfl (fun hb_1 => ?_) (fun hb_1 => ?_)
    · replace H := H.1 hb_1
      refine W.skip ?_
      refine W.block ?_
      refine W.seq ?_
      replace S := S.sub [(1, Value.pointer (some p1)), (5, Value.pointer x17)] ⟨rfl, rfl, trivial⟩
      refine W.region ?_
      refine OL.pure S (Lf.run_assign (S.ev rfl)) rfl rfl trivial ?_
      clear S; intro aa S
      refine OL.nil ?_
      refine W.seq ?_
      replace S := S.sub [(1, Value.pointer (some p1)), (5, Value.pointer x17), (6, Value.bool false)] ⟨rfl, rfl, rfl, trivial⟩
      refine W.region ?_
      refine OL.pure S (Lf.run_fa (S.ev rfl) fa25_0) rfl rfl trivial ?_
      clear S; intro aa S
      obtain ⟨x20, c_2, H⟩ := H
      refine OL.pure S (Lf.run_ld (S.ev rfl) fl22 (S.cl c_2)) rfl rfl trivial ?_
      clear S; intro aa S
      refine OL.pure S (Lf.run_lens (S.ev rfl) rfl Try.underlying22) rfl rfl trivial ?_
      clear S; intro aa S
      refine OL.pure S (Lf.run_sub (S.ev rfl) (S.ev rfl)) rfl rfl trivial ?_
      clear S; intro aa S
      refine OL.pure S (Lf.run_assign (S.ev rfl)) rfl rfl trivial ?_
      clear S; intro aa S
      refine OL.nil ?_
      refine W.block ?_
      obtain ⟨I_1, m_1, H, HB_1⟩ := H
      refine W.loopS (σ := Bool × Int × Heap) (fun s aa ww => St 68 [(1, Value.pointer (some p1)), (5, Value.pointer x17), (6, Value.bool s.1), (7, Value.int .i64 s.2.1)] s.2.2 w0 aa ww ∧ I_1 s.1 s.2.1 s.2.2) (fun s => m_1 s.1 s.2.1 s.2.2) (false, (IntKind.i64.wrap (((x20.n : Nat) : Int) - 1)), h4) ⟨S.sub _ ⟨rfl, rfl, rfl, rfl, trivial⟩, H⟩ ?_
      clear H S aa
      rintro ⟨again6_1, i7, h5⟩ aa ww ⟨S, HI⟩
      replace S : St 68 [(1, Value.pointer (some p1)), (5, Value.pointer x17), (6, Value.bool again6_1), (7, Value.int .i64 i7)] h5 w0 aa ww := S
      have H := HB_1 again6_1 i7 h5 HI
      clear HI
      refine W.seq ?_
      refine W.seq ?_
      replace S := S.sub [(1, Value.pointer (some p1)), (5, Value.pointer x17), (6, Value.bool again6_1), (7, Value.int .i64 i7)] ⟨rfl, rfl, rfl, rfl, trivial⟩
      refine W.region ?_
      refine OL.pure S (Lf.run_move (S.ev rfl)) rfl rfl trivial ?_
      clear S; intro aa S
      refine OL.pure S (Lf.run_geq (S.ev rfl) (S.ev rfl)) rfl rfl trivial ?_
      clear S; intro aa S
      refine OL.nil ?_
      refine W.cond S (b := (decide (0 ≤ i7))) rfl (fun hb_2 => ?_) (fun hb_2 => ?_)
      · replace H := H.1 hb_2
        refine W.skip ?_
        refine W.seq ?_
        refine W.block ?_
        refine W.seq ?_
        replace S := S.sub [(1, Value.pointer (some p1)), (5, Value.pointer x17), (6, Value.bool again6_1), (7, Value.int .i64 i7)] ⟨rfl, rfl, rfl, rfl, trivial⟩
        refine W.region ?_
        refine OL.pure S (Lf.run_fa (S.ev rfl) fa25_1) rfl rfl trivial ?_
        clear S; intro aa S
        obtain ⟨x28, c_3, H⟩ := H
        refine OL.pure S (Lf.run_ld (S.ev rfl) fl3 (S.cl c_3)) rfl rfl trivial ?_
        clear S; intro aa S
        refine OL.pure S (Lf.run_add (S.ev rfl) (S.ev rfl)) rfl rfl trivial ?_
        clear S; intro aa S
        refine OL.pure S (Lf.run_quo (S.ev rfl) (S.ev rfl) (by decide)) rfl rfl trivial ?_
        clear S; intro aa S
        refine ol_mkS S H Try.underlying51 ti36 rfl rfl rfl trivial ?_
        clear S H aa; intro s31 aa ww h6 H S
        refine OL.pure S (Lf.run_assign (S.ev rfl)) rfl rfl trivial ?_
        clear S; intro aa S
        refine OL.nil ?_
        refine W.seq ?_
        refine W.seq ?_
        replace S := S.sub [(1, Value.pointer (some p1)), (5, Value.pointer x17), (6, Value.bool again6_1), (7, Value.int .i64 i7), (8, Value.slice s31.a s31.n s31.c)] ⟨rfl, rfl, rfl, rfl, rfl, trivial⟩
        refine W.region ?_
        refine OL.pure S (Lf.run_fa (S.ev rfl) fa25_0) rfl rfl trivial ?_
        clear S; intro aa S
        obtain ⟨x33, c_4, H⟩ := H
        refine OL.pure S (Lf.run_ld (S.ev rfl) fl22 (S.cl c_4)) rfl rfl trivial ?_
        clear S; intro aa S
        refine OL.pure S (Lf.run_move (S.ev rfl)) rfl rfl trivial ?_
        clear S; intro aa S
        obtain ⟨q35, e, e_1, e_2, H⟩ := H
        refine OL.pure S (Lf.run_ixs (S.ev rfl) (S.ev rfl) Try.underlying22 ti23 e e_1 e_2) rfl rfl trivial ?_
        clear S; intro aa S
        obtain ⟨x36, c_5, H⟩ := H
        refine OL.pure S (Lf.run_ld (S.ev rfl) fl23 (S.cl c_5)) rfl rfl trivial ?_
        clear S; intro aa S
        refine OL.pure S (Lf.run_lens (S.ev rfl) rfl Try.underlying23) rfl rfl trivial ?_
        clear S; intro aa S
        refine OL.pure S (Lf.run_move (S.ev rfl)) rfl rfl trivial ?_
        clear S; intro aa S
        refine OL.nil ?_
        refine W.block ?_
        obtain ⟨I_2, m_2, H, HB⟩ := H
        refine W.loopS (σ := Int × Heap) (fun s aa ww => St 68 [(1, Value.pointer (some p1)), (5, Value.pointer x17), (6, Value.bool again6_1), (7, Value.int .i64 i7), (8, Value.slice s31.a s31.n s31.c), (36, Value.slice x36.a x36.n x36.c), (37, Value.int .i64 ((x36.n : Nat) : Int)), (38, Value.int .i64 s.1)] s.2 w0 aa ww ∧ I_2 s.1 s.2) (fun s => m_2 s.1 s.2) (0, h6) ⟨S.sub _ ⟨rfl, rfl, rfl, rfl, rfl, rfl, rfl, rfl, trivial⟩, H⟩ ?_
        clear H S aa
        rintro ⟨x38, h7⟩ aa ww ⟨S, HI⟩
        replace S : St 68 [(1, Value.pointer (some p1)), (5, Value.pointer x17), (6, Value.bool again6_1), (7, Value.int .i64 i7), (8, Value.slice s31.a s31.n s31.c), (36, Value.slice x36.a x36.n x36.c), (37, Value.int .i64 ((x36.n : Nat) : Int)), (38, Value.int .i64 x38)] h7 w0 aa ww := S
        have H := HB x38 h7 HI
        clear HI
        refine W.seq ?_
        replace S := S.sub [(1, Value.pointer (some p1)), (5, Value.pointer x17), (6, Value.bool again6_1), (7, Value.int .i64 i7), (8, Value.slice s31.a s31.n s31.c), (36, Value.slice x36.a x36.n x36.c), (37, Value.int .i64 ((x36.n : Nat) : Int)), (38, Value.int .i64 x38)] ⟨rfl, rfl, rfl, rfl, rfl, rfl, rfl, rfl, trivial⟩
        refine W.region ?_
        refine OL.pure S (Lf.run_lss (S.ev rfl) (S.ev rfl)) rfl rfl trivial ?_
        clear S; intro aa S
        refine OL.nil ?_
        refine W.seq ?_
        refine W.cond S (b := (decide (x38 < ((x36.n : Nat) : Int)))) rfl (fun hb_3 => ?_) (fun hb_3 => ?_)
        · replace H := H.1 hb_3
          refine W.skip ?_
          refine W.seq ?_
          refine W.block ?_
          refine W.seq ?_
          replace S := S.sub [(1, Value.pointer (some p1)), (5, Value.pointer x17), (6, Value.bool again6_1), (7, Value.int .i64 i7), (8, Value.slice s31.a s31.n s31.c), (36, Value.slice x36.a x36.n x36.c), (37, Value.int .i64 ((x36.n : Nat) : Int)), (38, Value.int .i64 x38)] ⟨rfl, rfl, rfl, rfl, rfl, rfl, rfl, rfl, trivial⟩
          refine W.region ?_
          obtain ⟨q40, e_3, e_4, e_5, H⟩ := H
          refine OL.pure S (Lf.run_ixs (S.ev rfl) (S.ev rfl) Try.underlying23 ti3 e_3 e_4 e_5) rfl rfl trivial ?_
          clear S; intro aa S
          obtain ⟨x41, c_6, H⟩ := H
          refine OL.pure S (Lf.run_ld (S.ev rfl) fl3 (S.cl c_6)) rfl rfl trivial ?_
          clear S; intro aa S
          refine OL.pure S (Lf.run_assign (S.ev rfl)) rfl rfl trivial ?_
          clear S; intro aa S
          refine OL.nil ?_
          replace S := S.sub [(1, Value.pointer (some p1)), (5, Value.pointer x17), (6, Value.bool again6_1), (7, Value.int .i64 i7), (8, Value.slice s31.a s31.n s31.c), (10, Value.int .i64 x41), (36, Value.slice x36.a x36.n x36.c), (37, Value.int .i64 ((x36.n : Nat) : Int)), (38, Value.int .i64 x38)] ⟨rfl, rfl, rfl, rfl, rfl, rfl, rfl, rfl, rfl, trivial⟩
          refine W.region ?_
          refine OL.pure S (Lf.run_move (S.ev rfl)) rfl rfl trivial ?_
          clear S; intro aa S
          refine OL.pure S (Lf.run_move (S.ev rfl)) rfl rfl trivial ?_
          clear S; intro aa S
          obtain ⟨p44, e_6, H⟩ := H
          refine OL.pure S (Lf.run_nc' (S.ev rfl) e_6) rfl rfl trivial ?_
          clear S; intro aa S
          refine OL.pure S (Lf.run_fa (S.ev rfl) fa49_1) rfl rfl trivial ?_
          clear S; intro aa S
          obtain ⟨x46, c_7, H⟩ := H
          refine OL.pure S (Lf.run_ld (S.ev rfl) fl47 (S.cl c_7)) rfl rfl trivial ?_
          clear S; intro aa S
          refine OL.pure S (Lf.run_move (S.ev rfl)) rfl rfl trivial ?_
          clear S; intro aa S
          obtain ⟨q48, e_7, e_8, e_9, H⟩ := H
          refine OL.pure S (Lf.run_ixs (S.ev rfl) (S.ev rfl) Try.underlying47 ti51 e_7 e_8 e_9) rfl rfl trivial ?_
          clear S; intro aa S
          obtain ⟨x49, c_8, H⟩ := H
          refine OL.pure S (Lf.run_ld (S.ev rfl) fl51 (S.cl c_8)) rfl rfl trivial ?_
          clear S; intro aa S
          refine ol_cal S H isfn26 rfl rfl trivial ?_
          clear S H aa; intro u_2 aa ww h8 H S
          obtain ⟨x50, rfl, H⟩ := H
          refine OL.nil ?_
          replace S := S.sub [(1, Value.pointer (some p1)), (5, Value.pointer x17), (6, Value.bool again6_1), (7, Value.int .i64 i7), (8, Value.slice s31.a s31.n s31.c), (36, Value.slice x36.a x36.n x36.c), (37, Value.int .i64 ((x36.n : Nat) : Int)), (38, Value.int .i64 x38)] ⟨rfl, rfl, rfl, rfl, rfl, rfl, rfl, rfl, trivial⟩
          refine W.region ?_
          refine OL.pure S (Lf.run_add (S.ev rfl) (S.ev rfl)) rfl rfl trivial ?_
          clear S; intro aa S
          refine OL.pure S (Lf.run_move (S.ev rfl)) rfl rfl trivial ?_
          clear S; intro aa S
          refine OL.nil ?_
          exact ⟨((IntKind.i64.wrap (x38 + 1)), h8), ⟨S.sub _ ⟨rfl, rfl, rfl, rfl, rfl, rfl, rfl, rfl, trivial⟩, H.1⟩, H.2⟩
        · replace H := H.2 hb_3
          refine W.exit_ ?_
          refine xhit ?_
          replace S := S.sub [(1, Value.pointer (some p1)), (5, Value.pointer x17), (6, Value.bool again6_1), (7, Value.int .i64 i7), (8, Value.slice s31.a s31.n s31.c)] ⟨rfl, rfl, rfl, rfl, rfl, trivial⟩
          obtain ⟨J, H, HK⟩ := H
          refine W.mono (N' := fun aa ww => ∃ again6_2 h11, St 68 [(1, Value.pointer (some p1)), (5, Value.pointer x17), (6, Value.bool again6_2), (7, Value.int .i64 i7)] h11 w0 aa ww ∧ J again6_2 h11) ?_ ?_
          · obtain ⟨Sq, HS, H⟩ := H
            refine W.regionN [3, 6] [10, 11] Sq S (by kernel_rfl) ?_
            clear S; intro ww S
            refine BN.pure 0 S (fun _ => HS) rfl (by kernel_rfl) (by kernel_rfl) (fun _ => Lf.run_move (S.ev rfl)) rfl rfl trivial ?_
            clear S; intro aa S
            obtain ⟨p53, e_10, H⟩ := H
            refine BN.pure 1 S (fun _ => HS) rfl (by kernel_rfl) (by kernel_rfl) (fun _ => Lf.run_nc' (S.ev rfl) e_10) rfl rfl trivial ?_
            clear S; intro aa S
            refine BN.pure 2 S (fun _ => HS) rfl (by kernel_rfl) (by kernel_rfl) (fun _ => Lf.run_fa (S.ev rfl) fa49_1) rfl rfl trivial ?_
            clear S; intro aa S
            refine BN.pure 4 S (fun _ => HS) rfl (by kernel_rfl) (by kernel_rfl) (fun _ => Lf.run_move (S.ev rfl)) rfl rfl trivial ?_
            clear S; intro aa S
            obtain ⟨y59, y59_1, y59_2, y59_3, y59_4, c_12, c_13, c_14, c_15, c_16, H⟩ := H
            refine BN.load 7 S (fun _ => HS) rfl (by kernel_rfl) (by kernel_rfl) (fun _ hx => Lf.run_ldA (cs := [Value.slice y59.a y59.n y59.c, Value.int .i64 y59_1, Value.slice y59_2.a y59_2.n y59_2.c, Value.slice y59_3.a y59_3.n y59_3.c, Value.slice y59_4.a y59_4.n y59_4.c]) (S.ev rfl) ag25 ti25 (hx.row (S.row ⟨c_12, c_13, c_14, c_15, c_16, trivial⟩))) rfl rfl trivial ?_
            clear S; intro aa S
            refine BN.pure 8 S (fun _ => HS) rfl (by kernel_rfl) (by kernel_rfl) (fun _ => Lf.run_move (S.ev rfl)) rfl rfl trivial ?_
            clear S; intro aa S
            refine BN.pure 9 S (fun _ => HS) rfl (by kernel_rfl) (by kernel_rfl) (fun _ => Lf.run_move (S.ev rfl)) rfl rfl trivial ?_
            clear S; intro aa S
            obtain ⟨x55, c_10, H⟩ := H
            refine BN.held 3 S HS rfl (by kernel_rfl) (fun _ hq => Lf.run_ld (S.ev rfl) fl47 (c_10 _ hq)) rfl rfl trivial ?_
            clear S; intro aa S
            obtain ⟨q57, e_11, e_12, e_13, H⟩ := H
            refine BN.pure 5 S (fun _ => HS) rfl (by kernel_rfl) (by kernel_rfl) (fun _ => Lf.run_ixs (S.ev rfl) (S.ev rfl) Try.underlying47 ti51 e_11 e_12 e_13) rfl rfl trivial ?_
            clear S; intro aa S
            obtain ⟨x58, c_11, H⟩ := H
            refine BN.held 6 S HS rfl (by kernel_rfl) (fun _ hq => Lf.run_ld (S.ev rfl) fl51 (c_11 _ hq)) rfl rfl trivial ?_
            clear S; intro aa S
            refine BN.eff 10 rfl (by kernel_rfl) ?_
            refine ol_cal S H isfn25 rfl rfl trivial ?_
            clear S H aa; intro u_3 aa ww h9 H S
            obtain ⟨x62, rfl, H⟩ := H
            refine OL.nil ?_
            clear HS; obtain ⟨HS, H⟩ := H
            refine ⟨fun _ => by rw [S.heap]; exact HS, ?_⟩
            refine BN.eff 11 rfl (by kernel_rfl) ?_
            refine ol_cal S H isfn26 rfl rfl trivial ?_
            clear S H aa; intro u_4 aa ww h10 H S
            obtain ⟨x63, rfl, H⟩ := H
            refine OL.nil ?_
            refine ⟨noNeed (by kernel_rfl), ?_⟩
            refine BN.pure 12 S (noNeed (by kernel_rfl)) rfl (by kernel_rfl) (by kernel_rfl) (fun _ => Lf.run_move (S.ev rfl)) rfl rfl trivial ?_
            clear S; intro aa S
            rcases Bool.eq_false_or_eq_true x63 with hb_4 | hb_4
            · replace H := H.1 hb_4
              refine BN.not 13 S (noNeed (by kernel_rfl)) rfl (by kernel_rfl) (by kernel_rfl) rfl rfl (GNo.mk rfl rfl hb_4) ?_
              clear S; intro aa S
              refine BN.pure 14 S (noNeed (by kernel_rfl)) rfl (by kernel_rfl) (by kernel_rfl) (fun _ => run_pickT (S.ev rfl) hb_4 (S.ev rfl)) rfl rfl trivial ?_
              clear S; intro aa S
              refine BN.pure 15 S (noNeed (by kernel_rfl)) rfl (by kernel_rfl) (by kernel_rfl) (fun _ => Lf.run_assign (S.ev rfl)) rfl rfl trivial ?_
              clear S; intro aa S
              refine BN.done (by kernel_rfl) ?_
              exact ⟨true, h10, S.sub _ ⟨rfl, rfl, rfl, rfl, trivial⟩, H⟩
            · replace H := H.2 hb_4
              refine BN.pure 13 S (noNeed (by kernel_rfl)) rfl (by kernel_rfl) (by kernel_rfl) (fun _ => Lf.run_move (S.ev rfl)) rfl rfl (GOk.mk rfl rfl hb_4) ?_
              clear S; intro aa S
              refine BN.pure 14 S (noNeed (by kernel_rfl)) rfl (by kernel_rfl) (by kernel_rfl) (fun _ => run_pickF (S.ev rfl) hb_4 (S.ev rfl)) rfl rfl trivial ?_
              clear S; intro aa S
              refine BN.pure 15 S (noNeed (by kernel_rfl)) rfl (by kernel_rfl) (by kernel_rfl) (fun _ => Lf.run_assign (S.ev rfl)) rfl rfl trivial ?_
              clear S; intro aa S
              refine BN.done (by kernel_rfl) ?_
              exact ⟨again6_1, h10, S.sub _ ⟨rfl, rfl, rfl, rfl, trivial⟩, H⟩
          · clear H S aa
            rintro aa ww ⟨again6_2, h11, S, HJ⟩
            have H := HK _ _ HJ
            clear HK HJ
            replace S := S.sub [(1, Value.pointer (some p1)), (5, Value.pointer x17), (6, Value.bool again6_2), (7, Value.int .i64 i7)] ⟨rfl, rfl, rfl, rfl, trivial⟩
            refine W.region ?_
            refine OL.pure S (Lf.run_move (S.ev rfl)) rfl rfl trivial ?_
            clear S; intro aa S
            refine OL.pure S (Lf.run_sub (S.ev rfl) (S.ev rfl)) rfl rfl trivial ?_
            clear S; intro aa S
            refine OL.pure S (Lf.run_assign (S.ev rfl)) rfl rfl trivial ?_
            clear S; intro aa S
            refine OL.nil ?_
            exact ⟨(again6_2, (IntKind.i64.wrap (i7 - 1)), h11), ⟨S.sub _ ⟨rfl, rfl, rfl, rfl, trivial⟩, H.1⟩, H.2⟩
      · replace H := H.2 hb_2
        refine W.exit_ ?_
        refine xhit ?_
        exact ⟨(again6_1, h5), ⟨S.sub _ ⟨rfl, rfl, rfl, trivial⟩, H.1⟩, H.2⟩
    · replace H := H.2 hb_1
      refine W.exit_ ?_
      refine xhit ?_
      refine W.seq ?_
      replace S := S.sub [(5, Value.pointer x17)] ⟨rfl, trivial⟩
      refine W.region ?_
      refine OL.pure S (Lf.run_move (S.ev rfl)) rfl rfl trivial ?_
      clear S; intro aa S
      refine OL.pure S (Lf.run_assign (S.ev rfl)) rfl rfl trivial ?_
      clear S; intro aa S
      refine OL.pure S (Lf.run_assign (S.ev rfl)) rfl rfl trivial ?_
      clear S; intro aa S
      refine OL.nil ?_
      refine W.ret ?_
      exact Ret.two S rfl rfl rfl H

/-- chattel chattelref15.Backward -/
def L20 (p0 : Sv) (p0_1 : Int) (p0_2 : Sv) (p0_3 : Sv) (p0_4 : Sv) (e1 : Int) (h : Heap) (R : Value → Heap → Prop) : Prop :=
  new 25 #[Value.slice p0.a p0.n p0.c, Value.int .i64 p0_1, Value.slice p0_2.a p0_2.n p0_2.c, Value.slice p0_3.a p0_3.n p0_3.c, Value.slice p0_4.a p0_4.n p0_4.c] h fun p2 h1 =>
  ldS h1 p2 fun x12 =>
  mkS 4 (Value.bool false).cells 1 1 ((x12.n : Nat) : Int) ((x12.n : Nat) : Int) h1 fun s15 h2 =>
  ∃ (I : Int → Heap → Prop) (m : Int → Heap → Nat), I 0 h2 ∧ ∀ round7 h3, I round7 h3 →
  ifb (decide (round7 ≤ ((x12.n : Nat) : Int))) (
    ∃ (I_1 : Int → Heap → Prop) (m_1 : Int → Heap → Nat), I_1 0 h3 ∧ ∀ i8 h4, I_1 i8 h4 →
    ifb (decide (i8 < ((x12.n : Nat) : Int))) (
      ∃ (I_2 : Bool → Int → Prop) (m_2 : Bool → Int → Nat), I_2 false 0 ∧ ∀ behind9 k10, I_2 behind9 k10 →
      ldS h4 p2 fun x28 =>
      ixS x28 i8 fun q30 =>
      ldS h4 (q30.add ((i8 : Int).toNat * 1)) fun x31 =>
      ifb (decide (k10 < ((x31.n : Nat) : Int))) (
        ∃ J : Bool → Prop, (orr behind9 (fun k =>
          ldS h4 p2 fun x40 =>
          ixS x40 i8 fun q42 =>
          ldS h4 (q42.add ((i8 : Int).toNat * 1)) fun x43 =>
          ixS x43 k10 fun q45 =>
          ldI .i64 h4 (q45.add ((k10 : Int).toNat * 1)) fun x46 =>
          ixS s15 x46 fun q47 =>
          ldB h4 (q47.add ((x46 : Int).toNat * 1)) fun x48 =>
          k x48) J) ∧ ∀ x49, J x49 →
        I_2 x49 (IntKind.i64.wrap (k10 + 1)) ∧ m_2 x49 (IntKind.i64.wrap (k10 + 1)) < m_2 behind9 k10) (
        ∃ (y52 : Sv) (y52_1 : Int) (y52_2 : Sv) (y52_3 : Sv) (y52_4 : Sv), cl h4 p2 = some (Value.slice y52.a y52.n y52.c) ∧ cl h4 (p2.add 1) = some (Value.int .i64 y52_1) ∧ cl h4 (p2.add 2) = some (Value.slice y52_2.a y52_2.n y52_2.c) ∧ cl h4 (p2.add 3) = some (Value.slice y52_3.a y52_3.n y52_3.c) ∧ cl h4 (p2.add 4) = some (Value.slice y52_4.a y52_4.n y52_4.c) ∧
        cal Try.prog 30 #[Value.agg #[Value.slice y52.a y52.n y52.c, Value.int .i64 y52_1, Value.slice y52_2.a y52_2.n y52_2.c, Value.slice y52_3.a y52_3.n y52_3.c, Value.slice y52_4.a y52_4.n y52_4.c], Value.int .i64 i8, Value.int .i64 e1, Value.bool behind9] h4 fun u h5 => asB u fun x56 =>
        ixS s15 i8 fun q57 =>
        sto h5 (q57.add ((i8 : Int).toNat * 1)) (Value.bool x56) fun h6 =>
        I_1 (IntKind.i64.wrap (i8 + 1)) h6 ∧ m_1 (IntKind.i64.wrap (i8 + 1)) h6 < m_1 i8 h4)) (
      I (IntKind.i64.wrap (round7 + 1)) h4 ∧ m (IntKind.i64.wrap (round7 + 1)) h4 < m round7 h3)) (
    R (Value.slice s15.a s15.n s15.c) h3)

set_option maxRecDepth 100000 in

theorem F20 {p0 p0_1 p0_2 p0_3 p0_4 e1 h : _} {R : Value → Heap → Prop} (H : L20 p0 p0_1 p0_2 p0_3 p0_4 e1 h R) : CallsH Try.prog 20 #[Value.agg #[Value.slice p0.a p0.n p0.c, Value.int .i64 p0_1, Value.slice p0_2.a p0_2.n p0_2.c, Value.slice p0_3.a p0_3.n p0_3.c, Value.slice p0_4.a p0_4.n p0_4.c], Value.int .i64 e1] h R := by
  refine CallsH.enter (n := 59) Try.func20 rfl rfl rfl rfl ?_
  intro w0 aa ww S
  unfold L20 at H
  refine W.seq ?_
  replace S := S.sub [(0, Value.agg #[Value.slice p0.a p0.n p0.c, Value.int .i64 p0_1, Value.slice p0_2.a p0_2.n p0_2.c, Value.slice p0_3.a p0_3.n p0_3.c, Value.slice p0_4.a p0_4.n p0_4.c]), (1, Value.int .i64 e1)] ⟨rfl, rfl, trivial⟩
  refine W.region ?_
  refine ol_box S H rfl rfl rfl trivial ?_
  clear S H aa; intro p2 aa ww h1 H S
  refine OL.pure S (Lf.run_assign (S.ev rfl)) rfl rfl trivial ?_
  clear S; intro aa S
  refine OL.nil ?_
  refine W.seq ?_
  replace S := S.sub [(1, Value.int .i64 e1), (2, Value.pointer (some p2))] ⟨rfl, rfl, trivial⟩
  refine W.region ?_
  refine OL.pure S (Lf.run_fa (S.ev rfl) fa25_0) rfl rfl trivial ?_
  clear S; intro aa S
  obtain ⟨x12, c, H⟩ := H
  refine OL.pure S (Lf.run_ld (S.ev rfl) fl22 (S.cl c)) rfl rfl trivial ?_
  clear S; intro aa S
  refine OL.pure S (Lf.run_lens (S.ev rfl) rfl Try.underlying22) rfl rfl trivial ?_
  clear S; intro aa S
  refine OL.pure S (Lf.run_assign (S.ev rfl)) rfl rfl trivial ?_
  clear S; intro aa S
  refine OL.nil ?_
  refine W.seq ?_
  replace S := S.sub [(1, Value.int .i64 e1), (2, Value.pointer (some p2)), (5, Value.int .i64 ((x12.n : Nat) : Int))] ⟨rfl, rfl, rfl, trivial⟩
  refine W.region ?_
  refine OL.pure S (Lf.run_move (S.ev rfl)) rfl rfl trivial ?_
  clear S; intro aa S
  refine ol_mkS S H Try.underlying54 ti4 rfl rfl rfl trivial ?_
  clear S H aa; intro s15 aa ww h2 H S
  refine OL.pure S (Lf.run_assign (S.ev rfl)) rfl rfl trivial ?_
  clear S; intro aa S
  refine OL.nil ?_
  refine W.seq ?_
  refine W.seq ?_
  replace S := S.sub [(1, Value.int .i64 e1), (2, Value.pointer (some p2)), (5, Value.int .i64 ((x12.n : Nat) : Int)), (6, Value.slice s15.a s15.n s15.c)] ⟨rfl, rfl, rfl, rfl, trivial⟩
  refine W.region ?_
  refine OL.pure S (Lf.run_assign (S.ev rfl)) rfl rfl trivial ?_
  clear S; intro aa S
  refine OL.nil ?_
  refine W.block ?_
  obtain ⟨I, m, H, HB_2⟩ := H
  refine W.loopS (σ := Int × Heap) (fun s aa ww => St 59 [(1, Value.int .i64 e1), (2, Value.pointer (some p2)), (5, Value.int .i64 ((x12.n : Nat) : Int)), (6, Value.slice s15.a s15.n s15.c), (7, Value.int .i64 s.1)] s.2 w0 aa ww ∧ I s.1 s.2) (fun s => m s.1 s.2) (0, h2) ⟨S.sub _ ⟨rfl, rfl, rfl, rfl, rfl, trivial⟩, H⟩ ?_
  clear H S aa
  rintro ⟨round7, h3⟩ aa ww ⟨S, HI⟩
  replace S : St 59 [(1, Value.int .i64 e1), (2, Value.pointer (some p2)), (5, Value.int .i64 ((x12.n : Nat) : Int)), (6, Value.slice s15.a s15.n s15.c), (7, Value.int .i64 round7)] h3 w0 aa ww := S
  have H := HB_2 round7 h3 HI
  clear HI
  refine W.seq ?_
  refine W.seq ?_
  replace S := S.sub [(1, Value.int .i64 e1), (2, Value.pointer (some p2)), (5, Value.int .i64 ((x12.n : Nat) : Int)), (6, Value.slice s15.a s15.n s15.c), (7, Value.int .i64 round7)] ⟨rfl, rfl, rfl, rfl, rfl, trivial⟩
  refine W.region ?_
  refine OL.pure S (Lf.run_move (S.ev rfl)) rfl rfl trivial ?_
  clear S; intro aa S
  refine OL.pure S (Lf.run_move (S.ev rfl)) rfl rfl trivial ?_
  clear S; intro aa S
  refine OL.pure S (Lf.run_leq (S.ev rfl) (S.ev rfl)) rfl rfl trivial ?_
  clear S; intro aa S
  refine OL.nil ?_
  refine W.cond S (b := (decide (round7 ≤ ((x12.n : Nat) : Int)))) rfl (fun hb => ?_) (fun hb => ?_)
  · replace H := H.1 hb
    refine W.skip ?_
    refine W.seq ?_
    refine W.block ?_
    refine W.seq ?_
    replace S := S.sub [(1, Value.int .i64 e1), (2, Value.pointer (some p2)), (5, Value.int .i64 ((x12.n : Nat) : Int)), (6, Value.slice s15.a s15.n s15.c), (7, Value.int .i64 round7)] ⟨rfl, rfl, rfl, rfl, rfl, trivial⟩
    refine W.region ?_
    refine OL.pure S (Lf.run_assign (S.ev rfl)) rfl rfl trivial ?_
    clear S; intro aa S
    refine OL.nil ?_
    refine W.block ?_
    obtain ⟨I_1, m_1, H, HB_1⟩ := H
    refine W.loopS (σ := Int × Heap) (fun s aa ww => St 59 [(1, Value.int .i64 e1), (2, Value.pointer (some p2)), (5, Value.int .i64 ((x12.n : Nat) : Int)), (6, Value.slice s15.a s15.n s15.c), (7, Value.int .i64 round7), (8, Value.int .i64 s.1)] s.2 w0 aa ww ∧ I_1 s.1 s.2) (fun s => m_1 s.1 s.2) (0, h3) ⟨S.sub _ ⟨rfl, rfl, rfl, rfl, rfl, rfl, trivial⟩, H⟩ ?_
    clear H S aa
    rintro ⟨i8, h4⟩ aa ww ⟨S, HI⟩
    replace S : St 59 [(1, Value.int .i64 e1), (2, Value.pointer (some p2)), (5, Value.int .i64 ((x12.n : Nat) : Int)), (6, Value.slice s15.a s15.n s15.c), (7, Value.int .i64 round7), (8, Value.int .i64 i8)] h4 w0 aa ww := S
    have H := HB_1 i8 h4 HI
    clear HI
    refine W.seq ?_
    refine W.seq ?_
    replace S := S.sub [(1, Value.int .i64 e1), (2, Value.pointer (some p2)), (5, Value.int .i64 ((x12.n : Nat) : Int)), (6, Value.slice s15.a s15.n s15.c), (7, Value.int .i64 round7), (8, Value.int .i64 i8)] ⟨rfl, rfl, rfl, rfl, rfl, rfl, trivial⟩
    refine W.region ?_
    refine OL.pure S (Lf.run_move (S.ev rfl)) rfl rfl trivial ?_
    clear S; intro aa S
    refine OL.pure S (Lf.run_move (S.ev rfl)) rfl rfl trivial ?_
    clear S; intro aa S
    refine OL.pure S (Lf.run_lss (S.ev rfl) (S.ev rfl)) rfl rfl trivial ?_
    clear S; intro aa S
    refine OL.nil ?_
    refine W.cond S (b := (decide (i8 < ((x12.n : Nat) : Int)))) rfl (fun hb_1 => ?_) (fun hb_1 => ?_)
    · replace H := H.1 hb_1
      refine W.skip ?_
      refine W.seq ?_
      refine W.block ?_
      refine W.seq ?_
      replace S := S.sub [(1, Value.int .i64 e1), (2, Value.pointer (some p2)), (5, Value.int .i64 ((x12.n : Nat) : Int)), (6, Value.slice s15.a s15.n s15.c), (7, Value.int .i64 round7), (8, Value.int .i64 i8)] ⟨rfl, rfl, rfl, rfl, rfl, rfl, trivial⟩
      refine W.region ?_
      refine OL.pure S (Lf.run_assign (S.ev rfl)) rfl rfl trivial ?_
      clear S; intro aa S
      refine OL.nil ?_
      refine W.seq ?_
      refine W.seq ?_
      replace S := S.sub [(1, Value.int .i64 e1), (2, Value.pointer (some p2)), (5, Value.int .i64 ((x12.n : Nat) : Int)), (6, Value.slice s15.a s15.n s15.c), (7, Value.int .i64 round7), (8, Value.int .i64 i8), (9, Value.bool false)] ⟨rfl, rfl, rfl, rfl, rfl, rfl, rfl, trivial⟩
      refine W.region ?_
      refine OL.pure S (Lf.run_assign (S.ev rfl)) rfl rfl trivial ?_
      clear S; intro aa S
      refine OL.nil ?_
      refine W.block ?_
      obtain ⟨I_2, m_2, H, HB⟩ := H
      refine W.loopS (σ := Bool × Int) (fun s aa ww => St 59 [(1, Value.int .i64 e1), (2, Value.pointer (some p2)), (5, Value.int .i64 ((x12.n : Nat) : Int)), (6, Value.slice s15.a s15.n s15.c), (7, Value.int .i64 round7), (8, Value.int .i64 i8), (9, Value.bool s.1), (10, Value.int .i64 s.2)] h4 w0 aa ww ∧ I_2 s.1 s.2) (fun s => m_2 s.1 s.2) (false, 0) ⟨S.sub _ ⟨rfl, rfl, rfl, rfl, rfl, rfl, rfl, rfl, trivial⟩, H⟩ ?_
      clear H S aa
      rintro ⟨behind9, k10⟩ aa ww ⟨S, HI⟩
      replace S : St 59 [(1, Value.int .i64 e1), (2, Value.pointer (some p2)), (5, Value.int .i64 ((x12.n : Nat) : Int)), (6, Value.slice s15.a s15.n s15.c), (7, Value.int .i64 round7), (8, Value.int .i64 i8), (9, Value.bool behind9), (10, Value.int .i64 k10)] h4 w0 aa ww := S
      have H := HB behind9 k10 HI
      clear HI
      refine W.seq ?_
      refine W.seq ?_
      replace S := S.sub [(1, Value.int .i64 e1), (2, Value.pointer (some p2)), (5, Value.int .i64 ((x12.n : Nat) : Int)), (6, Value.slice s15.a s15.n s15.c), (7, Value.int .i64 round7), (8, Value.int .i64 i8), (9, Value.bool behind9), (10, Value.int .i64 k10)] ⟨rfl, rfl, rfl, rfl, rfl, rfl, rfl, rfl, trivial⟩
      refine W.region ?_
      refine OL.pure S (Lf.run_move (S.ev rfl)) rfl rfl trivial ?_
      clear S; intro aa S
      refine OL.pure S (Lf.run_fa (S.ev rfl) fa25_0) rfl rfl trivial ?_
      clear S; intro aa S
      obtain ⟨x28, c_1, H⟩ := H
      refine OL.pure S (Lf.run_ld (S.ev rfl) fl22 (S.cl c_1)) rfl rfl trivial ?_
      clear S; intro aa S
      refine OL.pure S (Lf.run_move (S.ev rfl)) rfl rfl trivial ?_
      clear S; intro aa S
      obtain ⟨q30, e, e_1, e_2, H⟩ := H
      refine OL.pure S (Lf.run_ixs (S.ev rfl) (S.ev rfl) Try.underlying22 ti23 e e_1 e_2) rfl rfl trivial ?_
      clear S; intro aa S
      obtain ⟨x31, c_2, H⟩ := H
      refine OL.pure S (Lf.run_ld (S.ev rfl) fl23 (S.cl c_2)) rfl rfl trivial ?_
      clear S; intro aa S
      refine OL.pure S (Lf.run_lens (S.ev rfl) rfl Try.underlying23) rfl rfl trivial ?_
      clear S; intro aa S
      refine OL.pure S (Lf.run_lss (S.ev rfl) (S.ev rfl)) rfl rfl trivial ?_
      clear S; intro aa S
      refine OL.nil ?_
      refine W.cond S (b := (decide (k10 < ((x31.n : Nat) : Int)))) rfl (fun hb_2 => ?_) (fun hb_2 => ?_)
      · replace H := H.1 hb_2
        refine W.skip ?_
        refine W.seq ?_
        refine W.block ?_
        replace S := S.sub [(1, Value.int .i64 e1), (2, Value.pointer (some p2)), (5, Value.int .i64 ((x12.n : Nat) : Int)), (6, Value.slice s15.a s15.n s15.c), (7, Value.int .i64 round7), (8, Value.int .i64 i8), (9, Value.bool behind9), (10, Value.int .i64 k10)] ⟨rfl, rfl, rfl, rfl, rfl, rfl, rfl, rfl, trivial⟩
        refine W.region ?_
        refine OL.pure S (Lf.run_move (S.ev rfl)) rfl rfl trivial ?_
        clear S; intro aa S
        refine OL.pure S (Lf.run_move (S.ev rfl)) rfl rfl trivial ?_
        clear S; intro aa S
        obtain ⟨J, H, HK⟩ := H
        refine OL.cutN 12 (fun aa ww => ∃ x49, St 59 ((49, Value.bool x49) :: [(1, Value.int .i64 e1), (2, Value.pointer (some p2)), (5, Value.int .i64 ((x12.n : Nat) : Int)), (6, Value.slice s15.a s15.n s15.c), (7, Value.int .i64 round7), (8, Value.int .i64 i8), (9, Value.bool behind9), (10, Value.int .i64 k10), (36, Value.bool behind9), (37, Value.bool behind9)]) h4 w0 aa ww ∧ J x49) ?_ ?_
        · rcases Bool.eq_false_or_eq_true behind9 with hb_3 | hb_3
          · replace H := H.1 hb_3
            refine OL.not S rfl rfl (GNo.mk rfl rfl hb_3) ?_
            clear S; intro aa S
            refine OL.not S rfl rfl (GNo.mk rfl rfl hb_3) ?_
            clear S; intro aa S
            refine OL.not S rfl rfl (GNo.mk rfl rfl hb_3) ?_
            clear S; intro aa S
            refine OL.not S rfl rfl (GNo.mk rfl rfl hb_3) ?_
            clear S; intro aa S
            refine OL.not S rfl rfl (GNo.mk rfl rfl hb_3) ?_
            clear S; intro aa S
            refine OL.not S rfl rfl (GNo.mk rfl rfl hb_3) ?_
            clear S; intro aa S
            refine OL.not S rfl rfl (GNo.mk rfl rfl hb_3) ?_
            clear S; intro aa S
            refine OL.not S rfl rfl (GNo.mk rfl rfl hb_3) ?_
            clear S; intro aa S
            refine OL.not S rfl rfl (GNo.mk rfl rfl hb_3) ?_
            clear S; intro aa S
            refine OL.not S rfl rfl (GNo.mk rfl rfl hb_3) ?_
            clear S; intro aa S
            refine OL.not S rfl rfl (GNo.mk rfl rfl hb_3) ?_
            clear S; intro aa S
            refine OL.pure S (Lf.run_pickT (S.ev rfl) hb_3 (S.ev rfl)) rfl rfl trivial ?_
            clear S; intro aa S
            refine OL.nil ?_
            exact ⟨_, S.sub _ ⟨rfl, rfl, rfl, rfl, rfl, rfl, rfl, rfl, rfl, rfl, rfl, trivial⟩, H⟩
          · replace H := H.2 hb_3
            refine OL.pure S (Lf.run_move (S.ev rfl)) rfl rfl (GOk.mk rfl rfl hb_3) ?_
            clear S; intro aa S
            refine OL.pure S (Lf.run_fa (S.ev rfl) fa25_0) rfl rfl (GOk.mk rfl rfl hb_3) ?_
            clear S; intro aa S
            obtain ⟨x40, c_3, H⟩ := H
            refine OL.pure S (Lf.run_ld (S.ev rfl) fl22 (S.cl c_3)) rfl rfl (GOk.mk rfl rfl hb_3) ?_
            clear S; intro aa S
            refine OL.pure S (Lf.run_move (S.ev rfl)) rfl rfl (GOk.mk rfl rfl hb_3) ?_
            clear S; intro aa S
            obtain ⟨q42, e_3, e_4, e_5, H⟩ := H
            refine OL.pure S (Lf.run_ixs (S.ev rfl) (S.ev rfl) Try.underlying22 ti23 e_3 e_4 e_5) rfl rfl (GOk.mk rfl rfl hb_3) ?_
            clear S; intro aa S
            obtain ⟨x43, c_4, H⟩ := H
            refine OL.pure S (Lf.run_ld (S.ev rfl) fl23 (S.cl c_4)) rfl rfl (GOk.mk rfl rfl hb_3) ?_
            clear S; intro aa S
            refine OL.pure S (Lf.run_move (S.ev rfl)) rfl rfl (GOk.mk rfl rfl hb_3) ?_
            clear S; intro aa S
            obtain ⟨q45, e_6, e_7, e_8, H⟩ := H
            refine OL.pure S (Lf.run_ixs (S.ev rfl) (S.ev rfl) Try.underlying23 ti3 e_6 e_7 e_8) rfl rfl (GOk.mk rfl rfl hb_3) ?_
            clear S; intro aa S
            obtain ⟨x46, c_5, H⟩ := H
            refine OL.pure S (Lf.run_ld (S.ev rfl) fl3 (S.cl c_5)) rfl rfl (GOk.mk rfl rfl hb_3) ?_
            clear S; intro aa S
            obtain ⟨q47, e_9, e_10, e_11, H⟩ := H
            refine OL.pure S (Lf.run_ixs (S.ev rfl) (S.ev rfl) Try.underlying54 ti4 e_9 e_10 e_11) rfl rfl (GOk.mk rfl rfl hb_3) ?_
            clear S; intro aa S
            obtain ⟨x48, c_6, H⟩ := H
            refine OL.pure S (Lf.run_ld (S.ev rfl) fl4 (S.cl c_6)) rfl rfl (GOk.mk rfl rfl hb_3) ?_
            clear S; intro aa S
            refine OL.pure S (Lf.run_pickF (S.ev rfl) hb_3 (S.ev rfl)) rfl rfl trivial ?_
            clear S; intro aa S
            refine OL.nil ?_
            exact ⟨_, S.sub _ ⟨rfl, rfl, rfl, rfl, rfl, rfl, rfl, rfl, rfl, rfl, rfl, trivial⟩, H⟩
        · clear S aa
          rintro aa ww ⟨x49, S, HJ⟩
          replace H := HK _ HJ
          clear HK HJ
          refine OL.pure S (Lf.run_assign (S.ev rfl)) rfl rfl trivial ?_
          clear S; intro aa S
          refine OL.nil ?_
          replace S := S.sub [(1, Value.int .i64 e1), (2, Value.pointer (some p2)), (5, Value.int .i64 ((x12.n : Nat) : Int)), (6, Value.slice s15.a s15.n s15.c), (7, Value.int .i64 round7), (8, Value.int .i64 i8), (9, Value.bool x49), (10, Value.int .i64 k10)] ⟨rfl, rfl, rfl, rfl, rfl, rfl, rfl, rfl, trivial⟩
          refine W.region ?_
          refine OL.pure S (Lf.run_move (S.ev rfl)) rfl rfl trivial ?_
          clear S; intro aa S
          refine OL.pure S (Lf.run_add (S.ev rfl) (S.ev rfl)) rfl rfl trivial ?_
          clear S; intro aa S
          refine OL.pure S (Lf.run_assign (S.ev rfl)) rfl rfl trivial ?_
          clear S; intro aa S
          refine OL.nil ?_
          exact ⟨(x49, (IntKind.i64.wrap (k10 + 1))), ⟨S.sub _ ⟨rfl, rfl, rfl, rfl, rfl, rfl, rfl, rfl, trivial⟩, H.1⟩, H.2⟩
      · replace H := H.2 hb_2
        refine W.exit_ ?_
        refine xhit ?_
        replace S := S.sub [(1, Value.int .i64 e1), (2, Value.pointer (some p2)), (5, Value.int .i64 ((x12.n : Nat) : Int)), (6, Value.slice s15.a s15.n s15.c), (7, Value.int .i64 round7), (8, Value.int .i64 i8), (9, Value.bool behind9)] ⟨rfl, rfl, rfl, rfl, rfl, rfl, rfl, trivial⟩
        refine W.region ?_
        refine OL.pure S (Lf.run_move (S.ev rfl)) rfl rfl trivial ?_
        clear S; intro aa S
        refine OL.pure S (Lf.run_move (S.ev rfl)) rfl rfl trivial ?_
        clear S; intro aa S
        obtain ⟨y52, y52_1, y52_2, y52_3, y52_4, c_8, c_9, c_10, c_11, c_12, H⟩ := H
        refine OL.pure S (Lf.run_ldA (cs := [Value.slice y52.a y52.n y52.c, Value.int .i64 y52_1, Value.slice y52_2.a y52_2.n y52_2.c, Value.slice y52_3.a y52_3.n y52_3.c, Value.slice y52_4.a y52_4.n y52_4.c]) (S.ev rfl) ag25 ti25 (by rw [S.heap]; exact RowL.toRow ⟨c_8, c_9, c_10, c_11, c_12, trivial⟩)) rfl rfl trivial ?_
        clear S; intro aa S
        refine OL.pure S (Lf.run_move (S.ev rfl)) rfl rfl trivial ?_
        clear S; intro aa S
        refine OL.pure S (Lf.run_move (S.ev rfl)) rfl rfl trivial ?_
        clear S; intro aa S
        refine OL.pure S (Lf.run_move (S.ev rfl)) rfl rfl trivial ?_
        clear S; intro aa S
        refine ol_cal S H isfn30 rfl rfl trivial ?_
        clear S H aa; intro u aa ww h5 H S
        obtain ⟨x56, rfl, H⟩ := H
        obtain ⟨q57, e_12, e_13, e_14, H⟩ := H
        refine OL.pure S (Lf.run_ixs (S.ev rfl) (S.ev rfl) Try.underlying54 ti4 e_12 e_13 e_14) rfl rfl trivial ?_
        clear S; intro aa S
        refine ol_sto S H rfl rfl rfl ti4 trivial ?_
        clear S H aa; intro aa ww h6 H S
        refine OL.nil ?_
        replace S := S.sub [(1, Value.int .i64 e1), (2, Value.pointer (some p2)), (5, Value.int .i64 ((x12.n : Nat) : Int)), (6, Value.slice s15.a s15.n s15.c), (7, Value.int .i64 round7), (8, Value.int .i64 i8)] ⟨rfl, rfl, rfl, rfl, rfl, rfl, trivial⟩
        refine W.region ?_
        refine OL.pure S (Lf.run_move (S.ev rfl)) rfl rfl trivial ?_
        clear S; intro aa S
        refine OL.pure S (Lf.run_add (S.ev rfl) (S.ev rfl)) rfl rfl trivial ?_
        clear S; intro aa S
        refine OL.pure S (Lf.run_assign (S.ev rfl)) rfl rfl trivial ?_
        clear S; intro aa S
        refine OL.nil ?_
        exact ⟨((IntKind.i64.wrap (i8 + 1)), h6), ⟨S.sub _ ⟨rfl, rfl, rfl, rfl, rfl, rfl, trivial⟩, H.1⟩, H.2⟩
    · replace H := H.2 hb_1
      refine W.exit_ ?_
      refine xhit ?_
      replace S := S.sub [(1, Value.int .i64 e1), (2, Value.pointer (some p2)), (5, Value.int .i64 ((x12.n : Nat) : Int)), (6, Value.slice s15.a s15.n s15.c), (7, Value.int .i64 round7)] ⟨rfl, rfl, rfl, rfl, rfl, trivial⟩
      refine W.region ?_
      refine OL.pure S (Lf.run_move (S.ev rfl)) rfl rfl trivial ?_
      clear S; intro aa S
      refine OL.pure S (Lf.run_add (S.ev rfl) (S.ev rfl)) rfl rfl trivial ?_
      clear S; intro aa S
      refine OL.pure S (Lf.run_assign (S.ev rfl)) rfl rfl trivial ?_
      clear S; intro aa S
      refine OL.nil ?_
      exact ⟨((IntKind.i64.wrap (round7 + 1)), h4), ⟨S.sub _ ⟨rfl, rfl, rfl, rfl, rfl, trivial⟩, H.1⟩, H.2⟩
  · replace H := H.2 hb
    refine W.exit_ ?_
    refine xhit ?_
    refine W.seq ?_
    replace S := S.sub [(6, Value.slice s15.a s15.n s15.c)] ⟨rfl, trivial⟩
    refine W.region ?_
    refine OL.pure S (Lf.run_move (S.ev rfl)) rfl rfl trivial ?_
    clear S; intro aa S
    refine OL.pure S (Lf.run_assign (S.ev rfl)) rfl rfl trivial ?_
    clear S; intro aa S
    refine OL.nil ?_
    refine W.ret ?_
    exact Ret.one S rfl rfl H

/-- (*chattel flow.Answer).List -/
def L21 (a0 : Option Addr) (i1 : Int) (h : Heap) (R : Value → Heap → Prop) : Prop :=
  ifb (Option.isNone a0) (
    R (Value.slice (⟨none, 0, 0⟩ : Sv).a (⟨none, 0, 0⟩ : Sv).n (⟨none, 0, 0⟩ : Sv).c) h) (
    nn a0 fun p10 =>
    ldI .i64 h p10 fun x12 =>
    ∃ (I : Sv → Int → Heap → Prop) (m : Sv → Int → Heap → Nat), I (⟨none, 0, 0⟩ : Sv) 0 h ∧ ∀ l5 x13 h1, I l5 x13 h1 →
    ifb (decide (x13 < x12)) (
      ∃ J : Sv → Heap → Prop, (
        cal Try.prog 14 #[Value.pointer a0, Value.int .i64 i1, Value.int .i64 x13] h1 fun u h2 => asB u fun x19 =>
        ifb x19 (
          newS 3 #[Value.int .i64 x13] 1 h2 fun s22 h3 =>
          appS 3 (Value.int .i64 0).cells 1 8 h3 l5 s22 fun s23 h4 =>
          J s23 h4) (
          J l5 h2)) ∧ (∀ l5_1 h5, J l5_1 h5 →
      I l5_1 (IntKind.i64.wrap (x13 + 1)) h5 ∧ m l5_1 (IntKind.i64.wrap (x13 + 1)) h5 < m l5 x13 h1)) (
      R (Value.slice l5.a l5.n l5.c) h1))

set_option maxRecDepth 100000 in

theorem F21 {a0 i1 h : _} {R : Value → Heap → Prop} (H : L21 a0 i1 h R) : CallsH Try.prog 21 #[Value.pointer a0, Value.int .i64 i1] h R := by
  refine CallsH.enter (n := 26) Try.func21 rfl rfl rfl rfl ?_
  intro w0 aa ww S
  unfold L21 at H
  refine W.seq ?_
  replace S := S.sub [(0, Value.pointer a0), (1, Value.int .i64 i1)] ⟨rfl, rfl, trivial⟩
  refine W.region ?_
  refine OL.pure S (Lf.run_assign (S.ev rfl)) rfl rfl trivial ?_
  clear S; intro aa S
  refine OL.nil ?_
  refine W.seq ?_
  refine W.seq ?_
  replace S := S.sub [(0, Value.pointer a0), (1, Value.int .i64 i1)] ⟨rfl, rfl, trivial⟩
  refine W.region ?_
  refine OL.pure S (Lf.run_move (S.ev rfl)) rfl rfl trivial ?_
  clear S; intro aa S
  refine OL.pure S (Lf.run_eqlpn Try.underlying29 (S.ev rfl) (S.ev rfl)) rfl rfl trivial ?_
  clear S; intro aa S
  refine OL.nil ?_
  refine W.cond S (b := (Option.isNone a0)) rfl (fun hb => ?_) (fun hb => ?_)
  · replace H := H.1 hb
    refine W.seq ?_
    replace S := S.sub [] trivial
    refine W.region ?_
    refine OL.pure S (Lf.run_assign (S.ev rfl)) rfl rfl trivial ?_
    clear S; intro aa S
    refine OL.nil ?_
    refine W.ret ?_
    exact Ret.one S rfl rfl H
  · replace H := H.2 hb
    refine W.skip ?_
    refine W.seq ?_
    replace S := S.sub [(0, Value.pointer a0), (1, Value.int .i64 i1)] ⟨rfl, rfl, trivial⟩
    refine W.region ?_
    refine OL.pure S (Lf.run_assign (S.ev rfl)) rfl rfl trivial ?_
    clear S; intro aa S
    refine OL.nil ?_
    refine W.seq ?_
    refine W.seq ?_
    replace S := S.sub [(0, Value.pointer a0), (1, Value.int .i64 i1), (5, Value.slice (⟨none, 0, 0⟩ : Sv).a (⟨none, 0, 0⟩ : Sv).n (⟨none, 0, 0⟩ : Sv).c)] ⟨rfl, rfl, rfl, trivial⟩
    refine W.region ?_
    refine OL.pure S (Lf.run_move (S.ev rfl)) rfl rfl trivial ?_
    clear S; intro aa S
    obtain ⟨p10, e, H⟩ := H
    refine OL.pure S (Lf.run_nc' (S.ev rfl) e) rfl rfl trivial ?_
    clear S; intro aa S
    refine OL.pure S (Lf.run_fa (S.ev rfl) fa49_0) rfl rfl trivial ?_
    clear S; intro aa S
    obtain ⟨x12, c, H⟩ := H
    refine OL.pure S (Lf.run_ld (S.ev rfl) fl3 (S.cl c)) rfl rfl trivial ?_
    clear S; intro aa S
    refine OL.pure S (Lf.run_move (S.ev rfl)) rfl rfl trivial ?_
    clear S; intro aa S
    refine OL.nil ?_
    refine W.block ?_
    obtain ⟨I, m, H, HB⟩ := H
    refine W.loopS (σ := Sv × Int × Heap) (fun s aa ww => St 26 [(0, Value.pointer a0), (1, Value.int .i64 i1), (5, Value.slice s.1.a s.1.n s.1.c), (12, Value.int .i64 x12), (13, Value.int .i64 s.2.1)] s.2.2 w0 aa ww ∧ I s.1 s.2.1 s.2.2) (fun s => m s.1 s.2.1 s.2.2) ((⟨none, 0, 0⟩ : Sv), 0, h) ⟨S.sub _ ⟨rfl, rfl, rfl, rfl, rfl, trivial⟩, H⟩ ?_
    clear H S aa
    rintro ⟨l5, x13, h1⟩ aa ww ⟨S, HI⟩
    replace S : St 26 [(0, Value.pointer a0), (1, Value.int .i64 i1), (5, Value.slice l5.a l5.n l5.c), (12, Value.int .i64 x12), (13, Value.int .i64 x13)] h1 w0 aa ww := S
    have H := HB l5 x13 h1 HI
    clear HI
    refine W.seq ?_
    replace S := S.sub [(0, Value.pointer a0), (1, Value.int .i64 i1), (5, Value.slice l5.a l5.n l5.c), (12, Value.int .i64 x12), (13, Value.int .i64 x13)] ⟨rfl, rfl, rfl, rfl, rfl, trivial⟩
    refine W.region ?_
    refine OL.pure S (Lf.run_lss (S.ev rfl) (S.ev rfl)) rfl rfl trivial ?_
    clear S; intro aa S
    refine OL.nil ?_
    refine W.seq ?_
    refine W.cond S (b := (decide (x13 < x12))) rfl (fun hb_1 => ?_) (fun hb_1 => ?_)
    · replace H := H.1 hb_1
      refine W.skip ?_
      obtain ⟨J, H, HK⟩ := H
      refine W.seqJ (fun aa ww => ∃ l5_1 h5, St 26 [(0, Value.pointer a0), (1, Value.int .i64 i1), (5, Value.slice l5_1.a l5_1.n l5_1.c), (12, Value.int .i64 x12), (13, Value.int .i64 x13)] h5 w0 aa ww ∧ J l5_1 h5) ?_ ?_
      · clear HK
        refine W.block ?_
        refine W.seq ?_
        replace S := S.sub [(0, Value.pointer a0), (1, Value.int .i64 i1), (5, Value.slice l5.a l5.n l5.c), (12, Value.int .i64 x12), (13, Value.int .i64 x13)] ⟨rfl, rfl, rfl, rfl, rfl, trivial⟩
        refine W.region ?_
        refine OL.pure S (Lf.run_move (S.ev rfl)) rfl rfl trivial ?_
        clear S; intro aa S
        refine OL.pure S (Lf.run_assign (S.ev rfl)) rfl rfl trivial ?_
        clear S; intro aa S
        refine OL.nil ?_
        refine W.seq ?_
        replace S := S.sub [(0, Value.pointer a0), (1, Value.int .i64 i1), (5, Value.slice l5.a l5.n l5.c), (6, Value.int .i64 x13), (12, Value.int .i64 x12), (13, Value.int .i64 x13)] ⟨rfl, rfl, rfl, rfl, rfl, rfl, trivial⟩
        refine W.region ?_
        refine OL.pure S (Lf.run_move (S.ev rfl)) rfl rfl trivial ?_
        clear S; intro aa S
        refine OL.pure S (Lf.run_move (S.ev rfl)) rfl rfl trivial ?_
        clear S; intro aa S
        refine OL.pure S (Lf.run_move (S.ev rfl)) rfl rfl trivial ?_
        clear S; intro aa S
        refine ol_cal S H isfn14 rfl rfl trivial ?_
        clear S H aa; intro u aa ww h2 H S
        obtain ⟨x19, rfl, H⟩ := H
        refine OL.nil ?_
        refine W.cond S (b := x19) rfl (fun hb_2 => ?_) (fun hb_2 => ?_)
        · replace H := H.1 hb_2
          replace S := S.sub [(0, Value.pointer a0), (1, Value.int .i64 i1), (5, Value.slice l5.a l5.n l5.c), (6, Value.int .i64 x13), (12, Value.int .i64 x12), (13, Value.int .i64 x13)] ⟨rfl, rfl, rfl, rfl, rfl, rfl, trivial⟩
          refine W.region ?_
          refine OL.pure S (Lf.run_move (S.ev rfl)) rfl rfl trivial ?_
          clear S; intro aa S
          refine OL.pure S (Lf.run_move (S.ev rfl)) rfl rfl trivial ?_
          clear S; intro aa S
          refine ol_newS S H Try.underlying23 ti3 (by decide) (parts_map S rfl) (by kernel_rfl) (by decide) rfl trivial ?_
          clear S H aa; intro s22 aa ww h3 H S
          refine ol_appS S H Try.underlying23 ti3 rfl rfl rfl trivial ?_
          clear S H aa; intro s23 aa ww h4 H S
          refine OL.pure S (Lf.run_assign (S.ev rfl)) rfl rfl trivial ?_
          clear S; intro aa S
          refine OL.nil ?_
          exact ⟨s23, h4, S.sub _ ⟨rfl, rfl, rfl, rfl, rfl, trivial⟩, H⟩
        · replace H := H.2 hb_2
          refine W.skip ?_
          exact ⟨l5, h2, S.sub _ ⟨rfl, rfl, rfl, rfl, rfl, trivial⟩, H⟩
      · clear H S aa
        rintro aa ww ⟨l5_1, h5, S, HJ⟩
        have H := HK _ _ HJ
        clear HK HJ
        replace S := S.sub [(0, Value.pointer a0), (1, Value.int .i64 i1), (5, Value.slice l5_1.a l5_1.n l5_1.c), (12, Value.int .i64 x12), (13, Value.int .i64 x13)] ⟨rfl, rfl, rfl, rfl, rfl, trivial⟩
        refine W.region ?_
        refine OL.pure S (Lf.run_add (S.ev rfl) (S.ev rfl)) rfl rfl trivial ?_
        clear S; intro aa S
        refine OL.pure S (Lf.run_move (S.ev rfl)) rfl rfl trivial ?_
        clear S; intro aa S
        refine OL.nil ?_
        exact ⟨(l5_1, (IntKind.i64.wrap (x13 + 1)), h5), ⟨S.sub _ ⟨rfl, rfl, rfl, rfl, rfl, trivial⟩, H.1⟩, H.2⟩
    · replace H := H.2 hb_1
      refine W.exit_ ?_
      refine xhit ?_
      refine W.seq ?_
      replace S := S.sub [(5, Value.slice l5.a l5.n l5.c)] ⟨rfl, trivial⟩
      refine W.region ?_
      refine OL.pure S (Lf.run_move (S.ev rfl)) rfl rfl trivial ?_
      clear S; intro aa S
      refine OL.pure S (Lf.run_assign (S.ev rfl)) rfl rfl trivial ?_
      clear S; intro aa S
      refine OL.nil ?_
      refine W.ret ?_
      exact Ret.one S rfl rfl H

/-- chattel chattelref15.in -/
def L22 (l0 : Sv) (n1 : Int) (most2 : Int) (h : Heap) (R : Value → Heap → Prop) : Prop :=
  ∃ (I : Int → Prop) (m : Int → Nat), I 0 ∧ ∀ i7, I i7 →
  ifb (decide (i7 < ((l0.n : Nat) : Int))) (
    ∃ (I_1 : Int → Prop) (m_1 : Int → Nat), I_1 0 ∧ ∀ k8, I_1 k8 →
    ixS l0 i7 fun q18 =>
    ldS h (q18.add ((i7 : Int).toNat * 1)) fun x19 =>
    ifb (decide (k8 < ((x19.n : Nat) : Int))) (
      ixS l0 i7 fun q26 =>
      ldS h (q26.add ((i7 : Int).toNat * 1)) fun x27 =>
      ixS x27 k8 fun q29 =>
      ldI .i64 h (q29.add ((k8 : Int).toNat * 1)) fun x30 =>
      ∃ J : Bool → Prop, (orr (decide (x30 < 0)) (fun k =>
        ixS l0 i7 fun q35 =>
        ldS h (q35.add ((i7 : Int).toNat * 1)) fun x36 =>
        ixS x36 k8 fun q38 =>
        ldI .i64 h (q38.add ((k8 : Int).toNat * 1)) fun x39 =>
        k (decide (most2 ≤ x39))) J) ∧ ∀ x42, J x42 →
      ifb x42 (
        R (Value.bool false) h) (
        I_1 (IntKind.i64.wrap (k8 + 1)) ∧ m_1 (IntKind.i64.wrap (k8 + 1)) < m_1 k8)) (
      I (IntKind.i64.wrap (i7 + 1)) ∧ m (IntKind.i64.wrap (i7 + 1)) < m i7)) (
    R (Value.bool (decide (((l0.n : Nat) : Int) ≤ n1))) h)

set_option maxRecDepth 100000 in

theorem F22 {l0 n1 most2 h : _} {R : Value → Heap → Prop} (H : L22 l0 n1 most2 h R) : CallsH Try.prog 22 #[Value.slice l0.a l0.n l0.c, Value.int .i64 n1, Value.int .i64 most2] h R := by
  refine CallsH.enter (n := 47) Try.func22 rfl rfl rfl rfl ?_
  intro w0 aa ww S
  unfold L22 at H
  refine W.seq ?_
  replace S := S.sub [(0, Value.slice l0.a l0.n l0.c), (1, Value.int .i64 n1), (2, Value.int .i64 most2)] ⟨rfl, rfl, rfl, trivial⟩
  refine W.region ?_
  refine OL.pure S (Lf.run_assign (S.ev rfl)) rfl rfl trivial ?_
  clear S; intro aa S
  refine OL.nil ?_
  refine W.seq ?_
  refine W.seq ?_
  replace S := S.sub [(0, Value.slice l0.a l0.n l0.c), (1, Value.int .i64 n1), (2, Value.int .i64 most2)] ⟨rfl, rfl, rfl, trivial⟩
  refine W.region ?_
  refine OL.pure S (Lf.run_assign (S.ev rfl)) rfl rfl trivial ?_
  clear S; intro aa S
  refine OL.nil ?_
  refine W.block ?_
  obtain ⟨I, m, H, HB_1⟩ := H
  refine W.loopS (σ := Int) (fun s aa ww => St 47 [(0, Value.slice l0.a l0.n l0.c), (1, Value.int .i64 n1), (2, Value.int .i64 most2), (7, Value.int .i64 s)] h w0 aa ww ∧ I s) (fun s => m s) (0) ⟨S.sub _ ⟨rfl, rfl, rfl, rfl, trivial⟩, H⟩ ?_
  clear H S aa
  rintro i7 aa ww ⟨S, HI⟩
  replace S : St 47 [(0, Value.slice l0.a l0.n l0.c), (1, Value.int .i64 n1), (2, Value.int .i64 most2), (7, Value.int .i64 i7)] h w0 aa ww := S
  have H := HB_1 i7 HI
  clear HI
  refine W.seq ?_
  refine W.seq ?_
  replace S := S.sub [(0, Value.slice l0.a l0.n l0.c), (1, Value.int .i64 n1), (2, Value.int .i64 most2), (7, Value.int .i64 i7)] ⟨rfl, rfl, rfl, rfl, trivial⟩
  refine W.region ?_
  refine OL.pure S (Lf.run_move (S.ev rfl)) rfl rfl trivial ?_
  clear S; intro aa S
  refine OL.pure S (Lf.run_move (S.ev rfl)) rfl rfl trivial ?_
  clear S; intro aa S
  refine OL.pure S (Lf.run_lens (S.ev rfl) rfl Try.underlying22) rfl rfl trivial ?_
  clear S; intro aa S
  refine OL.pure S (Lf.run_lss (S.ev rfl) (S.ev rfl)) rfl rfl trivial ?_
  clear S; intro aa S
  refine OL.nil ?_
  refine W.cond S (b := (decide (i7 < ((l0.n : Nat) : Int)))) rfl (fun hb => ?_) (fun hb => ?_)
  · replace H := H.1 hb
    refine W.skip ?_
    refine W.seq ?_
    refine W.block ?_
    refine W.seq ?_
    replace S := S.sub [(0, Value.slice l0.a l0.n l0.c), (1, Value.int .i64 n1), (2, Value.int .i64 most2), (7, Value.int .i64 i7)] ⟨rfl, rfl, rfl, rfl, trivial⟩
    refine W.region ?_
    refine OL.pure S (Lf.run_assign (S.ev rfl)) rfl rfl trivial ?_
    clear S; intro aa S
    refine OL.nil ?_
    refine W.block ?_
    obtain ⟨I_1, m_1, H, HB⟩ := H
    refine W.loopS (σ := Int) (fun s aa ww => St 47 [(0, Value.slice l0.a l0.n l0.c), (1, Value.int .i64 n1), (2, Value.int .i64 most2), (7, Value.int .i64 i7), (8, Value.int .i64 s)] h w0 aa ww ∧ I_1 s) (fun s => m_1 s) (0) ⟨S.sub _ ⟨rfl, rfl, rfl, rfl, rfl, trivial⟩, H⟩ ?_
    clear H S aa
    rintro k8 aa ww ⟨S, HI⟩
    replace S : St 47 [(0, Value.slice l0.a l0.n l0.c), (1, Value.int .i64 n1), (2, Value.int .i64 most2), (7, Value.int .i64 i7), (8, Value.int .i64 k8)] h w0 aa ww := S
    have H := HB k8 HI
    clear HI
    refine W.seq ?_
    refine W.seq ?_
    replace S := S.sub [(0, Value.slice l0.a l0.n l0.c), (1, Value.int .i64 n1), (2, Value.int .i64 most2), (7, Value.int .i64 i7), (8, Value.int .i64 k8)] ⟨rfl, rfl, rfl, rfl, rfl, trivial⟩
    refine W.region ?_
    refine OL.pure S (Lf.run_move (S.ev rfl)) rfl rfl trivial ?_
    clear S; intro aa S
    refine OL.pure S (Lf.run_move (S.ev rfl)) rfl rfl trivial ?_
    clear S; intro aa S
    refine OL.pure S (Lf.run_move (S.ev rfl)) rfl rfl trivial ?_
    clear S; intro aa S
    obtain ⟨q18, e, e_1, e_2, H⟩ := H
    refine OL.pure S (Lf.run_ixs (S.ev rfl) (S.ev rfl) Try.underlying22 ti23 e e_1 e_2) rfl rfl trivial ?_
    clear S; intro aa S
    obtain ⟨x19, c, H⟩ := H
    refine OL.pure S (Lf.run_ld (S.ev rfl) fl23 (S.cl c)) rfl rfl trivial ?_
    clear S; intro aa S
    refine OL.pure S (Lf.run_lens (S.ev rfl) rfl Try.underlying23) rfl rfl trivial ?_
    clear S; intro aa S
    refine OL.pure S (Lf.run_lss (S.ev rfl) (S.ev rfl)) rfl rfl trivial ?_
    clear S; intro aa S
    refine OL.nil ?_
    refine W.cond S (b := (decide (k8 < ((x19.n : Nat) : Int)))) rfl (fun hb_1 => ?_) (fun hb_1 => ?_)
    · replace H := H.1 hb_1
      refine W.skip ?_
      refine W.seq ?_
      refine W.block ?_
      refine W.seq ?_
      replace S := S.sub [(0, Value.slice l0.a l0.n l0.c), (1, Value.int .i64 n1), (2, Value.int .i64 most2), (7, Value.int .i64 i7), (8, Value.int .i64 k8)] ⟨rfl, rfl, rfl, rfl, rfl, trivial⟩
      refine W.region ?_
      refine OL.pure S (Lf.run_move (S.ev rfl)) rfl rfl trivial ?_
      clear S; intro aa S
      refine OL.pure S (Lf.run_move (S.ev rfl)) rfl rfl trivial ?_
      clear S; intro aa S
      obtain ⟨q26, e_3, e_4, e_5, H⟩ := H
      refine OL.pure S (Lf.run_ixs (S.ev rfl) (S.ev rfl) Try.underlying22 ti23 e_3 e_4 e_5) rfl rfl trivial ?_
      clear S; intro aa S
      obtain ⟨x27, c_1, H⟩ := H
      refine OL.pure S (Lf.run_ld (S.ev rfl) fl23 (S.cl c_1)) rfl rfl trivial ?_
      clear S; intro aa S
      refine OL.pure S (Lf.run_move (S.ev rfl)) rfl rfl trivial ?_
      clear S; intro aa S
      obtain ⟨q29, e_6, e_7, e_8, H⟩ := H
      refine OL.pure S (Lf.run_ixs (S.ev rfl) (S.ev rfl) Try.underlying23 ti3 e_6 e_7 e_8) rfl rfl trivial ?_
      clear S; intro aa S
      obtain ⟨x30, c_2, H⟩ := H
      refine OL.pure S (Lf.run_ld (S.ev rfl) fl3 (S.cl c_2)) rfl rfl trivial ?_
      clear S; intro aa S
      refine OL.pure S (Lf.run_lss (S.ev rfl) (S.ev rfl)) rfl rfl trivial ?_
      clear S; intro aa S
      refine OL.pure S (Lf.run_move (S.ev rfl)) rfl rfl trivial ?_
      clear S; intro aa S
      obtain ⟨J, H, HK⟩ := H
      refine OL.cutN 10 (fun aa ww => ∃ x42, St 47 ((42, Value.bool x42) :: [(0, Value.slice l0.a l0.n l0.c), (1, Value.int .i64 n1), (2, Value.int .i64 most2), (7, Value.int .i64 i7), (8, Value.int .i64 k8), (24, Value.slice l0.a l0.n l0.c), (25, Value.int .i64 i7), (26, Value.pointer (some (q26.add ((i7 : Int).toNat * 1)))), (27, Value.slice x27.a x27.n x27.c), (28, Value.int .i64 k8), (29, Value.pointer (some (q29.add ((k8 : Int).toNat * 1)))), (30, Value.int .i64 x30), (31, Value.bool (decide (x30 < 0))), (32, Value.bool (decide (x30 < 0)))]) h w0 aa ww ∧ J x42) ?_ ?_
      · rcases Bool.eq_false_or_eq_true (decide (x30 < 0)) with hb_2 | hb_2
        · replace H := H.1 hb_2
          refine OL.not S rfl rfl (GNo.mk rfl rfl hb_2) ?_
          clear S; intro aa S
          refine OL.not S rfl rfl (GNo.mk rfl rfl hb_2) ?_
          clear S; intro aa S
          refine OL.not S rfl rfl (GNo.mk rfl rfl hb_2) ?_
          clear S; intro aa S
          refine OL.not S rfl rfl (GNo.mk rfl rfl hb_2) ?_
          clear S; intro aa S
          refine OL.not S rfl rfl (GNo.mk rfl rfl hb_2) ?_
          clear S; intro aa S
          refine OL.not S rfl rfl (GNo.mk rfl rfl hb_2) ?_
          clear S; intro aa S
          refine OL.not S rfl rfl (GNo.mk rfl rfl hb_2) ?_
          clear S; intro aa S
          refine OL.not S rfl rfl (GNo.mk rfl rfl hb_2) ?_
          clear S; intro aa S
          refine OL.not S rfl rfl (GNo.mk rfl rfl hb_2) ?_
          clear S; intro aa S
          refine OL.pure S (Lf.run_pickT (S.ev rfl) hb_2 (S.ev rfl)) rfl rfl trivial ?_
          clear S; intro aa S
          refine OL.nil ?_
          exact ⟨_, S.sub _ ⟨rfl, rfl, rfl, rfl, rfl, rfl, rfl, rfl, rfl, rfl, rfl, rfl, rfl, rfl, rfl, trivial⟩, H⟩
        · replace H := H.2 hb_2
          refine OL.pure S (Lf.run_move (S.ev rfl)) rfl rfl (GOk.mk rfl rfl hb_2) ?_
          clear S; intro aa S
          refine OL.pure S (Lf.run_move (S.ev rfl)) rfl rfl (GOk.mk rfl rfl hb_2) ?_
          clear S; intro aa S
          obtain ⟨q35, e_9, e_10, e_11, H⟩ := H
          refine OL.pure S (Lf.run_ixs (S.ev rfl) (S.ev rfl) Try.underlying22 ti23 e_9 e_10 e_11) rfl rfl (GOk.mk rfl rfl hb_2) ?_
          clear S; intro aa S
          obtain ⟨x36, c_3, H⟩ := H
          refine OL.pure S (Lf.run_ld (S.ev rfl) fl23 (S.cl c_3)) rfl rfl (GOk.mk rfl rfl hb_2) ?_
          clear S; intro aa S
          refine OL.pure S (Lf.run_move (S.ev rfl)) rfl rfl (GOk.mk rfl rfl hb_2) ?_
          clear S; intro aa S
          obtain ⟨q38, e_12, e_13, e_14, H⟩ := H
          refine OL.pure S (Lf.run_ixs (S.ev rfl) (S.ev rfl) Try.underlying23 ti3 e_12 e_13 e_14) rfl rfl (GOk.mk rfl rfl hb_2) ?_
          clear S; intro aa S
          obtain ⟨x39, c_4, H⟩ := H
          refine OL.pure S (Lf.run_ld (S.ev rfl) fl3 (S.cl c_4)) rfl rfl (GOk.mk rfl rfl hb_2) ?_
          clear S; intro aa S
          refine OL.pure S (Lf.run_move (S.ev rfl)) rfl rfl (GOk.mk rfl rfl hb_2) ?_
          clear S; intro aa S
          refine OL.pure S (Lf.run_geq (S.ev rfl) (S.ev rfl)) rfl rfl (GOk.mk rfl rfl hb_2) ?_
          clear S; intro aa S
          refine OL.pure S (Lf.run_pickF (S.ev rfl) hb_2 (S.ev rfl)) rfl rfl trivial ?_
          clear S; intro aa S
          refine OL.nil ?_
          exact ⟨_, S.sub _ ⟨rfl, rfl, rfl, rfl, rfl, rfl, rfl, rfl, rfl, rfl, rfl, rfl, rfl, rfl, rfl, trivial⟩, H⟩
      · clear S aa
        rintro aa ww ⟨x42, S, HJ⟩
        replace H := HK _ HJ
        clear HK HJ
        refine OL.nil ?_
        refine W.cond S (b := x42) rfl (fun hb_3 => ?_) (fun hb_3 => ?_)
        · replace H := H.1 hb_3
          refine W.seq ?_
          replace S := S.sub [] trivial
          refine W.region ?_
          refine OL.pure S (Lf.run_assign (S.ev rfl)) rfl rfl trivial ?_
          clear S; intro aa S
          refine OL.nil ?_
          refine W.ret ?_
          exact Ret.one S rfl rfl H
        · replace H := H.2 hb_3
          refine W.skip ?_
          replace S := S.sub [(0, Value.slice l0.a l0.n l0.c), (1, Value.int .i64 n1), (2, Value.int .i64 most2), (7, Value.int .i64 i7), (8, Value.int .i64 k8)] ⟨rfl, rfl, rfl, rfl, rfl, trivial⟩
          refine W.region ?_
          refine OL.pure S (Lf.run_move (S.ev rfl)) rfl rfl trivial ?_
          clear S; intro aa S
          refine OL.pure S (Lf.run_add (S.ev rfl) (S.ev rfl)) rfl rfl trivial ?_
          clear S; intro aa S
          refine OL.pure S (Lf.run_assign (S.ev rfl)) rfl rfl trivial ?_
          clear S; intro aa S
          refine OL.nil ?_
          exact ⟨((IntKind.i64.wrap (k8 + 1))), ⟨S.sub _ ⟨rfl, rfl, rfl, rfl, rfl, trivial⟩, H.1⟩, H.2⟩
    · replace H := H.2 hb_1
      refine W.exit_ ?_
      refine xhit ?_
      replace S := S.sub [(0, Value.slice l0.a l0.n l0.c), (1, Value.int .i64 n1), (2, Value.int .i64 most2), (7, Value.int .i64 i7)] ⟨rfl, rfl, rfl, rfl, trivial⟩
      refine W.region ?_
      refine OL.pure S (Lf.run_move (S.ev rfl)) rfl rfl trivial ?_
      clear S; intro aa S
      refine OL.pure S (Lf.run_add (S.ev rfl) (S.ev rfl)) rfl rfl trivial ?_
      clear S; intro aa S
      refine OL.pure S (Lf.run_assign (S.ev rfl)) rfl rfl trivial ?_
      clear S; intro aa S
      refine OL.nil ?_
      exact ⟨((IntKind.i64.wrap (i7 + 1))), ⟨S.sub _ ⟨rfl, rfl, rfl, rfl, trivial⟩, H.1⟩, H.2⟩
  · replace H := H.2 hb
    refine W.exit_ ?_
    refine xhit ?_
    refine W.seq ?_
    replace S := S.sub [(0, Value.slice l0.a l0.n l0.c), (1, Value.int .i64 n1)] ⟨rfl, rfl, trivial⟩
    refine W.region ?_
    refine OL.pure S (Lf.run_move (S.ev rfl)) rfl rfl trivial ?_
    clear S; intro aa S
    refine OL.pure S (Lf.run_lens (S.ev rfl) rfl Try.underlying22) rfl rfl trivial ?_
    clear S; intro aa S
    refine OL.pure S (Lf.run_move (S.ev rfl)) rfl rfl trivial ?_
    clear S; intro aa S
    refine OL.pure S (Lf.run_leq (S.ev rfl) (S.ev rfl)) rfl rfl trivial ?_
    clear S; intro aa S
    refine OL.pure S (Lf.run_assign (S.ev rfl)) rfl rfl trivial ?_
    clear S; intro aa S
    refine OL.nil ?_
    refine W.ret ?_
    exact Ret.one S rfl rfl H

/-- chattel flow.empty -/
def L23 (p0 : Sv) (p0_1 : Int) (p0_2 : Sv) (p0_3 : Sv) (p0_4 : Sv) (h : Heap) (R : Value → Heap → Prop) : Prop :=
  new 25 #[Value.slice p0.a p0.n p0.c, Value.int .i64 p0_1, Value.slice p0_2.a p0_2.n p0_2.c, Value.slice p0_3.a p0_3.n p0_3.c, Value.slice p0_4.a p0_4.n p0_4.c] h fun p1 h1 =>
  ldI .i64 h1 (p1.add 1) fun x5 =>
  new 49 #[Value.int .i64 x5, Value.slice (⟨none, 0, 0⟩ : Sv).a (⟨none, 0, 0⟩ : Sv).n (⟨none, 0, 0⟩ : Sv).c] h1 fun p7 h2 =>
  ldS h2 p1 fun x9 =>
  ∃ (I : Int → Heap → Prop) (m : Int → Heap → Nat), I 0 h2 ∧ ∀ x11 h3, I x11 h3 →
  ifb (decide (x11 < ((x9.n : Nat) : Int))) (
    ∃ Sq : Heap → Prop, Sq h3 ∧ (
      ldI .i64 h3 (p1.add 1) fun x19 =>
      hlS Sq (p7.add 1) fun x17 =>
      mkS 36 (Value.int .u64 0).cells 1 8 (IntKind.i64.wrap (((IntKind.i64.wrap (x19 + 63)) : Int).tdiv 64)) (IntKind.i64.wrap (((IntKind.i64.wrap (x19 + 63)) : Int).tdiv 64)) h3 fun s22 h4 =>
      Sq h4 ∧
      newS 51 #[Value.slice s22.a s22.n s22.c] 1 h4 fun s23 h5 =>
      Sq h5 ∧
      appS 51 (Value.slice (⟨none, 0, 0⟩ : Sv).a (⟨none, 0, 0⟩ : Sv).n (⟨none, 0, 0⟩ : Sv).c).cells 1 24 h5 x17 s23 fun s24 h6 =>
      sto h6 (p7.add 1) (Value.slice s24.a s24.n s24.c) fun h7 =>
      I (IntKind.i64.wrap (x11 + 1)) h7 ∧ m (IntKind.i64.wrap (x11 + 1)) h7 < m x11 h3)) (
    R (Value.pointer (some p7)) h3)

set_option maxRecDepth 100000 in

theorem F23 {p0 p0_1 p0_2 p0_3 p0_4 h : _} {R : Value → Heap → Prop} (H : L23 p0 p0_1 p0_2 p0_3 p0_4 h R) : CallsH Try.prog 23 #[Value.agg #[Value.slice p0.a p0.n p0.c, Value.int .i64 p0_1, Value.slice p0_2.a p0_2.n p0_2.c, Value.slice p0_3.a p0_3.n p0_3.c, Value.slice p0_4.a p0_4.n p0_4.c]] h R := by
  refine CallsH.enter (n := 29) Try.func23 rfl rfl rfl rfl ?_
  intro w0 aa ww S
  unfold L23 at H
  refine W.seq ?_
  replace S := S.sub [(0, Value.agg #[Value.slice p0.a p0.n p0.c, Value.int .i64 p0_1, Value.slice p0_2.a p0_2.n p0_2.c, Value.slice p0_3.a p0_3.n p0_3.c, Value.slice p0_4.a p0_4.n p0_4.c])] ⟨rfl, trivial⟩
  refine W.region ?_
  refine ol_box S H rfl rfl rfl trivial ?_
  clear S H aa; intro p1 aa ww h1 H S
  refine OL.pure S (Lf.run_assign (S.ev rfl)) rfl rfl trivial ?_
  clear S; intro aa S
  refine OL.nil ?_
  refine W.seq ?_
  replace S := S.sub [(1, Value.pointer (some p1))] ⟨rfl, trivial⟩
  refine W.region ?_
  refine OL.pure S (Lf.run_fa (S.ev rfl) fa25_1) rfl rfl trivial ?_
  clear S; intro aa S
  obtain ⟨x5, c, H⟩ := H
  refine OL.pure S (Lf.run_ld (S.ev rfl) fl3 (S.cl c)) rfl rfl trivial ?_
  clear S; intro aa S
  refine OL.pure S (Lf.run_build (cs := #[Value.int .i64 x5, Value.slice (⟨none, 0, 0⟩ : Sv).a (⟨none, 0, 0⟩ : Sv).n (⟨none, 0, 0⟩ : Sv).c]) pl49 ti49 (parts_map S rfl) (by kernel_rfl)) rfl rfl trivial ?_
  clear S; intro aa S
  refine ol_box S H rfl rfl rfl trivial ?_
  clear S H aa; intro p7 aa ww h2 H S
  refine OL.pure S (Lf.run_assign (S.ev rfl)) rfl rfl trivial ?_
  clear S; intro aa S
  refine OL.nil ?_
  refine W.seq ?_
  refine W.seq ?_
  replace S := S.sub [(1, Value.pointer (some p1)), (3, Value.pointer (some p7))] ⟨rfl, rfl, trivial⟩
  refine W.region ?_
  refine OL.pure S (Lf.run_fa (S.ev rfl) fa25_0) rfl rfl trivial ?_
  clear S; intro aa S
  obtain ⟨x9, c_1, H⟩ := H
  refine OL.pure S (Lf.run_ld (S.ev rfl) fl22 (S.cl c_1)) rfl rfl trivial ?_
  clear S; intro aa S
  refine OL.pure S (Lf.run_lens (S.ev rfl) rfl Try.underlying22) rfl rfl trivial ?_
  clear S; intro aa S
  refine OL.pure S (Lf.run_move (S.ev rfl)) rfl rfl trivial ?_
  clear S; intro aa S
  refine OL.nil ?_
  refine W.block ?_
  obtain ⟨I, m, H, HB⟩ := H
  refine W.loopS (σ := Int × Heap) (fun s aa ww => St 29 [(1, Value.pointer (some p1)), (3, Value.pointer (some p7)), (10, Value.int .i64 ((x9.n : Nat) : Int)), (11, Value.int .i64 s.1)] s.2 w0 aa ww ∧ I s.1 s.2) (fun s => m s.1 s.2) (0, h2) ⟨S.sub _ ⟨rfl, rfl, rfl, rfl, trivial⟩, H⟩ ?_
  clear H S aa
  rintro ⟨x11, h3⟩ aa ww ⟨S, HI⟩
  replace S : St 29 [(1, Value.pointer (some p1)), (3, Value.pointer (some p7)), (10, Value.int .i64 ((x9.n : Nat) : Int)), (11, Value.int .i64 x11)] h3 w0 aa ww := S
  have H := HB x11 h3 HI
  clear HI
  refine W.seq ?_
  replace S := S.sub [(1, Value.pointer (some p1)), (3, Value.pointer (some p7)), (10, Value.int .i64 ((x9.n : Nat) : Int)), (11, Value.int .i64 x11)] ⟨rfl, rfl, rfl, rfl, trivial⟩
  refine W.region ?_
  refine OL.pure S (Lf.run_lss (S.ev rfl) (S.ev rfl)) rfl rfl trivial ?_
  clear S; intro aa S
  refine OL.nil ?_
  refine W.seq ?_
  refine W.cond S (b := (decide (x11 < ((x9.n : Nat) : Int)))) rfl (fun hb => ?_) (fun hb => ?_)
  · replace H := H.1 hb
    refine W.skip ?_
    refine W.seq ?_
    refine W.block ?_
    replace S := S.sub [(1, Value.pointer (some p1)), (3, Value.pointer (some p7)), (10, Value.int .i64 ((x9.n : Nat) : Int)), (11, Value.int .i64 x11)] ⟨rfl, rfl, rfl, rfl, trivial⟩
    obtain ⟨Sq, HS, H⟩ := H
    refine W.regionN [4] [9, 10, 11, 14] Sq S (by kernel_rfl) ?_
    clear S; intro ww S
    refine BN.pure 0 S (fun _ => HS) rfl (by kernel_rfl) (by kernel_rfl) (fun _ => Lf.run_move (S.ev rfl)) rfl rfl trivial ?_
    clear S; intro aa S
    refine BN.pure 1 S (fun _ => HS) rfl (by kernel_rfl) (by kernel_rfl) (fun _ => Lf.run_move (S.ev rfl)) rfl rfl trivial ?_
    clear S; intro aa S
    refine BN.pure 2 S (fun _ => HS) rfl (by kernel_rfl) (by kernel_rfl) (fun _ => Lf.run_nc (S.ev rfl)) rfl rfl trivial ?_
    clear S; intro aa S
    refine BN.pure 3 S (fun _ => HS) rfl (by kernel_rfl) (by kernel_rfl) (fun _ => Lf.run_fa (S.ev rfl) fa49_1) rfl rfl trivial ?_
    clear S; intro aa S
    refine BN.pure 5 S (fun _ => HS) rfl (by kernel_rfl) (by kernel_rfl) (fun _ => Lf.run_fa (S.ev rfl) fa25_1) rfl rfl trivial ?_
    clear S; intro aa S
    obtain ⟨x19, c_2, H⟩ := H
    refine BN.load 6 S (fun _ => HS) rfl (by kernel_rfl) (by kernel_rfl) (fun _ hx => Lf.run_ld (S.ev rfl) fl3 (hx.cell _ _ (S.cl c_2))) rfl rfl trivial ?_
    clear S; intro aa S
    refine BN.pure 7 S (fun _ => HS) rfl (by kernel_rfl) (by kernel_rfl) (fun _ => Lf.run_add (S.ev rfl) (S.ev rfl)) rfl rfl trivial ?_
    clear S; intro aa S
    refine BN.pure 8 S (fun _ => HS) rfl (by kernel_rfl) (by kernel_rfl) (fun _ => Lf.run_quo (S.ev rfl) (S.ev rfl) (by decide)) rfl rfl trivial ?_
    clear S; intro aa S
    obtain ⟨x17, c_3, H⟩ := H
    refine BN.held 4 S HS rfl (by kernel_rfl) (fun _ hq => Lf.run_ld (S.ev rfl) fl47 (c_3 _ hq)) rfl rfl trivial ?_
    clear S; intro aa S
    refine BN.eff 9 rfl (by kernel_rfl) ?_
    refine ol_mkS S H Try.underlying51 ti36 rfl rfl rfl trivial ?_
    clear S H aa; intro s22 aa ww h4 H S
    refine OL.nil ?_
    clear HS; obtain ⟨HS, H⟩ := H
    refine ⟨fun _ => by rw [S.heap]; exact HS, ?_⟩
    refine BN.eff 10 rfl (by kernel_rfl) ?_
    refine ol_newS S H Try.underlying47 ti51 (by decide) (parts_map S rfl) (by kernel_rfl) (by decide) rfl trivial ?_
    clear S H aa; intro s23 aa ww h5 H S
    refine OL.nil ?_
    clear HS; obtain ⟨HS, H⟩ := H
    refine ⟨fun _ => by rw [S.heap]; exact HS, ?_⟩
    refine BN.eff 11 rfl (by kernel_rfl) ?_
    refine ol_appS S H Try.underlying47 ti51 rfl rfl rfl trivial ?_
    clear S H aa; intro s24 aa ww h6 H S
    refine OL.nil ?_
    refine ⟨noNeed (by kernel_rfl), ?_⟩
    refine BN.pure 12 S (noNeed (by kernel_rfl)) rfl (by kernel_rfl) (by kernel_rfl) (fun _ => Lf.run_nc (S.ev rfl)) rfl rfl trivial ?_
    clear S; intro aa S
    refine BN.pure 13 S (noNeed (by kernel_rfl)) rfl (by kernel_rfl) (by kernel_rfl) (fun _ => Lf.run_fa (S.ev rfl) fa49_1) rfl rfl trivial ?_
    clear S; intro aa S
    refine BN.eff 14 rfl (by kernel_rfl) ?_
    refine ol_sto S H rfl rfl rfl ti47 trivial ?_
    clear S H aa; intro aa ww h7 H S
    refine OL.nil ?_
    refine ⟨noNeed (by kernel_rfl), ?_⟩
    refine BN.done (by kernel_rfl) ?_
    replace S := S.sub [(1, Value.pointer (some p1)), (3, Value.pointer (some p7)), (10, Value.int .i64 ((x9.n : Nat) : Int)), (11, Value.int .i64 x11)] ⟨rfl, rfl, rfl, rfl, trivial⟩
    refine W.region ?_
    refine OL.pure S (Lf.run_add (S.ev rfl) (S.ev rfl)) rfl rfl trivial ?_
    clear S; intro aa S
    refine OL.pure S (Lf.run_move (S.ev rfl)) rfl rfl trivial ?_
    clear S; intro aa S
    refine OL.nil ?_
    exact ⟨((IntKind.i64.wrap (x11 + 1)), h7), ⟨S.sub _ ⟨rfl, rfl, rfl, rfl, trivial⟩, H.1⟩, H.2⟩
  · replace H := H.2 hb
    refine W.exit_ ?_
    refine xhit ?_
    refine W.seq ?_
    replace S := S.sub [(3, Value.pointer (some p7))] ⟨rfl, trivial⟩
    refine W.region ?_
    refine OL.pure S (Lf.run_move (S.ev rfl)) rfl rfl trivial ?_
    clear S; intro aa S
    refine OL.pure S (Lf.run_assign (S.ev rfl)) rfl rfl trivial ?_
    clear S; intro aa S
    refine OL.nil ?_
    refine W.ret ?_
    exact Ret.one S rfl rfl H

/-- chattel flow.put -/
def L24 (s0 : Sv) (l1 : Sv) (h : Heap) (R : Value → Heap → Prop) : Prop :=
  ∃ (I : Int → Heap → Prop) (m : Int → Heap → Nat), I 0 h ∧ ∀ x8 h1, I x8 h1 →
  ifb (decide (x8 < ((l1.n : Nat) : Int))) (
    ixS l1 x8 fun q10 =>
    ldI .i64 h1 (q10.add ((x8 : Int).toNat * 1)) fun x11 =>
    ixS s0 (IntKind.i64.wrap ((x11 : Int).tdiv 64)) fun q15 =>
    ldI .u64 h1 (q15.add (((IntKind.i64.wrap ((x11 : Int).tdiv 64)) : Int).toNat * 1)) fun x16 =>
    (0 ≤ ((x11 : Int).tmod 64)) ∧
    ixS s0 (IntKind.i64.wrap ((x11 : Int).tdiv 64)) fun q21 =>
    sto h1 (q21.add (((IntKind.i64.wrap ((x11 : Int).tdiv 64)) : Int).toNat * 1)) (Value.int .u64 (bitsI .or .u64 x16 (IntKind.u64.wrap (1 * 2 ^ (min (((x11 : Int).tmod 64)).toNat IntKind.u64.bits))))) fun h2 =>
    I (IntKind.i64.wrap (x8 + 1)) h2 ∧ m (IntKind.i64.wrap (x8 + 1)) h2 < m x8 h1) (
    R (.tuple #[]) h1)

set_option maxRecDepth 100000 in

theorem F24 {s0 l1 h : _} {R : Value → Heap → Prop} (H : L24 s0 l1 h R) : CallsH Try.prog 24 #[Value.slice s0.a s0.n s0.c, Value.slice l1.a l1.n l1.c] h R := by
  refine CallsH.enter (n := 23) Try.func24 rfl rfl rfl rfl ?_
  intro w0 aa ww S
  unfold L24 at H
  refine W.seq ?_
  replace S := S.sub [(0, Value.slice s0.a s0.n s0.c), (1, Value.slice l1.a l1.n l1.c)] ⟨rfl, rfl, trivial⟩
  refine W.region ?_
  refine OL.pure S (Lf.run_move (S.ev rfl)) rfl rfl trivial ?_
  clear S; intro aa S
  refine OL.pure S (Lf.run_lens (S.ev rfl) rfl Try.underlying23) rfl rfl trivial ?_
  clear S; intro aa S
  refine OL.pure S (Lf.run_move (S.ev rfl)) rfl rfl trivial ?_
  clear S; intro aa S
  refine OL.nil ?_
  refine W.block ?_
  obtain ⟨I, m, H, HB⟩ := H
  refine W.loopS (σ := Int × Heap) (fun s aa ww => St 23 [(0, Value.slice s0.a s0.n s0.c), (6, Value.slice l1.a l1.n l1.c), (7, Value.int .i64 ((l1.n : Nat) : Int)), (8, Value.int .i64 s.1)] s.2 w0 aa ww ∧ I s.1 s.2) (fun s => m s.1 s.2) (0, h) ⟨S.sub _ ⟨rfl, rfl, rfl, rfl, trivial⟩, H⟩ ?_
  clear H S aa
  rintro ⟨x8, h1⟩ aa ww ⟨S, HI⟩
  replace S : St 23 [(0, Value.slice s0.a s0.n s0.c), (6, Value.slice l1.a l1.n l1.c), (7, Value.int .i64 ((l1.n : Nat) : Int)), (8, Value.int .i64 x8)] h1 w0 aa ww := S
  have H := HB x8 h1 HI
  clear HI
  refine W.seq ?_
  replace S := S.sub [(0, Value.slice s0.a s0.n s0.c), (6, Value.slice l1.a l1.n l1.c), (7, Value.int .i64 ((l1.n : Nat) : Int)), (8, Value.int .i64 x8)] ⟨rfl, rfl, rfl, rfl, trivial⟩
  refine W.region ?_
  refine OL.pure S (Lf.run_lss (S.ev rfl) (S.ev rfl)) rfl rfl trivial ?_
  clear S; intro aa S
  refine OL.nil ?_
  refine W.seq ?_
  refine W.cond S (b := (decide (x8 < ((l1.n : Nat) : Int)))) rfl (fun hb => ?_) (fun hb => ?_)
  · replace H := H.1 hb
    refine W.skip ?_
    refine W.seq ?_
    refine W.block ?_
    refine W.seq ?_
    replace S := S.sub [(0, Value.slice s0.a s0.n s0.c), (6, Value.slice l1.a l1.n l1.c), (7, Value.int .i64 ((l1.n : Nat) : Int)), (8, Value.int .i64 x8)] ⟨rfl, rfl, rfl, rfl, trivial⟩
    refine W.region ?_
    obtain ⟨q10, e, e_1, e_2, H⟩ := H
    refine OL.pure S (Lf.run_ixs (S.ev rfl) (S.ev rfl) Try.underlying23 ti3 e e_1 e_2) rfl rfl trivial ?_
    clear S; intro aa S
    obtain ⟨x11, c, H⟩ := H
    refine OL.pure S (Lf.run_ld (S.ev rfl) fl3 (S.cl c)) rfl rfl trivial ?_
    clear S; intro aa S
    refine OL.pure S (Lf.run_assign (S.ev rfl)) rfl rfl trivial ?_
    clear S; intro aa S
    refine OL.nil ?_
    replace S := S.sub [(0, Value.slice s0.a s0.n s0.c), (5, Value.int .i64 x11), (6, Value.slice l1.a l1.n l1.c), (7, Value.int .i64 ((l1.n : Nat) : Int)), (8, Value.int .i64 x8)] ⟨rfl, rfl, rfl, rfl, rfl, trivial⟩
    refine W.regionD S (by kernel_rfl) ?_
    clear S; intro ww S
    refine AN.pure 0 S rfl (by kernel_rfl) (fun _ => Lf.run_move (S.ev rfl)) rfl rfl trivial ?_
    clear S; intro aa S
    refine AN.pure 1 S rfl (by kernel_rfl) (fun _ => Lf.run_move (S.ev rfl)) rfl rfl trivial ?_
    clear S; intro aa S
    refine AN.pure 2 S rfl (by kernel_rfl) (fun _ => Lf.run_quo (S.ev rfl) (S.ev rfl) (by decide)) rfl rfl trivial ?_
    clear S; intro aa S
    obtain ⟨q15, e_3, e_4, e_5, H⟩ := H
    refine AN.pure 3 S rfl (by kernel_rfl) (fun _ => Lf.run_ixs (S.ev rfl) (S.ev rfl) Try.underlying51 ti36 e_3 e_4 e_5) rfl rfl trivial ?_
    clear S; intro aa S
    obtain ⟨x16, c_1, H⟩ := H
    refine AN.load 4 S rfl (by kernel_rfl) (fun _ hx => Lf.run_ld (S.ev rfl) fl36 (hx.cell _ _ (S.cl c_1))) rfl rfl trivial ?_
    clear S; intro aa S
    refine AN.pure 5 S rfl (by kernel_rfl) (fun _ => Lf.run_move (S.ev rfl)) rfl rfl trivial ?_
    clear S; intro aa S
    refine AN.pure 6 S rfl (by kernel_rfl) (fun _ => Lf.run_rem (S.ev rfl) (S.ev rfl) (by decide)) rfl rfl trivial ?_
    clear S; intro aa S
    obtain ⟨c_2, H⟩ := H
    refine AN.pure 7 S rfl (by kernel_rfl) (fun _ => Lf.run_shl (S.ev rfl) (S.ev rfl) c_2) rfl rfl trivial ?_
    clear S; intro aa S
    refine AN.pure 8 S rfl (by kernel_rfl) (fun _ => Lf.run_bits (op := .or) (by simp) (S.ev rfl) (S.ev rfl)) rfl rfl trivial ?_
    clear S; intro aa S
    obtain ⟨q21, e_6, e_7, e_8, H⟩ := H
    refine AN.pure 9 S rfl (by kernel_rfl) (fun _ => Lf.run_ixs (S.ev rfl) (S.ev rfl) Try.underlying51 ti36 e_6 e_7 e_8) rfl rfl trivial ?_
    clear S; intro aa S
    refine AN.eff 10 rfl (by kernel_rfl) ?_
    refine ol_sto S H rfl rfl rfl ti36 trivial ?_
    clear S H aa; intro aa ww h2 H S
    refine OL.nil ?_
    refine AN.done (by kernel_rfl) ?_
    replace S := S.sub [(0, Value.slice s0.a s0.n s0.c), (6, Value.slice l1.a l1.n l1.c), (7, Value.int .i64 ((l1.n : Nat) : Int)), (8, Value.int .i64 x8)] ⟨rfl, rfl, rfl, rfl, trivial⟩
    refine W.region ?_
    refine OL.pure S (Lf.run_add (S.ev rfl) (S.ev rfl)) rfl rfl trivial ?_
    clear S; intro aa S
    refine OL.pure S (Lf.run_move (S.ev rfl)) rfl rfl trivial ?_
    clear S; intro aa S
    refine OL.nil ?_
    exact ⟨((IntKind.i64.wrap (x8 + 1)), h2), ⟨S.sub _ ⟨rfl, rfl, rfl, rfl, trivial⟩, H.1⟩, H.2⟩
  · replace H := H.2 hb
    refine W.exit_ ?_
    refine xhit ?_
    exact Ret.none S rfl H

/-- chattel flow.through -/
def L25 (p0 : Sv) (p0_1 : Int) (p0_2 : Sv) (p0_3 : Sv) (p0_4 : Sv) (i1 : Int) (s2 : Sv) (h : Heap) (R : Value → Heap → Prop) : Prop :=
  new 25 #[Value.slice p0.a p0.n p0.c, Value.int .i64 p0_1, Value.slice p0_2.a p0_2.n p0_2.c, Value.slice p0_3.a p0_3.n p0_3.c, Value.slice p0_4.a p0_4.n p0_4.c] h fun p3 h1 =>
  mkS 36 (Value.int .u64 0).cells 1 8 ((s2.n : Nat) : Int) ((s2.n : Nat) : Int) h1 fun s12 h2 =>
  cpS 1 h2 s12 s2 fun m15 h3 =>
  ldS h3 (p3.add 3) fun x17 =>
  cal Try.prog 31 #[Value.slice x17.a x17.n x17.c, Value.int .i64 i1] h3 fun u h4 => asS u fun x19 =>
  ∃ (I : Int → Heap → Prop) (m : Int → Heap → Nat), I 0 h4 ∧ ∀ x21 h5, I x21 h5 →
  ifb (decide (x21 < ((x19.n : Nat) : Int))) (
    ixS x19 x21 fun q23 =>
    ldI .i64 h5 (q23.add ((x21 : Int).toNat * 1)) fun x24 =>
    ixS s12 (IntKind.i64.wrap ((x24 : Int).tdiv 64)) fun q28 =>
    ldI .u64 h5 (q28.add (((IntKind.i64.wrap ((x24 : Int).tdiv 64)) : Int).toNat * 1)) fun x29 =>
    (0 ≤ ((x24 : Int).tmod 64)) ∧
    ixS s12 (IntKind.i64.wrap ((x24 : Int).tdiv 64)) fun q34 =>
    sto h5 (q34.add (((IntKind.i64.wrap ((x24 : Int).tdiv 64)) : Int).toNat * 1)) (Value.int .u64 (bitsI .andNot .u64 x29 (IntKind.u64.wrap (1 * 2 ^ (min (((x24 : Int).tmod 64)).toNat IntKind.u64.bits))))) fun h6 =>
    I (IntKind.i64.wrap (x21 + 1)) h6 ∧ m (IntKind.i64.wrap (x21 + 1)) h6 < m x21 h5) (
    ldS h5 (p3.add 2) fun x38 =>
    cal Try.prog 31 #[Value.slice x38.a x38.n x38.c, Value.int .i64 i1] h5 fun u_1 h7 => asS u_1 fun x40 =>
    cal Try.prog 24 #[Value.slice s12.a s12.n s12.c, Value.slice x40.a x40.n x40.c] h7 fun u_2 h8 =>
    R (Value.slice s12.a s12.n s12.c) h8)

set_option maxRecDepth 100000 in

theorem F25 {p0 p0_1 p0_2 p0_3 p0_4 i1 s2 h : _} {R : Value → Heap → Prop} (H : L25 p0 p0_1 p0_2 p0_3 p0_4 i1 s2 h R) : CallsH Try.prog 25 #[Value.agg #[Value.slice p0.a p0.n p0.c, Value.int .i64 p0_1, Value.slice p0_2.a p0_2.n p0_2.c, Value.slice p0_3.a p0_3.n p0_3.c, Value.slice p0_4.a p0_4.n p0_4.c], Value.int .i64 i1, Value.slice s2.a s2.n s2.c] h R := by
  refine CallsH.enter (n := 43) Try.func25 rfl rfl rfl rfl ?_
  intro w0 aa ww S
  unfold L25 at H
  refine W.seq ?_
  replace S := S.sub [(0, Value.agg #[Value.slice p0.a p0.n p0.c, Value.int .i64 p0_1, Value.slice p0_2.a p0_2.n p0_2.c, Value.slice p0_3.a p0_3.n p0_3.c, Value.slice p0_4.a p0_4.n p0_4.c]), (1, Value.int .i64 i1), (2, Value.slice s2.a s2.n s2.c)] ⟨rfl, rfl, rfl, trivial⟩
  refine W.region ?_
  refine ol_box S H rfl rfl rfl trivial ?_
  clear S H aa; intro p3 aa ww h1 H S
  refine OL.pure S (Lf.run_assign (S.ev rfl)) rfl rfl trivial ?_
  clear S; intro aa S
  refine OL.nil ?_
  refine W.seq ?_
  replace S := S.sub [(1, Value.int .i64 i1), (2, Value.slice s2.a s2.n s2.c), (3, Value.pointer (some p3))] ⟨rfl, rfl, rfl, trivial⟩
  refine W.region ?_
  refine OL.pure S (Lf.run_move (S.ev rfl)) rfl rfl trivial ?_
  clear S; intro aa S
  refine OL.pure S (Lf.run_lens (S.ev rfl) rfl Try.underlying51) rfl rfl trivial ?_
  clear S; intro aa S
  refine ol_mkS S H Try.underlying51 ti36 rfl rfl rfl trivial ?_
  clear S H aa; intro s12 aa ww h2 H S
  refine OL.pure S (Lf.run_assign (S.ev rfl)) rfl rfl trivial ?_
  clear S; intro aa S
  refine OL.nil ?_
  refine W.seq ?_
  replace S := S.sub [(1, Value.int .i64 i1), (2, Value.slice s2.a s2.n s2.c), (3, Value.pointer (some p3)), (7, Value.slice s12.a s12.n s12.c)] ⟨rfl, rfl, rfl, rfl, trivial⟩
  refine W.region ?_
  refine OL.pure S (Lf.run_move (S.ev rfl)) rfl rfl trivial ?_
  clear S; intro aa S
  refine OL.pure S (Lf.run_move (S.ev rfl)) rfl rfl trivial ?_
  clear S; intro aa S
  refine ol_cpS S H Try.underlying51 ti36 rfl rfl rfl trivial ?_
  clear S H aa; intro m15 aa ww h3 H S
  refine OL.nil ?_
  refine W.seq ?_
  refine W.seq ?_
  replace S := S.sub [(1, Value.int .i64 i1), (3, Value.pointer (some p3)), (7, Value.slice s12.a s12.n s12.c)] ⟨rfl, rfl, rfl, trivial⟩
  refine W.region ?_
  refine OL.pure S (Lf.run_fa (S.ev rfl) fa25_3) rfl rfl trivial ?_
  clear S; intro aa S
  obtain ⟨x17, c, H⟩ := H
  refine OL.pure S (Lf.run_ld (S.ev rfl) fl22 (S.cl c)) rfl rfl trivial ?_
  clear S; intro aa S
  refine OL.pure S (Lf.run_move (S.ev rfl)) rfl rfl trivial ?_
  clear S; intro aa S
  refine ol_cal S H isfn31 rfl rfl trivial ?_
  clear S H aa; intro u aa ww h4 H S
  obtain ⟨x19, rfl, H⟩ := H
  refine OL.pure S (Lf.run_lens (S.ev rfl) rfl Try.underlying23) rfl rfl trivial ?_
  clear S; intro aa S
  refine OL.pure S (Lf.run_move (S.ev rfl)) rfl rfl trivial ?_
  clear S; intro aa S
  refine OL.nil ?_
  refine W.block ?_
  obtain ⟨I, m, H, HB⟩ := H
  refine W.loopS (σ := Int × Heap) (fun s aa ww => St 43 [(1, Value.int .i64 i1), (3, Value.pointer (some p3)), (7, Value.slice s12.a s12.n s12.c), (19, Value.slice x19.a x19.n x19.c), (20, Value.int .i64 ((x19.n : Nat) : Int)), (21, Value.int .i64 s.1)] s.2 w0 aa ww ∧ I s.1 s.2) (fun s => m s.1 s.2) (0, h4) ⟨S.sub _ ⟨rfl, rfl, rfl, rfl, rfl, rfl, trivial⟩, H⟩ ?_
  clear H S aa
  rintro ⟨x21, h5⟩ aa ww ⟨S, HI⟩
  replace S : St 43 [(1, Value.int .i64 i1), (3, Value.pointer (some p3)), (7, Value.slice s12.a s12.n s12.c), (19, Value.slice x19.a x19.n x19.c), (20, Value.int .i64 ((x19.n : Nat) : Int)), (21, Value.int .i64 x21)] h5 w0 aa ww := S
  have H := HB x21 h5 HI
  clear HI
  refine W.seq ?_
  replace S := S.sub [(1, Value.int .i64 i1), (3, Value.pointer (some p3)), (7, Value.slice s12.a s12.n s12.c), (19, Value.slice x19.a x19.n x19.c), (20, Value.int .i64 ((x19.n : Nat) : Int)), (21, Value.int .i64 x21)] ⟨rfl, rfl, rfl, rfl, rfl, rfl, trivial⟩
  refine W.region ?_
  refine OL.pure S (Lf.run_lss (S.ev rfl) (S.ev rfl)) rfl rfl trivial ?_
  clear S; intro aa S
  refine OL.nil ?_
  refine W.seq ?_
  refine W.cond S (b := (decide (x21 < ((x19.n : Nat) : Int)))) rfl (fun hb => ?_) (fun hb => ?_)
  · replace H := H.1 hb
    refine W.skip ?_
    refine W.seq ?_
    refine W.block ?_
    refine W.seq ?_
    replace S := S.sub [(1, Value.int .i64 i1), (3, Value.pointer (some p3)), (7, Value.slice s12.a s12.n s12.c), (19, Value.slice x19.a x19.n x19.c), (20, Value.int .i64 ((x19.n : Nat) : Int)), (21, Value.int .i64 x21)] ⟨rfl, rfl, rfl, rfl, rfl, rfl, trivial⟩
    refine W.region ?_
    obtain ⟨q23, e, e_1, e_2, H⟩ := H
    refine OL.pure S (Lf.run_ixs (S.ev rfl) (S.ev rfl) Try.underlying23 ti3 e e_1 e_2) rfl rfl trivial ?_
    clear S; intro aa S
    obtain ⟨x24, c_1, H⟩ := H
    refine OL.pure S (Lf.run_ld (S.ev rfl) fl3 (S.cl c_1)) rfl rfl trivial ?_
    clear S; intro aa S
    refine OL.pure S (Lf.run_assign (S.ev rfl)) rfl rfl trivial ?_
    clear S; intro aa S
    refine OL.nil ?_
    replace S := S.sub [(1, Value.int .i64 i1), (3, Value.pointer (some p3)), (7, Value.slice s12.a s12.n s12.c), (9, Value.int .i64 x24), (19, Value.slice x19.a x19.n x19.c), (20, Value.int .i64 ((x19.n : Nat) : Int)), (21, Value.int .i64 x21)] ⟨rfl, rfl, rfl, rfl, rfl, rfl, rfl, trivial⟩
    refine W.regionD S (by kernel_rfl) ?_
    clear S; intro ww S
    refine AN.pure 0 S rfl (by kernel_rfl) (fun _ => Lf.run_move (S.ev rfl)) rfl rfl trivial ?_
    clear S; intro aa S
    refine AN.pure 1 S rfl (by kernel_rfl) (fun _ => Lf.run_move (S.ev rfl)) rfl rfl trivial ?_
    clear S; intro aa S
    refine AN.pure 2 S rfl (by kernel_rfl) (fun _ => Lf.run_quo (S.ev rfl) (S.ev rfl) (by decide)) rfl rfl trivial ?_
    clear S; intro aa S
    obtain ⟨q28, e_3, e_4, e_5, H⟩ := H
    refine AN.pure 3 S rfl (by kernel_rfl) (fun _ => Lf.run_ixs (S.ev rfl) (S.ev rfl) Try.underlying51 ti36 e_3 e_4 e_5) rfl rfl trivial ?_
    clear S; intro aa S
    obtain ⟨x29, c_2, H⟩ := H
    refine AN.load 4 S rfl (by kernel_rfl) (fun _ hx => Lf.run_ld (S.ev rfl) fl36 (hx.cell _ _ (S.cl c_2))) rfl rfl trivial ?_
    clear S; intro aa S
    refine AN.pure 5 S rfl (by kernel_rfl) (fun _ => Lf.run_move (S.ev rfl)) rfl rfl trivial ?_
    clear S; intro aa S
    refine AN.pure 6 S rfl (by kernel_rfl) (fun _ => Lf.run_rem (S.ev rfl) (S.ev rfl) (by decide)) rfl rfl trivial ?_
    clear S; intro aa S
    obtain ⟨c_3, H⟩ := H
    refine AN.pure 7 S rfl (by kernel_rfl) (fun _ => Lf.run_shl (S.ev rfl) (S.ev rfl) c_3) rfl rfl trivial ?_
    clear S; intro aa S
    refine AN.pure 8 S rfl (by kernel_rfl) (fun _ => Lf.run_bits (op := .andNot) (by simp) (S.ev rfl) (S.ev rfl)) rfl rfl trivial ?_
    clear S; intro aa S
    obtain ⟨q34, e_6, e_7, e_8, H⟩ := H
    refine AN.pure 9 S rfl (by kernel_rfl) (fun _ => Lf.run_ixs (S.ev rfl) (S.ev rfl) Try.underlying51 ti36 e_6 e_7 e_8) rfl rfl trivial ?_
    clear S; intro aa S
    refine AN.eff 10 rfl (by kernel_rfl) ?_
    refine ol_sto S H rfl rfl rfl ti36 trivial ?_
    clear S H aa; intro aa ww h6 H S
    refine OL.nil ?_
    refine AN.done (by kernel_rfl) ?_
    replace S := S.sub [(1, Value.int .i64 i1), (3, Value.pointer (some p3)), (7, Value.slice s12.a s12.n s12.c), (19, Value.slice x19.a x19.n x19.c), (20, Value.int .i64 ((x19.n : Nat) : Int)), (21, Value.int .i64 x21)] ⟨rfl, rfl, rfl, rfl, rfl, rfl, trivial⟩
    refine W.region ?_
    refine OL.pure S (Lf.run_add (S.ev rfl) (S.ev rfl)) rfl rfl trivial ?_
    clear S; intro aa S
    refine OL.pure S (Lf.run_move (S.ev rfl)) rfl rfl trivial ?_
    clear S; intro aa S
    refine OL.nil ?_
    exact ⟨((IntKind.i64.wrap (x21 + 1)), h6), ⟨S.sub _ ⟨rfl, rfl, rfl, rfl, rfl, rfl, trivial⟩, H.1⟩, H.2⟩
  · replace H := H.2 hb
    refine W.exit_ ?_
    refine xhit ?_
    refine W.seq ?_
    replace S := S.sub [(1, Value.int .i64 i1), (3, Value.pointer (some p3)), (7, Value.slice s12.a s12.n s12.c)] ⟨rfl, rfl, rfl, trivial⟩
    refine W.region ?_
    refine OL.pure S (Lf.run_move (S.ev rfl)) rfl rfl trivial ?_
    clear S; intro aa S
    refine OL.pure S (Lf.run_fa (S.ev rfl) fa25_2) rfl rfl trivial ?_
    clear S; intro aa S
    obtain ⟨x38, c_6, H⟩ := H
    refine OL.pure S (Lf.run_ld (S.ev rfl) fl22 (S.cl c_6)) rfl rfl trivial ?_
    clear S; intro aa S
    refine OL.pure S (Lf.run_move (S.ev rfl)) rfl rfl trivial ?_
    clear S; intro aa S
    refine ol_cal S H isfn31 rfl rfl trivial ?_
    clear S H aa; intro u_1 aa ww h7 H S
    obtain ⟨x40, rfl, H⟩ := H
    refine ol_cal S H isfn24 rfl rfl trivial ?_
    clear S H aa; intro u_2 aa ww h8 H S
    refine OL.nil ?_
    refine W.seq ?_
    replace S := S.sub [(7, Value.slice s12.a s12.n s12.c)] ⟨rfl, trivial⟩
    refine W.region ?_
    refine OL.pure S (Lf.run_move (S.ev rfl)) rfl rfl trivial ?_
    clear S; intro aa S
    refine OL.pure S (Lf.run_assign (S.ev rfl)) rfl rfl trivial ?_
    clear S; intro aa S
    refine OL.nil ?_
    refine W.ret ?_
    exact Ret.one S rfl rfl H

/-- chattel flow.join -/
def L26 (a0 : Sv) (b1 : Sv) (h : Heap) (R : Value → Heap → Prop) : Prop :=
  ∃ (I : Bool → Int → Heap → Prop) (m : Bool → Int → Heap → Nat), I false 0 h ∧ ∀ vsome5 x10 h1, I vsome5 x10 h1 →
  ifb (decide (x10 < ((b1.n : Nat) : Int))) (
    ∃ J : Bool → Heap → Prop, (
      ixS b1 x10 fun q13 =>
      ldI .u64 h1 (q13.add ((x10 : Int).toNat * 1)) fun x14 =>
      ixS a0 x10 fun q18 =>
      ldI .u64 h1 (q18.add ((x10 : Int).toNat * 1)) fun x19 =>
      ifb ((bitsI .andNot .u64 x14 x19) != 0) (
        ixS a0 x10 fun q24 =>
        ldI .u64 h1 (q24.add ((x10 : Int).toNat * 1)) fun x25 =>
        ixS a0 x10 fun q28 =>
        sto h1 (q28.add ((x10 : Int).toNat * 1)) (Value.int .u64 (bitsI .or .u64 x25 x14)) fun h2 =>
        J true h2) (
        J vsome5 h1)) ∧ (∀ vsome5_1 h3, J vsome5_1 h3 →
    I vsome5_1 (IntKind.i64.wrap (x10 + 1)) h3 ∧ m vsome5_1 (IntKind.i64.wrap (x10 + 1)) h3 < m vsome5 x10 h1)) (
    R (Value.bool vsome5) h1)

set_option maxRecDepth 100000 in

theorem F26 {a0 b1 h : _} {R : Value → Heap → Prop} (H : L26 a0 b1 h R) : CallsH Try.prog 26 #[Value.slice a0.a a0.n a0.c, Value.slice b1.a b1.n b1.c] h R := by
  refine CallsH.enter (n := 31) Try.func26 rfl rfl rfl rfl ?_
  intro w0 aa ww S
  unfold L26 at H
  refine W.seq ?_
  replace S := S.sub [(0, Value.slice a0.a a0.n a0.c), (1, Value.slice b1.a b1.n b1.c)] ⟨rfl, rfl, trivial⟩
  refine W.region ?_
  refine OL.pure S (Lf.run_assign (S.ev rfl)) rfl rfl trivial ?_
  clear S; intro aa S
  refine OL.nil ?_
  refine W.seq ?_
  replace S := S.sub [(0, Value.slice a0.a a0.n a0.c), (1, Value.slice b1.a b1.n b1.c)] ⟨rfl, rfl, trivial⟩
  refine W.region ?_
  refine OL.pure S (Lf.run_assign (S.ev rfl)) rfl rfl trivial ?_
  clear S; intro aa S
  refine OL.nil ?_
  refine W.seq ?_
  refine W.seq ?_
  replace S := S.sub [(0, Value.slice a0.a a0.n a0.c), (1, Value.slice b1.a b1.n b1.c), (5, Value.bool false)] ⟨rfl, rfl, rfl, trivial⟩
  refine W.region ?_
  refine OL.pure S (Lf.run_move (S.ev rfl)) rfl rfl trivial ?_
  clear S; intro aa S
  refine OL.pure S (Lf.run_lens (S.ev rfl) rfl Try.underlying51) rfl rfl trivial ?_
  clear S; intro aa S
  refine OL.pure S (Lf.run_move (S.ev rfl)) rfl rfl trivial ?_
  clear S; intro aa S
  refine OL.nil ?_
  refine W.block ?_
  obtain ⟨I, m, H, HB⟩ := H
  refine W.loopS (σ := Bool × Int × Heap) (fun s aa ww => St 31 [(0, Value.slice a0.a a0.n a0.c), (5, Value.bool s.1), (8, Value.slice b1.a b1.n b1.c), (9, Value.int .i64 ((b1.n : Nat) : Int)), (10, Value.int .i64 s.2.1)] s.2.2 w0 aa ww ∧ I s.1 s.2.1 s.2.2) (fun s => m s.1 s.2.1 s.2.2) (false, 0, h) ⟨S.sub _ ⟨rfl, rfl, rfl, rfl, rfl, trivial⟩, H⟩ ?_
  clear H S aa
  rintro ⟨vsome5, x10, h1⟩ aa ww ⟨S, HI⟩
  replace S : St 31 [(0, Value.slice a0.a a0.n a0.c), (5, Value.bool vsome5), (8, Value.slice b1.a b1.n b1.c), (9, Value.int .i64 ((b1.n : Nat) : Int)), (10, Value.int .i64 x10)] h1 w0 aa ww := S
  have H := HB vsome5 x10 h1 HI
  clear HI
  refine W.seq ?_
  replace S := S.sub [(0, Value.slice a0.a a0.n a0.c), (5, Value.bool vsome5), (8, Value.slice b1.a b1.n b1.c), (9, Value.int .i64 ((b1.n : Nat) : Int)), (10, Value.int .i64 x10)] ⟨rfl, rfl, rfl, rfl, rfl, trivial⟩
  refine W.region ?_
  refine OL.pure S (Lf.run_lss (S.ev rfl) (S.ev rfl)) rfl rfl trivial ?_
  clear S; intro aa S
  refine OL.nil ?_
  refine W.seq ?_
  refine W.cond S (b := (decide (x10 < ((b1.n : Nat) : Int)))) rfl (fun hb => ?_) (fun hb => ?_)
  · replace H := H.1 hb
    refine W.skip ?_
    obtain ⟨J, H, HK⟩ := H
    refine W.seqJ (fun aa ww => ∃ vsome5_1 h3, St 31 [(0, Value.slice a0.a a0.n a0.c), (5, Value.bool vsome5_1), (8, Value.slice b1.a b1.n b1.c), (9, Value.int .i64 ((b1.n : Nat) : Int)), (10, Value.int .i64 x10)] h3 w0 aa ww ∧ J vsome5_1 h3) ?_ ?_
    · clear HK
      refine W.block ?_
      refine W.seq ?_
      replace S := S.sub [(0, Value.slice a0.a a0.n a0.c), (5, Value.bool vsome5), (8, Value.slice b1.a b1.n b1.c), (9, Value.int .i64 ((b1.n : Nat) : Int)), (10, Value.int .i64 x10)] ⟨rfl, rfl, rfl, rfl, rfl, trivial⟩
      refine W.region ?_
      refine OL.pure S (Lf.run_move (S.ev rfl)) rfl rfl trivial ?_
      clear S; intro aa S
      obtain ⟨q13, e, e_1, e_2, H⟩ := H
      refine OL.pure S (Lf.run_ixs (S.ev rfl) (S.ev rfl) Try.underlying51 ti36 e e_1 e_2) rfl rfl trivial ?_
      clear S; intro aa S
      obtain ⟨x14, c, H⟩ := H
      refine OL.pure S (Lf.run_ld (S.ev rfl) fl36 (S.cl c)) rfl rfl trivial ?_
      clear S; intro aa S
      refine OL.pure S (Lf.run_assign (S.ev rfl)) rfl rfl trivial ?_
      clear S; intro aa S
      refine OL.pure S (Lf.run_assign (S.ev rfl)) rfl rfl trivial ?_
      clear S; intro aa S
      refine OL.nil ?_
      refine W.seq ?_
      replace S := S.sub [(0, Value.slice a0.a a0.n a0.c), (5, Value.bool vsome5), (6, Value.int .i64 x10), (7, Value.int .u64 x14), (8, Value.slice b1.a b1.n b1.c), (9, Value.int .i64 ((b1.n : Nat) : Int)), (10, Value.int .i64 x10)] ⟨rfl, rfl, rfl, rfl, rfl, rfl, rfl, trivial⟩
      refine W.region ?_
      refine OL.pure S (Lf.run_move (S.ev rfl)) rfl rfl trivial ?_
      clear S; intro aa S
      refine OL.pure S (Lf.run_move (S.ev rfl)) rfl rfl trivial ?_
      clear S; intro aa S
      refine OL.pure S (Lf.run_move (S.ev rfl)) rfl rfl trivial ?_
      clear S; intro aa S
      obtain ⟨q18, e_3, e_4, e_5, H⟩ := H
      refine OL.pure S (Lf.run_ixs (S.ev rfl) (S.ev rfl) Try.underlying51 ti36 e_3 e_4 e_5) rfl rfl trivial ?_
      clear S; intro aa S
      obtain ⟨x19, c_1, H⟩ := H
      refine OL.pure S (Lf.run_ld (S.ev rfl) fl36 (S.cl c_1)) rfl rfl trivial ?_
      clear S; intro aa S
      refine OL.pure S (Lf.run_bits (op := .andNot) (by simp) (S.ev rfl) (S.ev rfl)) rfl rfl trivial ?_
      clear S; intro aa S
      refine OL.pure S (Lf.run_neq (S.ev rfl) (S.ev rfl)) rfl rfl trivial ?_
      clear S; intro aa S
      refine OL.nil ?_
      refine W.cond S (b := ((bitsI .andNot .u64 x14 x19) != 0)) rfl (fun hb_1 => ?_) (fun hb_1 => ?_)
      · replace H := H.1 hb_1
        refine W.seq ?_
        replace S := S.sub [(0, Value.slice a0.a a0.n a0.c), (6, Value.int .i64 x10), (7, Value.int .u64 x14), (8, Value.slice b1.a b1.n b1.c), (9, Value.int .i64 ((b1.n : Nat) : Int)), (10, Value.int .i64 x10)] ⟨rfl, rfl, rfl, rfl, rfl, rfl, trivial⟩
        refine W.region ?_
        refine OL.pure S (Lf.run_move (S.ev rfl)) rfl rfl trivial ?_
        clear S; intro aa S
        refine OL.pure S (Lf.run_move (S.ev rfl)) rfl rfl trivial ?_
        clear S; intro aa S
        obtain ⟨q24, e_6, e_7, e_8, H⟩ := H
        refine OL.pure S (Lf.run_ixs (S.ev rfl) (S.ev rfl) Try.underlying51 ti36 e_6 e_7 e_8) rfl rfl trivial ?_
        clear S; intro aa S
        obtain ⟨x25, c_2, H⟩ := H
        refine OL.pure S (Lf.run_ld (S.ev rfl) fl36 (S.cl c_2)) rfl rfl trivial ?_
        clear S; intro aa S
        refine OL.pure S (Lf.run_move (S.ev rfl)) rfl rfl trivial ?_
        clear S; intro aa S
        refine OL.pure S (Lf.run_bits (op := .or) (by simp) (S.ev rfl) (S.ev rfl)) rfl rfl trivial ?_
        clear S; intro aa S
        obtain ⟨q28, e_9, e_10, e_11, H⟩ := H
        refine OL.pure S (Lf.run_ixs (S.ev rfl) (S.ev rfl) Try.underlying51 ti36 e_9 e_10 e_11) rfl rfl trivial ?_
        clear S; intro aa S
        refine ol_sto S H rfl rfl rfl ti36 trivial ?_
        clear S H aa; intro aa ww h2 H S
        refine OL.nil ?_
        replace S := S.sub [(0, Value.slice a0.a a0.n a0.c), (8, Value.slice b1.a b1.n b1.c), (9, Value.int .i64 ((b1.n : Nat) : Int)), (10, Value.int .i64 x10)] ⟨rfl, rfl, rfl, rfl, trivial⟩
        refine W.region ?_
        refine OL.pure S (Lf.run_assign (S.ev rfl)) rfl rfl trivial ?_
        clear S; intro aa S
        refine OL.nil ?_
        exact ⟨true, h2, S.sub _ ⟨rfl, rfl, rfl, rfl, rfl, trivial⟩, H⟩
      · replace H := H.2 hb_1
        refine W.skip ?_
        exact ⟨vsome5, h1, S.sub _ ⟨rfl, rfl, rfl, rfl, rfl, trivial⟩, H⟩
    · clear H S aa
      rintro aa ww ⟨vsome5_1, h3, S, HJ⟩
      have H := HK _ _ HJ
      clear HK HJ
      replace S := S.sub [(0, Value.slice a0.a a0.n a0.c), (5, Value.bool vsome5_1), (8, Value.slice b1.a b1.n b1.c), (9, Value.int .i64 ((b1.n : Nat) : Int)), (10, Value.int .i64 x10)] ⟨rfl, rfl, rfl, rfl, rfl, trivial⟩
      refine W.region ?_
      refine OL.pure S (Lf.run_add (S.ev rfl) (S.ev rfl)) rfl rfl trivial ?_
      clear S; intro aa S
      refine OL.pure S (Lf.run_move (S.ev rfl)) rfl rfl trivial ?_
      clear S; intro aa S
      refine OL.nil ?_
      exact ⟨(vsome5_1, (IntKind.i64.wrap (x10 + 1)), h3), ⟨S.sub _ ⟨rfl, rfl, rfl, rfl, rfl, trivial⟩, H.1⟩, H.2⟩
  · replace H := H.2 hb
    refine W.exit_ ?_
    refine xhit ?_
    refine W.seq ?_
    replace S := S.sub [(5, Value.bool vsome5)] ⟨rfl, trivial⟩
    refine W.region ?_
    refine OL.pure S (Lf.run_move (S.ev rfl)) rfl rfl trivial ?_
    clear S; intro aa S
    refine OL.pure S (Lf.run_assign (S.ev rfl)) rfl rfl trivial ?_
    clear S; intro aa S
    refine OL.nil ?_
    refine W.ret ?_
    exact Ret.one S rfl rfl H

end Go.Proofs.Ytglhkodebehdbaa

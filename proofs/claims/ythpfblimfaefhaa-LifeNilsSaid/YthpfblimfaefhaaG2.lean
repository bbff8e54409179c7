/- Lifted by program off the elaborated code: each Go function, read as a proposition over typed variables and the heap. -/
import Derived.Test.YthpfblimfaefhaaG0
namespace Go.Proofs.Ythpfblimfaefhaa
open Go Go.Lf
set_option linter.unusedVariables false

/-- chattel chattellaw06.LifeOrders -/
def L4 (n0 : Int) (pairs1 : Sv) (x2 : Int) (x2_1 : Int) (x2_2 : Int) (h : Heap) (R : Value → Heap → Prop) : Prop :=
  new 30 #[Value.int .i64 x2, Value.int .i64 x2_1, Value.int .i64 x2_2] h fun p5 h1 =>
  cal Try.prog 9 #[] h1 fun u h2 => asB u fun x14 =>
  ifb ((((!x14) || (decide (n0 < 0))) || (decide (60 < n0))) || (decide (100 < ((pairs1.n : Nat) : Int)))) (
    cal Try.prog 9 #[] h2 fun u_1 h3 => asB u_1 fun x29 =>
    R (Value.bool x29) h3) (
    cal Try.prog 10 #[Value.int .i64 n0, Value.slice pairs1.a pairs1.n pairs1.c] h2 fun u_2 h4 => asTup u_2 fun r33 =>
    elt r33 0 fun u_3 => asP u_3 fun x34 =>
    elt r33 1 fun u_4 => asP u_4 fun x35 =>
    elt r33 2 fun u_5 => asB u_5 fun x36 =>
    ifb (!x36) (
      R (Value.bool false) h4) (
      ldI .i64 h4 p5 fun x43 =>
      ((IntKind.u64.wrap ((IntKind.u64.wrap n0) + 1)) ≠ 0) ∧
      ldI .i64 h4 (p5.add 1) fun x49 =>
      ((IntKind.u64.wrap ((IntKind.u64.wrap n0) + 1)) ≠ 0) ∧
      ldI .i64 h4 (p5.add 2) fun x55 =>
      ((IntKind.u64.wrap ((IntKind.u64.wrap n0) + 1)) ≠ 0) ∧
      cal Try.prog 11 #[Value.pointer x34, Value.int .i64 (IntKind.i64.wrap (((IntKind.u64.wrap x43) : Int).tmod (IntKind.u64.wrap ((IntKind.u64.wrap n0) + 1)))), Value.int .i64 (IntKind.i64.wrap (((IntKind.u64.wrap x43) : Int).tmod (IntKind.u64.wrap ((IntKind.u64.wrap n0) + 1))))] h4 fun u_6 h5 => asB u_6 fun x63 =>
      ∃ J : Bool → Heap → Prop, (andj x63 (fun k =>
        cal Try.prog 11 #[Value.pointer x34, Value.int .i64 0, Value.int .i64 (IntKind.i64.wrap (((IntKind.u64.wrap x49) : Int).tmod (IntKind.u64.wrap ((IntKind.u64.wrap n0) + 1))))] h5 fun u_7 h7 => asB u_7 fun x67 =>
        k x67 h7) h5 J) ∧ ∀ x68 h6, J x68 h6 →
      ∃ J_1 : Bool → Heap → Prop, (andj x68 (fun k_1 =>
        cal Try.prog 11 #[Value.pointer x34, Value.int .i64 (IntKind.i64.wrap (((IntKind.u64.wrap x43) : Int).tmod (IntKind.u64.wrap ((IntKind.u64.wrap n0) + 1)))), Value.int .i64 (IntKind.i64.wrap (((IntKind.u64.wrap x49) : Int).tmod (IntKind.u64.wrap ((IntKind.u64.wrap n0) + 1))))] h6 fun u_8 h9 => asB u_8 fun x73 =>
        ∃ J_2 : Bool → Heap → Prop, (orj (!x73) (fun k_2 =>
          cal Try.prog 11 #[Value.pointer x34, Value.int .i64 (IntKind.i64.wrap (((IntKind.u64.wrap x49) : Int).tmod (IntKind.u64.wrap ((IntKind.u64.wrap n0) + 1)))), Value.int .i64 (IntKind.i64.wrap (((IntKind.u64.wrap x55) : Int).tmod (IntKind.u64.wrap ((IntKind.u64.wrap n0) + 1))))] h9 fun u_9 h11 => asB u_9 fun x79 =>
          k_2 (!x79) h11) h9 J_2) ∧ ∀ x81 h10, J_2 x81 h10 →
        ∃ J_3 : Bool → Heap → Prop, (orj x81 (fun k_3 =>
          cal Try.prog 11 #[Value.pointer x34, Value.int .i64 (IntKind.i64.wrap (((IntKind.u64.wrap x43) : Int).tmod (IntKind.u64.wrap ((IntKind.u64.wrap n0) + 1)))), Value.int .i64 (IntKind.i64.wrap (((IntKind.u64.wrap x55) : Int).tmod (IntKind.u64.wrap ((IntKind.u64.wrap n0) + 1))))] h10 fun u_10 h13 => asB u_10 fun x86 =>
          k_3 x86 h13) h10 J_3) ∧ ∀ x87 h12, J_3 x87 h12 →
        k_1 x87 h12) h6 J_1) ∧ ∀ x88 h8, J_1 x88 h8 →
      R (Value.bool x88) h8))

set_option maxRecDepth 100000 in

theorem F4 {n0 pairs1 x2 x2_1 x2_2 h : _} {R : Value → Heap → Prop} (H : L4 n0 pairs1 x2 x2_1 x2_2 h R) : CallsH Try.prog 4 #[Value.int .i64 n0, Value.slice pairs1.a pairs1.n pairs1.c, Value.agg #[Value.int .i64 x2, Value.int .i64 x2_1, Value.int .i64 x2_2]] h R := by
  refine CallsH.enter (n := 89) Try.func4 rfl rfl rfl rfl ?_
  intro w0 aa ww S
  unfold L4 at H
  refine W.seq ?_
  replace S := S.sub [(0, Value.int .i64 n0), (1, Value.slice pairs1.a pairs1.n pairs1.c), (2, Value.agg #[Value.int .i64 x2, Value.int .i64 x2_1, Value.int .i64 x2_2])] ⟨rfl, rfl, rfl, trivial⟩
  refine W.region ?_
  refine ol_box S H rfl rfl rfl trivial ?_
  clear S H aa; intro p5 aa ww h1 H S
  refine OL.pure S (Lf.run_assign (S.ev rfl)) rfl rfl trivial ?_
  clear S; intro aa S
  refine OL.nil ?_
  refine W.seq ?_
  refine W.seq ?_
  replace S := S.sub [(0, Value.int .i64 n0), (1, Value.slice pairs1.a pairs1.n pairs1.c), (5, Value.pointer (some p5))] ⟨rfl, rfl, rfl, trivial⟩
  refine W.region ?_
  refine ol_cal S H isfn9 rfl rfl trivial ?_
  clear S H aa; intro u aa ww h2 H S
  obtain ⟨x14, rfl, H⟩ := H
  refine OL.pure S (Lf.run_not (S.ev rfl)) rfl rfl trivial ?_
  clear S; intro aa S
  refine OL.pure S (Lf.run_move (S.ev rfl)) rfl rfl trivial ?_
  clear S; intro aa S
  refine OL.cutN 3 (fun aa ww => St 89 ((19, Value.bool ((!x14) || (decide (n0 < 0)))) :: [(0, Value.int .i64 n0), (1, Value.slice pairs1.a pairs1.n pairs1.c), (5, Value.pointer (some p5)), (14, Value.bool x14), (15, Value.bool (!x14)), (16, Value.bool (!x14))]) h2 w0 aa ww) ?_ ?_
  · rcases Bool.eq_false_or_eq_true (!x14) with hb | hb
    · refine OL.not S rfl rfl (GNo.mk rfl rfl hb) ?_
      clear S; intro aa S
      refine OL.not S rfl rfl (GNo.mk rfl rfl hb) ?_
      clear S; intro aa S
      refine OL.pure S (Lf.run_pickT (S.ev rfl) hb (S.ev rfl)) rfl rfl trivial ?_
      clear S; intro aa S
      refine OL.nil ?_
      exact (S.hd (by rw [hb, Bool.true_or])).sub _ ⟨rfl, rfl, rfl, rfl, rfl, rfl, rfl, trivial⟩
    · refine OL.pure S (Lf.run_move (S.ev rfl)) rfl rfl (GOk.mk rfl rfl hb) ?_
      clear S; intro aa S
      refine OL.pure S (Lf.run_lss (S.ev rfl) (S.ev rfl)) rfl rfl (GOk.mk rfl rfl hb) ?_
      clear S; intro aa S
      refine OL.pure S (Lf.run_pickF (S.ev rfl) hb (S.ev rfl)) rfl rfl trivial ?_
      clear S; intro aa S
      refine OL.nil ?_
      exact (S.hd (by rw [hb, Bool.false_or])).sub _ ⟨rfl, rfl, rfl, rfl, rfl, rfl, rfl, trivial⟩
  · clear S aa
    intro aa ww S
    refine OL.pure S (Lf.run_move (S.ev rfl)) rfl rfl trivial ?_
    clear S; intro aa S
    refine OL.cutN 3 (fun aa ww => St 89 ((23, Value.bool (((!x14) || (decide (n0 < 0))) || (decide (60 < n0)))) :: [(0, Value.int .i64 n0), (1, Value.slice pairs1.a pairs1.n pairs1.c), (5, Value.pointer (some p5)), (14, Value.bool x14), (15, Value.bool (!x14)), (16, Value.bool (!x14)), (19, Value.bool ((!x14) || (decide (n0 < 0)))), (20, Value.bool ((!x14) || (decide (n0 < 0))))]) h2 w0 aa ww) ?_ ?_
    · rcases Bool.eq_false_or_eq_true ((!x14) || (decide (n0 < 0))) with hb_1 | hb_1
      · refine OL.not S rfl rfl (GNo.mk rfl rfl hb_1) ?_
        clear S; intro aa S
        refine OL.not S rfl rfl (GNo.mk rfl rfl hb_1) ?_
        clear S; intro aa S
        refine OL.pure S (Lf.run_pickT (S.ev rfl) hb_1 (S.ev rfl)) rfl rfl trivial ?_
        clear S; intro aa S
        refine OL.nil ?_
        exact (S.hd (by rw [hb_1, Bool.true_or])).sub _ ⟨rfl, rfl, rfl, rfl, rfl, rfl, rfl, rfl, rfl, trivial⟩
      · refine OL.pure S (Lf.run_move (S.ev rfl)) rfl rfl (GOk.mk rfl rfl hb_1) ?_
        clear S; intro aa S
        refine OL.pure S (Lf.run_gtr (S.ev rfl) (S.ev rfl)) rfl rfl (GOk.mk rfl rfl hb_1) ?_
        clear S; intro aa S
        refine OL.pure S (Lf.run_pickF (S.ev rfl) hb_1 (S.ev rfl)) rfl rfl trivial ?_
        clear S; intro aa S
        refine OL.nil ?_
        exact (S.hd (by rw [hb_1, Bool.false_or])).sub _ ⟨rfl, rfl, rfl, rfl, rfl, rfl, rfl, rfl, rfl, trivial⟩
    · clear S aa
      intro aa ww S
      refine OL.pure S (Lf.run_move (S.ev rfl)) rfl rfl trivial ?_
      clear S; intro aa S
      refine OL.cutN 4 (fun aa ww => St 89 ((28, Value.bool ((((!x14) || (decide (n0 < 0))) || (decide (60 < n0))) || (decide (100 < ((pairs1.n : Nat) : Int))))) :: [(0, Value.int .i64 n0), (1, Value.slice pairs1.a pairs1.n pairs1.c), (5, Value.pointer (some p5)), (14, Value.bool x14), (15, Value.bool (!x14)), (16, Value.bool (!x14)), (19, Value.bool ((!x14) || (decide (n0 < 0)))), (20, Value.bool ((!x14) || (decide (n0 < 0)))), (23, Value.bool (((!x14) || (decide (n0 < 0))) || (decide (60 < n0)))), (24, Value.bool (((!x14) || (decide (n0 < 0))) || (decide (60 < n0))))]) h2 w0 aa ww) ?_ ?_
      · rcases Bool.eq_false_or_eq_true (((!x14) || (decide (n0 < 0))) || (decide (60 < n0))) with hb_2 | hb_2
        · refine OL.not S rfl rfl (GNo.mk rfl rfl hb_2) ?_
          clear S; intro aa S
          refine OL.not S rfl rfl (GNo.mk rfl rfl hb_2) ?_
          clear S; intro aa S
          refine OL.not S rfl rfl (GNo.mk rfl rfl hb_2) ?_
          clear S; intro aa S
          refine OL.pure S (Lf.run_pickT (S.ev rfl) hb_2 (S.ev rfl)) rfl rfl trivial ?_
          clear S; intro aa S
          refine OL.nil ?_
          exact (S.hd (by rw [hb_2, Bool.true_or])).sub _ ⟨rfl, rfl, rfl, rfl, rfl, rfl, rfl, rfl, rfl, rfl, rfl, trivial⟩
        · refine OL.pure S (Lf.run_move (S.ev rfl)) rfl rfl (GOk.mk rfl rfl hb_2) ?_
          clear S; intro aa S
          refine OL.pure S (Lf.run_lens (S.ev rfl) rfl Try.underlying22) rfl rfl (GOk.mk rfl rfl hb_2) ?_
          clear S; intro aa S
          refine OL.pure S (Lf.run_gtr (S.ev rfl) (S.ev rfl)) rfl rfl (GOk.mk rfl rfl hb_2) ?_
          clear S; intro aa S
          refine OL.pure S (Lf.run_pickF (S.ev rfl) hb_2 (S.ev rfl)) rfl rfl trivial ?_
          clear S; intro aa S
          refine OL.nil ?_
          exact (S.hd (by rw [hb_2, Bool.false_or])).sub _ ⟨rfl, rfl, rfl, rfl, rfl, rfl, rfl, rfl, rfl, rfl, rfl, trivial⟩
      · clear S aa
        intro aa ww S
        refine OL.nil ?_
        refine W.cond S (b := ((((!x14) || (decide (n0 < 0))) || (decide (60 < n0))) || (decide (100 < ((pairs1.n : Nat) : Int))))) rfl (fun hb_3 => ?_) (fun hb_3 => ?_)
        · replace H := H.1 hb_3
          refine W.seq ?_
          replace S := S.sub [] trivial
          refine W.region ?_
          refine ol_cal S H isfn9 rfl rfl trivial ?_
          clear S H aa; intro u_1 aa ww h3 H S
          obtain ⟨x29, rfl, H⟩ := H
          refine OL.pure S (Lf.run_assign (S.ev rfl)) rfl rfl trivial ?_
          clear S; intro aa S
          refine OL.nil ?_
          refine W.ret ?_
          exact Ret.one S rfl rfl H
        · replace H := H.2 hb_3
          refine W.skip ?_
          refine W.seq ?_
          replace S := S.sub [(0, Value.int .i64 n0), (1, Value.slice pairs1.a pairs1.n pairs1.c), (5, Value.pointer (some p5))] ⟨rfl, rfl, rfl, trivial⟩
          refine W.region ?_
          refine OL.pure S (Lf.run_move (S.ev rfl)) rfl rfl trivial ?_
          clear S; intro aa S
          refine OL.pure S (Lf.run_move (S.ev rfl)) rfl rfl trivial ?_
          clear S; intro aa S
          refine ol_cal S H isfn10 rfl rfl trivial ?_
          clear S H aa; intro u_2 aa ww h4 H S
          obtain ⟨r33, rfl, H⟩ := H
          refine OL.pure S (Lf.run_move (S.ev rfl)) rfl rfl trivial ?_
          clear S; intro aa S
          obtain ⟨u_3, e, x34, rfl, H⟩ := H
          refine OL.pure S (Lf.run_ex (S.ev rfl) e) rfl rfl trivial ?_
          clear S; intro aa S
          obtain ⟨u_4, e_1, x35, rfl, H⟩ := H
          refine OL.pure S (Lf.run_ex (S.ev rfl) e_1) rfl rfl trivial ?_
          clear S; intro aa S
          obtain ⟨u_5, e_2, x36, rfl, H⟩ := H
          refine OL.pure S (Lf.run_ex (S.ev rfl) e_2) rfl rfl trivial ?_
          clear S; intro aa S
          refine OL.pure S (Lf.run_assign (S.ev rfl)) rfl rfl trivial ?_
          clear S; intro aa S
          refine OL.pure S (Lf.run_assign (S.ev rfl)) rfl rfl trivial ?_
          clear S; intro aa S
          refine OL.pure S (Lf.run_assign (S.ev rfl)) rfl rfl trivial ?_
          clear S; intro aa S
          refine OL.nil ?_
          refine W.seq ?_
          refine W.seq ?_
          replace S := S.sub [(0, Value.int .i64 n0), (5, Value.pointer (some p5)), (7, Value.pointer x34), (9, Value.bool x36)] ⟨rfl, rfl, rfl, rfl, trivial⟩
          refine W.region ?_
          refine OL.pure S (Lf.run_move (S.ev rfl)) rfl rfl trivial ?_
          clear S; intro aa S
          refine OL.pure S (Lf.run_not (S.ev rfl)) rfl rfl trivial ?_
          clear S; intro aa S
          refine OL.nil ?_
          refine W.cond S (b := (!x36)) rfl (fun hb_4 => ?_) (fun hb_4 => ?_)
          · replace H := H.1 hb_4
            refine W.seq ?_
            replace S := S.sub [] trivial
            refine W.region ?_
            refine OL.pure S (Lf.run_assign (S.ev rfl)) rfl rfl trivial ?_
            clear S; intro aa S
            refine OL.nil ?_
            refine W.ret ?_
            exact Ret.one S rfl rfl H
          · replace H := H.2 hb_4
            refine W.skip ?_
            refine W.seq ?_
            replace S := S.sub [(0, Value.int .i64 n0), (5, Value.pointer (some p5)), (7, Value.pointer x34)] ⟨rfl, rfl, rfl, trivial⟩
            refine W.region ?_
            refine OL.pure S (Lf.run_move (S.ev rfl)) rfl rfl trivial ?_
            clear S; intro aa S
            refine OL.pure S (Lf.run_cvi Try.underlying3 Try.underlying31 (S.ev rfl)) rfl rfl trivial ?_
            clear S; intro aa S
            refine OL.pure S (Lf.run_add (S.ev rfl) (S.ev rfl)) rfl rfl trivial ?_
            clear S; intro aa S
            refine OL.pure S (Lf.run_assign (S.ev rfl)) rfl rfl trivial ?_
            clear S; intro aa S
            refine OL.nil ?_
            refine W.seq ?_
            replace S := S.sub [(5, Value.pointer (some p5)), (7, Value.pointer x34), (10, Value.int .u64 (IntKind.u64.wrap ((IntKind.u64.wrap n0) + 1)))] ⟨rfl, rfl, rfl, trivial⟩
            refine W.regionD S (by kernel_rfl) ?_
            clear S; intro ww S
            refine AN.pure 0 S rfl (by kernel_rfl) (fun _ => Lf.run_ixa (S.ev rfl) (S.ev rfl) Try.underlying30 ti3 (by decide) (by decide)) rfl rfl trivial ?_
            clear S; intro aa S
            obtain ⟨x43, c, H⟩ := H
            refine AN.load 1 S rfl (by kernel_rfl) (fun _ hx => Lf.run_ld (S.ev rfl) fl3 (hx.cell _ _ (S.cl c))) rfl rfl trivial ?_
            clear S; intro aa S
            refine AN.pure 2 S rfl (by kernel_rfl) (fun _ => Lf.run_cvi Try.underlying3 Try.underlying31 (S.ev rfl)) rfl rfl trivial ?_
            clear S; intro aa S
            refine AN.pure 3 S rfl (by kernel_rfl) (fun _ => Lf.run_move (S.ev rfl)) rfl rfl trivial ?_
            clear S; intro aa S
            obtain ⟨c_5, H⟩ := H
            refine AN.pure 4 S rfl (by kernel_rfl) (fun _ => Lf.run_rem (S.ev rfl) (S.ev rfl) c_5) rfl rfl trivial ?_
            clear S; intro aa S
            refine AN.pure 5 S rfl (by kernel_rfl) (fun _ => Lf.run_cvi Try.underlying31 Try.underlying3 (S.ev rfl)) rfl rfl trivial ?_
            clear S; intro aa S
            refine AN.pure 6 S rfl (by kernel_rfl) (fun _ => Lf.run_ixa (S.ev rfl) (S.ev rfl) Try.underlying30 ti3 (by decide) (by decide)) rfl rfl trivial ?_
            clear S; intro aa S
            obtain ⟨x49, c_1, H⟩ := H
            refine AN.load 7 S rfl (by kernel_rfl) (fun _ hx => Lf.run_ld (S.ev rfl) fl3 (hx.cell _ _ (S.cl c_1))) rfl rfl trivial ?_
            clear S; intro aa S
            refine AN.pure 8 S rfl (by kernel_rfl) (fun _ => Lf.run_cvi Try.underlying3 Try.underlying31 (S.ev rfl)) rfl rfl trivial ?_
            clear S; intro aa S
            refine AN.pure 9 S rfl (by kernel_rfl) (fun _ => Lf.run_move (S.ev rfl)) rfl rfl trivial ?_
            clear S; intro aa S
            obtain ⟨c_4, H⟩ := H
            refine AN.pure 10 S rfl (by kernel_rfl) (fun _ => Lf.run_rem (S.ev rfl) (S.ev rfl) c_4) rfl rfl trivial ?_
            clear S; intro aa S
            refine AN.pure 11 S rfl (by kernel_rfl) (fun _ => Lf.run_cvi Try.underlying31 Try.underlying3 (S.ev rfl)) rfl rfl trivial ?_
            clear S; intro aa S
            refine AN.pure 12 S rfl (by kernel_rfl) (fun _ => Lf.run_ixa (S.ev rfl) (S.ev rfl) Try.underlying30 ti3 (by decide) (by decide)) rfl rfl trivial ?_
            clear S; intro aa S
            obtain ⟨x55, c_2, H⟩ := H
            refine AN.load 13 S rfl (by kernel_rfl) (fun _ hx => Lf.run_ld (S.ev rfl) fl3 (hx.cell _ _ (S.cl c_2))) rfl rfl trivial ?_
            clear S; intro aa S
            refine AN.pure 14 S rfl (by kernel_rfl) (fun _ => Lf.run_cvi Try.underlying3 Try.underlying31 (S.ev rfl)) rfl rfl trivial ?_
            clear S; intro aa S
            refine AN.pure 15 S rfl (by kernel_rfl) (fun _ => Lf.run_move (S.ev rfl)) rfl rfl trivial ?_
            clear S; intro aa S
            obtain ⟨c_3, H⟩ := H
            refine AN.pure 16 S rfl (by kernel_rfl) (fun _ => Lf.run_rem (S.ev rfl) (S.ev rfl) c_3) rfl rfl trivial ?_
            clear S; intro aa S
            refine AN.pure 17 S rfl (by kernel_rfl) (fun _ => Lf.run_cvi Try.underlying31 Try.underlying3 (S.ev rfl)) rfl rfl trivial ?_
            clear S; intro aa S
            refine AN.pure 18 S rfl (by kernel_rfl) (fun _ => Lf.run_assign (S.ev rfl)) rfl rfl trivial ?_
            clear S; intro aa S
            refine AN.pure 19 S rfl (by kernel_rfl) (fun _ => Lf.run_assign (S.ev rfl)) rfl rfl trivial ?_
            clear S; intro aa S
            refine AN.pure 20 S rfl (by kernel_rfl) (fun _ => Lf.run_assign (S.ev rfl)) rfl rfl trivial ?_
            clear S; intro aa S
            refine AN.done (by kernel_rfl) ?_
            refine W.seq ?_
            replace S := S.sub [(7, Value.pointer x34), (11, Value.int .i64 (IntKind.i64.wrap (((IntKind.u64.wrap x43) : Int).tmod (IntKind.u64.wrap ((IntKind.u64.wrap n0) + 1))))), (12, Value.int .i64 (IntKind.i64.wrap (((IntKind.u64.wrap x49) : Int).tmod (IntKind.u64.wrap ((IntKind.u64.wrap n0) + 1))))), (13, Value.int .i64 (IntKind.i64.wrap (((IntKind.u64.wrap x55) : Int).tmod (IntKind.u64.wrap ((IntKind.u64.wrap n0) + 1)))))] ⟨rfl, rfl, rfl, rfl, trivial⟩
            refine W.region ?_
            refine OL.pure S (Lf.run_move (S.ev rfl)) rfl rfl trivial ?_
            clear S; intro aa S
            refine OL.pure S (Lf.run_move (S.ev rfl)) rfl rfl trivial ?_
            clear S; intro aa S
            refine OL.pure S (Lf.run_move (S.ev rfl)) rfl rfl trivial ?_
            clear S; intro aa S
            refine ol_cal S H isfn11 rfl rfl trivial ?_
            clear S H aa; intro u_6 aa ww h5 H S
            obtain ⟨x63, rfl, H⟩ := H
            refine OL.pure S (Lf.run_move (S.ev rfl)) rfl rfl trivial ?_
            clear S; intro aa S
            obtain ⟨J, H, HK⟩ := H
            refine OL.cutN 4 (fun aa ww => ∃ x68 h6, St 89 ((68, Value.bool x68) :: [(7, Value.pointer x34), (11, Value.int .i64 (IntKind.i64.wrap (((IntKind.u64.wrap x43) : Int).tmod (IntKind.u64.wrap ((IntKind.u64.wrap n0) + 1))))), (12, Value.int .i64 (IntKind.i64.wrap (((IntKind.u64.wrap x49) : Int).tmod (IntKind.u64.wrap ((IntKind.u64.wrap n0) + 1))))), (13, Value.int .i64 (IntKind.i64.wrap (((IntKind.u64.wrap x55) : Int).tmod (IntKind.u64.wrap ((IntKind.u64.wrap n0) + 1))))), (60, Value.pointer x34), (61, Value.int .i64 (IntKind.i64.wrap (((IntKind.u64.wrap x43) : Int).tmod (IntKind.u64.wrap ((IntKind.u64.wrap n0) + 1))))), (62, Value.int .i64 (IntKind.i64.wrap (((IntKind.u64.wrap x43) : Int).tmod (IntKind.u64.wrap ((IntKind.u64.wrap n0) + 1))))), (63, Value.bool x63), (64, Value.bool x63)]) h6 w0 aa ww ∧ J x68 h6) ?_ ?_
            · rcases Bool.eq_false_or_eq_true x63 with hb_5 | hb_5
              · replace H := H.1 hb_5
                refine OL.pure S (Lf.run_move (S.ev rfl)) rfl rfl (GOk.mk rfl rfl hb_5) ?_
                clear S; intro aa S
                refine OL.pure S (Lf.run_move (S.ev rfl)) rfl rfl (GOk.mk rfl rfl hb_5) ?_
                clear S; intro aa S
                refine ol_cal S H isfn11 rfl rfl (GOk.mk rfl rfl hb_5) ?_
                clear S H aa; intro u_7 aa ww h7 H S
                obtain ⟨x67, rfl, H⟩ := H
                refine OL.pure S (Lf.run_pickT (S.ev rfl) hb_5 (S.ev rfl)) rfl rfl trivial ?_
                clear S; intro aa S
                refine OL.nil ?_
                exact ⟨_, _, S.sub _ ⟨rfl, rfl, rfl, rfl, rfl, rfl, rfl, rfl, rfl, rfl, trivial⟩, H⟩
              · replace H := H.2 hb_5
                refine OL.not S rfl rfl (GNo.mk rfl rfl hb_5) ?_
                clear S; intro aa S
                refine OL.not S rfl rfl (GNo.mk rfl rfl hb_5) ?_
                clear S; intro aa S
                refine OL.not S rfl rfl (GNo.mk rfl rfl hb_5) ?_
                clear S; intro aa S
                refine OL.pure S (Lf.run_pickF (S.ev rfl) hb_5 (S.ev rfl)) rfl rfl trivial ?_
                clear S; intro aa S
                refine OL.nil ?_
                exact ⟨_, _, S.sub _ ⟨rfl, rfl, rfl, rfl, rfl, rfl, rfl, rfl, rfl, rfl, trivial⟩, H⟩
            · clear S aa
              rintro aa ww ⟨x68, h6, S, HJ⟩
              replace H := HK _ _ HJ
              clear HK HJ
              refine OL.pure S (Lf.run_move (S.ev rfl)) rfl rfl trivial ?_
              clear S; intro aa S
              obtain ⟨J_1, H, HK_1⟩ := H
              refine OL.cutN 19 (fun aa ww => ∃ x88 h8, St 89 ((88, Value.bool x88) :: [(7, Value.pointer x34), (11, Value.int .i64 (IntKind.i64.wrap (((IntKind.u64.wrap x43) : Int).tmod (IntKind.u64.wrap ((IntKind.u64.wrap n0) + 1))))), (12, Value.int .i64 (IntKind.i64.wrap (((IntKind.u64.wrap x49) : Int).tmod (IntKind.u64.wrap ((IntKind.u64.wrap n0) + 1))))), (13, Value.int .i64 (IntKind.i64.wrap (((IntKind.u64.wrap x55) : Int).tmod (IntKind.u64.wrap ((IntKind.u64.wrap n0) + 1))))), (60, Value.pointer x34), (61, Value.int .i64 (IntKind.i64.wrap (((IntKind.u64.wrap x43) : Int).tmod (IntKind.u64.wrap ((IntKind.u64.wrap n0) + 1))))), (62, Value.int .i64 (IntKind.i64.wrap (((IntKind.u64.wrap x43) : Int).tmod (IntKind.u64.wrap ((IntKind.u64.wrap n0) + 1))))), (63, Value.bool x63), (64, Value.bool x63), (68, Value.bool x68), (69, Value.bool x68)]) h8 w0 aa ww ∧ J_1 x88 h8) ?_ ?_
              · rcases Bool.eq_false_or_eq_true x68 with hb_6 | hb_6
                · replace H := H.1 hb_6
                  refine OL.pure S (Lf.run_move (S.ev rfl)) rfl rfl (GOk.mk rfl rfl hb_6) ?_
                  clear S; intro aa S
                  refine OL.pure S (Lf.run_move (S.ev rfl)) rfl rfl (GOk.mk rfl rfl hb_6) ?_
                  clear S; intro aa S
                  refine OL.pure S (Lf.run_move (S.ev rfl)) rfl rfl (GOk.mk rfl rfl hb_6) ?_
                  clear S; intro aa S
                  refine ol_cal S H isfn11 rfl rfl (GOk.mk rfl rfl hb_6) ?_
                  clear S H aa; intro u_8 aa ww h9 H S
                  obtain ⟨x73, rfl, H⟩ := H
                  refine OL.pure S (Lf.run_not (S.ev rfl)) rfl rfl (GOk.mk rfl rfl hb_6) ?_
                  clear S; intro aa S
                  refine OL.pure S (Lf.run_move (S.ev rfl)) rfl rfl (GOk.mk rfl rfl hb_6) ?_
                  clear S; intro aa S
                  obtain ⟨J_2, H, HK_2⟩ := H
                  refine OL.cutN 6 (fun aa ww => ∃ x81 h10, St 89 ((81, Value.bool x81) :: [(7, Value.pointer x34), (11, Value.int .i64 (IntKind.i64.wrap (((IntKind.u64.wrap x43) : Int).tmod (IntKind.u64.wrap ((IntKind.u64.wrap n0) + 1))))), (12, Value.int .i64 (IntKind.i64.wrap (((IntKind.u64.wrap x49) : Int).tmod (IntKind.u64.wrap ((IntKind.u64.wrap n0) + 1))))), (13, Value.int .i64 (IntKind.i64.wrap (((IntKind.u64.wrap x55) : Int).tmod (IntKind.u64.wrap ((IntKind.u64.wrap n0) + 1))))), (60, Value.pointer x34), (61, Value.int .i64 (IntKind.i64.wrap (((IntKind.u64.wrap x43) : Int).tmod (IntKind.u64.wrap ((IntKind.u64.wrap n0) + 1))))), (62, Value.int .i64 (IntKind.i64.wrap (((IntKind.u64.wrap x43) : Int).tmod (IntKind.u64.wrap ((IntKind.u64.wrap n0) + 1))))), (63, Value.bool x63), (64, Value.bool x63), (68, Value.bool x68), (69, Value.bool x68), (70, Value.pointer x34), (71, Value.int .i64 (IntKind.i64.wrap (((IntKind.u64.wrap x43) : Int).tmod (IntKind.u64.wrap ((IntKind.u64.wrap n0) + 1))))), (72, Value.int .i64 (IntKind.i64.wrap (((IntKind.u64.wrap x49) : Int).tmod (IntKind.u64.wrap ((IntKind.u64.wrap n0) + 1))))), (73, Value.bool x73), (74, Value.bool (!x73)), (75, Value.bool (!x73))]) h10 w0 aa ww ∧ J_2 x81 h10) ?_ ?_
                  · rcases Bool.eq_false_or_eq_true (!x73) with hb_7 | hb_7
                    · replace H := H.1 hb_7
                      refine OL.not S rfl rfl (GNo.mk rfl rfl hb_7) ?_
                      clear S; intro aa S
                      refine OL.not S rfl rfl (GNo.mk rfl rfl hb_7) ?_
                      clear S; intro aa S
                      refine OL.not S rfl rfl (GNo.mk rfl rfl hb_7) ?_
                      clear S; intro aa S
                      refine OL.not S rfl rfl (GNo.mk rfl rfl hb_7) ?_
                      clear S; intro aa S
                      refine OL.not S rfl rfl (GNo.mk rfl rfl hb_7) ?_
                      clear S; intro aa S
                      refine OL.pure S (Lf.run_pickT (S.ev rfl) hb_7 (S.ev rfl)) rfl rfl (GOk.mk rfl rfl hb_6) ?_
                      clear S; intro aa S
                      refine OL.nil ?_
                      exact ⟨_, _, S.sub _ ⟨rfl, rfl, rfl, rfl, rfl, rfl, rfl, rfl, rfl, rfl, rfl, rfl, rfl, rfl, rfl, rfl, rfl, rfl, trivial⟩, H⟩
                    · replace H := H.2 hb_7
                      refine OL.pure S (Lf.run_move (S.ev rfl)) rfl rfl (GOk.mk rfl rfl hb_7) ?_
                      clear S; intro aa S
                      refine OL.pure S (Lf.run_move (S.ev rfl)) rfl rfl (GOk.mk rfl rfl hb_7) ?_
                      clear S; intro aa S
                      refine OL.pure S (Lf.run_move (S.ev rfl)) rfl rfl (GOk.mk rfl rfl hb_7) ?_
                      clear S; intro aa S
                      refine ol_cal S H isfn11 rfl rfl (GOk.mk rfl rfl hb_7) ?_
                      clear S H aa; intro u_9 aa ww h11 H S
                      obtain ⟨x79, rfl, H⟩ := H
                      refine OL.pure S (Lf.run_not (S.ev rfl)) rfl rfl (GOk.mk rfl rfl hb_7) ?_
                      clear S; intro aa S
                      refine OL.pure S (Lf.run_pickF (S.ev rfl) hb_7 (S.ev rfl)) rfl rfl (GOk.mk rfl rfl hb_6) ?_
                      clear S; intro aa S
                      refine OL.nil ?_
                      exact ⟨_, _, S.sub _ ⟨rfl, rfl, rfl, rfl, rfl, rfl, rfl, rfl, rfl, rfl, rfl, rfl, rfl, rfl, rfl, rfl, rfl, rfl, trivial⟩, H⟩
                  · clear S aa
                    rintro aa ww ⟨x81, h10, S, HJ⟩
                    replace H := HK_2 _ _ HJ
                    clear HK_2 HJ
                    refine OL.pure S (Lf.run_move (S.ev rfl)) rfl rfl (GOk.mk rfl rfl hb_6) ?_
                    clear S; intro aa S
                    obtain ⟨J_3, H, HK_3⟩ := H
                    refine OL.cutN 5 (fun aa ww => ∃ x87 h12, St 89 ((87, Value.bool x87) :: [(7, Value.pointer x34), (11, Value.int .i64 (IntKind.i64.wrap (((IntKind.u64.wrap x43) : Int).tmod (IntKind.u64.wrap ((IntKind.u64.wrap n0) + 1))))), (12, Value.int .i64 (IntKind.i64.wrap (((IntKind.u64.wrap x49) : Int).tmod (IntKind.u64.wrap ((IntKind.u64.wrap n0) + 1))))), (13, Value.int .i64 (IntKind.i64.wrap (((IntKind.u64.wrap x55) : Int).tmod (IntKind.u64.wrap ((IntKind.u64.wrap n0) + 1))))), (60, Value.pointer x34), (61, Value.int .i64 (IntKind.i64.wrap (((IntKind.u64.wrap x43) : Int).tmod (IntKind.u64.wrap ((IntKind.u64.wrap n0) + 1))))), (62, Value.int .i64 (IntKind.i64.wrap (((IntKind.u64.wrap x43) : Int).tmod (IntKind.u64.wrap ((IntKind.u64.wrap n0) + 1))))), (63, Value.bool x63), (64, Value.bool x63), (68, Value.bool x68), (69, Value.bool x68), (70, Value.pointer x34), (71, Value.int .i64 (IntKind.i64.wrap (((IntKind.u64.wrap x43) : Int).tmod (IntKind.u64.wrap ((IntKind.u64.wrap n0) + 1))))), (72, Value.int .i64 (IntKind.i64.wrap (((IntKind.u64.wrap x49) : Int).tmod (IntKind.u64.wrap ((IntKind.u64.wrap n0) + 1))))), (73, Value.bool x73), (74, Value.bool (!x73)), (75, Value.bool (!x73)), (81, Value.bool x81), (82, Value.bool x81)]) h12 w0 aa ww ∧ J_3 x87 h12) ?_ ?_
                    · rcases Bool.eq_false_or_eq_true x81 with hb_8 | hb_8
                      · replace H := H.1 hb_8
                        refine OL.not S rfl rfl (GNo.mk rfl rfl hb_8) ?_
                        clear S; intro aa S
                        refine OL.not S rfl rfl (GNo.mk rfl rfl hb_8) ?_
                        clear S; intro aa S
                        refine OL.not S rfl rfl (GNo.mk rfl rfl hb_8) ?_
                        clear S; intro aa S
                        refine OL.not S rfl rfl (GNo.mk rfl rfl hb_8) ?_
                        clear S; intro aa S
                        refine OL.pure S (Lf.run_pickT (S.ev rfl) hb_8 (S.ev rfl)) rfl rfl (GOk.mk rfl rfl hb_6) ?_
                        clear S; intro aa S
                        refine OL.nil ?_
                        exact ⟨_, _, S.sub _ ⟨rfl, rfl, rfl, rfl, rfl, rfl, rfl, rfl, rfl, rfl, rfl, rfl, rfl, rfl, rfl, rfl, rfl, rfl, rfl, rfl, trivial⟩, H⟩
                      · replace H := H.2 hb_8
                        refine OL.pure S (Lf.run_move (S.ev rfl)) rfl rfl (GOk.mk rfl rfl hb_8) ?_
                        clear S; intro aa S
                        refine OL.pure S (Lf.run_move (S.ev rfl)) rfl rfl (GOk.mk rfl rfl hb_8) ?_
                        clear S; intro aa S
                        refine OL.pure S (Lf.run_move (S.ev rfl)) rfl rfl (GOk.mk rfl rfl hb_8) ?_
                        clear S; intro aa S
                        refine ol_cal S H isfn11 rfl rfl (GOk.mk rfl rfl hb_8) ?_
                        clear S H aa; intro u_10 aa ww h13 H S
                        obtain ⟨x86, rfl, H⟩ := H
                        refine OL.pure S (Lf.run_pickF (S.ev rfl) hb_8 (S.ev rfl)) rfl rfl (GOk.mk rfl rfl hb_6) ?_
                        clear S; intro aa S
                        refine OL.nil ?_
                        exact ⟨_, _, S.sub _ ⟨rfl, rfl, rfl, rfl, rfl, rfl, rfl, rfl, rfl, rfl, rfl, rfl, rfl, rfl, rfl, rfl, rfl, rfl, rfl, rfl, trivial⟩, H⟩
                    · clear S aa
                      rintro aa ww ⟨x87, h12, S, HJ⟩
                      replace H := HK_3 _ _ HJ
                      clear HK_3 HJ
                      refine OL.pure S (Lf.run_pickT (S.ev rfl) hb_6 (S.ev rfl)) rfl rfl trivial ?_
                      clear S; intro aa S
                      refine OL.nil ?_
                      exact ⟨_, _, S.sub _ ⟨rfl, rfl, rfl, rfl, rfl, rfl, rfl, rfl, rfl, rfl, rfl, rfl, trivial⟩, H⟩
                · replace H := H.2 hb_6
                  refine OL.not S rfl rfl (GNo.mk rfl rfl hb_6) ?_
                  clear S; intro aa S
                  refine OL.not S rfl rfl (GNo.mk rfl rfl hb_6) ?_
                  clear S; intro aa S
                  refine OL.not S rfl rfl (GNo.mk rfl rfl hb_6) ?_
                  clear S; intro aa S
                  refine OL.not S rfl rfl (GNo.mk rfl rfl hb_6) ?_
                  clear S; intro aa S
                  refine OL.not S rfl rfl (GNo.mk rfl rfl hb_6) ?_
                  clear S; intro aa S
                  refine OL.not S rfl rfl (GNo.mk rfl rfl hb_6) ?_
                  clear S; intro aa S
                  refine OL.not S rfl rfl (GNo.un rfl rfl) ?_
                  clear S; intro aa S
                  refine OL.not S rfl rfl (GNo.un rfl rfl) ?_
                  clear S; intro aa S
                  refine OL.not S rfl rfl (GNo.un rfl rfl) ?_
                  clear S; intro aa S
                  refine OL.not S rfl rfl (GNo.un rfl rfl) ?_
                  clear S; intro aa S
                  refine OL.not S rfl rfl (GNo.un rfl rfl) ?_
                  clear S; intro aa S
                  refine OL.not S rfl rfl (GNo.mk rfl rfl hb_6) ?_
                  clear S; intro aa S
                  refine OL.not S rfl rfl (GNo.mk rfl rfl hb_6) ?_
                  clear S; intro aa S
                  refine OL.not S rfl rfl (GNo.un rfl rfl) ?_
                  clear S; intro aa S
                  refine OL.not S rfl rfl (GNo.un rfl rfl) ?_
                  clear S; intro aa S
                  refine OL.not S rfl rfl (GNo.un rfl rfl) ?_
                  clear S; intro aa S
                  refine OL.not S rfl rfl (GNo.un rfl rfl) ?_
                  clear S; intro aa S
                  refine OL.not S rfl rfl (GNo.mk rfl rfl hb_6) ?_
                  clear S; intro aa S
                  refine OL.pure S (Lf.run_pickF (S.ev rfl) hb_6 (S.ev rfl)) rfl rfl trivial ?_
                  clear S; intro aa S
                  refine OL.nil ?_
                  exact ⟨_, _, S.sub _ ⟨rfl, rfl, rfl, rfl, rfl, rfl, rfl, rfl, rfl, rfl, rfl, rfl, trivial⟩, H⟩
              · clear S aa
                rintro aa ww ⟨x88, h8, S, HJ⟩
                replace H := HK_1 _ _ HJ
                clear HK_1 HJ
                refine OL.pure S (Lf.run_assign (S.ev rfl)) rfl rfl trivial ?_
                clear S; intro aa S
                refine OL.nil ?_
                refine W.ret ?_
                exact Ret.one S rfl rfl H

/-- chattel chattellaw06.LifeMore -/
def L5 (n0 : Int) (pairs1 : Sv) (x2 : Int) (x2_1 : Int) (h : Heap) (R : Value → Heap → Prop) : Prop :=
  new 33 #[Value.int .i64 x2, Value.int .i64 x2_1] h fun p5 h1 =>
  cal Try.prog 9 #[] h1 fun u h2 => asB u fun x16 =>
  ifb ((((!x16) || (decide (n0 < 0))) || (decide (20 < n0))) || (decide (40 < ((pairs1.n : Nat) : Int)))) (
    cal Try.prog 9 #[] h2 fun u_1 h3 => asB u_1 fun x31 =>
    R (Value.bool x31) h3) (
    cal Try.prog 10 #[Value.int .i64 n0, Value.slice pairs1.a pairs1.n pairs1.c] h2 fun u_2 h4 => asTup u_2 fun r35 =>
    elt r35 0 fun u_3 => asP u_3 fun x36 =>
    elt r35 1 fun u_4 => asP u_4 fun x37 =>
    elt r35 2 fun u_5 => asB u_5 fun x38 =>
    ifb (!x38) (
      R (Value.bool false) h4) (
      ldI .i64 h4 p5 fun x45 =>
      ((IntKind.u64.wrap ((IntKind.u64.wrap n0) + 1)) ≠ 0) ∧
      ldI .i64 h4 (p5.add 1) fun x51 =>
      ((IntKind.u64.wrap ((IntKind.u64.wrap n0) + 1)) ≠ 0) ∧
      cal Try.prog 13 #[Value.pointer x36] h4 fun u_6 h5 => asP u_6 fun x57 =>
      ∃ J : Bool → Heap → Prop, (orj (Option.isNone x57) (fun k =>
        cal Try.prog 14 #[Value.pointer x36, Value.int .i64 (IntKind.i64.wrap (((IntKind.u64.wrap x45) : Int).tmod (IntKind.u64.wrap ((IntKind.u64.wrap n0) + 1)))), Value.int .i64 (IntKind.i64.wrap (((IntKind.u64.wrap x51) : Int).tmod (IntKind.u64.wrap ((IntKind.u64.wrap n0) + 1))))] h5 fun u_7 h7 => asI .i64 u_7 fun x64 =>
        k (x64 != 0) h7) h5 J) ∧ ∀ x66 h6, J x66 h6 →
      ifb x66 (
        R (Value.bool false) h6) (
        ∃ (I : Int → Heap → Prop) (m : Int → Heap → Nat), I 0 h6 ∧ ∀ c14 h8, I c14 h8 →
        ifb (decide (c14 ≤ n0)) (
          ∃ (I_1 : Int → Heap → Prop) (m_1 : Int → Heap → Nat), I_1 0 h8 ∧ ∀ d15 h9, I_1 d15 h9 →
          ifb (decide (d15 ≤ n0)) (
            cal Try.prog 11 #[Value.pointer x36, Value.int .i64 c14, Value.int .i64 d15] h9 fun u_8 h10 => asB u_8 fun x80 =>
            cal Try.prog 11 #[Value.pointer x57, Value.int .i64 c14, Value.int .i64 d15] h10 fun u_9 h11 => asB u_9 fun x84 =>
            ∃ J_1 : Bool → Heap → Prop, (orj x84 (fun k_1 =>
              cal Try.prog 11 #[Value.pointer x57, Value.int .i64 c14, Value.int .i64 (IntKind.i64.wrap (((IntKind.u64.wrap x45) : Int).tmod (IntKind.u64.wrap ((IntKind.u64.wrap n0) + 1))))] h11 fun u_10 h13 => asB u_10 fun x89 =>
              ∃ J_2 : Bool → Heap → Prop, (andj x89 (fun k_2 =>
                cal Try.prog 11 #[Value.pointer x57, Value.int .i64 (IntKind.i64.wrap (((IntKind.u64.wrap x51) : Int).tmod (IntKind.u64.wrap ((IntKind.u64.wrap n0) + 1)))), Value.int .i64 d15] h13 fun u_11 h15 => asB u_11 fun x94 =>
                k_2 x94 h15) h13 J_2) ∧ ∀ x95 h14, J_2 x95 h14 →
              k_1 x95 h14) h11 J_1) ∧ ∀ x96 h12, J_1 x96 h12 →
            ifb (x80 != x96) (
              R (Value.bool false) h12) (
              I_1 (IntKind.i64.wrap (d15 + 1)) h12 ∧ m_1 (IntKind.i64.wrap (d15 + 1)) h12 < m_1 d15 h9)) (
            I (IntKind.i64.wrap (c14 + 1)) h9 ∧ m (IntKind.i64.wrap (c14 + 1)) h9 < m c14 h8)) (
          R (Value.bool true) h8))))

set_option maxRecDepth 100000 in

theorem F5 {n0 pairs1 x2 x2_1 h : _} {R : Value → Heap → Prop} (H : L5 n0 pairs1 x2 x2_1 h R) : CallsH Try.prog 5 #[Value.int .i64 n0, Value.slice pairs1.a pairs1.n pairs1.c, Value.agg #[Value.int .i64 x2, Value.int .i64 x2_1]] h R := by
  refine CallsH.enter (n := 98) Try.func5 rfl rfl rfl rfl ?_
  intro w0 aa ww S
  unfold L5 at H
  refine W.seq ?_
  replace S := S.sub [(0, Value.int .i64 n0), (1, Value.slice pairs1.a pairs1.n pairs1.c), (2, Value.agg #[Value.int .i64 x2, Value.int .i64 x2_1])] ⟨rfl, rfl, rfl, trivial⟩
  refine W.region ?_
  refine ol_box S H rfl rfl rfl trivial ?_
  clear S H aa; intro p5 aa ww h1 H S
  refine OL.pure S (Lf.run_assign (S.ev rfl)) rfl rfl trivial ?_
  clear S; intro aa S
  refine OL.nil ?_
  refine W.seq ?_
  refine W.seq ?_
  replace S := S.sub [(0, Value.int .i64 n0), (1, Value.slice pairs1.a pairs1.n pairs1.c), (5, Value.pointer (some p5))] ⟨rfl, rfl, rfl, trivial⟩
  refine W.region ?_
  refine ol_cal S H isfn9 rfl rfl trivial ?_
  clear S H aa; intro u aa ww h2 H S
  obtain ⟨x16, rfl, H⟩ := H
  refine OL.pure S (Lf.run_not (S.ev rfl)) rfl rfl trivial ?_
  clear S; intro aa S
  refine OL.pure S (Lf.run_move (S.ev rfl)) rfl rfl trivial ?_
  clear S; intro aa S
  refine OL.cutN 3 (fun aa ww => St 98 ((21, Value.bool ((!x16) || (decide (n0 < 0)))) :: [(0, Value.int .i64 n0), (1, Value.slice pairs1.a pairs1.n pairs1.c), (5, Value.pointer (some p5)), (16, Value.bool x16), (17, Value.bool (!x16)), (18, Value.bool (!x16))]) h2 w0 aa ww) ?_ ?_
  · rcases Bool.eq_false_or_eq_true (!x16) with hb | hb
    · refine OL.not S rfl rfl (GNo.mk rfl rfl hb) ?_
      clear S; intro aa S
      refine OL.not S rfl rfl (GNo.mk rfl rfl hb) ?_
      clear S; intro aa S
      refine OL.pure S (Lf.run_pickT (S.ev rfl) hb (S.ev rfl)) rfl rfl trivial ?_
      clear S; intro aa S
      refine OL.nil ?_
      exact (S.hd (by rw [hb, Bool.true_or])).sub _ ⟨rfl, rfl, rfl, rfl, rfl, rfl, rfl, trivial⟩
    · refine OL.pure S (Lf.run_move (S.ev rfl)) rfl rfl (GOk.mk rfl rfl hb) ?_
      clear S; intro aa S
      refine OL.pure S (Lf.run_lss (S.ev rfl) (S.ev rfl)) rfl rfl (GOk.mk rfl rfl hb) ?_
      clear S; intro aa S
      refine OL.pure S (Lf.run_pickF (S.ev rfl) hb (S.ev rfl)) rfl rfl trivial ?_
      clear S; intro aa S
      refine OL.nil ?_
      exact (S.hd (by rw [hb, Bool.false_or])).sub _ ⟨rfl, rfl, rfl, rfl, rfl, rfl, rfl, trivial⟩
  · clear S aa
    intro aa ww S
    refine OL.pure S (Lf.run_move (S.ev rfl)) rfl rfl trivial ?_
    clear S; intro aa S
    refine OL.cutN 3 (fun aa ww => St 98 ((25, Value.bool (((!x16) || (decide (n0 < 0))) || (decide (20 < n0)))) :: [(0, Value.int .i64 n0), (1, Value.slice pairs1.a pairs1.n pairs1.c), (5, Value.pointer (some p5)), (16, Value.bool x16), (17, Value.bool (!x16)), (18, Value.bool (!x16)), (21, Value.bool ((!x16) || (decide (n0 < 0)))), (22, Value.bool ((!x16) || (decide (n0 < 0))))]) h2 w0 aa ww) ?_ ?_
    · rcases Bool.eq_false_or_eq_true ((!x16) || (decide (n0 < 0))) with hb_1 | hb_1
      · refine OL.not S rfl rfl (GNo.mk rfl rfl hb_1) ?_
        clear S; intro aa S
        refine OL.not S rfl rfl (GNo.mk rfl rfl hb_1) ?_
        clear S; intro aa S
        refine OL.pure S (Lf.run_pickT (S.ev rfl) hb_1 (S.ev rfl)) rfl rfl trivial ?_
        clear S; intro aa S
        refine OL.nil ?_
        exact (S.hd (by rw [hb_1, Bool.true_or])).sub _ ⟨rfl, rfl, rfl, rfl, rfl, rfl, rfl, rfl, rfl, trivial⟩
      · refine OL.pure S (Lf.run_move (S.ev rfl)) rfl rfl (GOk.mk rfl rfl hb_1) ?_
        clear S; intro aa S
        refine OL.pure S (Lf.run_gtr (S.ev rfl) (S.ev rfl)) rfl rfl (GOk.mk rfl rfl hb_1) ?_
        clear S; intro aa S
        refine OL.pure S (Lf.run_pickF (S.ev rfl) hb_1 (S.ev rfl)) rfl rfl trivial ?_
        clear S; intro aa S
        refine OL.nil ?_
        exact (S.hd (by rw [hb_1, Bool.false_or])).sub _ ⟨rfl, rfl, rfl, rfl, rfl, rfl, rfl, rfl, rfl, trivial⟩
    · clear S aa
      intro aa ww S
      refine OL.pure S (Lf.run_move (S.ev rfl)) rfl rfl trivial ?_
      clear S; intro aa S
      refine OL.cutN 4 (fun aa ww => St 98 ((30, Value.bool ((((!x16) || (decide (n0 < 0))) || (decide (20 < n0))) || (decide (40 < ((pairs1.n : Nat) : Int))))) :: [(0, Value.int .i64 n0), (1, Value.slice pairs1.a pairs1.n pairs1.c), (5, Value.pointer (some p5)), (16, Value.bool x16), (17, Value.bool (!x16)), (18, Value.bool (!x16)), (21, Value.bool ((!x16) || (decide (n0 < 0)))), (22, Value.bool ((!x16) || (decide (n0 < 0)))), (25, Value.bool (((!x16) || (decide (n0 < 0))) || (decide (20 < n0)))), (26, Value.bool (((!x16) || (decide (n0 < 0))) || (decide (20 < n0))))]) h2 w0 aa ww) ?_ ?_
      · rcases Bool.eq_false_or_eq_true (((!x16) || (decide (n0 < 0))) || (decide (20 < n0))) with hb_2 | hb_2
        · refine OL.not S rfl rfl (GNo.mk rfl rfl hb_2) ?_
          clear S; intro aa S
          refine OL.not S rfl rfl (GNo.mk rfl rfl hb_2) ?_
          clear S; intro aa S
          refine OL.not S rfl rfl (GNo.mk rfl rfl hb_2) ?_
          clear S; intro aa S
          refine OL.pure S (Lf.run_pickT (S.ev rfl) hb_2 (S.ev rfl)) rfl rfl trivial ?_
          clear S; intro aa S
          refine OL.nil ?_
          exact (S.hd (by rw [hb_2, Bool.true_or])).sub _ ⟨rfl, rfl, rfl, rfl, rfl, rfl, rfl, rfl, rfl, rfl, rfl, trivial⟩
        · refine OL.pure S (Lf.run_move (S.ev rfl)) rfl rfl (GOk.mk rfl rfl hb_2) ?_
          clear S; intro aa S
          refine OL.pure S (Lf.run_lens (S.ev rfl) rfl Try.underlying22) rfl rfl (GOk.mk rfl rfl hb_2) ?_
          clear S; intro aa S
          refine OL.pure S (Lf.run_gtr (S.ev rfl) (S.ev rfl)) rfl rfl (GOk.mk rfl rfl hb_2) ?_
          clear S; intro aa S
          refine OL.pure S (Lf.run_pickF (S.ev rfl) hb_2 (S.ev rfl)) rfl rfl trivial ?_
          clear S; intro aa S
          refine OL.nil ?_
          exact (S.hd (by rw [hb_2, Bool.false_or])).sub _ ⟨rfl, rfl, rfl, rfl, rfl, rfl, rfl, rfl, rfl, rfl, rfl, trivial⟩
      · clear S aa
        intro aa ww S
        refine OL.nil ?_
        refine W.cond S (b := ((((!x16) || (decide (n0 < 0))) || (decide (20 < n0))) || (decide (40 < ((pairs1.n : Nat) : Int))))) rfl (fun hb_3 => ?_) (fun hb_3 => ?_)
        · replace H := H.1 hb_3
          refine W.seq ?_
          replace S := S.sub [] trivial
          refine W.region ?_
          refine ol_cal S H isfn9 rfl rfl trivial ?_
          clear S H aa; intro u_1 aa ww h3 H S
          obtain ⟨x31, rfl, H⟩ := H
          refine OL.pure S (Lf.run_assign (S.ev rfl)) rfl rfl trivial ?_
          clear S; intro aa S
          refine OL.nil ?_
          refine W.ret ?_
          exact Ret.one S rfl rfl H
        · replace H := H.2 hb_3
          refine W.skip ?_
          refine W.seq ?_
          replace S := S.sub [(0, Value.int .i64 n0), (1, Value.slice pairs1.a pairs1.n pairs1.c), (5, Value.pointer (some p5))] ⟨rfl, rfl, rfl, trivial⟩
          refine W.region ?_
          refine OL.pure S (Lf.run_move (S.ev rfl)) rfl rfl trivial ?_
          clear S; intro aa S
          refine OL.pure S (Lf.run_move (S.ev rfl)) rfl rfl trivial ?_
          clear S; intro aa S
          refine ol_cal S H isfn10 rfl rfl trivial ?_
          clear S H aa; intro u_2 aa ww h4 H S
          obtain ⟨r35, rfl, H⟩ := H
          refine OL.pure S (Lf.run_move (S.ev rfl)) rfl rfl trivial ?_
          clear S; intro aa S
          obtain ⟨u_3, e, x36, rfl, H⟩ := H
          refine OL.pure S (Lf.run_ex (S.ev rfl) e) rfl rfl trivial ?_
          clear S; intro aa S
          obtain ⟨u_4, e_1, x37, rfl, H⟩ := H
          refine OL.pure S (Lf.run_ex (S.ev rfl) e_1) rfl rfl trivial ?_
          clear S; intro aa S
          obtain ⟨u_5, e_2, x38, rfl, H⟩ := H
          refine OL.pure S (Lf.run_ex (S.ev rfl) e_2) rfl rfl trivial ?_
          clear S; intro aa S
          refine OL.pure S (Lf.run_assign (S.ev rfl)) rfl rfl trivial ?_
          clear S; intro aa S
          refine OL.pure S (Lf.run_assign (S.ev rfl)) rfl rfl trivial ?_
          clear S; intro aa S
          refine OL.pure S (Lf.run_assign (S.ev rfl)) rfl rfl trivial ?_
          clear S; intro aa S
          refine OL.nil ?_
          refine W.seq ?_
          refine W.seq ?_
          replace S := S.sub [(0, Value.int .i64 n0), (5, Value.pointer (some p5)), (7, Value.pointer x36), (9, Value.bool x38)] ⟨rfl, rfl, rfl, rfl, trivial⟩
          refine W.region ?_
          refine OL.pure S (Lf.run_move (S.ev rfl)) rfl rfl trivial ?_
          clear S; intro aa S
          refine OL.pure S (Lf.run_not (S.ev rfl)) rfl rfl trivial ?_
          clear S; intro aa S
          refine OL.nil ?_
          refine W.cond S (b := (!x38)) rfl (fun hb_4 => ?_) (fun hb_4 => ?_)
          · replace H := H.1 hb_4
            refine W.seq ?_
            replace S := S.sub [] trivial
            refine W.region ?_
            refine OL.pure S (Lf.run_assign (S.ev rfl)) rfl rfl trivial ?_
            clear S; intro aa S
            refine OL.nil ?_
            refine W.ret ?_
            exact Ret.one S rfl rfl H
          · replace H := H.2 hb_4
            refine W.skip ?_
            refine W.seq ?_
            replace S := S.sub [(0, Value.int .i64 n0), (5, Value.pointer (some p5)), (7, Value.pointer x36)] ⟨rfl, rfl, rfl, trivial⟩
            refine W.region ?_
            refine OL.pure S (Lf.run_move (S.ev rfl)) rfl rfl trivial ?_
            clear S; intro aa S
            refine OL.pure S (Lf.run_cvi Try.underlying3 Try.underlying31 (S.ev rfl)) rfl rfl trivial ?_
            clear S; intro aa S
            refine OL.pure S (Lf.run_add (S.ev rfl) (S.ev rfl)) rfl rfl trivial ?_
            clear S; intro aa S
            refine OL.pure S (Lf.run_assign (S.ev rfl)) rfl rfl trivial ?_
            clear S; intro aa S
            refine OL.nil ?_
            refine W.seq ?_
            replace S := S.sub [(0, Value.int .i64 n0), (5, Value.pointer (some p5)), (7, Value.pointer x36), (10, Value.int .u64 (IntKind.u64.wrap ((IntKind.u64.wrap n0) + 1)))] ⟨rfl, rfl, rfl, rfl, trivial⟩
            refine W.regionD S (by kernel_rfl) ?_
            clear S; intro ww S
            refine AN.pure 0 S rfl (by kernel_rfl) (fun _ => Lf.run_ixa (S.ev rfl) (S.ev rfl) Try.underlying33 ti3 (by decide) (by decide)) rfl rfl trivial ?_
            clear S; intro aa S
            obtain ⟨x45, c, H⟩ := H
            refine AN.load 1 S rfl (by kernel_rfl) (fun _ hx => Lf.run_ld (S.ev rfl) fl3 (hx.cell _ _ (S.cl c))) rfl rfl trivial ?_
            clear S; intro aa S
            refine AN.pure 2 S rfl (by kernel_rfl) (fun _ => Lf.run_cvi Try.underlying3 Try.underlying31 (S.ev rfl)) rfl rfl trivial ?_
            clear S; intro aa S
            refine AN.pure 3 S rfl (by kernel_rfl) (fun _ => Lf.run_move (S.ev rfl)) rfl rfl trivial ?_
            clear S; intro aa S
            obtain ⟨c_3, H⟩ := H
            refine AN.pure 4 S rfl (by kernel_rfl) (fun _ => Lf.run_rem (S.ev rfl) (S.ev rfl) c_3) rfl rfl trivial ?_
            clear S; intro aa S
            refine AN.pure 5 S rfl (by kernel_rfl) (fun _ => Lf.run_cvi Try.underlying31 Try.underlying3 (S.ev rfl)) rfl rfl trivial ?_
            clear S; intro aa S
            refine AN.pure 6 S rfl (by kernel_rfl) (fun _ => Lf.run_ixa (S.ev rfl) (S.ev rfl) Try.underlying33 ti3 (by decide) (by decide)) rfl rfl trivial ?_
            clear S; intro aa S
            obtain ⟨x51, c_1, H⟩ := H
            refine AN.load 7 S rfl (by kernel_rfl) (fun _ hx => Lf.run_ld (S.ev rfl) fl3 (hx.cell _ _ (S.cl c_1))) rfl rfl trivial ?_
            clear S; intro aa S
            refine AN.pure 8 S rfl (by kernel_rfl) (fun _ => Lf.run_cvi Try.underlying3 Try.underlying31 (S.ev rfl)) rfl rfl trivial ?_
            clear S; intro aa S
            refine AN.pure 9 S rfl (by kernel_rfl) (fun _ => Lf.run_move (S.ev rfl)) rfl rfl trivial ?_
            clear S; intro aa S
            obtain ⟨c_2, H⟩ := H
            refine AN.pure 10 S rfl (by kernel_rfl) (fun _ => Lf.run_rem (S.ev rfl) (S.ev rfl) c_2) rfl rfl trivial ?_
            clear S; intro aa S
            refine AN.pure 11 S rfl (by kernel_rfl) (fun _ => Lf.run_cvi Try.underlying31 Try.underlying3 (S.ev rfl)) rfl rfl trivial ?_
            clear S; intro aa S
            refine AN.pure 12 S rfl (by kernel_rfl) (fun _ => Lf.run_assign (S.ev rfl)) rfl rfl trivial ?_
            clear S; intro aa S
            refine AN.pure 13 S rfl (by kernel_rfl) (fun _ => Lf.run_assign (S.ev rfl)) rfl rfl trivial ?_
            clear S; intro aa S
            refine AN.done (by kernel_rfl) ?_
            refine W.seq ?_
            replace S := S.sub [(0, Value.int .i64 n0), (7, Value.pointer x36), (11, Value.int .i64 (IntKind.i64.wrap (((IntKind.u64.wrap x45) : Int).tmod (IntKind.u64.wrap ((IntKind.u64.wrap n0) + 1))))), (12, Value.int .i64 (IntKind.i64.wrap (((IntKind.u64.wrap x51) : Int).tmod (IntKind.u64.wrap ((IntKind.u64.wrap n0) + 1)))))] ⟨rfl, rfl, rfl, rfl, trivial⟩
            refine W.region ?_
            refine OL.pure S (Lf.run_move (S.ev rfl)) rfl rfl trivial ?_
            clear S; intro aa S
            refine ol_cal S H isfn13 rfl rfl trivial ?_
            clear S H aa; intro u_6 aa ww h5 H S
            obtain ⟨x57, rfl, H⟩ := H
            refine OL.pure S (Lf.run_assign (S.ev rfl)) rfl rfl trivial ?_
            clear S; intro aa S
            refine OL.nil ?_
            refine W.seq ?_
            refine W.seq ?_
            replace S := S.sub [(0, Value.int .i64 n0), (7, Value.pointer x36), (11, Value.int .i64 (IntKind.i64.wrap (((IntKind.u64.wrap x45) : Int).tmod (IntKind.u64.wrap ((IntKind.u64.wrap n0) + 1))))), (12, Value.int .i64 (IntKind.i64.wrap (((IntKind.u64.wrap x51) : Int).tmod (IntKind.u64.wrap ((IntKind.u64.wrap n0) + 1))))), (13, Value.pointer x57)] ⟨rfl, rfl, rfl, rfl, rfl, trivial⟩
            refine W.region ?_
            refine OL.pure S (Lf.run_move (S.ev rfl)) rfl rfl trivial ?_
            clear S; intro aa S
            refine OL.pure S (Lf.run_eqlpn Try.underlying24 (S.ev rfl) (S.ev rfl)) rfl rfl trivial ?_
            clear S; intro aa S
            refine OL.pure S (Lf.run_move (S.ev rfl)) rfl rfl trivial ?_
            clear S; intro aa S
            obtain ⟨J, H, HK⟩ := H
            refine OL.cutN 6 (fun aa ww => ∃ x66 h6, St 98 ((66, Value.bool x66) :: [(0, Value.int .i64 n0), (7, Value.pointer x36), (11, Value.int .i64 (IntKind.i64.wrap (((IntKind.u64.wrap x45) : Int).tmod (IntKind.u64.wrap ((IntKind.u64.wrap n0) + 1))))), (12, Value.int .i64 (IntKind.i64.wrap (((IntKind.u64.wrap x51) : Int).tmod (IntKind.u64.wrap ((IntKind.u64.wrap n0) + 1))))), (13, Value.pointer x57), (58, Value.pointer x57), (59, Value.bool (Option.isNone x57)), (60, Value.bool (Option.isNone x57))]) h6 w0 aa ww ∧ J x66 h6) ?_ ?_
            · rcases Bool.eq_false_or_eq_true (Option.isNone x57) with hb_5 | hb_5
              · replace H := H.1 hb_5
                refine OL.not S rfl rfl (GNo.mk rfl rfl hb_5) ?_
                clear S; intro aa S
                refine OL.not S rfl rfl (GNo.mk rfl rfl hb_5) ?_
                clear S; intro aa S
                refine OL.not S rfl rfl (GNo.mk rfl rfl hb_5) ?_
                clear S; intro aa S
                refine OL.not S rfl rfl (GNo.mk rfl rfl hb_5) ?_
                clear S; intro aa S
                refine OL.not S rfl rfl (GNo.mk rfl rfl hb_5) ?_
                clear S; intro aa S
                refine OL.pure S (Lf.run_pickT (S.ev rfl) hb_5 (S.ev rfl)) rfl rfl trivial ?_
                clear S; intro aa S
                refine OL.nil ?_
                exact ⟨_, _, S.sub _ ⟨rfl, rfl, rfl, rfl, rfl, rfl, rfl, rfl, rfl, trivial⟩, H⟩
              · replace H := H.2 hb_5
                refine OL.pure S (Lf.run_move (S.ev rfl)) rfl rfl (GOk.mk rfl rfl hb_5) ?_
                clear S; intro aa S
                refine OL.pure S (Lf.run_move (S.ev rfl)) rfl rfl (GOk.mk rfl rfl hb_5) ?_
                clear S; intro aa S
                refine OL.pure S (Lf.run_move (S.ev rfl)) rfl rfl (GOk.mk rfl rfl hb_5) ?_
                clear S; intro aa S
                refine ol_cal S H isfn14 rfl rfl (GOk.mk rfl rfl hb_5) ?_
                clear S H aa; intro u_7 aa ww h7 H S
                obtain ⟨x64, rfl, H⟩ := H
                refine OL.pure S (Lf.run_neq (S.ev rfl) (S.ev rfl)) rfl rfl (GOk.mk rfl rfl hb_5) ?_
                clear S; intro aa S
                refine OL.pure S (Lf.run_pickF (S.ev rfl) hb_5 (S.ev rfl)) rfl rfl trivial ?_
                clear S; intro aa S
                refine OL.nil ?_
                exact ⟨_, _, S.sub _ ⟨rfl, rfl, rfl, rfl, rfl, rfl, rfl, rfl, rfl, trivial⟩, H⟩
            · clear S aa
              rintro aa ww ⟨x66, h6, S, HJ⟩
              replace H := HK _ _ HJ
              clear HK HJ
              refine OL.nil ?_
              refine W.cond S (b := x66) rfl (fun hb_6 => ?_) (fun hb_6 => ?_)
              · replace H := H.1 hb_6
                refine W.seq ?_
                replace S := S.sub [] trivial
                refine W.region ?_
                refine OL.pure S (Lf.run_assign (S.ev rfl)) rfl rfl trivial ?_
                clear S; intro aa S
                refine OL.nil ?_
                refine W.ret ?_
                exact Ret.one S rfl rfl H
              · replace H := H.2 hb_6
                refine W.skip ?_
                refine W.seq ?_
                refine W.seq ?_
                replace S := S.sub [(0, Value.int .i64 n0), (7, Value.pointer x36), (11, Value.int .i64 (IntKind.i64.wrap (((IntKind.u64.wrap x45) : Int).tmod (IntKind.u64.wrap ((IntKind.u64.wrap n0) + 1))))), (12, Value.int .i64 (IntKind.i64.wrap (((IntKind.u64.wrap x51) : Int).tmod (IntKind.u64.wrap ((IntKind.u64.wrap n0) + 1))))), (13, Value.pointer x57)] ⟨rfl, rfl, rfl, rfl, rfl, trivial⟩
                refine W.region ?_
                refine OL.pure S (Lf.run_assign (S.ev rfl)) rfl rfl trivial ?_
                clear S; intro aa S
                refine OL.nil ?_
                refine W.block ?_
                obtain ⟨I, m, H, HB_1⟩ := H
                refine W.loopS (σ := Int × Heap) (fun s aa ww => St 98 [(0, Value.int .i64 n0), (7, Value.pointer x36), (11, Value.int .i64 (IntKind.i64.wrap (((IntKind.u64.wrap x45) : Int).tmod (IntKind.u64.wrap ((IntKind.u64.wrap n0) + 1))))), (12, Value.int .i64 (IntKind.i64.wrap (((IntKind.u64.wrap x51) : Int).tmod (IntKind.u64.wrap ((IntKind.u64.wrap n0) + 1))))), (13, Value.pointer x57), (14, Value.int .i64 s.1)] s.2 w0 aa ww ∧ I s.1 s.2) (fun s => m s.1 s.2) (0, h6) ⟨S.sub _ ⟨rfl, rfl, rfl, rfl, rfl, rfl, trivial⟩, H⟩ ?_
                clear H S aa
                rintro ⟨c14, h8⟩ aa ww ⟨S, HI⟩
                replace S : St 98 [(0, Value.int .i64 n0), (7, Value.pointer x36), (11, Value.int .i64 (IntKind.i64.wrap (((IntKind.u64.wrap x45) : Int).tmod (IntKind.u64.wrap ((IntKind.u64.wrap n0) + 1))))), (12, Value.int .i64 (IntKind.i64.wrap (((IntKind.u64.wrap x51) : Int).tmod (IntKind.u64.wrap ((IntKind.u64.wrap n0) + 1))))), (13, Value.pointer x57), (14, Value.int .i64 c14)] h8 w0 aa ww := S
                have H := HB_1 c14 h8 HI
                clear HI
                refine W.seq ?_
                refine W.seq ?_
                replace S := S.sub [(0, Value.int .i64 n0), (7, Value.pointer x36), (11, Value.int .i64 (IntKind.i64.wrap (((IntKind.u64.wrap x45) : Int).tmod (IntKind.u64.wrap ((IntKind.u64.wrap n0) + 1))))), (12, Value.int .i64 (IntKind.i64.wrap (((IntKind.u64.wrap x51) : Int).tmod (IntKind.u64.wrap ((IntKind.u64.wrap n0) + 1))))), (13, Value.pointer x57), (14, Value.int .i64 c14)] ⟨rfl, rfl, rfl, rfl, rfl, rfl, trivial⟩
                refine W.region ?_
                refine OL.pure S (Lf.run_move (S.ev rfl)) rfl rfl trivial ?_
                clear S; intro aa S
                refine OL.pure S (Lf.run_move (S.ev rfl)) rfl rfl trivial ?_
                clear S; intro aa S
                refine OL.pure S (Lf.run_leq (S.ev rfl) (S.ev rfl)) rfl rfl trivial ?_
                clear S; intro aa S
                refine OL.nil ?_
                refine W.cond S (b := (decide (c14 ≤ n0))) rfl (fun hb_7 => ?_) (fun hb_7 => ?_)
                · replace H := H.1 hb_7
                  refine W.skip ?_
                  refine W.seq ?_
                  refine W.block ?_
                  refine W.seq ?_
                  replace S := S.sub [(0, Value.int .i64 n0), (7, Value.pointer x36), (11, Value.int .i64 (IntKind.i64.wrap (((IntKind.u64.wrap x45) : Int).tmod (IntKind.u64.wrap ((IntKind.u64.wrap n0) + 1))))), (12, Value.int .i64 (IntKind.i64.wrap (((IntKind.u64.wrap x51) : Int).tmod (IntKind.u64.wrap ((IntKind.u64.wrap n0) + 1))))), (13, Value.pointer x57), (14, Value.int .i64 c14)] ⟨rfl, rfl, rfl, rfl, rfl, rfl, trivial⟩
                  refine W.region ?_
                  refine OL.pure S (Lf.run_assign (S.ev rfl)) rfl rfl trivial ?_
                  clear S; intro aa S
                  refine OL.nil ?_
                  refine W.block ?_
                  obtain ⟨I_1, m_1, H, HB⟩ := H
                  refine W.loopS (σ := Int × Heap) (fun s aa ww => St 98 [(0, Value.int .i64 n0), (7, Value.pointer x36), (11, Value.int .i64 (IntKind.i64.wrap (((IntKind.u64.wrap x45) : Int).tmod (IntKind.u64.wrap ((IntKind.u64.wrap n0) + 1))))), (12, Value.int .i64 (IntKind.i64.wrap (((IntKind.u64.wrap x51) : Int).tmod (IntKind.u64.wrap ((IntKind.u64.wrap n0) + 1))))), (13, Value.pointer x57), (14, Value.int .i64 c14), (15, Value.int .i64 s.1)] s.2 w0 aa ww ∧ I_1 s.1 s.2) (fun s => m_1 s.1 s.2) (0, h8) ⟨S.sub _ ⟨rfl, rfl, rfl, rfl, rfl, rfl, rfl, trivial⟩, H⟩ ?_
                  clear H S aa
                  rintro ⟨d15, h9⟩ aa ww ⟨S, HI⟩
                  replace S : St 98 [(0, Value.int .i64 n0), (7, Value.pointer x36), (11, Value.int .i64 (IntKind.i64.wrap (((IntKind.u64.wrap x45) : Int).tmod (IntKind.u64.wrap ((IntKind.u64.wrap n0) + 1))))), (12, Value.int .i64 (IntKind.i64.wrap (((IntKind.u64.wrap x51) : Int).tmod (IntKind.u64.wrap ((IntKind.u64.wrap n0) + 1))))), (13, Value.pointer x57), (14, Value.int .i64 c14), (15, Value.int .i64 d15)] h9 w0 aa ww := S
                  have H := HB d15 h9 HI
                  clear HI
                  refine W.seq ?_
                  refine W.seq ?_
                  replace S := S.sub [(0, Value.int .i64 n0), (7, Value.pointer x36), (11, Value.int .i64 (IntKind.i64.wrap (((IntKind.u64.wrap x45) : Int).tmod (IntKind.u64.wrap ((IntKind.u64.wrap n0) + 1))))), (12, Value.int .i64 (IntKind.i64.wrap (((IntKind.u64.wrap x51) : Int).tmod (IntKind.u64.wrap ((IntKind.u64.wrap n0) + 1))))), (13, Value.pointer x57), (14, Value.int .i64 c14), (15, Value.int .i64 d15)] ⟨rfl, rfl, rfl, rfl, rfl, rfl, rfl, trivial⟩
                  refine W.region ?_
                  refine OL.pure S (Lf.run_move (S.ev rfl)) rfl rfl trivial ?_
                  clear S; intro aa S
                  refine OL.pure S (Lf.run_move (S.ev rfl)) rfl rfl trivial ?_
                  clear S; intro aa S
                  refine OL.pure S (Lf.run_leq (S.ev rfl) (S.ev rfl)) rfl rfl trivial ?_
                  clear S; intro aa S
                  refine OL.nil ?_
                  refine W.cond S (b := (decide (d15 ≤ n0))) rfl (fun hb_8 => ?_) (fun hb_8 => ?_)
                  · replace H := H.1 hb_8
                    refine W.skip ?_
                    refine W.seq ?_
                    refine W.block ?_
                    refine W.seq ?_
                    replace S := S.sub [(0, Value.int .i64 n0), (7, Value.pointer x36), (11, Value.int .i64 (IntKind.i64.wrap (((IntKind.u64.wrap x45) : Int).tmod (IntKind.u64.wrap ((IntKind.u64.wrap n0) + 1))))), (12, Value.int .i64 (IntKind.i64.wrap (((IntKind.u64.wrap x51) : Int).tmod (IntKind.u64.wrap ((IntKind.u64.wrap n0) + 1))))), (13, Value.pointer x57), (14, Value.int .i64 c14), (15, Value.int .i64 d15)] ⟨rfl, rfl, rfl, rfl, rfl, rfl, rfl, trivial⟩
                    refine W.region ?_
                    refine OL.pure S (Lf.run_move (S.ev rfl)) rfl rfl trivial ?_
                    clear S; intro aa S
                    refine OL.pure S (Lf.run_move (S.ev rfl)) rfl rfl trivial ?_
                    clear S; intro aa S
                    refine OL.pure S (Lf.run_move (S.ev rfl)) rfl rfl trivial ?_
                    clear S; intro aa S
                    refine ol_cal S H isfn11 rfl rfl trivial ?_
                    clear S H aa; intro u_8 aa ww h10 H S
                    obtain ⟨x80, rfl, H⟩ := H
                    refine OL.pure S (Lf.run_move (S.ev rfl)) rfl rfl trivial ?_
                    clear S; intro aa S
                    refine OL.pure S (Lf.run_move (S.ev rfl)) rfl rfl trivial ?_
                    clear S; intro aa S
                    refine OL.pure S (Lf.run_move (S.ev rfl)) rfl rfl trivial ?_
                    clear S; intro aa S
                    refine ol_cal S H isfn11 rfl rfl trivial ?_
                    clear S H aa; intro u_9 aa ww h11 H S
                    obtain ⟨x84, rfl, H⟩ := H
                    refine OL.pure S (Lf.run_move (S.ev rfl)) rfl rfl trivial ?_
                    clear S; intro aa S
                    obtain ⟨J_1, H, HK_1⟩ := H
                    refine OL.cutN 11 (fun aa ww => ∃ x96 h12, St 98 ((96, Value.bool x96) :: [(0, Value.int .i64 n0), (7, Value.pointer x36), (11, Value.int .i64 (IntKind.i64.wrap (((IntKind.u64.wrap x45) : Int).tmod (IntKind.u64.wrap ((IntKind.u64.wrap n0) + 1))))), (12, Value.int .i64 (IntKind.i64.wrap (((IntKind.u64.wrap x51) : Int).tmod (IntKind.u64.wrap ((IntKind.u64.wrap n0) + 1))))), (13, Value.pointer x57), (14, Value.int .i64 c14), (15, Value.int .i64 d15), (77, Value.pointer x36), (78, Value.int .i64 c14), (79, Value.int .i64 d15), (80, Value.bool x80), (81, Value.pointer x57), (82, Value.int .i64 c14), (83, Value.int .i64 d15), (84, Value.bool x84), (85, Value.bool x84)]) h12 w0 aa ww ∧ J_1 x96 h12) ?_ ?_
                    · rcases Bool.eq_false_or_eq_true x84 with hb_9 | hb_9
                      · replace H := H.1 hb_9
                        refine OL.not S rfl rfl (GNo.mk rfl rfl hb_9) ?_
                        clear S; intro aa S
                        refine OL.not S rfl rfl (GNo.mk rfl rfl hb_9) ?_
                        clear S; intro aa S
                        refine OL.not S rfl rfl (GNo.mk rfl rfl hb_9) ?_
                        clear S; intro aa S
                        refine OL.not S rfl rfl (GNo.mk rfl rfl hb_9) ?_
                        clear S; intro aa S
                        refine OL.not S rfl rfl (GNo.mk rfl rfl hb_9) ?_
                        clear S; intro aa S
                        refine OL.not S rfl rfl (GNo.un rfl rfl) ?_
                        clear S; intro aa S
                        refine OL.not S rfl rfl (GNo.un rfl rfl) ?_
                        clear S; intro aa S
                        refine OL.not S rfl rfl (GNo.un rfl rfl) ?_
                        clear S; intro aa S
                        refine OL.not S rfl rfl (GNo.un rfl rfl) ?_
                        clear S; intro aa S
                        refine OL.not S rfl rfl (GNo.mk rfl rfl hb_9) ?_
                        clear S; intro aa S
                        refine OL.pure S (Lf.run_pickT (S.ev rfl) hb_9 (S.ev rfl)) rfl rfl trivial ?_
                        clear S; intro aa S
                        refine OL.nil ?_
                        exact ⟨_, _, S.sub _ ⟨rfl, rfl, rfl, rfl, rfl, rfl, rfl, rfl, rfl, rfl, rfl, rfl, rfl, rfl, rfl, rfl, rfl, trivial⟩, H⟩
                      · replace H := H.2 hb_9
                        refine OL.pure S (Lf.run_move (S.ev rfl)) rfl rfl (GOk.mk rfl rfl hb_9) ?_
                        clear S; intro aa S
                        refine OL.pure S (Lf.run_move (S.ev rfl)) rfl rfl (GOk.mk rfl rfl hb_9) ?_
                        clear S; intro aa S
                        refine OL.pure S (Lf.run_move (S.ev rfl)) rfl rfl (GOk.mk rfl rfl hb_9) ?_
                        clear S; intro aa S
                        refine ol_cal S H isfn11 rfl rfl (GOk.mk rfl rfl hb_9) ?_
                        clear S H aa; intro u_10 aa ww h13 H S
                        obtain ⟨x89, rfl, H⟩ := H
                        refine OL.pure S (Lf.run_move (S.ev rfl)) rfl rfl (GOk.mk rfl rfl hb_9) ?_
                        clear S; intro aa S
                        obtain ⟨J_2, H, HK_2⟩ := H
                        refine OL.cutN 5 (fun aa ww => ∃ x95 h14, St 98 ((95, Value.bool x95) :: [(0, Value.int .i64 n0), (7, Value.pointer x36), (11, Value.int .i64 (IntKind.i64.wrap (((IntKind.u64.wrap x45) : Int).tmod (IntKind.u64.wrap ((IntKind.u64.wrap n0) + 1))))), (12, Value.int .i64 (IntKind.i64.wrap (((IntKind.u64.wrap x51) : Int).tmod (IntKind.u64.wrap ((IntKind.u64.wrap n0) + 1))))), (13, Value.pointer x57), (14, Value.int .i64 c14), (15, Value.int .i64 d15), (77, Value.pointer x36), (78, Value.int .i64 c14), (79, Value.int .i64 d15), (80, Value.bool x80), (81, Value.pointer x57), (82, Value.int .i64 c14), (83, Value.int .i64 d15), (84, Value.bool x84), (85, Value.bool x84), (86, Value.pointer x57), (87, Value.int .i64 c14), (88, Value.int .i64 (IntKind.i64.wrap (((IntKind.u64.wrap x45) : Int).tmod (IntKind.u64.wrap ((IntKind.u64.wrap n0) + 1))))), (89, Value.bool x89), (90, Value.bool x89)]) h14 w0 aa ww ∧ J_2 x95 h14) ?_ ?_
                        · rcases Bool.eq_false_or_eq_true x89 with hb_10 | hb_10
                          · replace H := H.1 hb_10
                            refine OL.pure S (Lf.run_move (S.ev rfl)) rfl rfl (GOk.mk rfl rfl hb_10) ?_
                            clear S; intro aa S
                            refine OL.pure S (Lf.run_move (S.ev rfl)) rfl rfl (GOk.mk rfl rfl hb_10) ?_
                            clear S; intro aa S
                            refine OL.pure S (Lf.run_move (S.ev rfl)) rfl rfl (GOk.mk rfl rfl hb_10) ?_
                            clear S; intro aa S
                            refine ol_cal S H isfn11 rfl rfl (GOk.mk rfl rfl hb_10) ?_
                            clear S H aa; intro u_11 aa ww h15 H S
                            obtain ⟨x94, rfl, H⟩ := H
                            refine OL.pure S (Lf.run_pickT (S.ev rfl) hb_10 (S.ev rfl)) rfl rfl (GOk.mk rfl rfl hb_9) ?_
                            clear S; intro aa S
                            refine OL.nil ?_
                            exact ⟨_, _, S.sub _ ⟨rfl, rfl, rfl, rfl, rfl, rfl, rfl, rfl, rfl, rfl, rfl, rfl, rfl, rfl, rfl, rfl, rfl, rfl, rfl, rfl, rfl, rfl, trivial⟩, H⟩
                          · replace H := H.2 hb_10
                            refine OL.not S rfl rfl (GNo.mk rfl rfl hb_10) ?_
                            clear S; intro aa S
                            refine OL.not S rfl rfl (GNo.mk rfl rfl hb_10) ?_
                            clear S; intro aa S
                            refine OL.not S rfl rfl (GNo.mk rfl rfl hb_10) ?_
                            clear S; intro aa S
                            refine OL.not S rfl rfl (GNo.mk rfl rfl hb_10) ?_
                            clear S; intro aa S
                            refine OL.pure S (Lf.run_pickF (S.ev rfl) hb_10 (S.ev rfl)) rfl rfl (GOk.mk rfl rfl hb_9) ?_
                            clear S; intro aa S
                            refine OL.nil ?_
                            exact ⟨_, _, S.sub _ ⟨rfl, rfl, rfl, rfl, rfl, rfl, rfl, rfl, rfl, rfl, rfl, rfl, rfl, rfl, rfl, rfl, rfl, rfl, rfl, rfl, rfl, rfl, trivial⟩, H⟩
                        · clear S aa
                          rintro aa ww ⟨x95, h14, S, HJ⟩
                          replace H := HK_2 _ _ HJ
                          clear HK_2 HJ
                          refine OL.pure S (Lf.run_pickF (S.ev rfl) hb_9 (S.ev rfl)) rfl rfl trivial ?_
                          clear S; intro aa S
                          refine OL.nil ?_
                          exact ⟨_, _, S.sub _ ⟨rfl, rfl, rfl, rfl, rfl, rfl, rfl, rfl, rfl, rfl, rfl, rfl, rfl, rfl, rfl, rfl, rfl, trivial⟩, H⟩
                    · clear S aa
                      rintro aa ww ⟨x96, h12, S, HJ⟩
                      replace H := HK_1 _ _ HJ
                      clear HK_1 HJ
                      refine OL.pure S (Lf.run_neqb Try.underlying4 (S.ev rfl) (S.ev rfl)) rfl rfl trivial ?_
                      clear S; intro aa S
                      refine OL.nil ?_
                      refine W.cond S (b := (x80 != x96)) rfl (fun hb_11 => ?_) (fun hb_11 => ?_)
                      · replace H := H.1 hb_11
                        refine W.seq ?_
                        replace S := S.sub [] trivial
                        refine W.region ?_
                        refine OL.pure S (Lf.run_assign (S.ev rfl)) rfl rfl trivial ?_
                        clear S; intro aa S
                        refine OL.nil ?_
                        refine W.ret ?_
                        exact Ret.one S rfl rfl H
                      · replace H := H.2 hb_11
                        refine W.skip ?_
                        replace S := S.sub [(0, Value.int .i64 n0), (7, Value.pointer x36), (11, Value.int .i64 (IntKind.i64.wrap (((IntKind.u64.wrap x45) : Int).tmod (IntKind.u64.wrap ((IntKind.u64.wrap n0) + 1))))), (12, Value.int .i64 (IntKind.i64.wrap (((IntKind.u64.wrap x51) : Int).tmod (IntKind.u64.wrap ((IntKind.u64.wrap n0) + 1))))), (13, Value.pointer x57), (14, Value.int .i64 c14), (15, Value.int .i64 d15)] ⟨rfl, rfl, rfl, rfl, rfl, rfl, rfl, trivial⟩
                        refine W.region ?_
                        refine OL.pure S (Lf.run_move (S.ev rfl)) rfl rfl trivial ?_
                        clear S; intro aa S
                        refine OL.pure S (Lf.run_add (S.ev rfl) (S.ev rfl)) rfl rfl trivial ?_
                        clear S; intro aa S
                        refine OL.pure S (Lf.run_assign (S.ev rfl)) rfl rfl trivial ?_
                        clear S; intro aa S
                        refine OL.nil ?_
                        exact ⟨((IntKind.i64.wrap (d15 + 1)), h12), ⟨S.sub _ ⟨rfl, rfl, rfl, rfl, rfl, rfl, rfl, trivial⟩, H.1⟩, H.2⟩
                  · replace H := H.2 hb_8
                    refine W.exit_ ?_
                    refine xhit ?_
                    replace S := S.sub [(0, Value.int .i64 n0), (7, Value.pointer x36), (11, Value.int .i64 (IntKind.i64.wrap (((IntKind.u64.wrap x45) : Int).tmod (IntKind.u64.wrap ((IntKind.u64.wrap n0) + 1))))), (12, Value.int .i64 (IntKind.i64.wrap (((IntKind.u64.wrap x51) : Int).tmod (IntKind.u64.wrap ((IntKind.u64.wrap n0) + 1))))), (13, Value.pointer x57), (14, Value.int .i64 c14)] ⟨rfl, rfl, rfl, rfl, rfl, rfl, trivial⟩
                    refine W.region ?_
                    refine OL.pure S (Lf.run_move (S.ev rfl)) rfl rfl trivial ?_
                    clear S; intro aa S
                    refine OL.pure S (Lf.run_add (S.ev rfl) (S.ev rfl)) rfl rfl trivial ?_
                    clear S; intro aa S
                    refine OL.pure S (Lf.run_assign (S.ev rfl)) rfl rfl trivial ?_
                    clear S; intro aa S
                    refine OL.nil ?_
                    exact ⟨((IntKind.i64.wrap (c14 + 1)), h9), ⟨S.sub _ ⟨rfl, rfl, rfl, rfl, rfl, rfl, trivial⟩, H.1⟩, H.2⟩
                · replace H := H.2 hb_7
                  refine W.exit_ ?_
                  refine xhit ?_
                  refine W.seq ?_
                  replace S := S.sub [] trivial
                  refine W.region ?_
                  refine OL.pure S (Lf.run_assign (S.ev rfl)) rfl rfl trivial ?_
                  clear S; intro aa S
                  refine OL.nil ?_
                  refine W.ret ?_
                  exact Ret.one S rfl rfl H

/-- chattel chattellaw06.LifeTells -/
def L6 (n0 : Int) (pairs1 : Sv) (a2 : Int) (h : Heap) (R : Value → Heap → Prop) : Prop :=
  cal Try.prog 9 #[] h fun u h1 => asB u fun x11 =>
  ifb ((((!x11) || (decide (n0 < 0))) || (decide (12 < n0))) || (decide (30 < ((pairs1.n : Nat) : Int)))) (
    cal Try.prog 9 #[] h1 fun u_1 h2 => asB u_1 fun x26 =>
    R (Value.bool x26) h2) (
    cal Try.prog 10 #[Value.int .i64 n0, Value.slice pairs1.a pairs1.n pairs1.c] h1 fun u_2 h3 => asTup u_2 fun r30 =>
    elt r30 0 fun u_3 => asP u_3 fun x31 =>
    elt r30 1 fun u_4 => asP u_4 fun x32 =>
    elt r30 2 fun u_5 => asB u_5 fun x33 =>
    ifb (!x33) (
      R (Value.bool false) h3) (
      ∃ J : Sv → Heap → Prop, (
        ifb ((decide (0 ≤ a2)) && (decide (a2 ≤ n0))) (
          cal Try.prog 15 #[Value.pointer x32, Value.int .i64 a2] h3 fun u_6 h4 => asS u_6 fun x45 =>
          J x45 h4) (
          J (⟨none, 0, 0⟩ : Sv) h3)) ∧ (∀ under10 h5, J under10 h5 →
      cal Try.prog 16 #[Value.pointer x31] h5 fun u_7 h6 => asI .i64 u_7 fun x47 =>
      ∃ J_1 : Bool → Heap → Prop, (andj (x47 == n0) (fun k =>
        cal Try.prog 18 #[Value.pointer x31, Value.int .i64 a2] h6 fun u_8 h8 => asS u_8 fun x53 =>
        cal Try.prog 17 #[Value.slice x53.a x53.n x53.c, Value.slice under10.a under10.n under10.c] h8 fun u_9 h9 => asB u_9 fun x55 =>
        k x55 h9) h6 J_1) ∧ ∀ x56 h7, J_1 x56 h7 →
      ∃ J_2 : Bool → Heap → Prop, (andj x56 (fun k_1 =>
        cal Try.prog 20 #[Value.pointer x31] h7 fun u_10 h11 => asS u_10 fun x59 =>
        cal Try.prog 21 #[Value.pointer x32] h11 fun u_11 h12 => asS u_11 fun x61 =>
        cal Try.prog 19 #[Value.slice x59.a x59.n x59.c, Value.slice x61.a x61.n x61.c] h12 fun u_12 h13 => asB u_12 fun x62 =>
        k_1 x62 h13) h7 J_2) ∧ ∀ x63 h10, J_2 x63 h10 →
      R (Value.bool x63) h10)))

set_option maxRecDepth 100000 in

theorem F6 {n0 pairs1 a2 h : _} {R : Value → Heap → Prop} (H : L6 n0 pairs1 a2 h R) : CallsH Try.prog 6 #[Value.int .i64 n0, Value.slice pairs1.a pairs1.n pairs1.c, Value.int .i64 a2] h R := by
  refine CallsH.enter (n := 64) Try.func6 rfl rfl rfl rfl ?_
  intro w0 aa ww S
  unfold L6 at H
  refine W.seq ?_
  replace S := S.sub [(0, Value.int .i64 n0), (1, Value.slice pairs1.a pairs1.n pairs1.c), (2, Value.int .i64 a2)] ⟨rfl, rfl, rfl, trivial⟩
  refine W.region ?_
  refine OL.pure S (Lf.run_assign (S.ev rfl)) rfl rfl trivial ?_
  clear S; intro aa S
  refine OL.nil ?_
  refine W.seq ?_
  refine W.seq ?_
  replace S := S.sub [(0, Value.int .i64 n0), (1, Value.slice pairs1.a pairs1.n pairs1.c), (2, Value.int .i64 a2)] ⟨rfl, rfl, rfl, trivial⟩
  refine W.region ?_
  refine ol_cal S H isfn9 rfl rfl trivial ?_
  clear S H aa; intro u aa ww h1 H S
  obtain ⟨x11, rfl, H⟩ := H
  refine OL.pure S (Lf.run_not (S.ev rfl)) rfl rfl trivial ?_
  clear S; intro aa S
  refine OL.pure S (Lf.run_move (S.ev rfl)) rfl rfl trivial ?_
  clear S; intro aa S
  refine OL.cutN 3 (fun aa ww => St 64 ((16, Value.bool ((!x11) || (decide (n0 < 0)))) :: [(0, Value.int .i64 n0), (1, Value.slice pairs1.a pairs1.n pairs1.c), (2, Value.int .i64 a2), (11, Value.bool x11), (12, Value.bool (!x11)), (13, Value.bool (!x11))]) h1 w0 aa ww) ?_ ?_
  · rcases Bool.eq_false_or_eq_true (!x11) with hb | hb
    · refine OL.not S rfl rfl (GNo.mk rfl rfl hb) ?_
      clear S; intro aa S
      refine OL.not S rfl rfl (GNo.mk rfl rfl hb) ?_
      clear S; intro aa S
      refine OL.pure S (Lf.run_pickT (S.ev rfl) hb (S.ev rfl)) rfl rfl trivial ?_
      clear S; intro aa S
      refine OL.nil ?_
      exact (S.hd (by rw [hb, Bool.true_or])).sub _ ⟨rfl, rfl, rfl, rfl, rfl, rfl, rfl, trivial⟩
    · refine OL.pure S (Lf.run_move (S.ev rfl)) rfl rfl (GOk.mk rfl rfl hb) ?_
      clear S; intro aa S
      refine OL.pure S (Lf.run_lss (S.ev rfl) (S.ev rfl)) rfl rfl (GOk.mk rfl rfl hb) ?_
      clear S; intro aa S
      refine OL.pure S (Lf.run_pickF (S.ev rfl) hb (S.ev rfl)) rfl rfl trivial ?_
      clear S; intro aa S
      refine OL.nil ?_
      exact (S.hd (by rw [hb, Bool.false_or])).sub _ ⟨rfl, rfl, rfl, rfl, rfl, rfl, rfl, trivial⟩
  · clear S aa
    intro aa ww S
    refine OL.pure S (Lf.run_move (S.ev rfl)) rfl rfl trivial ?_
    clear S; intro aa S
    refine OL.cutN 3 (fun aa ww => St 64 ((20, Value.bool (((!x11) || (decide (n0 < 0))) || (decide (12 < n0)))) :: [(0, Value.int .i64 n0), (1, Value.slice pairs1.a pairs1.n pairs1.c), (2, Value.int .i64 a2), (11, Value.bool x11), (12, Value.bool (!x11)), (13, Value.bool (!x11)), (16, Value.bool ((!x11) || (decide (n0 < 0)))), (17, Value.bool ((!x11) || (decide (n0 < 0))))]) h1 w0 aa ww) ?_ ?_
    · rcases Bool.eq_false_or_eq_true ((!x11) || (decide (n0 < 0))) with hb_1 | hb_1
      · refine OL.not S rfl rfl (GNo.mk rfl rfl hb_1) ?_
        clear S; intro aa S
        refine OL.not S rfl rfl (GNo.mk rfl rfl hb_1) ?_
        clear S; intro aa S
        refine OL.pure S (Lf.run_pickT (S.ev rfl) hb_1 (S.ev rfl)) rfl rfl trivial ?_
        clear S; intro aa S
        refine OL.nil ?_
        exact (S.hd (by rw [hb_1, Bool.true_or])).sub _ ⟨rfl, rfl, rfl, rfl, rfl, rfl, rfl, rfl, rfl, trivial⟩
      · refine OL.pure S (Lf.run_move (S.ev rfl)) rfl rfl (GOk.mk rfl rfl hb_1) ?_
        clear S; intro aa S
        refine OL.pure S (Lf.run_gtr (S.ev rfl) (S.ev rfl)) rfl rfl (GOk.mk rfl rfl hb_1) ?_
        clear S; intro aa S
        refine OL.pure S (Lf.run_pickF (S.ev rfl) hb_1 (S.ev rfl)) rfl rfl trivial ?_
        clear S; intro aa S
        refine OL.nil ?_
        exact (S.hd (by rw [hb_1, Bool.false_or])).sub _ ⟨rfl, rfl, rfl, rfl, rfl, rfl, rfl, rfl, rfl, trivial⟩
    · clear S aa
      intro aa ww S
      refine OL.pure S (Lf.run_move (S.ev rfl)) rfl rfl trivial ?_
      clear S; intro aa S
      refine OL.cutN 4 (fun aa ww => St 64 ((25, Value.bool ((((!x11) || (decide (n0 < 0))) || (decide (12 < n0))) || (decide (30 < ((pairs1.n : Nat) : Int))))) :: [(0, Value.int .i64 n0), (1, Value.slice pairs1.a pairs1.n pairs1.c), (2, Value.int .i64 a2), (11, Value.bool x11), (12, Value.bool (!x11)), (13, Value.bool (!x11)), (16, Value.bool ((!x11) || (decide (n0 < 0)))), (17, Value.bool ((!x11) || (decide (n0 < 0)))), (20, Value.bool (((!x11) || (decide (n0 < 0))) || (decide (12 < n0)))), (21, Value.bool (((!x11) || (decide (n0 < 0))) || (decide (12 < n0))))]) h1 w0 aa ww) ?_ ?_
      · rcases Bool.eq_false_or_eq_true (((!x11) || (decide (n0 < 0))) || (decide (12 < n0))) with hb_2 | hb_2
        · refine OL.not S rfl rfl (GNo.mk rfl rfl hb_2) ?_
          clear S; intro aa S
          refine OL.not S rfl rfl (GNo.mk rfl rfl hb_2) ?_
          clear S; intro aa S
          refine OL.not S rfl rfl (GNo.mk rfl rfl hb_2) ?_
          clear S; intro aa S
          refine OL.pure S (Lf.run_pickT (S.ev rfl) hb_2 (S.ev rfl)) rfl rfl trivial ?_
          clear S; intro aa S
          refine OL.nil ?_
          exact (S.hd (by rw [hb_2, Bool.true_or])).sub _ ⟨rfl, rfl, rfl, rfl, rfl, rfl, rfl, rfl, rfl, rfl, rfl, trivial⟩
        · refine OL.pure S (Lf.run_move (S.ev rfl)) rfl rfl (GOk.mk rfl rfl hb_2) ?_
          clear S; intro aa S
          refine OL.pure S (Lf.run_lens (S.ev rfl) rfl Try.underlying22) rfl rfl (GOk.mk rfl rfl hb_2) ?_
          clear S; intro aa S
          refine OL.pure S (Lf.run_gtr (S.ev rfl) (S.ev rfl)) rfl rfl (GOk.mk rfl rfl hb_2) ?_
          clear S; intro aa S
          refine OL.pure S (Lf.run_pickF (S.ev rfl) hb_2 (S.ev rfl)) rfl rfl trivial ?_
          clear S; intro aa S
          refine OL.nil ?_
          exact (S.hd (by rw [hb_2, Bool.false_or])).sub _ ⟨rfl, rfl, rfl, rfl, rfl, rfl, rfl, rfl, rfl, rfl, rfl, trivial⟩
      · clear S aa
        intro aa ww S
        refine OL.nil ?_
        refine W.cond S (b := ((((!x11) || (decide (n0 < 0))) || (decide (12 < n0))) || (decide (30 < ((pairs1.n : Nat) : Int))))) rfl (fun hb_3 => ?_) (fun hb_3 => ?_)
        · replace H := H.1 hb_3
          refine W.seq ?_
          replace S := S.sub [] trivial
          refine W.region ?_
          refine ol_cal S H isfn9 rfl rfl trivial ?_
          clear S H aa; intro u_1 aa ww h2 H S
          obtain ⟨x26, rfl, H⟩ := H
          refine OL.pure S (Lf.run_assign (S.ev rfl)) rfl rfl trivial ?_
          clear S; intro aa S
          refine OL.nil ?_
          refine W.ret ?_
          exact Ret.one S rfl rfl H
        · replace H := H.2 hb_3
          refine W.skip ?_
          refine W.seq ?_
          replace S := S.sub [(0, Value.int .i64 n0), (1, Value.slice pairs1.a pairs1.n pairs1.c), (2, Value.int .i64 a2)] ⟨rfl, rfl, rfl, trivial⟩
          refine W.region ?_
          refine OL.pure S (Lf.run_move (S.ev rfl)) rfl rfl trivial ?_
          clear S; intro aa S
          refine OL.pure S (Lf.run_move (S.ev rfl)) rfl rfl trivial ?_
          clear S; intro aa S
          refine ol_cal S H isfn10 rfl rfl trivial ?_
          clear S H aa; intro u_2 aa ww h3 H S
          obtain ⟨r30, rfl, H⟩ := H
          refine OL.pure S (Lf.run_move (S.ev rfl)) rfl rfl trivial ?_
          clear S; intro aa S
          obtain ⟨u_3, e, x31, rfl, H⟩ := H
          refine OL.pure S (Lf.run_ex (S.ev rfl) e) rfl rfl trivial ?_
          clear S; intro aa S
          obtain ⟨u_4, e_1, x32, rfl, H⟩ := H
          refine OL.pure S (Lf.run_ex (S.ev rfl) e_1) rfl rfl trivial ?_
          clear S; intro aa S
          obtain ⟨u_5, e_2, x33, rfl, H⟩ := H
          refine OL.pure S (Lf.run_ex (S.ev rfl) e_2) rfl rfl trivial ?_
          clear S; intro aa S
          refine OL.pure S (Lf.run_assign (S.ev rfl)) rfl rfl trivial ?_
          clear S; intro aa S
          refine OL.pure S (Lf.run_assign (S.ev rfl)) rfl rfl trivial ?_
          clear S; intro aa S
          refine OL.pure S (Lf.run_assign (S.ev rfl)) rfl rfl trivial ?_
          clear S; intro aa S
          refine OL.nil ?_
          refine W.seq ?_
          refine W.seq ?_
          replace S := S.sub [(0, Value.int .i64 n0), (2, Value.int .i64 a2), (7, Value.pointer x31), (8, Value.pointer x32), (9, Value.bool x33)] ⟨rfl, rfl, rfl, rfl, rfl, trivial⟩
          refine W.region ?_
          refine OL.pure S (Lf.run_move (S.ev rfl)) rfl rfl trivial ?_
          clear S; intro aa S
          refine OL.pure S (Lf.run_not (S.ev rfl)) rfl rfl trivial ?_
          clear S; intro aa S
          refine OL.nil ?_
          refine W.cond S (b := (!x33)) rfl (fun hb_4 => ?_) (fun hb_4 => ?_)
          · replace H := H.1 hb_4
            refine W.seq ?_
            replace S := S.sub [] trivial
            refine W.region ?_
            refine OL.pure S (Lf.run_assign (S.ev rfl)) rfl rfl trivial ?_
            clear S; intro aa S
            refine OL.nil ?_
            refine W.ret ?_
            exact Ret.one S rfl rfl H
          · replace H := H.2 hb_4
            refine W.skip ?_
            refine W.seq ?_
            replace S := S.sub [(0, Value.int .i64 n0), (2, Value.int .i64 a2), (7, Value.pointer x31), (8, Value.pointer x32)] ⟨rfl, rfl, rfl, rfl, trivial⟩
            refine W.region ?_
            refine OL.pure S (Lf.run_assign (S.ev rfl)) rfl rfl trivial ?_
            clear S; intro aa S
            refine OL.nil ?_
            obtain ⟨J, H, HK⟩ := H
            refine W.seqJ (fun aa ww => ∃ under10 h5, St 64 [(0, Value.int .i64 n0), (2, Value.int .i64 a2), (7, Value.pointer x31), (8, Value.pointer x32), (10, Value.slice under10.a under10.n under10.c)] h5 w0 aa ww ∧ J under10 h5) ?_ ?_
            · clear HK
              refine W.seq ?_
              replace S := S.sub [(0, Value.int .i64 n0), (2, Value.int .i64 a2), (7, Value.pointer x31), (8, Value.pointer x32), (10, Value.slice (⟨none, 0, 0⟩ : Sv).a (⟨none, 0, 0⟩ : Sv).n (⟨none, 0, 0⟩ : Sv).c)] ⟨rfl, rfl, rfl, rfl, rfl, trivial⟩
              refine W.region ?_
              refine OL.pure S (Lf.run_move (S.ev rfl)) rfl rfl trivial ?_
              clear S; intro aa S
              refine OL.pure S (Lf.run_geq (S.ev rfl) (S.ev rfl)) rfl rfl trivial ?_
              clear S; intro aa S
              refine OL.pure S (Lf.run_move (S.ev rfl)) rfl rfl trivial ?_
              clear S; intro aa S
              refine OL.cutN 4 (fun aa ww => St 64 ((42, Value.bool ((decide (0 ≤ a2)) && (decide (a2 ≤ n0)))) :: [(0, Value.int .i64 n0), (2, Value.int .i64 a2), (7, Value.pointer x31), (8, Value.pointer x32), (10, Value.slice (⟨none, 0, 0⟩ : Sv).a (⟨none, 0, 0⟩ : Sv).n (⟨none, 0, 0⟩ : Sv).c), (36, Value.int .i64 a2), (37, Value.bool (decide (0 ≤ a2))), (38, Value.bool (decide (0 ≤ a2)))]) h3 w0 aa ww) ?_ ?_
              · rcases Bool.eq_false_or_eq_true (decide (0 ≤ a2)) with hb_5 | hb_5
                · refine OL.pure S (Lf.run_move (S.ev rfl)) rfl rfl (GOk.mk rfl rfl hb_5) ?_
                  clear S; intro aa S
                  refine OL.pure S (Lf.run_move (S.ev rfl)) rfl rfl (GOk.mk rfl rfl hb_5) ?_
                  clear S; intro aa S
                  refine OL.pure S (Lf.run_leq (S.ev rfl) (S.ev rfl)) rfl rfl (GOk.mk rfl rfl hb_5) ?_
                  clear S; intro aa S
                  refine OL.pure S (Lf.run_pickT (S.ev rfl) hb_5 (S.ev rfl)) rfl rfl trivial ?_
                  clear S; intro aa S
                  refine OL.nil ?_
                  exact (S.hd (by rw [hb_5, Bool.true_and])).sub _ ⟨rfl, rfl, rfl, rfl, rfl, rfl, rfl, rfl, rfl, trivial⟩
                · refine OL.not S rfl rfl (GNo.mk rfl rfl hb_5) ?_
                  clear S; intro aa S
                  refine OL.not S rfl rfl (GNo.mk rfl rfl hb_5) ?_
                  clear S; intro aa S
                  refine OL.not S rfl rfl (GNo.mk rfl rfl hb_5) ?_
                  clear S; intro aa S
                  refine OL.pure S (Lf.run_pickF (S.ev rfl) hb_5 (S.ev rfl)) rfl rfl trivial ?_
                  clear S; intro aa S
                  refine OL.nil ?_
                  exact (S.hd (by rw [hb_5, Bool.false_and])).sub _ ⟨rfl, rfl, rfl, rfl, rfl, rfl, rfl, rfl, rfl, trivial⟩
              · clear S aa
                intro aa ww S
                refine OL.nil ?_
                refine W.cond S (b := ((decide (0 ≤ a2)) && (decide (a2 ≤ n0)))) rfl (fun hb_6 => ?_) (fun hb_6 => ?_)
                · replace H := H.1 hb_6
                  replace S := S.sub [(0, Value.int .i64 n0), (2, Value.int .i64 a2), (7, Value.pointer x31), (8, Value.pointer x32)] ⟨rfl, rfl, rfl, rfl, trivial⟩
                  refine W.region ?_
                  refine OL.pure S (Lf.run_move (S.ev rfl)) rfl rfl trivial ?_
                  clear S; intro aa S
                  refine OL.pure S (Lf.run_move (S.ev rfl)) rfl rfl trivial ?_
                  clear S; intro aa S
                  refine ol_cal S H isfn15 rfl rfl trivial ?_
                  clear S H aa; intro u_6 aa ww h4 H S
                  obtain ⟨x45, rfl, H⟩ := H
                  refine OL.pure S (Lf.run_assign (S.ev rfl)) rfl rfl trivial ?_
                  clear S; intro aa S
                  refine OL.nil ?_
                  exact ⟨x45, h4, S.sub _ ⟨rfl, rfl, rfl, rfl, rfl, trivial⟩, H⟩
                · replace H := H.2 hb_6
                  refine W.skip ?_
                  exact ⟨(⟨none, 0, 0⟩ : Sv), h3, S.sub _ ⟨rfl, rfl, rfl, rfl, rfl, trivial⟩, H⟩
            · clear H S aa
              rintro aa ww ⟨under10, h5, S, HJ⟩
              have H := HK _ _ HJ
              clear HK HJ
              refine W.seq ?_
              replace S := S.sub [(0, Value.int .i64 n0), (2, Value.int .i64 a2), (7, Value.pointer x31), (8, Value.pointer x32), (10, Value.slice under10.a under10.n under10.c)] ⟨rfl, rfl, rfl, rfl, rfl, trivial⟩
              refine W.region ?_
              refine OL.pure S (Lf.run_move (S.ev rfl)) rfl rfl trivial ?_
              clear S; intro aa S
              refine ol_cal S H isfn16 rfl rfl trivial ?_
              clear S H aa; intro u_7 aa ww h6 H S
              obtain ⟨x47, rfl, H⟩ := H
              refine OL.pure S (Lf.run_move (S.ev rfl)) rfl rfl trivial ?_
              clear S; intro aa S
              refine OL.pure S (Lf.run_eql (S.ev rfl) (S.ev rfl)) rfl rfl trivial ?_
              clear S; intro aa S
              refine OL.pure S (Lf.run_move (S.ev rfl)) rfl rfl trivial ?_
              clear S; intro aa S
              obtain ⟨J_1, H, HK_1⟩ := H
              refine OL.cutN 6 (fun aa ww => ∃ x56 h7, St 64 ((56, Value.bool x56) :: [(0, Value.int .i64 n0), (2, Value.int .i64 a2), (7, Value.pointer x31), (8, Value.pointer x32), (10, Value.slice under10.a under10.n under10.c), (46, Value.pointer x31), (47, Value.int .i64 x47), (48, Value.int .i64 n0), (49, Value.bool (x47 == n0)), (50, Value.bool (x47 == n0))]) h7 w0 aa ww ∧ J_1 x56 h7) ?_ ?_
              · rcases Bool.eq_false_or_eq_true (x47 == n0) with hb_7 | hb_7
                · replace H := H.1 hb_7
                  refine OL.pure S (Lf.run_move (S.ev rfl)) rfl rfl (GOk.mk rfl rfl hb_7) ?_
                  clear S; intro aa S
                  refine OL.pure S (Lf.run_move (S.ev rfl)) rfl rfl (GOk.mk rfl rfl hb_7) ?_
                  clear S; intro aa S
                  refine ol_cal S H isfn18 rfl rfl (GOk.mk rfl rfl hb_7) ?_
                  clear S H aa; intro u_8 aa ww h8 H S
                  obtain ⟨x53, rfl, H⟩ := H
                  refine OL.pure S (Lf.run_move (S.ev rfl)) rfl rfl (GOk.mk rfl rfl hb_7) ?_
                  clear S; intro aa S
                  refine ol_cal S H isfn17 rfl rfl (GOk.mk rfl rfl hb_7) ?_
                  clear S H aa; intro u_9 aa ww h9 H S
                  obtain ⟨x55, rfl, H⟩ := H
                  refine OL.pure S (Lf.run_pickT (S.ev rfl) hb_7 (S.ev rfl)) rfl rfl trivial ?_
                  clear S; intro aa S
                  refine OL.nil ?_
                  exact ⟨_, _, S.sub _ ⟨rfl, rfl, rfl, rfl, rfl, rfl, rfl, rfl, rfl, rfl, rfl, trivial⟩, H⟩
                · replace H := H.2 hb_7
                  refine OL.not S rfl rfl (GNo.mk rfl rfl hb_7) ?_
                  clear S; intro aa S
                  refine OL.not S rfl rfl (GNo.mk rfl rfl hb_7) ?_
                  clear S; intro aa S
                  refine OL.not S rfl rfl (GNo.mk rfl rfl hb_7) ?_
                  clear S; intro aa S
                  refine OL.not S rfl rfl (GNo.mk rfl rfl hb_7) ?_
                  clear S; intro aa S
                  refine OL.not S rfl rfl (GNo.mk rfl rfl hb_7) ?_
                  clear S; intro aa S
                  refine OL.pure S (Lf.run_pickF (S.ev rfl) hb_7 (S.ev rfl)) rfl rfl trivial ?_
                  clear S; intro aa S
                  refine OL.nil ?_
                  exact ⟨_, _, S.sub _ ⟨rfl, rfl, rfl, rfl, rfl, rfl, rfl, rfl, rfl, rfl, rfl, trivial⟩, H⟩
              · clear S aa
                rintro aa ww ⟨x56, h7, S, HJ⟩
                replace H := HK_1 _ _ HJ
                clear HK_1 HJ
                refine OL.pure S (Lf.run_move (S.ev rfl)) rfl rfl trivial ?_
                clear S; intro aa S
                obtain ⟨J_2, H, HK_2⟩ := H
                refine OL.cutN 6 (fun aa ww => ∃ x63 h10, St 64 ((63, Value.bool x63) :: [(0, Value.int .i64 n0), (2, Value.int .i64 a2), (7, Value.pointer x31), (8, Value.pointer x32), (10, Value.slice under10.a under10.n under10.c), (46, Value.pointer x31), (47, Value.int .i64 x47), (48, Value.int .i64 n0), (49, Value.bool (x47 == n0)), (50, Value.bool (x47 == n0)), (56, Value.bool x56), (57, Value.bool x56)]) h10 w0 aa ww ∧ J_2 x63 h10) ?_ ?_
                · rcases Bool.eq_false_or_eq_true x56 with hb_8 | hb_8
                  · replace H := H.1 hb_8
                    refine OL.pure S (Lf.run_move (S.ev rfl)) rfl rfl (GOk.mk rfl rfl hb_8) ?_
                    clear S; intro aa S
                    refine ol_cal S H isfn20 rfl rfl (GOk.mk rfl rfl hb_8) ?_
                    clear S H aa; intro u_10 aa ww h11 H S
                    obtain ⟨x59, rfl, H⟩ := H
                    refine OL.pure S (Lf.run_move (S.ev rfl)) rfl rfl (GOk.mk rfl rfl hb_8) ?_
                    clear S; intro aa S
                    refine ol_cal S H isfn21 rfl rfl (GOk.mk rfl rfl hb_8) ?_
                    clear S H aa; intro u_11 aa ww h12 H S
                    obtain ⟨x61, rfl, H⟩ := H
                    refine ol_cal S H isfn19 rfl rfl (GOk.mk rfl rfl hb_8) ?_
                    clear S H aa; intro u_12 aa ww h13 H S
                    obtain ⟨x62, rfl, H⟩ := H
                    refine OL.pure S (Lf.run_pickT (S.ev rfl) hb_8 (S.ev rfl)) rfl rfl trivial ?_
                    clear S; intro aa S
                    refine OL.nil ?_
                    exact ⟨_, _, S.sub _ ⟨rfl, rfl, rfl, rfl, rfl, rfl, rfl, rfl, rfl, rfl, rfl, rfl, rfl, trivial⟩, H⟩
                  · replace H := H.2 hb_8
                    refine OL.not S rfl rfl (GNo.mk rfl rfl hb_8) ?_
                    clear S; intro aa S
                    refine OL.not S rfl rfl (GNo.mk rfl rfl hb_8) ?_
                    clear S; intro aa S
                    refine OL.not S rfl rfl (GNo.mk rfl rfl hb_8) ?_
                    clear S; intro aa S
                    refine OL.not S rfl rfl (GNo.mk rfl rfl hb_8) ?_
                    clear S; intro aa S
                    refine OL.not S rfl rfl (GNo.mk rfl rfl hb_8) ?_
                    clear S; intro aa S
                    refine OL.pure S (Lf.run_pickF (S.ev rfl) hb_8 (S.ev rfl)) rfl rfl trivial ?_
                    clear S; intro aa S
                    refine OL.nil ?_
                    exact ⟨_, _, S.sub _ ⟨rfl, rfl, rfl, rfl, rfl, rfl, rfl, rfl, rfl, rfl, rfl, rfl, rfl, trivial⟩, H⟩
                · clear S aa
                  rintro aa ww ⟨x63, h10, S, HJ⟩
                  replace H := HK_2 _ _ HJ
                  clear HK_2 HJ
                  refine OL.pure S (Lf.run_assign (S.ev rfl)) rfl rfl trivial ?_
                  clear S; intro aa S
                  refine OL.nil ?_
                  refine W.ret ?_
                  exact Ret.one S rfl rfl H

/-- chattel chattellaw06.LifeTurns -/
def L7 (n0 : Int) (pairs1 : Sv) (vat2 : Int) (h : Heap) (R : Value → Heap → Prop) : Prop :=
  cal Try.prog 9 #[] h fun u h1 => asB u fun x17 =>
  ifb ((((!x17) || (decide (n0 < 0))) || (decide (20 < n0))) || (decide (40 < ((pairs1.n : Nat) : Int)))) (
    cal Try.prog 9 #[] h1 fun u_1 h2 => asB u_1 fun x32 =>
    R (Value.bool x32) h2) (
    cal Try.prog 10 #[Value.int .i64 n0, Value.slice pairs1.a pairs1.n pairs1.c] h1 fun u_2 h3 => asTup u_2 fun r36 =>
    elt r36 0 fun u_3 => asP u_3 fun x37 =>
    elt r36 1 fun u_4 => asP u_4 fun x38 =>
    elt r36 2 fun u_5 => asB u_5 fun x39 =>
    ifb (!x39) (
      R (Value.bool false) h3) (
      ∃ (I : Sv → Int → Heap → Prop) (m : Sv → Int → Heap → Nat), I (⟨none, 0, 0⟩ : Sv) (IntKind.i64.wrap (((pairs1.n : Nat) : Int) - 1)) h3 ∧ ∀ back10 i11 h4, I back10 i11 h4 →
      ifb (decide (0 ≤ i11)) (
        ixS pairs1 i11 fun q52 =>
        ∃ (y53 : Int) (y53_1 : Int), cl h4 (q52.add ((i11 : Int).toNat * 2)) = some (Value.int .i64 y53) ∧ cl h4 ((q52.add ((i11 : Int).toNat * 2)).add 1) = some (Value.int .i64 y53_1) ∧
        newS 33 #[Value.int .i64 y53, Value.int .i64 y53_1] 1 h4 fun s54 h5 =>
        appS 33 (Value.agg #[Value.int .i64 0, Value.int .i64 0]).cells 2 16 h5 back10 s54 fun s55 h6 =>
        I s55 (IntKind.i64.wrap (i11 - 1)) h6 ∧ m s55 (IntKind.i64.wrap (i11 - 1)) h6 < m back10 i11 h4) (
        cal Try.prog 10 #[Value.int .i64 n0, Value.slice back10.a back10.n back10.c] h4 fun u_6 h7 => asTup u_6 fun r59 =>
        elt r59 0 fun u_7 => asP u_7 fun x60 =>
        elt r59 1 fun u_8 => asP u_8 fun x61 =>
        elt r59 2 fun u_9 => asB u_9 fun x62 =>
        ∃ J : Bool → Heap → Prop, (orj (!x62) (fun k =>
          cal Try.prog 20 #[Value.pointer x37] h7 fun u_10 h9 => asS u_10 fun x67 =>
          cal Try.prog 20 #[Value.pointer x60] h9 fun u_11 h10 => asS u_11 fun x69 =>
          cal Try.prog 19 #[Value.slice x67.a x67.n x67.c, Value.slice x69.a x69.n x69.c] h10 fun u_12 h11 => asB u_12 fun x70 =>
          k (!x70) h11) h7 J) ∧ ∀ x72 h8, J x72 h8 →
        ifb x72 (
          R (Value.bool false) h8) (
          cal Try.prog 20 #[Value.pointer x37] h8 fun u_13 h12 => asS u_13 fun x74 =>
          ∃ J_1 : Heap → Prop, (
            ifb (decide (0 < ((x74.n : Nat) : Int))) (
              ((IntKind.u64.wrap ((x74.n : Nat) : Int)) ≠ 0) ∧
              ixS x74 (IntKind.i64.wrap (((IntKind.u64.wrap vat2) : Int).tmod (IntKind.u64.wrap ((x74.n : Nat) : Int)))) fun q86 =>
              ∃ (y87 : Int) (y87_1 : Int), cl h12 (q86.add (((IntKind.i64.wrap (((IntKind.u64.wrap vat2) : Int).tmod (IntKind.u64.wrap ((x74.n : Nat) : Int)))) : Int).toNat * 2)) = some (Value.int .i64 y87) ∧ cl h12 ((q86.add (((IntKind.i64.wrap (((IntKind.u64.wrap vat2) : Int).tmod (IntKind.u64.wrap ((x74.n : Nat) : Int)))) : Int).toNat * 2)).add 1) = some (Value.int .i64 y87_1) ∧
              new 33 #[Value.int .i64 0, Value.int .i64 0] h12 fun p16 h13 =>
              stoA h13 p16 [Value.int .i64 y87, Value.int .i64 y87_1] fun h14 =>
              ldI .i64 h14 p16 fun x90 =>
              ldI .i64 h14 (p16.add 1) fun x92 =>
              cal Try.prog 14 #[Value.pointer x37, Value.int .i64 x90, Value.int .i64 x92] h14 fun u_14 h15 => asI .i64 u_14 fun x93 =>
              ifb (x93 != 0) (
                R (Value.bool false) h15) (
                J_1 h15)) (
              J_1 h12)) ∧ (∀ h16, J_1 h16 →
          cal Try.prog 20 #[Value.pointer x37] h16 fun u_15 h17 => asS u_15 fun x96 =>
          cal Try.prog 19 #[Value.slice x96.a x96.n x96.c, Value.slice x74.a x74.n x74.c] h17 fun u_16 h18 => asB u_16 fun x98 =>
          R (Value.bool x98) h18)))))

set_option maxRecDepth 100000 in

theorem F7 {n0 pairs1 vat2 h : _} {R : Value → Heap → Prop} (H : L7 n0 pairs1 vat2 h R) : CallsH Try.prog 7 #[Value.int .i64 n0, Value.slice pairs1.a pairs1.n pairs1.c, Value.int .i64 vat2] h R := by
  refine CallsH.enter (n := 99) Try.func7 rfl rfl rfl rfl ?_
  intro w0 aa ww S
  unfold L7 at H
  refine W.seq ?_
  replace S := S.sub [(0, Value.int .i64 n0), (1, Value.slice pairs1.a pairs1.n pairs1.c), (2, Value.int .i64 vat2)] ⟨rfl, rfl, rfl, trivial⟩
  refine W.region ?_
  refine OL.pure S (Lf.run_assign (S.ev rfl)) rfl rfl trivial ?_
  clear S; intro aa S
  refine OL.nil ?_
  refine W.seq ?_
  refine W.seq ?_
  replace S := S.sub [(0, Value.int .i64 n0), (1, Value.slice pairs1.a pairs1.n pairs1.c), (2, Value.int .i64 vat2)] ⟨rfl, rfl, rfl, trivial⟩
  refine W.region ?_
  refine ol_cal S H isfn9 rfl rfl trivial ?_
  clear S H aa; intro u aa ww h1 H S
  obtain ⟨x17, rfl, H⟩ := H
  refine OL.pure S (Lf.run_not (S.ev rfl)) rfl rfl trivial ?_
  clear S; intro aa S
  refine OL.pure S (Lf.run_move (S.ev rfl)) rfl rfl trivial ?_
  clear S; intro aa S
  refine OL.cutN 3 (fun aa ww => St 99 ((22, Value.bool ((!x17) || (decide (n0 < 0)))) :: [(0, Value.int .i64 n0), (1, Value.slice pairs1.a pairs1.n pairs1.c), (2, Value.int .i64 vat2), (17, Value.bool x17), (18, Value.bool (!x17)), (19, Value.bool (!x17))]) h1 w0 aa ww) ?_ ?_
  · rcases Bool.eq_false_or_eq_true (!x17) with hb | hb
    · refine OL.not S rfl rfl (GNo.mk rfl rfl hb) ?_
      clear S; intro aa S
      refine OL.not S rfl rfl (GNo.mk rfl rfl hb) ?_
      clear S; intro aa S
      refine OL.pure S (Lf.run_pickT (S.ev rfl) hb (S.ev rfl)) rfl rfl trivial ?_
      clear S; intro aa S
      refine OL.nil ?_
      exact (S.hd (by rw [hb, Bool.true_or])).sub _ ⟨rfl, rfl, rfl, rfl, rfl, rfl, rfl, trivial⟩
    · refine OL.pure S (Lf.run_move (S.ev rfl)) rfl rfl (GOk.mk rfl rfl hb) ?_
      clear S; intro aa S
      refine OL.pure S (Lf.run_lss (S.ev rfl) (S.ev rfl)) rfl rfl (GOk.mk rfl rfl hb) ?_
      clear S; intro aa S
      refine OL.pure S (Lf.run_pickF (S.ev rfl) hb (S.ev rfl)) rfl rfl trivial ?_
      clear S; intro aa S
      refine OL.nil ?_
      exact (S.hd (by rw [hb, Bool.false_or])).sub _ ⟨rfl, rfl, rfl, rfl, rfl, rfl, rfl, trivial⟩
  · clear S aa
    intro aa ww S
    refine OL.pure S (Lf.run_move (S.ev rfl)) rfl rfl trivial ?_
    clear S; intro aa S
    refine OL.cutN 3 (fun aa ww => St 99 ((26, Value.bool (((!x17) || (decide (n0 < 0))) || (decide (20 < n0)))) :: [(0, Value.int .i64 n0), (1, Value.slice pairs1.a pairs1.n pairs1.c), (2, Value.int .i64 vat2), (17, Value.bool x17), (18, Value.bool (!x17)), (19, Value.bool (!x17)), (22, Value.bool ((!x17) || (decide (n0 < 0)))), (23, Value.bool ((!x17) || (decide (n0 < 0))))]) h1 w0 aa ww) ?_ ?_
    · rcases Bool.eq_false_or_eq_true ((!x17) || (decide (n0 < 0))) with hb_1 | hb_1
      · refine OL.not S rfl rfl (GNo.mk rfl rfl hb_1) ?_
        clear S; intro aa S
        refine OL.not S rfl rfl (GNo.mk rfl rfl hb_1) ?_
        clear S; intro aa S
        refine OL.pure S (Lf.run_pickT (S.ev rfl) hb_1 (S.ev rfl)) rfl rfl trivial ?_
        clear S; intro aa S
        refine OL.nil ?_
        exact (S.hd (by rw [hb_1, Bool.true_or])).sub _ ⟨rfl, rfl, rfl, rfl, rfl, rfl, rfl, rfl, rfl, trivial⟩
      · refine OL.pure S (Lf.run_move (S.ev rfl)) rfl rfl (GOk.mk rfl rfl hb_1) ?_
        clear S; intro aa S
        refine OL.pure S (Lf.run_gtr (S.ev rfl) (S.ev rfl)) rfl rfl (GOk.mk rfl rfl hb_1) ?_
        clear S; intro aa S
        refine OL.pure S (Lf.run_pickF (S.ev rfl) hb_1 (S.ev rfl)) rfl rfl trivial ?_
        clear S; intro aa S
        refine OL.nil ?_
        exact (S.hd (by rw [hb_1, Bool.false_or])).sub _ ⟨rfl, rfl, rfl, rfl, rfl, rfl, rfl, rfl, rfl, trivial⟩
    · clear S aa
      intro aa ww S
      refine OL.pure S (Lf.run_move (S.ev rfl)) rfl rfl trivial ?_
      clear S; intro aa S
      refine OL.cutN 4 (fun aa ww => St 99 ((31, Value.bool ((((!x17) || (decide (n0 < 0))) || (decide (20 < n0))) || (decide (40 < ((pairs1.n : Nat) : Int))))) :: [(0, Value.int .i64 n0), (1, Value.slice pairs1.a pairs1.n pairs1.c), (2, Value.int .i64 vat2), (17, Value.bool x17), (18, Value.bool (!x17)), (19, Value.bool (!x17)), (22, Value.bool ((!x17) || (decide (n0 < 0)))), (23, Value.bool ((!x17) || (decide (n0 < 0)))), (26, Value.bool (((!x17) || (decide (n0 < 0))) || (decide (20 < n0)))), (27, Value.bool (((!x17) || (decide (n0 < 0))) || (decide (20 < n0))))]) h1 w0 aa ww) ?_ ?_
      · rcases Bool.eq_false_or_eq_true (((!x17) || (decide (n0 < 0))) || (decide (20 < n0))) with hb_2 | hb_2
        · refine OL.not S rfl rfl (GNo.mk rfl rfl hb_2) ?_
          clear S; intro aa S
          refine OL.not S rfl rfl (GNo.mk rfl rfl hb_2) ?_
          clear S; intro aa S
          refine OL.not S rfl rfl (GNo.mk rfl rfl hb_2) ?_
          clear S; intro aa S
          refine OL.pure S (Lf.run_pickT (S.ev rfl) hb_2 (S.ev rfl)) rfl rfl trivial ?_
          clear S; intro aa S
          refine OL.nil ?_
          exact (S.hd (by rw [hb_2, Bool.true_or])).sub _ ⟨rfl, rfl, rfl, rfl, rfl, rfl, rfl, rfl, rfl, rfl, rfl, trivial⟩
        · refine OL.pure S (Lf.run_move (S.ev rfl)) rfl rfl (GOk.mk rfl rfl hb_2) ?_
          clear S; intro aa S
          refine OL.pure S (Lf.run_lens (S.ev rfl) rfl Try.underlying22) rfl rfl (GOk.mk rfl rfl hb_2) ?_
          clear S; intro aa S
          refine OL.pure S (Lf.run_gtr (S.ev rfl) (S.ev rfl)) rfl rfl (GOk.mk rfl rfl hb_2) ?_
          clear S; intro aa S
          refine OL.pure S (Lf.run_pickF (S.ev rfl) hb_2 (S.ev rfl)) rfl rfl trivial ?_
          clear S; intro aa S
          refine OL.nil ?_
          exact (S.hd (by rw [hb_2, Bool.false_or])).sub _ ⟨rfl, rfl, rfl, rfl, rfl, rfl, rfl, rfl, rfl, rfl, rfl, trivial⟩
      · clear S aa
        intro aa ww S
        refine OL.nil ?_
        refine W.cond S (b := ((((!x17) || (decide (n0 < 0))) || (decide (20 < n0))) || (decide (40 < ((pairs1.n : Nat) : Int))))) rfl (fun hb_3 => ?_) (fun hb_3 => ?_)
        · replace H := H.1 hb_3
          refine W.seq ?_
          replace S := S.sub [] trivial
          refine W.region ?_
          refine ol_cal S H isfn9 rfl rfl trivial ?_
          clear S H aa; intro u_1 aa ww h2 H S
          obtain ⟨x32, rfl, H⟩ := H
          refine OL.pure S (Lf.run_assign (S.ev rfl)) rfl rfl trivial ?_
          clear S; intro aa S
          refine OL.nil ?_
          refine W.ret ?_
          exact Ret.one S rfl rfl H
        · replace H := H.2 hb_3
          refine W.skip ?_
          refine W.seq ?_
          replace S := S.sub [(0, Value.int .i64 n0), (1, Value.slice pairs1.a pairs1.n pairs1.c), (2, Value.int .i64 vat2)] ⟨rfl, rfl, rfl, trivial⟩
          refine W.region ?_
          refine OL.pure S (Lf.run_move (S.ev rfl)) rfl rfl trivial ?_
          clear S; intro aa S
          refine OL.pure S (Lf.run_move (S.ev rfl)) rfl rfl trivial ?_
          clear S; intro aa S
          refine ol_cal S H isfn10 rfl rfl trivial ?_
          clear S H aa; intro u_2 aa ww h3 H S
          obtain ⟨r36, rfl, H⟩ := H
          refine OL.pure S (Lf.run_move (S.ev rfl)) rfl rfl trivial ?_
          clear S; intro aa S
          obtain ⟨u_3, e, x37, rfl, H⟩ := H
          refine OL.pure S (Lf.run_ex (S.ev rfl) e) rfl rfl trivial ?_
          clear S; intro aa S
          obtain ⟨u_4, e_1, x38, rfl, H⟩ := H
          refine OL.pure S (Lf.run_ex (S.ev rfl) e_1) rfl rfl trivial ?_
          clear S; intro aa S
          obtain ⟨u_5, e_2, x39, rfl, H⟩ := H
          refine OL.pure S (Lf.run_ex (S.ev rfl) e_2) rfl rfl trivial ?_
          clear S; intro aa S
          refine OL.pure S (Lf.run_assign (S.ev rfl)) rfl rfl trivial ?_
          clear S; intro aa S
          refine OL.pure S (Lf.run_assign (S.ev rfl)) rfl rfl trivial ?_
          clear S; intro aa S
          refine OL.pure S (Lf.run_assign (S.ev rfl)) rfl rfl trivial ?_
          clear S; intro aa S
          refine OL.nil ?_
          refine W.seq ?_
          refine W.seq ?_
          replace S := S.sub [(0, Value.int .i64 n0), (1, Value.slice pairs1.a pairs1.n pairs1.c), (2, Value.int .i64 vat2), (7, Value.pointer x37), (9, Value.bool x39)] ⟨rfl, rfl, rfl, rfl, rfl, trivial⟩
          refine W.region ?_
          refine OL.pure S (Lf.run_move (S.ev rfl)) rfl rfl trivial ?_
          clear S; intro aa S
          refine OL.pure S (Lf.run_not (S.ev rfl)) rfl rfl trivial ?_
          clear S; intro aa S
          refine OL.nil ?_
          refine W.cond S (b := (!x39)) rfl (fun hb_4 => ?_) (fun hb_4 => ?_)
          · replace H := H.1 hb_4
            refine W.seq ?_
            replace S := S.sub [] trivial
            refine W.region ?_
            refine OL.pure S (Lf.run_assign (S.ev rfl)) rfl rfl trivial ?_
            clear S; intro aa S
            refine OL.nil ?_
            refine W.ret ?_
            exact Ret.one S rfl rfl H
          · replace H := H.2 hb_4
            refine W.skip ?_
            refine W.seq ?_
            replace S := S.sub [(0, Value.int .i64 n0), (1, Value.slice pairs1.a pairs1.n pairs1.c), (2, Value.int .i64 vat2), (7, Value.pointer x37)] ⟨rfl, rfl, rfl, rfl, trivial⟩
            refine W.region ?_
            refine OL.pure S (Lf.run_assign (S.ev rfl)) rfl rfl trivial ?_
            clear S; intro aa S
            refine OL.nil ?_
            refine W.seq ?_
            refine W.seq ?_
            replace S := S.sub [(0, Value.int .i64 n0), (1, Value.slice pairs1.a pairs1.n pairs1.c), (2, Value.int .i64 vat2), (7, Value.pointer x37), (10, Value.slice (⟨none, 0, 0⟩ : Sv).a (⟨none, 0, 0⟩ : Sv).n (⟨none, 0, 0⟩ : Sv).c)] ⟨rfl, rfl, rfl, rfl, rfl, trivial⟩
            refine W.region ?_
            refine OL.pure S (Lf.run_move (S.ev rfl)) rfl rfl trivial ?_
            clear S; intro aa S
            refine OL.pure S (Lf.run_lens (S.ev rfl) rfl Try.underlying22) rfl rfl trivial ?_
            clear S; intro aa S
            refine OL.pure S (Lf.run_sub (S.ev rfl) (S.ev rfl)) rfl rfl trivial ?_
            clear S; intro aa S
            refine OL.pure S (Lf.run_assign (S.ev rfl)) rfl rfl trivial ?_
            clear S; intro aa S
            refine OL.nil ?_
            refine W.block ?_
            obtain ⟨I, m, H, HB⟩ := H
            refine W.loopS (σ := Sv × Int × Heap) (fun s aa ww => St 99 [(0, Value.int .i64 n0), (1, Value.slice pairs1.a pairs1.n pairs1.c), (2, Value.int .i64 vat2), (7, Value.pointer x37), (10, Value.slice s.1.a s.1.n s.1.c), (11, Value.int .i64 s.2.1)] s.2.2 w0 aa ww ∧ I s.1 s.2.1 s.2.2) (fun s => m s.1 s.2.1 s.2.2) ((⟨none, 0, 0⟩ : Sv), (IntKind.i64.wrap (((pairs1.n : Nat) : Int) - 1)), h3) ⟨S.sub _ ⟨rfl, rfl, rfl, rfl, rfl, rfl, trivial⟩, H⟩ ?_
            clear H S aa
            rintro ⟨back10, i11, h4⟩ aa ww ⟨S, HI⟩
            replace S : St 99 [(0, Value.int .i64 n0), (1, Value.slice pairs1.a pairs1.n pairs1.c), (2, Value.int .i64 vat2), (7, Value.pointer x37), (10, Value.slice back10.a back10.n back10.c), (11, Value.int .i64 i11)] h4 w0 aa ww := S
            have H := HB back10 i11 h4 HI
            clear HI
            refine W.seq ?_
            refine W.seq ?_
            replace S := S.sub [(0, Value.int .i64 n0), (1, Value.slice pairs1.a pairs1.n pairs1.c), (2, Value.int .i64 vat2), (7, Value.pointer x37), (10, Value.slice back10.a back10.n back10.c), (11, Value.int .i64 i11)] ⟨rfl, rfl, rfl, rfl, rfl, rfl, trivial⟩
            refine W.region ?_
            refine OL.pure S (Lf.run_move (S.ev rfl)) rfl rfl trivial ?_
            clear S; intro aa S
            refine OL.pure S (Lf.run_geq (S.ev rfl) (S.ev rfl)) rfl rfl trivial ?_
            clear S; intro aa S
            refine OL.nil ?_
            refine W.cond S (b := (decide (0 ≤ i11))) rfl (fun hb_5 => ?_) (fun hb_5 => ?_)
            · replace H := H.1 hb_5
              refine W.skip ?_
              refine W.seq ?_
              refine W.block ?_
              replace S := S.sub [(0, Value.int .i64 n0), (1, Value.slice pairs1.a pairs1.n pairs1.c), (2, Value.int .i64 vat2), (7, Value.pointer x37), (10, Value.slice back10.a back10.n back10.c), (11, Value.int .i64 i11)] ⟨rfl, rfl, rfl, rfl, rfl, rfl, trivial⟩
              refine W.region ?_
              refine OL.pure S (Lf.run_move (S.ev rfl)) rfl rfl trivial ?_
              clear S; intro aa S
              refine OL.pure S (Lf.run_move (S.ev rfl)) rfl rfl trivial ?_
              clear S; intro aa S
              refine OL.pure S (Lf.run_move (S.ev rfl)) rfl rfl trivial ?_
              clear S; intro aa S
              obtain ⟨q52, e_3, e_4, e_5, H⟩ := H
              refine OL.pure S (Lf.run_ixs (S.ev rfl) (S.ev rfl) Try.underlying22 ti33 e_3 e_4 e_5) rfl rfl trivial ?_
              clear S; intro aa S
              obtain ⟨y53, y53_1, c_1, c_2, H⟩ := H
              refine OL.pure S (Lf.run_ldA (cs := [Value.int .i64 y53, Value.int .i64 y53_1]) (S.ev rfl) ag33 ti33 (by rw [S.heap]; exact RowL.toRow ⟨c_1, c_2, trivial⟩)) rfl rfl trivial ?_
              clear S; intro aa S
              refine ol_newS S H Try.underlying22 ti33 (by decide) (parts_map S rfl) (by kernel_rfl) (by decide) rfl trivial ?_
              clear S H aa; intro s54 aa ww h5 H S
              refine ol_appS S H Try.underlying22 ti33 rfl rfl rfl trivial ?_
              clear S H aa; intro s55 aa ww h6 H S
              refine OL.pure S (Lf.run_assign (S.ev rfl)) rfl rfl trivial ?_
              clear S; intro aa S
              refine OL.nil ?_
              replace S := S.sub [(0, Value.int .i64 n0), (1, Value.slice pairs1.a pairs1.n pairs1.c), (2, Value.int .i64 vat2), (7, Value.pointer x37), (10, Value.slice s55.a s55.n s55.c), (11, Value.int .i64 i11)] ⟨rfl, rfl, rfl, rfl, rfl, rfl, trivial⟩
              refine W.region ?_
              refine OL.pure S (Lf.run_move (S.ev rfl)) rfl rfl trivial ?_
              clear S; intro aa S
              refine OL.pure S (Lf.run_sub (S.ev rfl) (S.ev rfl)) rfl rfl trivial ?_
              clear S; intro aa S
              refine OL.pure S (Lf.run_assign (S.ev rfl)) rfl rfl trivial ?_
              clear S; intro aa S
              refine OL.nil ?_
              exact ⟨(s55, (IntKind.i64.wrap (i11 - 1)), h6), ⟨S.sub _ ⟨rfl, rfl, rfl, rfl, rfl, rfl, trivial⟩, H.1⟩, H.2⟩
            · replace H := H.2 hb_5
              refine W.exit_ ?_
              refine xhit ?_
              refine W.seq ?_
              replace S := S.sub [(0, Value.int .i64 n0), (2, Value.int .i64 vat2), (7, Value.pointer x37), (10, Value.slice back10.a back10.n back10.c)] ⟨rfl, rfl, rfl, rfl, trivial⟩
              refine W.region ?_
              refine OL.pure S (Lf.run_move (S.ev rfl)) rfl rfl trivial ?_
              clear S; intro aa S
              refine OL.pure S (Lf.run_move (S.ev rfl)) rfl rfl trivial ?_
              clear S; intro aa S
              refine ol_cal S H isfn10 rfl rfl trivial ?_
              clear S H aa; intro u_6 aa ww h7 H S
              obtain ⟨r59, rfl, H⟩ := H
              refine OL.pure S (Lf.run_move (S.ev rfl)) rfl rfl trivial ?_
              clear S; intro aa S
              obtain ⟨u_7, e_6, x60, rfl, H⟩ := H
              refine OL.pure S (Lf.run_ex (S.ev rfl) e_6) rfl rfl trivial ?_
              clear S; intro aa S
              obtain ⟨u_8, e_7, x61, rfl, H⟩ := H
              refine OL.pure S (Lf.run_ex (S.ev rfl) e_7) rfl rfl trivial ?_
              clear S; intro aa S
              obtain ⟨u_9, e_8, x62, rfl, H⟩ := H
              refine OL.pure S (Lf.run_ex (S.ev rfl) e_8) rfl rfl trivial ?_
              clear S; intro aa S
              refine OL.pure S (Lf.run_assign (S.ev rfl)) rfl rfl trivial ?_
              clear S; intro aa S
              refine OL.pure S (Lf.run_assign (S.ev rfl)) rfl rfl trivial ?_
              clear S; intro aa S
              refine OL.pure S (Lf.run_assign (S.ev rfl)) rfl rfl trivial ?_
              clear S; intro aa S
              refine OL.nil ?_
              refine W.seq ?_
              refine W.seq ?_
              replace S := S.sub [(2, Value.int .i64 vat2), (7, Value.pointer x37), (12, Value.pointer x60), (14, Value.bool x62)] ⟨rfl, rfl, rfl, rfl, trivial⟩
              refine W.region ?_
              refine OL.pure S (Lf.run_move (S.ev rfl)) rfl rfl trivial ?_
              clear S; intro aa S
              refine OL.pure S (Lf.run_not (S.ev rfl)) rfl rfl trivial ?_
              clear S; intro aa S
              refine OL.pure S (Lf.run_move (S.ev rfl)) rfl rfl trivial ?_
              clear S; intro aa S
              obtain ⟨J, H, HK⟩ := H
              refine OL.cutN 7 (fun aa ww => ∃ x72 h8, St 99 ((72, Value.bool x72) :: [(2, Value.int .i64 vat2), (7, Value.pointer x37), (12, Value.pointer x60), (14, Value.bool x62), (63, Value.bool x62), (64, Value.bool (!x62)), (65, Value.bool (!x62))]) h8 w0 aa ww ∧ J x72 h8) ?_ ?_
              · rcases Bool.eq_false_or_eq_true (!x62) with hb_6 | hb_6
                · replace H := H.1 hb_6
                  refine OL.not S rfl rfl (GNo.mk rfl rfl hb_6) ?_
                  clear S; intro aa S
                  refine OL.not S rfl rfl (GNo.mk rfl rfl hb_6) ?_
                  clear S; intro aa S
                  refine OL.not S rfl rfl (GNo.mk rfl rfl hb_6) ?_
                  clear S; intro aa S
                  refine OL.not S rfl rfl (GNo.mk rfl rfl hb_6) ?_
                  clear S; intro aa S
                  refine OL.not S rfl rfl (GNo.mk rfl rfl hb_6) ?_
                  clear S; intro aa S
                  refine OL.not S rfl rfl (GNo.mk rfl rfl hb_6) ?_
                  clear S; intro aa S
                  refine OL.pure S (Lf.run_pickT (S.ev rfl) hb_6 (S.ev rfl)) rfl rfl trivial ?_
                  clear S; intro aa S
                  refine OL.nil ?_
                  exact ⟨_, _, S.sub _ ⟨rfl, rfl, rfl, rfl, rfl, rfl, rfl, rfl, trivial⟩, H⟩
                · replace H := H.2 hb_6
                  refine OL.pure S (Lf.run_move (S.ev rfl)) rfl rfl (GOk.mk rfl rfl hb_6) ?_
                  clear S; intro aa S
                  refine ol_cal S H isfn20 rfl rfl (GOk.mk rfl rfl hb_6) ?_
                  clear S H aa; intro u_10 aa ww h9 H S
                  obtain ⟨x67, rfl, H⟩ := H
                  refine OL.pure S (Lf.run_move (S.ev rfl)) rfl rfl (GOk.mk rfl rfl hb_6) ?_
                  clear S; intro aa S
                  refine ol_cal S H isfn20 rfl rfl (GOk.mk rfl rfl hb_6) ?_
                  clear S H aa; intro u_11 aa ww h10 H S
                  obtain ⟨x69, rfl, H⟩ := H
                  refine ol_cal S H isfn19 rfl rfl (GOk.mk rfl rfl hb_6) ?_
                  clear S H aa; intro u_12 aa ww h11 H S
                  obtain ⟨x70, rfl, H⟩ := H
                  refine OL.pure S (Lf.run_not (S.ev rfl)) rfl rfl (GOk.mk rfl rfl hb_6) ?_
                  clear S; intro aa S
                  refine OL.pure S (Lf.run_pickF (S.ev rfl) hb_6 (S.ev rfl)) rfl rfl trivial ?_
                  clear S; intro aa S
                  refine OL.nil ?_
                  exact ⟨_, _, S.sub _ ⟨rfl, rfl, rfl, rfl, rfl, rfl, rfl, rfl, trivial⟩, H⟩
              · clear S aa
                rintro aa ww ⟨x72, h8, S, HJ⟩
                replace H := HK _ _ HJ
                clear HK HJ
                refine OL.nil ?_
                refine W.cond S (b := x72) rfl (fun hb_7 => ?_) (fun hb_7 => ?_)
                · replace H := H.1 hb_7
                  refine W.seq ?_
                  replace S := S.sub [] trivial
                  refine W.region ?_
                  refine OL.pure S (Lf.run_assign (S.ev rfl)) rfl rfl trivial ?_
                  clear S; intro aa S
                  refine OL.nil ?_
                  refine W.ret ?_
                  exact Ret.one S rfl rfl H
                · replace H := H.2 hb_7
                  refine W.skip ?_
                  refine W.seq ?_
                  replace S := S.sub [(2, Value.int .i64 vat2), (7, Value.pointer x37)] ⟨rfl, rfl, trivial⟩
                  refine W.region ?_
                  refine OL.pure S (Lf.run_move (S.ev rfl)) rfl rfl trivial ?_
                  clear S; intro aa S
                  refine ol_cal S H isfn20 rfl rfl trivial ?_
                  clear S H aa; intro u_13 aa ww h12 H S
                  obtain ⟨x74, rfl, H⟩ := H
                  refine OL.pure S (Lf.run_assign (S.ev rfl)) rfl rfl trivial ?_
                  clear S; intro aa S
                  refine OL.nil ?_
                  obtain ⟨J_1, H, HK_1⟩ := H
                  refine W.seqJ (fun aa ww => ∃ h16, St 99 [(7, Value.pointer x37), (15, Value.slice x74.a x74.n x74.c)] h16 w0 aa ww ∧ J_1 h16) ?_ ?_
                  · clear HK_1
                    refine W.seq ?_
                    replace S := S.sub [(2, Value.int .i64 vat2), (7, Value.pointer x37), (15, Value.slice x74.a x74.n x74.c)] ⟨rfl, rfl, rfl, trivial⟩
                    refine W.region ?_
                    refine OL.pure S (Lf.run_move (S.ev rfl)) rfl rfl trivial ?_
                    clear S; intro aa S
                    refine OL.pure S (Lf.run_lens (S.ev rfl) rfl Try.underlying22) rfl rfl trivial ?_
                    clear S; intro aa S
                    refine OL.pure S (Lf.run_gtr (S.ev rfl) (S.ev rfl)) rfl rfl trivial ?_
                    clear S; intro aa S
                    refine OL.nil ?_
                    refine W.cond S (b := (decide (0 < ((x74.n : Nat) : Int)))) rfl (fun hb_8 => ?_) (fun hb_8 => ?_)
                    · replace H := H.1 hb_8
                      refine W.seq ?_
                      replace S := S.sub [(2, Value.int .i64 vat2), (7, Value.pointer x37), (15, Value.slice x74.a x74.n x74.c)] ⟨rfl, rfl, rfl, trivial⟩
                      refine W.region ?_
                      refine OL.pure S (Lf.run_move (S.ev rfl)) rfl rfl trivial ?_
                      clear S; intro aa S
                      refine OL.pure S (Lf.run_move (S.ev rfl)) rfl rfl trivial ?_
                      clear S; intro aa S
                      refine OL.pure S (Lf.run_cvi Try.underlying3 Try.underlying31 (S.ev rfl)) rfl rfl trivial ?_
                      clear S; intro aa S
                      refine OL.pure S (Lf.run_move (S.ev rfl)) rfl rfl trivial ?_
                      clear S; intro aa S
                      refine OL.pure S (Lf.run_lens (S.ev rfl) rfl Try.underlying22) rfl rfl trivial ?_
                      clear S; intro aa S
                      refine OL.pure S (Lf.run_cvi Try.underlying3 Try.underlying31 (S.ev rfl)) rfl rfl trivial ?_
                      clear S; intro aa S
                      obtain ⟨c_8, H⟩ := H
                      refine OL.pure S (Lf.run_rem (S.ev rfl) (S.ev rfl) c_8) rfl rfl trivial ?_
                      clear S; intro aa S
                      refine OL.pure S (Lf.run_cvi Try.underlying31 Try.underlying3 (S.ev rfl)) rfl rfl trivial ?_
                      clear S; intro aa S
                      obtain ⟨q86, e_9, e_10, e_11, H⟩ := H
                      refine OL.pure S (Lf.run_ixs (S.ev rfl) (S.ev rfl) Try.underlying22 ti33 e_9 e_10 e_11) rfl rfl trivial ?_
                      clear S; intro aa S
                      obtain ⟨y87, y87_1, c_6, c_7, H⟩ := H
                      refine OL.pure S (Lf.run_ldA (cs := [Value.int .i64 y87, Value.int .i64 y87_1]) (S.ev rfl) ag33 ti33 (by rw [S.heap]; exact RowL.toRow ⟨c_6, c_7, trivial⟩)) rfl rfl trivial ?_
                      clear S; intro aa S
                      refine ol_alloc S H ti33 rfl rfl trivial ?_
                      clear S H aa; intro p16 aa ww h13 H S
                      refine ol_stoA S H rfl rfl ti33 trivial ?_
                      clear S H aa; intro aa ww h14 H S
                      refine OL.nil ?_
                      refine W.seq ?_
                      replace S := S.sub [(7, Value.pointer x37), (15, Value.slice x74.a x74.n x74.c), (16, Value.pointer (some p16))] ⟨rfl, rfl, rfl, trivial⟩
                      refine W.region ?_
                      refine OL.pure S (Lf.run_move (S.ev rfl)) rfl rfl trivial ?_
                      clear S; intro aa S
                      refine OL.pure S (Lf.run_ixa (S.ev rfl) (S.ev rfl) Try.underlying33 ti3 (by decide) (by decide)) rfl rfl trivial ?_
                      clear S; intro aa S
                      obtain ⟨x90, c_4, H⟩ := H
                      refine OL.pure S (Lf.run_ld (S.ev rfl) fl3 (S.cl c_4)) rfl rfl trivial ?_
                      clear S; intro aa S
                      refine OL.pure S (Lf.run_ixa (S.ev rfl) (S.ev rfl) Try.underlying33 ti3 (by decide) (by decide)) rfl rfl trivial ?_
                      clear S; intro aa S
                      obtain ⟨x92, c_5, H⟩ := H
                      refine OL.pure S (Lf.run_ld (S.ev rfl) fl3 (S.cl c_5)) rfl rfl trivial ?_
                      clear S; intro aa S
                      refine ol_cal S H isfn14 rfl rfl trivial ?_
                      clear S H aa; intro u_14 aa ww h15 H S
                      obtain ⟨x93, rfl, H⟩ := H
                      refine OL.pure S (Lf.run_neq (S.ev rfl) (S.ev rfl)) rfl rfl trivial ?_
                      clear S; intro aa S
                      refine OL.nil ?_
                      refine W.cond S (b := (x93 != 0)) rfl (fun hb_9 => ?_) (fun hb_9 => ?_)
                      · replace H := H.1 hb_9
                        refine W.seq ?_
                        replace S := S.sub [] trivial
                        refine W.region ?_
                        refine OL.pure S (Lf.run_assign (S.ev rfl)) rfl rfl trivial ?_
                        clear S; intro aa S
                        refine OL.nil ?_
                        refine W.ret ?_
                        exact Ret.one S rfl rfl H
                      · replace H := H.2 hb_9
                        refine W.skip ?_
                        exact ⟨h15, S.sub _ ⟨rfl, rfl, trivial⟩, H⟩
                    · replace H := H.2 hb_8
                      refine W.skip ?_
                      exact ⟨h12, S.sub _ ⟨rfl, rfl, trivial⟩, H⟩
                  · clear H S aa
                    rintro aa ww ⟨h16, S, HJ⟩
                    have H := HK_1 _ HJ
                    clear HK_1 HJ
                    refine W.seq ?_
                    replace S := S.sub [(7, Value.pointer x37), (15, Value.slice x74.a x74.n x74.c)] ⟨rfl, rfl, trivial⟩
                    refine W.region ?_
                    refine OL.pure S (Lf.run_move (S.ev rfl)) rfl rfl trivial ?_
                    clear S; intro aa S
                    refine ol_cal S H isfn20 rfl rfl trivial ?_
                    clear S H aa; intro u_15 aa ww h17 H S
                    obtain ⟨x96, rfl, H⟩ := H
                    refine OL.pure S (Lf.run_move (S.ev rfl)) rfl rfl trivial ?_
                    clear S; intro aa S
                    refine ol_cal S H isfn19 rfl rfl trivial ?_
                    clear S H aa; intro u_16 aa ww h18 H S
                    obtain ⟨x98, rfl, H⟩ := H
                    refine OL.pure S (Lf.run_assign (S.ev rfl)) rfl rfl trivial ?_
                    clear S; intro aa S
                    refine OL.nil ?_
                    refine W.ret ?_
                    exact Ret.one S rfl rfl H

/-- chattel chattellaw06.LifeNils -/
def L8 (n0 : Int) (a1 : Int) (b2 : Int) (h : Heap) (R : Value → Heap → Prop) : Prop :=
  cal Try.prog 22 #[Value.int .i64 n0] h fun u h1 => asTup u fun r12 =>
  elt r12 0 fun u_1 => asP u_1 fun x13 =>
  elt r12 1 fun u_2 => asI .i64 u_2 fun x14 =>
  ifb ((((x14 == 0) != ((decide (0 ≤ n0)) && (decide (n0 ≤ 300)))) || ((Option.isNone x13) != (x14 != 0))) || ((x14 != 0) && (x14 != 14))) (
    R (Value.bool false) h1) (
    cal Try.prog 9 #[] h1 fun u_3 h2 => asB u_3 fun x39 =>
    ∃ J : Bool → Heap → Prop, (andj x39 (fun k =>
      cal Try.prog 16 #[Value.pointer none] h2 fun u_4 h4 => asI .i64 u_4 fun x42 =>
      k (x42 == 0) h4) h2 J) ∧ ∀ x44 h3, J x44 h3 →
    ∃ J_1 : Bool → Heap → Prop, (andj x44 (fun k_1 =>
      cal Try.prog 14 #[Value.pointer none, Value.int .i64 a1, Value.int .i64 b2] h3 fun u_5 h6 => asI .i64 u_5 fun x49 =>
      k_1 (x49 == 14) h6) h3 J_1) ∧ ∀ x51 h5, J_1 x51 h5 →
    ∃ J_2 : Bool → Heap → Prop, (andj x51 (fun k_2 =>
      cal Try.prog 11 #[Value.pointer none, Value.int .i64 a1, Value.int .i64 b2] h5 fun u_6 h8 => asB u_6 fun x56 =>
      k_2 (!x56) h8) h5 J_2) ∧ ∀ x58 h7, J_2 x58 h7 →
    ∃ J_3 : Bool → Heap → Prop, (andj x58 (fun k_3 =>
      cal Try.prog 18 #[Value.pointer none, Value.int .i64 a1] h7 fun u_7 h10 => asS u_7 fun x62 =>
      k_3 (((x62.n : Nat) : Int) == 0) h10) h7 J_3) ∧ ∀ x65 h9, J_3 x65 h9 →
    ∃ J_4 : Bool → Heap → Prop, (andj x65 (fun k_4 =>
      cal Try.prog 20 #[Value.pointer none] h9 fun u_8 h12 => asS u_8 fun x68 =>
      k_4 (((x68.n : Nat) : Int) == 0) h12) h9 J_4) ∧ ∀ x71 h11, J_4 x71 h11 →
    ∃ J_5 : Bool → Heap → Prop, (andj x71 (fun k_5 =>
      cal Try.prog 13 #[Value.pointer none] h11 fun u_9 h14 => asP u_9 fun x74 =>
      k_5 (Option.isNone x74) h14) h11 J_5) ∧ ∀ x76 h13, J_5 x76 h13 →
    R (Value.bool x76) h13)

set_option maxRecDepth 100000 in

theorem F8 {n0 a1 b2 h : _} {R : Value → Heap → Prop} (H : L8 n0 a1 b2 h R) : CallsH Try.prog 8 #[Value.int .i64 n0, Value.int .i64 a1, Value.int .i64 b2] h R := by
  refine CallsH.enter (n := 77) Try.func8 rfl rfl rfl rfl ?_
  intro w0 aa ww S
  unfold L8 at H
  refine W.seq ?_
  replace S := S.sub [(0, Value.int .i64 n0), (1, Value.int .i64 a1), (2, Value.int .i64 b2)] ⟨rfl, rfl, rfl, trivial⟩
  refine W.region ?_
  refine OL.pure S (Lf.run_assign (S.ev rfl)) rfl rfl trivial ?_
  clear S; intro aa S
  refine OL.nil ?_
  refine W.seq ?_
  replace S := S.sub [(0, Value.int .i64 n0), (1, Value.int .i64 a1), (2, Value.int .i64 b2)] ⟨rfl, rfl, rfl, trivial⟩
  refine W.region ?_
  refine OL.pure S (Lf.run_assign (S.ev rfl)) rfl rfl trivial ?_
  clear S; intro aa S
  refine OL.nil ?_
  refine W.seq ?_
  replace S := S.sub [(0, Value.int .i64 n0), (1, Value.int .i64 a1), (2, Value.int .i64 b2), (7, Value.pointer none)] ⟨rfl, rfl, rfl, rfl, trivial⟩
  refine W.region ?_
  refine OL.pure S (Lf.run_move (S.ev rfl)) rfl rfl trivial ?_
  clear S; intro aa S
  refine ol_cal S H isfn22 rfl rfl trivial ?_
  clear S H aa; intro u aa ww h1 H S
  obtain ⟨r12, rfl, H⟩ := H
  refine OL.pure S (Lf.run_move (S.ev rfl)) rfl rfl trivial ?_
  clear S; intro aa S
  obtain ⟨u_1, e, x13, rfl, H⟩ := H
  refine OL.pure S (Lf.run_ex (S.ev rfl) e) rfl rfl trivial ?_
  clear S; intro aa S
  obtain ⟨u_2, e_1, x14, rfl, H⟩ := H
  refine OL.pure S (Lf.run_ex (S.ev rfl) e_1) rfl rfl trivial ?_
  clear S; intro aa S
  refine OL.pure S (Lf.run_assign (S.ev rfl)) rfl rfl trivial ?_
  clear S; intro aa S
  refine OL.pure S (Lf.run_assign (S.ev rfl)) rfl rfl trivial ?_
  clear S; intro aa S
  refine OL.nil ?_
  refine W.seq ?_
  refine W.seq ?_
  replace S := S.sub [(0, Value.int .i64 n0), (1, Value.int .i64 a1), (2, Value.int .i64 b2), (7, Value.pointer none), (8, Value.pointer x13), (9, Value.int .i64 x14)] ⟨rfl, rfl, rfl, rfl, rfl, rfl, trivial⟩
  refine W.region ?_
  refine OL.pure S (Lf.run_move (S.ev rfl)) rfl rfl trivial ?_
  clear S; intro aa S
  refine OL.pure S (Lf.run_eql (S.ev rfl) (S.ev rfl)) rfl rfl trivial ?_
  clear S; intro aa S
  refine OL.pure S (Lf.run_move (S.ev rfl)) rfl rfl trivial ?_
  clear S; intro aa S
  refine OL.pure S (Lf.run_geq (S.ev rfl) (S.ev rfl)) rfl rfl trivial ?_
  clear S; intro aa S
  refine OL.pure S (Lf.run_move (S.ev rfl)) rfl rfl trivial ?_
  clear S; intro aa S
  refine OL.cutN 3 (fun aa ww => St 77 ((22, Value.bool ((decide (0 ≤ n0)) && (decide (n0 ≤ 300)))) :: [(0, Value.int .i64 n0), (1, Value.int .i64 a1), (2, Value.int .i64 b2), (7, Value.pointer none), (8, Value.pointer x13), (9, Value.int .i64 x14), (15, Value.int .i64 x14), (16, Value.bool (x14 == 0)), (17, Value.int .i64 n0), (18, Value.bool (decide (0 ≤ n0))), (19, Value.bool (decide (0 ≤ n0)))]) h1 w0 aa ww) ?_ ?_
  · rcases Bool.eq_false_or_eq_true (decide (0 ≤ n0)) with hb | hb
    · refine OL.pure S (Lf.run_move (S.ev rfl)) rfl rfl (GOk.mk rfl rfl hb) ?_
      clear S; intro aa S
      refine OL.pure S (Lf.run_leq (S.ev rfl) (S.ev rfl)) rfl rfl (GOk.mk rfl rfl hb) ?_
      clear S; intro aa S
      refine OL.pure S (Lf.run_pickT (S.ev rfl) hb (S.ev rfl)) rfl rfl trivial ?_
      clear S; intro aa S
      refine OL.nil ?_
      exact (S.hd (by rw [hb, Bool.true_and])).sub _ ⟨rfl, rfl, rfl, rfl, rfl, rfl, rfl, rfl, rfl, rfl, rfl, rfl, trivial⟩
    · refine OL.not S rfl rfl (GNo.mk rfl rfl hb) ?_
      clear S; intro aa S
      refine OL.not S rfl rfl (GNo.mk rfl rfl hb) ?_
      clear S; intro aa S
      refine OL.pure S (Lf.run_pickF (S.ev rfl) hb (S.ev rfl)) rfl rfl trivial ?_
      clear S; intro aa S
      refine OL.nil ?_
      exact (S.hd (by rw [hb, Bool.false_and])).sub _ ⟨rfl, rfl, rfl, rfl, rfl, rfl, rfl, rfl, rfl, rfl, rfl, rfl, trivial⟩
  · clear S aa
    intro aa ww S
    refine OL.pure S (Lf.run_neqb Try.underlying4 (S.ev rfl) (S.ev rfl)) rfl rfl trivial ?_
    clear S; intro aa S
    refine OL.pure S (Lf.run_move (S.ev rfl)) rfl rfl trivial ?_
    clear S; intro aa S
    refine OL.cutN 6 (fun aa ww => St 77 ((30, Value.bool (((x14 == 0) != ((decide (0 ≤ n0)) && (decide (n0 ≤ 300)))) || ((Option.isNone x13) != (x14 != 0)))) :: [(0, Value.int .i64 n0), (1, Value.int .i64 a1), (2, Value.int .i64 b2), (7, Value.pointer none), (8, Value.pointer x13), (9, Value.int .i64 x14), (15, Value.int .i64 x14), (16, Value.bool (x14 == 0)), (17, Value.int .i64 n0), (18, Value.bool (decide (0 ≤ n0))), (19, Value.bool (decide (0 ≤ n0))), (22, Value.bool ((decide (0 ≤ n0)) && (decide (n0 ≤ 300)))), (23, Value.bool ((x14 == 0) != ((decide (0 ≤ n0)) && (decide (n0 ≤ 300))))), (24, Value.bool ((x14 == 0) != ((decide (0 ≤ n0)) && (decide (n0 ≤ 300)))))]) h1 w0 aa ww) ?_ ?_
    · rcases Bool.eq_false_or_eq_true ((x14 == 0) != ((decide (0 ≤ n0)) && (decide (n0 ≤ 300)))) with hb_1 | hb_1
      · refine OL.not S rfl rfl (GNo.mk rfl rfl hb_1) ?_
        clear S; intro aa S
        refine OL.not S rfl rfl (GNo.mk rfl rfl hb_1) ?_
        clear S; intro aa S
        refine OL.not S rfl rfl (GNo.mk rfl rfl hb_1) ?_
        clear S; intro aa S
        refine OL.not S rfl rfl (GNo.mk rfl rfl hb_1) ?_
        clear S; intro aa S
        refine OL.not S rfl rfl (GNo.mk rfl rfl hb_1) ?_
        clear S; intro aa S
        refine OL.pure S (Lf.run_pickT (S.ev rfl) hb_1 (S.ev rfl)) rfl rfl trivial ?_
        clear S; intro aa S
        refine OL.nil ?_
        exact (S.hd (by rw [hb_1, Bool.true_or])).sub _ ⟨rfl, rfl, rfl, rfl, rfl, rfl, rfl, rfl, rfl, rfl, rfl, rfl, rfl, rfl, rfl, trivial⟩
      · refine OL.pure S (Lf.run_move (S.ev rfl)) rfl rfl (GOk.mk rfl rfl hb_1) ?_
        clear S; intro aa S
        refine OL.pure S (Lf.run_eqlpn Try.underlying24 (S.ev rfl) (S.ev rfl)) rfl rfl (GOk.mk rfl rfl hb_1) ?_
        clear S; intro aa S
        refine OL.pure S (Lf.run_move (S.ev rfl)) rfl rfl (GOk.mk rfl rfl hb_1) ?_
        clear S; intro aa S
        refine OL.pure S (Lf.run_neq (S.ev rfl) (S.ev rfl)) rfl rfl (GOk.mk rfl rfl hb_1) ?_
        clear S; intro aa S
        refine OL.pure S (Lf.run_neqb Try.underlying4 (S.ev rfl) (S.ev rfl)) rfl rfl (GOk.mk rfl rfl hb_1) ?_
        clear S; intro aa S
        refine OL.pure S (Lf.run_pickF (S.ev rfl) hb_1 (S.ev rfl)) rfl rfl trivial ?_
        clear S; intro aa S
        refine OL.nil ?_
        exact (S.hd (by rw [hb_1, Bool.false_or])).sub _ ⟨rfl, rfl, rfl, rfl, rfl, rfl, rfl, rfl, rfl, rfl, rfl, rfl, rfl, rfl, rfl, trivial⟩
    · clear S aa
      intro aa ww S
      refine OL.pure S (Lf.run_move (S.ev rfl)) rfl rfl trivial ?_
      clear S; intro aa S
      refine OL.cutN 7 (fun aa ww => St 77 ((38, Value.bool ((((x14 == 0) != ((decide (0 ≤ n0)) && (decide (n0 ≤ 300)))) || ((Option.isNone x13) != (x14 != 0))) || ((x14 != 0) && (x14 != 14)))) :: [(0, Value.int .i64 n0), (1, Value.int .i64 a1), (2, Value.int .i64 b2), (7, Value.pointer none), (8, Value.pointer x13), (9, Value.int .i64 x14), (15, Value.int .i64 x14), (16, Value.bool (x14 == 0)), (17, Value.int .i64 n0), (18, Value.bool (decide (0 ≤ n0))), (19, Value.bool (decide (0 ≤ n0))), (22, Value.bool ((decide (0 ≤ n0)) && (decide (n0 ≤ 300)))), (23, Value.bool ((x14 == 0) != ((decide (0 ≤ n0)) && (decide (n0 ≤ 300))))), (24, Value.bool ((x14 == 0) != ((decide (0 ≤ n0)) && (decide (n0 ≤ 300))))), (30, Value.bool (((x14 == 0) != ((decide (0 ≤ n0)) && (decide (n0 ≤ 300)))) || ((Option.isNone x13) != (x14 != 0)))), (31, Value.bool (((x14 == 0) != ((decide (0 ≤ n0)) && (decide (n0 ≤ 300)))) || ((Option.isNone x13) != (x14 != 0))))]) h1 w0 aa ww) ?_ ?_
      · rcases Bool.eq_false_or_eq_true (((x14 == 0) != ((decide (0 ≤ n0)) && (decide (n0 ≤ 300)))) || ((Option.isNone x13) != (x14 != 0))) with hb_2 | hb_2
        · refine OL.not S rfl rfl (GNo.mk rfl rfl hb_2) ?_
          clear S; intro aa S
          refine OL.not S rfl rfl (GNo.mk rfl rfl hb_2) ?_
          clear S; intro aa S
          refine OL.not S rfl rfl (GNo.mk rfl rfl hb_2) ?_
          clear S; intro aa S
          refine OL.not S rfl rfl (GNo.un rfl rfl) ?_
          clear S; intro aa S
          refine OL.not S rfl rfl (GNo.un rfl rfl) ?_
          clear S; intro aa S
          refine OL.not S rfl rfl (GNo.mk rfl rfl hb_2) ?_
          clear S; intro aa S
          refine OL.pure S (Lf.run_pickT (S.ev rfl) hb_2 (S.ev rfl)) rfl rfl trivial ?_
          clear S; intro aa S
          refine OL.nil ?_
          exact (S.hd (by rw [hb_2, Bool.true_or])).sub _ ⟨rfl, rfl, rfl, rfl, rfl, rfl, rfl, rfl, rfl, rfl, rfl, rfl, rfl, rfl, rfl, rfl, rfl, trivial⟩
        · refine OL.pure S (Lf.run_move (S.ev rfl)) rfl rfl (GOk.mk rfl rfl hb_2) ?_
          clear S; intro aa S
          refine OL.pure S (Lf.run_neq (S.ev rfl) (S.ev rfl)) rfl rfl (GOk.mk rfl rfl hb_2) ?_
          clear S; intro aa S
          refine OL.pure S (Lf.run_move (S.ev rfl)) rfl rfl (GOk.mk rfl rfl hb_2) ?_
          clear S; intro aa S
          refine OL.cutN 3 (fun aa ww => St 77 ((37, Value.bool ((x14 != 0) && (x14 != 14))) :: [(0, Value.int .i64 n0), (1, Value.int .i64 a1), (2, Value.int .i64 b2), (7, Value.pointer none), (8, Value.pointer x13), (9, Value.int .i64 x14), (15, Value.int .i64 x14), (16, Value.bool (x14 == 0)), (17, Value.int .i64 n0), (18, Value.bool (decide (0 ≤ n0))), (19, Value.bool (decide (0 ≤ n0))), (22, Value.bool ((decide (0 ≤ n0)) && (decide (n0 ≤ 300)))), (23, Value.bool ((x14 == 0) != ((decide (0 ≤ n0)) && (decide (n0 ≤ 300))))), (24, Value.bool ((x14 == 0) != ((decide (0 ≤ n0)) && (decide (n0 ≤ 300))))), (30, Value.bool (((x14 == 0) != ((decide (0 ≤ n0)) && (decide (n0 ≤ 300)))) || ((Option.isNone x13) != (x14 != 0)))), (31, Value.bool (((x14 == 0) != ((decide (0 ≤ n0)) && (decide (n0 ≤ 300)))) || ((Option.isNone x13) != (x14 != 0)))), (32, Value.int .i64 x14), (33, Value.bool (x14 != 0)), (34, Value.bool (x14 != 0))]) h1 w0 aa ww) ?_ ?_
          · rcases Bool.eq_false_or_eq_true (x14 != 0) with hb_3 | hb_3
            · refine OL.pure S (Lf.run_move (S.ev rfl)) rfl rfl (GOk.mk rfl rfl hb_3) ?_
              clear S; intro aa S
              refine OL.pure S (Lf.run_neq (S.ev rfl) (S.ev rfl)) rfl rfl (GOk.mk rfl rfl hb_3) ?_
              clear S; intro aa S
              refine OL.pure S (Lf.run_pickT (S.ev rfl) hb_3 (S.ev rfl)) rfl rfl (GOk.mk rfl rfl hb_2) ?_
              clear S; intro aa S
              refine OL.nil ?_
              exact (S.hd (by rw [hb_3, Bool.true_and])).sub _ ⟨rfl, rfl, rfl, rfl, rfl, rfl, rfl, rfl, rfl, rfl, rfl, rfl, rfl, rfl, rfl, rfl, rfl, rfl, rfl, rfl, trivial⟩
            · refine OL.not S rfl rfl (GNo.mk rfl rfl hb_3) ?_
              clear S; intro aa S
              refine OL.not S rfl rfl (GNo.mk rfl rfl hb_3) ?_
              clear S; intro aa S
              refine OL.pure S (Lf.run_pickF (S.ev rfl) hb_3 (S.ev rfl)) rfl rfl (GOk.mk rfl rfl hb_2) ?_
              clear S; intro aa S
              refine OL.nil ?_
              exact (S.hd (by rw [hb_3, Bool.false_and])).sub _ ⟨rfl, rfl, rfl, rfl, rfl, rfl, rfl, rfl, rfl, rfl, rfl, rfl, rfl, rfl, rfl, rfl, rfl, rfl, rfl, rfl, trivial⟩
          · clear S aa
            intro aa ww S
            refine OL.pure S (Lf.run_pickF (S.ev rfl) hb_2 (S.ev rfl)) rfl rfl trivial ?_
            clear S; intro aa S
            refine OL.nil ?_
            exact (S.hd (by rw [hb_2, Bool.false_or])).sub _ ⟨rfl, rfl, rfl, rfl, rfl, rfl, rfl, rfl, rfl, rfl, rfl, rfl, rfl, rfl, rfl, rfl, rfl, trivial⟩
      · clear S aa
        intro aa ww S
        refine OL.nil ?_
        refine W.cond S (b := ((((x14 == 0) != ((decide (0 ≤ n0)) && (decide (n0 ≤ 300)))) || ((Option.isNone x13) != (x14 != 0))) || ((x14 != 0) && (x14 != 14)))) rfl (fun hb_4 => ?_) (fun hb_4 => ?_)
        · replace H := H.1 hb_4
          refine W.seq ?_
          replace S := S.sub [] trivial
          refine W.region ?_
          refine OL.pure S (Lf.run_assign (S.ev rfl)) rfl rfl trivial ?_
          clear S; intro aa S
          refine OL.nil ?_
          refine W.ret ?_
          exact Ret.one S rfl rfl H
        · replace H := H.2 hb_4
          refine W.skip ?_
          refine W.seq ?_
          replace S := S.sub [(1, Value.int .i64 a1), (2, Value.int .i64 b2), (7, Value.pointer none)] ⟨rfl, rfl, rfl, trivial⟩
          refine W.region ?_
          refine ol_cal S H isfn9 rfl rfl trivial ?_
          clear S H aa; intro u_3 aa ww h2 H S
          obtain ⟨x39, rfl, H⟩ := H
          refine OL.pure S (Lf.run_move (S.ev rfl)) rfl rfl trivial ?_
          clear S; intro aa S
          obtain ⟨J, H, HK⟩ := H
          refine OL.cutN 4 (fun aa ww => ∃ x44 h3, St 77 ((44, Value.bool x44) :: [(1, Value.int .i64 a1), (2, Value.int .i64 b2), (7, Value.pointer none), (39, Value.bool x39), (40, Value.bool x39)]) h3 w0 aa ww ∧ J x44 h3) ?_ ?_
          · rcases Bool.eq_false_or_eq_true x39 with hb_5 | hb_5
            · replace H := H.1 hb_5
              refine OL.pure S (Lf.run_move (S.ev rfl)) rfl rfl (GOk.mk rfl rfl hb_5) ?_
              clear S; intro aa S
              refine ol_cal S H isfn16 rfl rfl (GOk.mk rfl rfl hb_5) ?_
              clear S H aa; intro u_4 aa ww h4 H S
              obtain ⟨x42, rfl, H⟩ := H
              refine OL.pure S (Lf.run_eql (S.ev rfl) (S.ev rfl)) rfl rfl (GOk.mk rfl rfl hb_5) ?_
              clear S; intro aa S
              refine OL.pure S (Lf.run_pickT (S.ev rfl) hb_5 (S.ev rfl)) rfl rfl trivial ?_
              clear S; intro aa S
              refine OL.nil ?_
              exact ⟨_, _, S.sub _ ⟨rfl, rfl, rfl, rfl, rfl, rfl, trivial⟩, H⟩
            · replace H := H.2 hb_5
              refine OL.not S rfl rfl (GNo.mk rfl rfl hb_5) ?_
              clear S; intro aa S
              refine OL.not S rfl rfl (GNo.mk rfl rfl hb_5) ?_
              clear S; intro aa S
              refine OL.not S rfl rfl (GNo.mk rfl rfl hb_5) ?_
              clear S; intro aa S
              refine OL.pure S (Lf.run_pickF (S.ev rfl) hb_5 (S.ev rfl)) rfl rfl trivial ?_
              clear S; intro aa S
              refine OL.nil ?_
              exact ⟨_, _, S.sub _ ⟨rfl, rfl, rfl, rfl, rfl, rfl, trivial⟩, H⟩
          · clear S aa
            rintro aa ww ⟨x44, h3, S, HJ⟩
            replace H := HK _ _ HJ
            clear HK HJ
            refine OL.pure S (Lf.run_move (S.ev rfl)) rfl rfl trivial ?_
            clear S; intro aa S
            obtain ⟨J_1, H, HK_1⟩ := H
            refine OL.cutN 6 (fun aa ww => ∃ x51 h5, St 77 ((51, Value.bool x51) :: [(1, Value.int .i64 a1), (2, Value.int .i64 b2), (7, Value.pointer none), (39, Value.bool x39), (40, Value.bool x39), (44, Value.bool x44), (45, Value.bool x44)]) h5 w0 aa ww ∧ J_1 x51 h5) ?_ ?_
            · rcases Bool.eq_false_or_eq_true x44 with hb_6 | hb_6
              · replace H := H.1 hb_6
                refine OL.pure S (Lf.run_move (S.ev rfl)) rfl rfl (GOk.mk rfl rfl hb_6) ?_
                clear S; intro aa S
                refine OL.pure S (Lf.run_move (S.ev rfl)) rfl rfl (GOk.mk rfl rfl hb_6) ?_
                clear S; intro aa S
                refine OL.pure S (Lf.run_move (S.ev rfl)) rfl rfl (GOk.mk rfl rfl hb_6) ?_
                clear S; intro aa S
                refine ol_cal S H isfn14 rfl rfl (GOk.mk rfl rfl hb_6) ?_
                clear S H aa; intro u_5 aa ww h6 H S
                obtain ⟨x49, rfl, H⟩ := H
                refine OL.pure S (Lf.run_eql (S.ev rfl) (S.ev rfl)) rfl rfl (GOk.mk rfl rfl hb_6) ?_
                clear S; intro aa S
                refine OL.pure S (Lf.run_pickT (S.ev rfl) hb_6 (S.ev rfl)) rfl rfl trivial ?_
                clear S; intro aa S
                refine OL.nil ?_
                exact ⟨_, _, S.sub _ ⟨rfl, rfl, rfl, rfl, rfl, rfl, rfl, rfl, trivial⟩, H⟩
              · replace H := H.2 hb_6
                refine OL.not S rfl rfl (GNo.mk rfl rfl hb_6) ?_
                clear S; intro aa S
                refine OL.not S rfl rfl (GNo.mk rfl rfl hb_6) ?_
                clear S; intro aa S
                refine OL.not S rfl rfl (GNo.mk rfl rfl hb_6) ?_
                clear S; intro aa S
                refine OL.not S rfl rfl (GNo.mk rfl rfl hb_6) ?_
                clear S; intro aa S
                refine OL.not S rfl rfl (GNo.mk rfl rfl hb_6) ?_
                clear S; intro aa S
                refine OL.pure S (Lf.run_pickF (S.ev rfl) hb_6 (S.ev rfl)) rfl rfl trivial ?_
                clear S; intro aa S
                refine OL.nil ?_
                exact ⟨_, _, S.sub _ ⟨rfl, rfl, rfl, rfl, rfl, rfl, rfl, rfl, trivial⟩, H⟩
            · clear S aa
              rintro aa ww ⟨x51, h5, S, HJ⟩
              replace H := HK_1 _ _ HJ
              clear HK_1 HJ
              refine OL.pure S (Lf.run_move (S.ev rfl)) rfl rfl trivial ?_
              clear S; intro aa S
              obtain ⟨J_2, H, HK_2⟩ := H
              refine OL.cutN 6 (fun aa ww => ∃ x58 h7, St 77 ((58, Value.bool x58) :: [(1, Value.int .i64 a1), (2, Value.int .i64 b2), (7, Value.pointer none), (39, Value.bool x39), (40, Value.bool x39), (44, Value.bool x44), (45, Value.bool x44), (51, Value.bool x51), (52, Value.bool x51)]) h7 w0 aa ww ∧ J_2 x58 h7) ?_ ?_
              · rcases Bool.eq_false_or_eq_true x51 with hb_7 | hb_7
                · replace H := H.1 hb_7
                  refine OL.pure S (Lf.run_move (S.ev rfl)) rfl rfl (GOk.mk rfl rfl hb_7) ?_
                  clear S; intro aa S
                  refine OL.pure S (Lf.run_move (S.ev rfl)) rfl rfl (GOk.mk rfl rfl hb_7) ?_
                  clear S; intro aa S
                  refine OL.pure S (Lf.run_move (S.ev rfl)) rfl rfl (GOk.mk rfl rfl hb_7) ?_
                  clear S; intro aa S
                  refine ol_cal S H isfn11 rfl rfl (GOk.mk rfl rfl hb_7) ?_
                  clear S H aa; intro u_6 aa ww h8 H S
                  obtain ⟨x56, rfl, H⟩ := H
                  refine OL.pure S (Lf.run_not (S.ev rfl)) rfl rfl (GOk.mk rfl rfl hb_7) ?_
                  clear S; intro aa S
                  refine OL.pure S (Lf.run_pickT (S.ev rfl) hb_7 (S.ev rfl)) rfl rfl trivial ?_
                  clear S; intro aa S
                  refine OL.nil ?_
                  exact ⟨_, _, S.sub _ ⟨rfl, rfl, rfl, rfl, rfl, rfl, rfl, rfl, rfl, rfl, trivial⟩, H⟩
                · replace H := H.2 hb_7
                  refine OL.not S rfl rfl (GNo.mk rfl rfl hb_7) ?_
                  clear S; intro aa S
                  refine OL.not S rfl rfl (GNo.mk rfl rfl hb_7) ?_
                  clear S; intro aa S
                  refine OL.not S rfl rfl (GNo.mk rfl rfl hb_7) ?_
                  clear S; intro aa S
                  refine OL.not S rfl rfl (GNo.mk rfl rfl hb_7) ?_
                  clear S; intro aa S
                  refine OL.not S rfl rfl (GNo.mk rfl rfl hb_7) ?_
                  clear S; intro aa S
                  refine OL.pure S (Lf.run_pickF (S.ev rfl) hb_7 (S.ev rfl)) rfl rfl trivial ?_
                  clear S; intro aa S
                  refine OL.nil ?_
                  exact ⟨_, _, S.sub _ ⟨rfl, rfl, rfl, rfl, rfl, rfl, rfl, rfl, rfl, rfl, trivial⟩, H⟩
              · clear S aa
                rintro aa ww ⟨x58, h7, S, HJ⟩
                replace H := HK_2 _ _ HJ
                clear HK_2 HJ
                refine OL.pure S (Lf.run_move (S.ev rfl)) rfl rfl trivial ?_
                clear S; intro aa S
                obtain ⟨J_3, H, HK_3⟩ := H
                refine OL.cutN 6 (fun aa ww => ∃ x65 h9, St 77 ((65, Value.bool x65) :: [(1, Value.int .i64 a1), (2, Value.int .i64 b2), (7, Value.pointer none), (39, Value.bool x39), (40, Value.bool x39), (44, Value.bool x44), (45, Value.bool x44), (51, Value.bool x51), (52, Value.bool x51), (58, Value.bool x58), (59, Value.bool x58)]) h9 w0 aa ww ∧ J_3 x65 h9) ?_ ?_
                · rcases Bool.eq_false_or_eq_true x58 with hb_8 | hb_8
                  · replace H := H.1 hb_8
                    refine OL.pure S (Lf.run_move (S.ev rfl)) rfl rfl (GOk.mk rfl rfl hb_8) ?_
                    clear S; intro aa S
                    refine OL.pure S (Lf.run_move (S.ev rfl)) rfl rfl (GOk.mk rfl rfl hb_8) ?_
                    clear S; intro aa S
                    refine ol_cal S H isfn18 rfl rfl (GOk.mk rfl rfl hb_8) ?_
                    clear S H aa; intro u_7 aa ww h10 H S
                    obtain ⟨x62, rfl, H⟩ := H
                    refine OL.pure S (Lf.run_lens (S.ev rfl) rfl Try.underlying38) rfl rfl (GOk.mk rfl rfl hb_8) ?_
                    clear S; intro aa S
                    refine OL.pure S (Lf.run_eql (S.ev rfl) (S.ev rfl)) rfl rfl (GOk.mk rfl rfl hb_8) ?_
                    clear S; intro aa S
                    refine OL.pure S (Lf.run_pickT (S.ev rfl) hb_8 (S.ev rfl)) rfl rfl trivial ?_
                    clear S; intro aa S
                    refine OL.nil ?_
                    exact ⟨_, _, S.sub _ ⟨rfl, rfl, rfl, rfl, rfl, rfl, rfl, rfl, rfl, rfl, rfl, rfl, trivial⟩, H⟩
                  · replace H := H.2 hb_8
                    refine OL.not S rfl rfl (GNo.mk rfl rfl hb_8) ?_
                    clear S; intro aa S
                    refine OL.not S rfl rfl (GNo.mk rfl rfl hb_8) ?_
                    clear S; intro aa S
                    refine OL.not S rfl rfl (GNo.mk rfl rfl hb_8) ?_
                    clear S; intro aa S
                    refine OL.not S rfl rfl (GNo.mk rfl rfl hb_8) ?_
                    clear S; intro aa S
                    refine OL.not S rfl rfl (GNo.mk rfl rfl hb_8) ?_
                    clear S; intro aa S
                    refine OL.pure S (Lf.run_pickF (S.ev rfl) hb_8 (S.ev rfl)) rfl rfl trivial ?_
                    clear S; intro aa S
                    refine OL.nil ?_
                    exact ⟨_, _, S.sub _ ⟨rfl, rfl, rfl, rfl, rfl, rfl, rfl, rfl, rfl, rfl, rfl, rfl, trivial⟩, H⟩
                · clear S aa
                  rintro aa ww ⟨x65, h9, S, HJ⟩
                  replace H := HK_3 _ _ HJ
                  clear HK_3 HJ
                  refine OL.pure S (Lf.run_move (S.ev rfl)) rfl rfl trivial ?_
                  clear S; intro aa S
                  obtain ⟨J_4, H, HK_4⟩ := H
                  refine OL.cutN 5 (fun aa ww => ∃ x71 h11, St 77 ((71, Value.bool x71) :: [(1, Value.int .i64 a1), (2, Value.int .i64 b2), (7, Value.pointer none), (39, Value.bool x39), (40, Value.bool x39), (44, Value.bool x44), (45, Value.bool x44), (51, Value.bool x51), (52, Value.bool x51), (58, Value.bool x58), (59, Value.bool x58), (65, Value.bool x65), (66, Value.bool x65)]) h11 w0 aa ww ∧ J_4 x71 h11) ?_ ?_
                  · rcases Bool.eq_false_or_eq_true x65 with hb_9 | hb_9
                    · replace H := H.1 hb_9
                      refine OL.pure S (Lf.run_move (S.ev rfl)) rfl rfl (GOk.mk rfl rfl hb_9) ?_
                      clear S; intro aa S
                      refine ol_cal S H isfn20 rfl rfl (GOk.mk rfl rfl hb_9) ?_
                      clear S H aa; intro u_8 aa ww h12 H S
                      obtain ⟨x68, rfl, H⟩ := H
                      refine OL.pure S (Lf.run_lens (S.ev rfl) rfl Try.underlying22) rfl rfl (GOk.mk rfl rfl hb_9) ?_
                      clear S; intro aa S
                      refine OL.pure S (Lf.run_eql (S.ev rfl) (S.ev rfl)) rfl rfl (GOk.mk rfl rfl hb_9) ?_
                      clear S; intro aa S
                      refine OL.pure S (Lf.run_pickT (S.ev rfl) hb_9 (S.ev rfl)) rfl rfl trivial ?_
                      clear S; intro aa S
                      refine OL.nil ?_
                      exact ⟨_, _, S.sub _ ⟨rfl, rfl, rfl, rfl, rfl, rfl, rfl, rfl, rfl, rfl, rfl, rfl, rfl, rfl, trivial⟩, H⟩
                    · replace H := H.2 hb_9
                      refine OL.not S rfl rfl (GNo.mk rfl rfl hb_9) ?_
                      clear S; intro aa S
                      refine OL.not S rfl rfl (GNo.mk rfl rfl hb_9) ?_
                      clear S; intro aa S
                      refine OL.not S rfl rfl (GNo.mk rfl rfl hb_9) ?_
                      clear S; intro aa S
                      refine OL.not S rfl rfl (GNo.mk rfl rfl hb_9) ?_
                      clear S; intro aa S
                      refine OL.pure S (Lf.run_pickF (S.ev rfl) hb_9 (S.ev rfl)) rfl rfl trivial ?_
                      clear S; intro aa S
                      refine OL.nil ?_
                      exact ⟨_, _, S.sub _ ⟨rfl, rfl, rfl, rfl, rfl, rfl, rfl, rfl, rfl, rfl, rfl, rfl, rfl, rfl, trivial⟩, H⟩
                  · clear S aa
                    rintro aa ww ⟨x71, h11, S, HJ⟩
                    replace H := HK_4 _ _ HJ
                    clear HK_4 HJ
                    refine OL.pure S (Lf.run_move (S.ev rfl)) rfl rfl trivial ?_
                    clear S; intro aa S
                    obtain ⟨J_5, H, HK_5⟩ := H
                    refine OL.cutN 4 (fun aa ww => ∃ x76 h13, St 77 ((76, Value.bool x76) :: [(1, Value.int .i64 a1), (2, Value.int .i64 b2), (7, Value.pointer none), (39, Value.bool x39), (40, Value.bool x39), (44, Value.bool x44), (45, Value.bool x44), (51, Value.bool x51), (52, Value.bool x51), (58, Value.bool x58), (59, Value.bool x58), (65, Value.bool x65), (66, Value.bool x65), (71, Value.bool x71), (72, Value.bool x71)]) h13 w0 aa ww ∧ J_5 x76 h13) ?_ ?_
                    · rcases Bool.eq_false_or_eq_true x71 with hb_10 | hb_10
                      · replace H := H.1 hb_10
                        refine OL.pure S (Lf.run_move (S.ev rfl)) rfl rfl (GOk.mk rfl rfl hb_10) ?_
                        clear S; intro aa S
                        refine ol_cal S H isfn13 rfl rfl (GOk.mk rfl rfl hb_10) ?_
                        clear S H aa; intro u_9 aa ww h14 H S
                        obtain ⟨x74, rfl, H⟩ := H
                        refine OL.pure S (Lf.run_eqlpn Try.underlying24 (S.ev rfl) (S.ev rfl)) rfl rfl (GOk.mk rfl rfl hb_10) ?_
                        clear S; intro aa S
                        refine OL.pure S (Lf.run_pickT (S.ev rfl) hb_10 (S.ev rfl)) rfl rfl trivial ?_
                        clear S; intro aa S
                        refine OL.nil ?_
                        exact ⟨_, _, S.sub _ ⟨rfl, rfl, rfl, rfl, rfl, rfl, rfl, rfl, rfl, rfl, rfl, rfl, rfl, rfl, rfl, rfl, trivial⟩, H⟩
                      · replace H := H.2 hb_10
                        refine OL.not S rfl rfl (GNo.mk rfl rfl hb_10) ?_
                        clear S; intro aa S
                        refine OL.not S rfl rfl (GNo.mk rfl rfl hb_10) ?_
                        clear S; intro aa S
                        refine OL.not S rfl rfl (GNo.mk rfl rfl hb_10) ?_
                        clear S; intro aa S
                        refine OL.pure S (Lf.run_pickF (S.ev rfl) hb_10 (S.ev rfl)) rfl rfl trivial ?_
                        clear S; intro aa S
                        refine OL.nil ?_
                        exact ⟨_, _, S.sub _ ⟨rfl, rfl, rfl, rfl, rfl, rfl, rfl, rfl, rfl, rfl, rfl, rfl, rfl, rfl, rfl, rfl, trivial⟩, H⟩
                    · clear S aa
                      rintro aa ww ⟨x76, h13, S, HJ⟩
                      replace H := HK_5 _ _ HJ
                      clear HK_5 HJ
                      refine OL.pure S (Lf.run_assign (S.ev rfl)) rfl rfl trivial ?_
                      clear S; intro aa S
                      refine OL.nil ?_
                      refine W.ret ?_
                      exact Ret.one S rfl rfl H

/-- (*chattel life.Rel).Clone -/
def L13 (r0 : Option Addr) (h : Heap) (R : Value → Heap → Prop) : Prop :=
  ifb (Option.isNone r0) (
    R (Value.pointer none) h) (
    nn r0 fun p9 =>
    ldI .i64 h p9 fun x11 =>
    new 54 #[Value.int .i64 x11, Value.slice (⟨none, 0, 0⟩ : Sv).a (⟨none, 0, 0⟩ : Sv).n (⟨none, 0, 0⟩ : Sv).c] h fun p13 h1 =>
    nn r0 fun p15 =>
    ldS h1 (p15.add 1) fun x17 =>
    ∃ (I : Int → Heap → Prop) (m : Int → Heap → Nat), I 0 h1 ∧ ∀ x19 h2, I x19 h2 →
    ifb (decide (x19 < ((x17.n : Nat) : Int))) (
      ixS x17 x19 fun q21 =>
      ldS h2 (q21.add ((x19 : Int).toNat * 1)) fun x22 =>
      ∃ Sq : Heap → Prop, Sq h2 ∧ (
        hlS Sq (p13.add 1) fun x27 =>
        cal Try.prog 24 #[Value.slice x22.a x22.n x22.c] h2 fun u h3 => asS u fun x29 =>
        Sq h3 ∧
        newS 51 #[Value.slice x29.a x29.n x29.c] 1 h3 fun s30 h4 =>
        Sq h4 ∧
        appS 51 (Value.slice (⟨none, 0, 0⟩ : Sv).a (⟨none, 0, 0⟩ : Sv).n (⟨none, 0, 0⟩ : Sv).c).cells 1 24 h4 x27 s30 fun s31 h5 =>
        sto h5 (p13.add 1) (Value.slice s31.a s31.n s31.c) fun h6 =>
        I (IntKind.i64.wrap (x19 + 1)) h6 ∧ m (IntKind.i64.wrap (x19 + 1)) h6 < m x19 h2)) (
      R (Value.pointer (some p13)) h2))

set_option maxRecDepth 100000 in

theorem F13 {r0 h : _} {R : Value → Heap → Prop} (H : L13 r0 h R) : CallsH Try.prog 13 #[Value.pointer r0] h R := by
  refine CallsH.enter (n := 36) Try.func13 rfl rfl rfl rfl ?_
  intro w0 aa ww S
  unfold L13 at H
  refine W.seq ?_
  replace S := S.sub [(0, Value.pointer r0)] ⟨rfl, trivial⟩
  refine W.region ?_
  refine OL.pure S (Lf.run_assign (S.ev rfl)) rfl rfl trivial ?_
  clear S; intro aa S
  refine OL.nil ?_
  refine W.seq ?_
  refine W.seq ?_
  replace S := S.sub [(0, Value.pointer r0)] ⟨rfl, trivial⟩
  refine W.region ?_
  refine OL.pure S (Lf.run_move (S.ev rfl)) rfl rfl trivial ?_
  clear S; intro aa S
  refine OL.pure S (Lf.run_eqlpn Try.underlying24 (S.ev rfl) (S.ev rfl)) rfl rfl trivial ?_
  clear S; intro aa S
  refine OL.nil ?_
  refine W.cond S (b := (Option.isNone r0)) rfl (fun hb => ?_) (fun hb => ?_)
  · replace H := H.1 hb
    refine W.seq ?_
    replace S := S.sub [] trivial
    refine W.region ?_
    refine OL.pure S (Lf.run_assign (S.ev rfl)) rfl rfl trivial ?_
    clear S; intro aa S
    refine OL.nil ?_
    refine W.ret ?_
    exact Ret.one S rfl rfl H
  · replace H := H.2 hb
    refine W.skip ?_
    refine W.seq ?_
    replace S := S.sub [(0, Value.pointer r0)] ⟨rfl, trivial⟩
    refine W.region ?_
    refine OL.pure S (Lf.run_move (S.ev rfl)) rfl rfl trivial ?_
    clear S; intro aa S
    obtain ⟨p9, e, H⟩ := H
    refine OL.pure S (Lf.run_nc' (S.ev rfl) e) rfl rfl trivial ?_
    clear S; intro aa S
    refine OL.pure S (Lf.run_fa (S.ev rfl) fa54_0) rfl rfl trivial ?_
    clear S; intro aa S
    obtain ⟨x11, c, H⟩ := H
    refine OL.pure S (Lf.run_ld (S.ev rfl) fl3 (S.cl c)) rfl rfl trivial ?_
    clear S; intro aa S
    refine OL.pure S (Lf.run_build (cs := #[Value.int .i64 x11, Value.slice (⟨none, 0, 0⟩ : Sv).a (⟨none, 0, 0⟩ : Sv).n (⟨none, 0, 0⟩ : Sv).c]) pl54 ti54 (parts_map S rfl) (by kernel_rfl)) rfl rfl trivial ?_
    clear S; intro aa S
    refine ol_box S H rfl rfl rfl trivial ?_
    clear S H aa; intro p13 aa ww h1 H S
    refine OL.pure S (Lf.run_assign (S.ev rfl)) rfl rfl trivial ?_
    clear S; intro aa S
    refine OL.nil ?_
    refine W.seq ?_
    refine W.seq ?_
    replace S := S.sub [(0, Value.pointer r0), (3, Value.pointer (some p13))] ⟨rfl, rfl, trivial⟩
    refine W.region ?_
    refine OL.pure S (Lf.run_move (S.ev rfl)) rfl rfl trivial ?_
    clear S; intro aa S
    obtain ⟨p15, e_1, H⟩ := H
    refine OL.pure S (Lf.run_nc' (S.ev rfl) e_1) rfl rfl trivial ?_
    clear S; intro aa S
    refine OL.pure S (Lf.run_fa (S.ev rfl) fa54_1) rfl rfl trivial ?_
    clear S; intro aa S
    obtain ⟨x17, c_1, H⟩ := H
    refine OL.pure S (Lf.run_ld (S.ev rfl) fl52 (S.cl c_1)) rfl rfl trivial ?_
    clear S; intro aa S
    refine OL.pure S (Lf.run_lens (S.ev rfl) rfl Try.underlying52) rfl rfl trivial ?_
    clear S; intro aa S
    refine OL.pure S (Lf.run_move (S.ev rfl)) rfl rfl trivial ?_
    clear S; intro aa S
    refine OL.nil ?_
    refine W.block ?_
    obtain ⟨I, m, H, HB⟩ := H
    refine W.loopS (σ := Int × Heap) (fun s aa ww => St 36 [(3, Value.pointer (some p13)), (17, Value.slice x17.a x17.n x17.c), (18, Value.int .i64 ((x17.n : Nat) : Int)), (19, Value.int .i64 s.1)] s.2 w0 aa ww ∧ I s.1 s.2) (fun s => m s.1 s.2) (0, h1) ⟨S.sub _ ⟨rfl, rfl, rfl, rfl, trivial⟩, H⟩ ?_
    clear H S aa
    rintro ⟨x19, h2⟩ aa ww ⟨S, HI⟩
    replace S : St 36 [(3, Value.pointer (some p13)), (17, Value.slice x17.a x17.n x17.c), (18, Value.int .i64 ((x17.n : Nat) : Int)), (19, Value.int .i64 x19)] h2 w0 aa ww := S
    have H := HB x19 h2 HI
    clear HI
    refine W.seq ?_
    replace S := S.sub [(3, Value.pointer (some p13)), (17, Value.slice x17.a x17.n x17.c), (18, Value.int .i64 ((x17.n : Nat) : Int)), (19, Value.int .i64 x19)] ⟨rfl, rfl, rfl, rfl, trivial⟩
    refine W.region ?_
    refine OL.pure S (Lf.run_lss (S.ev rfl) (S.ev rfl)) rfl rfl trivial ?_
    clear S; intro aa S
    refine OL.nil ?_
    refine W.seq ?_
    refine W.cond S (b := (decide (x19 < ((x17.n : Nat) : Int)))) rfl (fun hb_1 => ?_) (fun hb_1 => ?_)
    · replace H := H.1 hb_1
      refine W.skip ?_
      refine W.seq ?_
      refine W.block ?_
      refine W.seq ?_
      replace S := S.sub [(3, Value.pointer (some p13)), (17, Value.slice x17.a x17.n x17.c), (18, Value.int .i64 ((x17.n : Nat) : Int)), (19, Value.int .i64 x19)] ⟨rfl, rfl, rfl, rfl, trivial⟩
      refine W.region ?_
      obtain ⟨q21, e_2, e_3, e_4, H⟩ := H
      refine OL.pure S (Lf.run_ixs (S.ev rfl) (S.ev rfl) Try.underlying52 ti51 e_2 e_3 e_4) rfl rfl trivial ?_
      clear S; intro aa S
      obtain ⟨x22, c_2, H⟩ := H
      refine OL.pure S (Lf.run_ld (S.ev rfl) fl51 (S.cl c_2)) rfl rfl trivial ?_
      clear S; intro aa S
      refine OL.pure S (Lf.run_assign (S.ev rfl)) rfl rfl trivial ?_
      clear S; intro aa S
      refine OL.nil ?_
      replace S := S.sub [(3, Value.pointer (some p13)), (5, Value.slice x22.a x22.n x22.c), (17, Value.slice x17.a x17.n x17.c), (18, Value.int .i64 ((x17.n : Nat) : Int)), (19, Value.int .i64 x19)] ⟨rfl, rfl, rfl, rfl, rfl, trivial⟩
      obtain ⟨Sq, HS, H⟩ := H
      refine W.regionN [4] [6, 7, 8, 11] Sq S (by kernel_rfl) ?_
      clear S; intro ww S
      refine BN.pure 0 S (fun _ => HS) rfl (by kernel_rfl) (by kernel_rfl) (fun _ => Lf.run_move (S.ev rfl)) rfl rfl trivial ?_
      clear S; intro aa S
      refine BN.pure 1 S (fun _ => HS) rfl (by kernel_rfl) (by kernel_rfl) (fun _ => Lf.run_move (S.ev rfl)) rfl rfl trivial ?_
      clear S; intro aa S
      refine BN.pure 2 S (fun _ => HS) rfl (by kernel_rfl) (by kernel_rfl) (fun _ => Lf.run_nc (S.ev rfl)) rfl rfl trivial ?_
      clear S; intro aa S
      refine BN.pure 3 S (fun _ => HS) rfl (by kernel_rfl) (by kernel_rfl) (fun _ => Lf.run_fa (S.ev rfl) fa54_1) rfl rfl trivial ?_
      clear S; intro aa S
      refine BN.pure 5 S (fun _ => HS) rfl (by kernel_rfl) (by kernel_rfl) (fun _ => Lf.run_move (S.ev rfl)) rfl rfl trivial ?_
      clear S; intro aa S
      obtain ⟨x27, c_3, H⟩ := H
      refine BN.held 4 S HS rfl (by kernel_rfl) (fun _ hq => Lf.run_ld (S.ev rfl) fl52 (c_3 _ hq)) rfl rfl trivial ?_
      clear S; intro aa S
      refine BN.eff 6 rfl (by kernel_rfl) ?_
      refine ol_cal S H isfn24 rfl rfl trivial ?_
      clear S H aa; intro u aa ww h3 H S
      obtain ⟨x29, rfl, H⟩ := H
      refine OL.nil ?_
      clear HS; obtain ⟨HS, H⟩ := H
      refine ⟨fun _ => by rw [S.heap]; exact HS, ?_⟩
      refine BN.eff 7 rfl (by kernel_rfl) ?_
      refine ol_newS S H Try.underlying52 ti51 (by decide) (parts_map S rfl) (by kernel_rfl) (by decide) rfl trivial ?_
      clear S H aa; intro s30 aa ww h4 H S
      refine OL.nil ?_
      clear HS; obtain ⟨HS, H⟩ := H
      refine ⟨fun _ => by rw [S.heap]; exact HS, ?_⟩
      refine BN.eff 8 rfl (by kernel_rfl) ?_
      refine ol_appS S H Try.underlying52 ti51 rfl rfl rfl trivial ?_
      clear S H aa; intro s31 aa ww h5 H S
      refine OL.nil ?_
      refine ⟨noNeed (by kernel_rfl), ?_⟩
      refine BN.pure 9 S (noNeed (by kernel_rfl)) rfl (by kernel_rfl) (by kernel_rfl) (fun _ => Lf.run_nc (S.ev rfl)) rfl rfl trivial ?_
      clear S; intro aa S
      refine BN.pure 10 S (noNeed (by kernel_rfl)) rfl (by kernel_rfl) (by kernel_rfl) (fun _ => Lf.run_fa (S.ev rfl) fa54_1) rfl rfl trivial ?_
      clear S; intro aa S
      refine BN.eff 11 rfl (by kernel_rfl) ?_
      refine ol_sto S H rfl rfl rfl ti52 trivial ?_
      clear S H aa; intro aa ww h6 H S
      refine OL.nil ?_
      refine ⟨noNeed (by kernel_rfl), ?_⟩
      refine BN.done (by kernel_rfl) ?_
      replace S := S.sub [(3, Value.pointer (some p13)), (17, Value.slice x17.a x17.n x17.c), (18, Value.int .i64 ((x17.n : Nat) : Int)), (19, Value.int .i64 x19)] ⟨rfl, rfl, rfl, rfl, trivial⟩
      refine W.region ?_
      refine OL.pure S (Lf.run_add (S.ev rfl) (S.ev rfl)) rfl rfl trivial ?_
      clear S; intro aa S
      refine OL.pure S (Lf.run_move (S.ev rfl)) rfl rfl trivial ?_
      clear S; intro aa S
      refine OL.nil ?_
      exact ⟨((IntKind.i64.wrap (x19 + 1)), h6), ⟨S.sub _ ⟨rfl, rfl, rfl, rfl, trivial⟩, H.1⟩, H.2⟩
    · replace H := H.2 hb_1
      refine W.exit_ ?_
      refine xhit ?_
      refine W.seq ?_
      replace S := S.sub [(3, Value.pointer (some p13))] ⟨rfl, trivial⟩
      refine W.region ?_
      refine OL.pure S (Lf.run_move (S.ev rfl)) rfl rfl trivial ?_
      clear S; intro aa S
      refine OL.pure S (Lf.run_assign (S.ev rfl)) rfl rfl trivial ?_
      clear S; intro aa S
      refine OL.nil ?_
      refine W.ret ?_
      exact Ret.one S rfl rfl H

/-- slices.Clone[[]bool,bool] -/
def L24 (s0 : Sv) (h : Heap) (R : Value → Heap → Prop) : Prop :=
  ifb (Option.isNone s0.a) (
    R (Value.slice (⟨none, 0, 0⟩ : Sv).a (⟨none, 0, 0⟩ : Sv).n (⟨none, 0, 0⟩ : Sv).c) h) (
    newS 4 #[] 0 h fun s5 h1 =>
    appS 4 (Value.bool false).cells 1 1 h1 s5 s0 fun s7 h2 =>
    R (Value.slice s7.a s7.n s7.c) h2)

set_option maxRecDepth 100000 in

theorem F24 {s0 h : _} {R : Value → Heap → Prop} (H : L24 s0 h R) : CallsH Try.prog 24 #[Value.slice s0.a s0.n s0.c] h R := by
  refine CallsH.enter (n := 8) Try.func24 rfl rfl rfl rfl ?_
  intro w0 aa ww S
  unfold L24 at H
  refine W.seq ?_
  replace S := S.sub [(0, Value.slice s0.a s0.n s0.c)] ⟨rfl, trivial⟩
  refine W.region ?_
  refine OL.pure S (Lf.run_assign (S.ev rfl)) rfl rfl trivial ?_
  clear S; intro aa S
  refine OL.nil ?_
  refine W.seq ?_
  refine W.seq ?_
  replace S := S.sub [(0, Value.slice s0.a s0.n s0.c)] ⟨rfl, trivial⟩
  refine W.region ?_
  refine OL.pure S (Lf.run_move (S.ev rfl)) rfl rfl trivial ?_
  clear S; intro aa S
  refine OL.pure S (Lf.run_eqlsn Try.underlying51 (S.ev rfl) (S.ev rfl)) rfl rfl trivial ?_
  clear S; intro aa S
  refine OL.nil ?_
  refine W.cond S (b := (Option.isNone s0.a)) rfl (fun hb => ?_) (fun hb => ?_)
  · replace H := H.1 hb
    refine W.seq ?_
    replace S := S.sub [] trivial
    refine W.region ?_
    refine OL.pure S (Lf.run_assign (S.ev rfl)) rfl rfl trivial ?_
    clear S; intro aa S
    refine OL.nil ?_
    refine W.ret ?_
    exact Ret.one S rfl rfl H
  · replace H := H.2 hb
    refine W.skip ?_
    refine W.seq ?_
    replace S := S.sub [(0, Value.slice s0.a s0.n s0.c)] ⟨rfl, trivial⟩
    refine W.region ?_
    refine ol_newS0 S H Try.underlying51 ti4 rfl rfl trivial ?_
    clear S H aa; intro s5 aa ww h1 H S
    refine OL.pure S (Lf.run_move (S.ev rfl)) rfl rfl trivial ?_
    clear S; intro aa S
    refine ol_appS S H Try.underlying51 ti4 rfl rfl rfl trivial ?_
    clear S H aa; intro s7 aa ww h2 H S
    refine OL.pure S (Lf.run_assign (S.ev rfl)) rfl rfl trivial ?_
    clear S; intro aa S
    refine OL.nil ?_
    refine W.ret ?_
    exact Ret.one S rfl rfl H

end Go.Proofs.Ythpfblimfaefhaa

/- Lifted by program off the elaborated code: each Go function, read as a proposition over typed variables and the heap. -/
import Derived.Test.YtfafhadklhnemaaG0
namespace Go.Proofs.Ytfafhadklhnemaa
open Go Go.Lf
set_option linter.unusedVariables false

/-- chattel chattellaw02.NumOrders -/
def L3 (a0 : Int) (b1 : Int) (h : Heap) (R : Value → Heap → Prop) : Prop :=
  cal Try.prog 10 #[] h fun u h1 => asB u fun x5 =>
  ∃ J : Bool → Heap → Prop, (andj x5 (fun k =>
    cal Try.prog 11 #[Value.int .u64 a0, Value.int .u64 b1] h1 fun u_1 h3 => asB u_1 fun x9 =>
    cal Try.prog 12 #[Value.int .u64 a0, Value.int .u64 b1] h3 fun u_2 h4 => asB u_2 fun x12 =>
    k (x9 == x12) h4) h1 J) ∧ ∀ x14 h2, J x14 h2 →
  ∃ J_1 : Bool → Heap → Prop, (andj x14 (fun k_1 =>
    cal Try.prog 13 #[Value.int .u64 a0, Value.int .u64 b1] h2 fun u_3 h6 => asB u_3 fun x18 =>
    cal Try.prog 14 #[Value.int .u64 a0, Value.int .u64 b1] h6 fun u_4 h7 => asB u_4 fun x21 =>
    k_1 (x18 == x21) h7) h2 J_1) ∧ ∀ x23 h5, J_1 x23 h5 →
  ∃ J_2 : Bool → Heap → Prop, (andj x23 (fun k_2 =>
    cal Try.prog 15 #[Value.int .u64 a0] h5 fun u_5 h9 => asI .i64 u_5 fun x26 =>
    cal Try.prog 16 #[Value.int .u64 a0] h9 fun u_6 h10 => asI .i64 u_6 fun x28 =>
    k_2 (x26 == x28) h10) h5 J_2) ∧ ∀ x30 h8, J_2 x30 h8 →
  R (Value.bool x30) h8

set_option maxRecDepth 100000 in

theorem F3 {a0 b1 h : _} {R : Value → Heap → Prop} (H : L3 a0 b1 h R) : CallsH Try.prog 3 #[Value.int .u64 a0, Value.int .u64 b1] h R := by
  refine CallsH.enter (n := 31) Try.func3 rfl rfl rfl rfl ?_
  intro w0 aa ww S
  unfold L3 at H
  refine W.seq ?_
  replace S := S.sub [(0, Value.int .u64 a0), (1, Value.int .u64 b1)] ⟨rfl, rfl, trivial⟩
  refine W.region ?_
  refine OL.pure S (Lf.run_assign (S.ev rfl)) rfl rfl trivial ?_
  clear S; intro aa S
  refine OL.nil ?_
  refine W.seq ?_
  replace S := S.sub [(0, Value.int .u64 a0), (1, Value.int .u64 b1)] ⟨rfl, rfl, trivial⟩
  refine W.region ?_
  refine ol_cal S H isfn10 rfl rfl trivial ?_
  clear S H aa; intro u aa ww h1 H S
  obtain ⟨x5, rfl, H⟩ := H
  refine OL.pure S (Lf.run_move (S.ev rfl)) rfl rfl trivial ?_
  clear S; intro aa S
  obtain ⟨J, H, HK⟩ := H
  refine OL.cutN 8 (fun aa ww => ∃ x14 h2, St 31 ((14, Value.bool x14) :: [(0, Value.int .u64 a0), (1, Value.int .u64 b1), (5, Value.bool x5), (6, Value.bool x5)]) h2 w0 aa ww ∧ J x14 h2) ?_ ?_
  · rcases Bool.eq_false_or_eq_true x5 with hb | hb
    · replace H := H.1 hb
      refine OL.pure S (Lf.run_move (S.ev rfl)) rfl rfl (GOk.mk rfl rfl hb) ?_
      clear S; intro aa S
      refine OL.pure S (Lf.run_move (S.ev rfl)) rfl rfl (GOk.mk rfl rfl hb) ?_
      clear S; intro aa S
      refine ol_cal S H isfn11 rfl rfl (GOk.mk rfl rfl hb) ?_
      clear S H aa; intro u_1 aa ww h3 H S
      obtain ⟨x9, rfl, H⟩ := H
      refine OL.pure S (Lf.run_move (S.ev rfl)) rfl rfl (GOk.mk rfl rfl hb) ?_
      clear S; intro aa S
      refine OL.pure S (Lf.run_move (S.ev rfl)) rfl rfl (GOk.mk rfl rfl hb) ?_
      clear S; intro aa S
      refine ol_cal S H isfn12 rfl rfl (GOk.mk rfl rfl hb) ?_
      clear S H aa; intro u_2 aa ww h4 H S
      obtain ⟨x12, rfl, H⟩ := H
      refine OL.pure S (Lf.run_eqlb Try.underlying4 (S.ev rfl) (S.ev rfl)) rfl rfl (GOk.mk rfl rfl hb) ?_
      clear S; intro aa S
      refine OL.pure S (Lf.run_pickT (S.ev rfl) hb (S.ev rfl)) rfl rfl trivial ?_
      clear S; intro aa S
      refine OL.nil ?_
      exact ⟨_, _, S.sub _ ⟨rfl, rfl, rfl, rfl, rfl, trivial⟩, H⟩
    · replace H := H.2 hb
      refine OL.not S rfl rfl (GNo.mk rfl rfl hb) ?_
      clear S; intro aa S
      refine OL.not S rfl rfl (GNo.mk rfl rfl hb) ?_
      clear S; intro aa S
      refine OL.not S rfl rfl (GNo.mk rfl rfl hb) ?_
      clear S; intro aa S
      refine OL.not S rfl rfl (GNo.mk rfl rfl hb) ?_
      clear S; intro aa S
      refine OL.not S rfl rfl (GNo.mk rfl rfl hb) ?_
      clear S; intro aa S
      refine OL.not S rfl rfl (GNo.mk rfl rfl hb) ?_
      clear S; intro aa S
      refine OL.not S rfl rfl (GNo.mk rfl rfl hb) ?_
      clear S; intro aa S
      refine OL.pure S (Lf.run_pickF (S.ev rfl) hb (S.ev rfl)) rfl rfl trivial ?_
      clear S; intro aa S
      refine OL.nil ?_
      exact ⟨_, _, S.sub _ ⟨rfl, rfl, rfl, rfl, rfl, trivial⟩, H⟩
  · clear S aa
    rintro aa ww ⟨x14, h2, S, HJ⟩
    replace H := HK _ _ HJ
    clear HK HJ
    refine OL.pure S (Lf.run_move (S.ev rfl)) rfl rfl trivial ?_
    clear S; intro aa S
    obtain ⟨J_1, H, HK_1⟩ := H
    refine OL.cutN 8 (fun aa ww => ∃ x23 h5, St 31 ((23, Value.bool x23) :: [(0, Value.int .u64 a0), (1, Value.int .u64 b1), (5, Value.bool x5), (6, Value.bool x5), (14, Value.bool x14), (15, Value.bool x14)]) h5 w0 aa ww ∧ J_1 x23 h5) ?_ ?_
    · rcases Bool.eq_false_or_eq_true x14 with hb_1 | hb_1
      · replace H := H.1 hb_1
        refine OL.pure S (Lf.run_move (S.ev rfl)) rfl rfl (GOk.mk rfl rfl hb_1) ?_
        clear S; intro aa S
        refine OL.pure S (Lf.run_move (S.ev rfl)) rfl rfl (GOk.mk rfl rfl hb_1) ?_
        clear S; intro aa S
        refine ol_cal S H isfn13 rfl rfl (GOk.mk rfl rfl hb_1) ?_
        clear S H aa; intro u_3 aa ww h6 H S
        obtain ⟨x18, rfl, H⟩ := H
        refine OL.pure S (Lf.run_move (S.ev rfl)) rfl rfl (GOk.mk rfl rfl hb_1) ?_
        clear S; intro aa S
        refine OL.pure S (Lf.run_move (S.ev rfl)) rfl rfl (GOk.mk rfl rfl hb_1) ?_
        clear S; intro aa S
        refine ol_cal S H isfn14 rfl rfl (GOk.mk rfl rfl hb_1) ?_
        clear S H aa; intro u_4 aa ww h7 H S
        obtain ⟨x21, rfl, H⟩ := H
        refine OL.pure S (Lf.run_eqlb Try.underlying4 (S.ev rfl) (S.ev rfl)) rfl rfl (GOk.mk rfl rfl hb_1) ?_
        clear S; intro aa S
        refine OL.pure S (Lf.run_pickT (S.ev rfl) hb_1 (S.ev rfl)) rfl rfl trivial ?_
        clear S; intro aa S
        refine OL.nil ?_
        exact ⟨_, _, S.sub _ ⟨rfl, rfl, rfl, rfl, rfl, rfl, rfl, trivial⟩, H⟩
      · replace H := H.2 hb_1
        refine OL.not S rfl rfl (GNo.mk rfl rfl hb_1) ?_
        clear S; intro aa S
        refine OL.not S rfl rfl (GNo.mk rfl rfl hb_1) ?_
        clear S; intro aa S
        refine OL.not S rfl rfl (GNo.mk rfl rfl hb_1) ?_
        clear S; intro aa S
        refine OL.not S rfl rfl (GNo.mk rfl rfl hb_1) ?_
        clear S; intro aa S
        refine OL.not S rfl rfl (GNo.mk rfl rfl hb_1) ?_
        clear S; intro aa S
        refine OL.not S rfl rfl (GNo.mk rfl rfl hb_1) ?_
        clear S; intro aa S
        refine OL.not S rfl rfl (GNo.mk rfl rfl hb_1) ?_
        clear S; intro aa S
        refine OL.pure S (Lf.run_pickF (S.ev rfl) hb_1 (S.ev rfl)) rfl rfl trivial ?_
        clear S; intro aa S
        refine OL.nil ?_
        exact ⟨_, _, S.sub _ ⟨rfl, rfl, rfl, rfl, rfl, rfl, rfl, trivial⟩, H⟩
    · clear S aa
      rintro aa ww ⟨x23, h5, S, HJ⟩
      replace H := HK_1 _ _ HJ
      clear HK_1 HJ
      refine OL.pure S (Lf.run_move (S.ev rfl)) rfl rfl trivial ?_
      clear S; intro aa S
      obtain ⟨J_2, H, HK_2⟩ := H
      refine OL.cutN 6 (fun aa ww => ∃ x30 h8, St 31 ((30, Value.bool x30) :: [(0, Value.int .u64 a0), (1, Value.int .u64 b1), (5, Value.bool x5), (6, Value.bool x5), (14, Value.bool x14), (15, Value.bool x14), (23, Value.bool x23), (24, Value.bool x23)]) h8 w0 aa ww ∧ J_2 x30 h8) ?_ ?_
      · rcases Bool.eq_false_or_eq_true x23 with hb_2 | hb_2
        · replace H := H.1 hb_2
          refine OL.pure S (Lf.run_move (S.ev rfl)) rfl rfl (GOk.mk rfl rfl hb_2) ?_
          clear S; intro aa S
          refine ol_cal S H isfn15 rfl rfl (GOk.mk rfl rfl hb_2) ?_
          clear S H aa; intro u_5 aa ww h9 H S
          obtain ⟨x26, rfl, H⟩ := H
          refine OL.pure S (Lf.run_move (S.ev rfl)) rfl rfl (GOk.mk rfl rfl hb_2) ?_
          clear S; intro aa S
          refine ol_cal S H isfn16 rfl rfl (GOk.mk rfl rfl hb_2) ?_
          clear S H aa; intro u_6 aa ww h10 H S
          obtain ⟨x28, rfl, H⟩ := H
          refine OL.pure S (Lf.run_eql (S.ev rfl) (S.ev rfl)) rfl rfl (GOk.mk rfl rfl hb_2) ?_
          clear S; intro aa S
          refine OL.pure S (Lf.run_pickT (S.ev rfl) hb_2 (S.ev rfl)) rfl rfl trivial ?_
          clear S; intro aa S
          refine OL.nil ?_
          exact ⟨_, _, S.sub _ ⟨rfl, rfl, rfl, rfl, rfl, rfl, rfl, rfl, rfl, trivial⟩, H⟩
        · replace H := H.2 hb_2
          refine OL.not S rfl rfl (GNo.mk rfl rfl hb_2) ?_
          clear S; intro aa S
          refine OL.not S rfl rfl (GNo.mk rfl rfl hb_2) ?_
          clear S; intro aa S
          refine OL.not S rfl rfl (GNo.mk rfl rfl hb_2) ?_
          clear S; intro aa S
          refine OL.not S rfl rfl (GNo.mk rfl rfl hb_2) ?_
          clear S; intro aa S
          refine OL.not S rfl rfl (GNo.mk rfl rfl hb_2) ?_
          clear S; intro aa S
          refine OL.pure S (Lf.run_pickF (S.ev rfl) hb_2 (S.ev rfl)) rfl rfl trivial ?_
          clear S; intro aa S
          refine OL.nil ?_
          exact ⟨_, _, S.sub _ ⟨rfl, rfl, rfl, rfl, rfl, rfl, rfl, rfl, rfl, trivial⟩, H⟩
      · clear S aa
        rintro aa ww ⟨x30, h8, S, HJ⟩
        replace H := HK_2 _ _ HJ
        clear HK_2 HJ
        refine OL.pure S (Lf.run_assign (S.ev rfl)) rfl rfl trivial ?_
        clear S; intro aa S
        refine OL.nil ?_
        refine W.ret ?_
        exact Ret.one S rfl rfl H

/-- chattel chattellaw02.NumWholes -/
def L4 (a0 : Int) (b1 : Int) (h : Heap) (R : Value → Heap → Prop) : Prop :=
  cal Try.prog 10 #[] h fun u h1 => asB u fun x9 =>
  ifb (!x9) (
    R (Value.bool false) h1) (
    cal Try.prog 17 #[Value.int .i64 a0, Value.int .i64 b1] h1 fun u_1 h2 => asTup u_1 fun r14 =>
    elt r14 0 fun u_2 => asI .i64 u_2 fun x15 =>
    elt r14 1 fun u_3 => asB u_3 fun x16 =>
    cal Try.prog 18 #[Value.int .i64 a0, Value.int .i64 b1] h2 fun u_4 h3 => asTup u_4 fun r20 =>
    elt r20 0 fun u_5 => asI .i64 u_5 fun x21 =>
    elt r20 1 fun u_6 => asB u_6 fun x22 =>
    ifb ((x15 != x21) || (x16 != x22)) (
      R (Value.bool false) h3) (
      cal Try.prog 19 #[Value.int .i64 a0, Value.int .i64 b1] h3 fun u_7 h4 => asTup u_7 fun r34 =>
      elt r34 0 fun u_8 => asI .i64 u_8 fun x35 =>
      elt r34 1 fun u_9 => asB u_9 fun x36 =>
      cal Try.prog 20 #[Value.int .i64 a0, Value.int .i64 b1] h4 fun u_10 h5 => asTup u_10 fun r40 =>
      elt r40 0 fun u_11 => asI .i64 u_11 fun x41 =>
      elt r40 1 fun u_12 => asB u_12 fun x42 =>
      ifb ((x35 != x41) || (x36 != x42)) (
        R (Value.bool false) h5) (
        cal Try.prog 21 #[Value.int .i64 a0, Value.int .i64 b1] h5 fun u_13 h6 => asTup u_13 fun r54 =>
        elt r54 0 fun u_14 => asI .i64 u_14 fun x55 =>
        elt r54 1 fun u_15 => asB u_15 fun x56 =>
        cal Try.prog 22 #[Value.int .i64 a0, Value.int .i64 b1] h6 fun u_16 h7 => asTup u_16 fun r60 =>
        elt r60 0 fun u_17 => asI .i64 u_17 fun x61 =>
        elt r60 1 fun u_18 => asB u_18 fun x62 =>
        R (Value.bool ((x55 == x61) && (x56 == x62))) h7)))

set_option maxRecDepth 100000 in

theorem F4 {a0 b1 h : _} {R : Value → Heap → Prop} (H : L4 a0 b1 h R) : CallsH Try.prog 4 #[Value.int .i64 a0, Value.int .i64 b1] h R := by
  refine CallsH.enter (n := 71) Try.func4 rfl rfl rfl rfl ?_
  intro w0 aa ww S
  unfold L4 at H
  refine W.seq ?_
  replace S := S.sub [(0, Value.int .i64 a0), (1, Value.int .i64 b1)] ⟨rfl, rfl, trivial⟩
  refine W.region ?_
  refine OL.pure S (Lf.run_assign (S.ev rfl)) rfl rfl trivial ?_
  clear S; intro aa S
  refine OL.nil ?_
  refine W.seq ?_
  refine W.seq ?_
  replace S := S.sub [(0, Value.int .i64 a0), (1, Value.int .i64 b1)] ⟨rfl, rfl, trivial⟩
  refine W.region ?_
  refine ol_cal S H isfn10 rfl rfl trivial ?_
  clear S H aa; intro u aa ww h1 H S
  obtain ⟨x9, rfl, H⟩ := H
  refine OL.pure S (Lf.run_not (S.ev rfl)) rfl rfl trivial ?_
  clear S; intro aa S
  refine OL.nil ?_
  refine W.cond S (b := (!x9)) rfl (fun hb => ?_) (fun hb => ?_)
  · replace H := H.1 hb
    refine W.seq ?_
    replace S := S.sub [] trivial
    refine W.region ?_
    refine OL.pure S (Lf.run_assign (S.ev rfl)) rfl rfl trivial ?_
    clear S; intro aa S
    refine OL.nil ?_
    refine W.ret ?_
    exact Ret.one S rfl rfl H
  · replace H := H.2 hb
    refine W.skip ?_
    refine W.seq ?_
    replace S := S.sub [(0, Value.int .i64 a0), (1, Value.int .i64 b1)] ⟨rfl, rfl, trivial⟩
    refine W.region ?_
    refine OL.pure S (Lf.run_move (S.ev rfl)) rfl rfl trivial ?_
    clear S; intro aa S
    refine OL.pure S (Lf.run_move (S.ev rfl)) rfl rfl trivial ?_
    clear S; intro aa S
    refine ol_cal S H isfn17 rfl rfl trivial ?_
    clear S H aa; intro u_1 aa ww h2 H S
    obtain ⟨r14, rfl, H⟩ := H
    refine OL.pure S (Lf.run_move (S.ev rfl)) rfl rfl trivial ?_
    clear S; intro aa S
    obtain ⟨u_2, e, x15, rfl, H⟩ := H
    refine OL.pure S (Lf.run_ex (S.ev rfl) e) rfl rfl trivial ?_
    clear S; intro aa S
    obtain ⟨u_3, e_1, x16, rfl, H⟩ := H
    refine OL.pure S (Lf.run_ex (S.ev rfl) e_1) rfl rfl trivial ?_
    clear S; intro aa S
    refine OL.pure S (Lf.run_assign (S.ev rfl)) rfl rfl trivial ?_
    clear S; intro aa S
    refine OL.pure S (Lf.run_assign (S.ev rfl)) rfl rfl trivial ?_
    clear S; intro aa S
    refine OL.nil ?_
    refine W.seq ?_
    replace S := S.sub [(0, Value.int .i64 a0), (1, Value.int .i64 b1), (5, Value.int .i64 x15), (6, Value.bool x16)] ⟨rfl, rfl, rfl, rfl, trivial⟩
    refine W.region ?_
    refine OL.pure S (Lf.run_move (S.ev rfl)) rfl rfl trivial ?_
    clear S; intro aa S
    refine OL.pure S (Lf.run_move (S.ev rfl)) rfl rfl trivial ?_
    clear S; intro aa S
    refine ol_cal S H isfn18 rfl rfl trivial ?_
    clear S H aa; intro u_4 aa ww h3 H S
    obtain ⟨r20, rfl, H⟩ := H
    refine OL.pure S (Lf.run_move (S.ev rfl)) rfl rfl trivial ?_
    clear S; intro aa S
    obtain ⟨u_5, e_2, x21, rfl, H⟩ := H
    refine OL.pure S (Lf.run_ex (S.ev rfl) e_2) rfl rfl trivial ?_
    clear S; intro aa S
    obtain ⟨u_6, e_3, x22, rfl, H⟩ := H
    refine OL.pure S (Lf.run_ex (S.ev rfl) e_3) rfl rfl trivial ?_
    clear S; intro aa S
    refine OL.pure S (Lf.run_assign (S.ev rfl)) rfl rfl trivial ?_
    clear S; intro aa S
    refine OL.pure S (Lf.run_assign (S.ev rfl)) rfl rfl trivial ?_
    clear S; intro aa S
    refine OL.nil ?_
    refine W.seq ?_
    refine W.seq ?_
    replace S := S.sub [(0, Value.int .i64 a0), (1, Value.int .i64 b1), (5, Value.int .i64 x15), (6, Value.bool x16), (7, Value.int .i64 x21), (8, Value.bool x22)] ⟨rfl, rfl, rfl, rfl, rfl, rfl, trivial⟩
    refine W.region ?_
    refine OL.pure S (Lf.run_move (S.ev rfl)) rfl rfl trivial ?_
    clear S; intro aa S
    refine OL.pure S (Lf.run_move (S.ev rfl)) rfl rfl trivial ?_
    clear S; intro aa S
    refine OL.pure S (Lf.run_neq (S.ev rfl) (S.ev rfl)) rfl rfl trivial ?_
    clear S; intro aa S
    refine OL.pure S (Lf.run_move (S.ev rfl)) rfl rfl trivial ?_
    clear S; intro aa S
    refine OL.cutN 4 (fun aa ww => St 71 ((30, Value.bool ((x15 != x21) || (x16 != x22))) :: [(0, Value.int .i64 a0), (1, Value.int .i64 b1), (5, Value.int .i64 x15), (6, Value.bool x16), (7, Value.int .i64 x21), (8, Value.bool x22), (23, Value.int .i64 x15), (24, Value.int .i64 x21), (25, Value.bool (x15 != x21)), (26, Value.bool (x15 != x21))]) h3 w0 aa ww) ?_ ?_
    · rcases Bool.eq_false_or_eq_true (x15 != x21) with hb_1 | hb_1
      · refine OL.not S rfl rfl (GNo.mk rfl rfl hb_1) ?_
        clear S; intro aa S
        refine OL.not S rfl rfl (GNo.mk rfl rfl hb_1) ?_
        clear S; intro aa S
        refine OL.not S rfl rfl (GNo.mk rfl rfl hb_1) ?_
        clear S; intro aa S
        refine OL.pure S (Lf.run_pickT (S.ev rfl) hb_1 (S.ev rfl)) rfl rfl trivial ?_
        clear S; intro aa S
        refine OL.nil ?_
        exact (S.hd (by rw [hb_1, Bool.true_or])).sub _ ⟨rfl, rfl, rfl, rfl, rfl, rfl, rfl, rfl, rfl, rfl, rfl, trivial⟩
      · refine OL.pure S (Lf.run_move (S.ev rfl)) rfl rfl (GOk.mk rfl rfl hb_1) ?_
        clear S; intro aa S
        refine OL.pure S (Lf.run_move (S.ev rfl)) rfl rfl (GOk.mk rfl rfl hb_1) ?_
        clear S; intro aa S
        refine OL.pure S (Lf.run_neqb Try.underlying4 (S.ev rfl) (S.ev rfl)) rfl rfl (GOk.mk rfl rfl hb_1) ?_
        clear S; intro aa S
        refine OL.pure S (Lf.run_pickF (S.ev rfl) hb_1 (S.ev rfl)) rfl rfl trivial ?_
        clear S; intro aa S
        refine OL.nil ?_
        exact (S.hd (by rw [hb_1, Bool.false_or])).sub _ ⟨rfl, rfl, rfl, rfl, rfl, rfl, rfl, rfl, rfl, rfl, rfl, trivial⟩
    · clear S aa
      intro aa ww S
      refine OL.nil ?_
      refine W.cond S (b := ((x15 != x21) || (x16 != x22))) rfl (fun hb_2 => ?_) (fun hb_2 => ?_)
      · replace H := H.1 hb_2
        refine W.seq ?_
        replace S := S.sub [] trivial
        refine W.region ?_
        refine OL.pure S (Lf.run_assign (S.ev rfl)) rfl rfl trivial ?_
        clear S; intro aa S
        refine OL.nil ?_
        refine W.ret ?_
        exact Ret.one S rfl rfl H
      · replace H := H.2 hb_2
        refine W.skip ?_
        refine W.seq ?_
        replace S := S.sub [(0, Value.int .i64 a0), (1, Value.int .i64 b1)] ⟨rfl, rfl, trivial⟩
        refine W.region ?_
        refine OL.pure S (Lf.run_move (S.ev rfl)) rfl rfl trivial ?_
        clear S; intro aa S
        refine OL.pure S (Lf.run_move (S.ev rfl)) rfl rfl trivial ?_
        clear S; intro aa S
        refine ol_cal S H isfn19 rfl rfl trivial ?_
        clear S H aa; intro u_7 aa ww h4 H S
        obtain ⟨r34, rfl, H⟩ := H
        refine OL.pure S (Lf.run_move (S.ev rfl)) rfl rfl trivial ?_
        clear S; intro aa S
        obtain ⟨u_8, e_4, x35, rfl, H⟩ := H
        refine OL.pure S (Lf.run_ex (S.ev rfl) e_4) rfl rfl trivial ?_
        clear S; intro aa S
        obtain ⟨u_9, e_5, x36, rfl, H⟩ := H
        refine OL.pure S (Lf.run_ex (S.ev rfl) e_5) rfl rfl trivial ?_
        clear S; intro aa S
        refine OL.pure S (Lf.run_assign (S.ev rfl)) rfl rfl trivial ?_
        clear S; intro aa S
        refine OL.pure S (Lf.run_assign (S.ev rfl)) rfl rfl trivial ?_
        clear S; intro aa S
        refine OL.nil ?_
        refine W.seq ?_
        replace S := S.sub [(0, Value.int .i64 a0), (1, Value.int .i64 b1), (5, Value.int .i64 x35), (6, Value.bool x36)] ⟨rfl, rfl, rfl, rfl, trivial⟩
        refine W.region ?_
        refine OL.pure S (Lf.run_move (S.ev rfl)) rfl rfl trivial ?_
        clear S; intro aa S
        refine OL.pure S (Lf.run_move (S.ev rfl)) rfl rfl trivial ?_
        clear S; intro aa S
        refine ol_cal S H isfn20 rfl rfl trivial ?_
        clear S H aa; intro u_10 aa ww h5 H S
        obtain ⟨r40, rfl, H⟩ := H
        refine OL.pure S (Lf.run_move (S.ev rfl)) rfl rfl trivial ?_
        clear S; intro aa S
        obtain ⟨u_11, e_6, x41, rfl, H⟩ := H
        refine OL.pure S (Lf.run_ex (S.ev rfl) e_6) rfl rfl trivial ?_
        clear S; intro aa S
        obtain ⟨u_12, e_7, x42, rfl, H⟩ := H
        refine OL.pure S (Lf.run_ex (S.ev rfl) e_7) rfl rfl trivial ?_
        clear S; intro aa S
        refine OL.pure S (Lf.run_assign (S.ev rfl)) rfl rfl trivial ?_
        clear S; intro aa S
        refine OL.pure S (Lf.run_assign (S.ev rfl)) rfl rfl trivial ?_
        clear S; intro aa S
        refine OL.nil ?_
        refine W.seq ?_
        refine W.seq ?_
        replace S := S.sub [(0, Value.int .i64 a0), (1, Value.int .i64 b1), (5, Value.int .i64 x35), (6, Value.bool x36), (7, Value.int .i64 x41), (8, Value.bool x42)] ⟨rfl, rfl, rfl, rfl, rfl, rfl, trivial⟩
        refine W.region ?_
        refine OL.pure S (Lf.run_move (S.ev rfl)) rfl rfl trivial ?_
        clear S; intro aa S
        refine OL.pure S (Lf.run_move (S.ev rfl)) rfl rfl trivial ?_
        clear S; intro aa S
        refine OL.pure S (Lf.run_neq (S.ev rfl) (S.ev rfl)) rfl rfl trivial ?_
        clear S; intro aa S
        refine OL.pure S (Lf.run_move (S.ev rfl)) rfl rfl trivial ?_
        clear S; intro aa S
        refine OL.cutN 4 (fun aa ww => St 71 ((50, Value.bool ((x35 != x41) || (x36 != x42))) :: [(0, Value.int .i64 a0), (1, Value.int .i64 b1), (5, Value.int .i64 x35), (6, Value.bool x36), (7, Value.int .i64 x41), (8, Value.bool x42), (43, Value.int .i64 x35), (44, Value.int .i64 x41), (45, Value.bool (x35 != x41)), (46, Value.bool (x35 != x41))]) h5 w0 aa ww) ?_ ?_
        · rcases Bool.eq_false_or_eq_true (x35 != x41) with hb_3 | hb_3
          · refine OL.not S rfl rfl (GNo.mk rfl rfl hb_3) ?_
            clear S; intro aa S
            refine OL.not S rfl rfl (GNo.mk rfl rfl hb_3) ?_
            clear S; intro aa S
            refine OL.not S rfl rfl (GNo.mk rfl rfl hb_3) ?_
            clear S; intro aa S
            refine OL.pure S (Lf.run_pickT (S.ev rfl) hb_3 (S.ev rfl)) rfl rfl trivial ?_
            clear S; intro aa S
            refine OL.nil ?_
            exact (S.hd (by rw [hb_3, Bool.true_or])).sub _ ⟨rfl, rfl, rfl, rfl, rfl, rfl, rfl, rfl, rfl, rfl, rfl, trivial⟩
          · refine OL.pure S (Lf.run_move (S.ev rfl)) rfl rfl (GOk.mk rfl rfl hb_3) ?_
            clear S; intro aa S
            refine OL.pure S (Lf.run_move (S.ev rfl)) rfl rfl (GOk.mk rfl rfl hb_3) ?_
            clear S; intro aa S
            refine OL.pure S (Lf.run_neqb Try.underlying4 (S.ev rfl) (S.ev rfl)) rfl rfl (GOk.mk rfl rfl hb_3) ?_
            clear S; intro aa S
            refine OL.pure S (Lf.run_pickF (S.ev rfl) hb_3 (S.ev rfl)) rfl rfl trivial ?_
            clear S; intro aa S
            refine OL.nil ?_
            exact (S.hd (by rw [hb_3, Bool.false_or])).sub _ ⟨rfl, rfl, rfl, rfl, rfl, rfl, rfl, rfl, rfl, rfl, rfl, trivial⟩
        · clear S aa
          intro aa ww S
          refine OL.nil ?_
          refine W.cond S (b := ((x35 != x41) || (x36 != x42))) rfl (fun hb_4 => ?_) (fun hb_4 => ?_)
          · replace H := H.1 hb_4
            refine W.seq ?_
            replace S := S.sub [] trivial
            refine W.region ?_
            refine OL.pure S (Lf.run_assign (S.ev rfl)) rfl rfl trivial ?_
            clear S; intro aa S
            refine OL.nil ?_
            refine W.ret ?_
            exact Ret.one S rfl rfl H
          · replace H := H.2 hb_4
            refine W.skip ?_
            refine W.seq ?_
            replace S := S.sub [(0, Value.int .i64 a0), (1, Value.int .i64 b1)] ⟨rfl, rfl, trivial⟩
            refine W.region ?_
            refine OL.pure S (Lf.run_move (S.ev rfl)) rfl rfl trivial ?_
            clear S; intro aa S
            refine OL.pure S (Lf.run_move (S.ev rfl)) rfl rfl trivial ?_
            clear S; intro aa S
            refine ol_cal S H isfn21 rfl rfl trivial ?_
            clear S H aa; intro u_13 aa ww h6 H S
            obtain ⟨r54, rfl, H⟩ := H
            refine OL.pure S (Lf.run_move (S.ev rfl)) rfl rfl trivial ?_
            clear S; intro aa S
            obtain ⟨u_14, e_8, x55, rfl, H⟩ := H
            refine OL.pure S (Lf.run_ex (S.ev rfl) e_8) rfl rfl trivial ?_
            clear S; intro aa S
            obtain ⟨u_15, e_9, x56, rfl, H⟩ := H
            refine OL.pure S (Lf.run_ex (S.ev rfl) e_9) rfl rfl trivial ?_
            clear S; intro aa S
            refine OL.pure S (Lf.run_assign (S.ev rfl)) rfl rfl trivial ?_
            clear S; intro aa S
            refine OL.pure S (Lf.run_assign (S.ev rfl)) rfl rfl trivial ?_
            clear S; intro aa S
            refine OL.nil ?_
            refine W.seq ?_
            replace S := S.sub [(0, Value.int .i64 a0), (1, Value.int .i64 b1), (5, Value.int .i64 x55), (6, Value.bool x56)] ⟨rfl, rfl, rfl, rfl, trivial⟩
            refine W.region ?_
            refine OL.pure S (Lf.run_move (S.ev rfl)) rfl rfl trivial ?_
            clear S; intro aa S
            refine OL.pure S (Lf.run_move (S.ev rfl)) rfl rfl trivial ?_
            clear S; intro aa S
            refine ol_cal S H isfn22 rfl rfl trivial ?_
            clear S H aa; intro u_16 aa ww h7 H S
            obtain ⟨r60, rfl, H⟩ := H
            refine OL.pure S (Lf.run_move (S.ev rfl)) rfl rfl trivial ?_
            clear S; intro aa S
            obtain ⟨u_17, e_10, x61, rfl, H⟩ := H
            refine OL.pure S (Lf.run_ex (S.ev rfl) e_10) rfl rfl trivial ?_
            clear S; intro aa S
            obtain ⟨u_18, e_11, x62, rfl, H⟩ := H
            refine OL.pure S (Lf.run_ex (S.ev rfl) e_11) rfl rfl trivial ?_
            clear S; intro aa S
            refine OL.pure S (Lf.run_assign (S.ev rfl)) rfl rfl trivial ?_
            clear S; intro aa S
            refine OL.pure S (Lf.run_assign (S.ev rfl)) rfl rfl trivial ?_
            clear S; intro aa S
            refine OL.nil ?_
            refine W.seq ?_
            replace S := S.sub [(5, Value.int .i64 x55), (6, Value.bool x56), (7, Value.int .i64 x61), (8, Value.bool x62)] ⟨rfl, rfl, rfl, rfl, trivial⟩
            refine W.region ?_
            refine OL.pure S (Lf.run_move (S.ev rfl)) rfl rfl trivial ?_
            clear S; intro aa S
            refine OL.pure S (Lf.run_move (S.ev rfl)) rfl rfl trivial ?_
            clear S; intro aa S
            refine OL.pure S (Lf.run_eql (S.ev rfl) (S.ev rfl)) rfl rfl trivial ?_
            clear S; intro aa S
            refine OL.pure S (Lf.run_move (S.ev rfl)) rfl rfl trivial ?_
            clear S; intro aa S
            refine OL.cutN 4 (fun aa ww => St 71 ((70, Value.bool ((x55 == x61) && (x56 == x62))) :: [(5, Value.int .i64 x55), (6, Value.bool x56), (7, Value.int .i64 x61), (8, Value.bool x62), (63, Value.int .i64 x55), (64, Value.int .i64 x61), (65, Value.bool (x55 == x61)), (66, Value.bool (x55 == x61))]) h7 w0 aa ww) ?_ ?_
            · rcases Bool.eq_false_or_eq_true (x55 == x61) with hb_5 | hb_5
              · refine OL.pure S (Lf.run_move (S.ev rfl)) rfl rfl (GOk.mk rfl rfl hb_5) ?_
                clear S; intro aa S
                refine OL.pure S (Lf.run_move (S.ev rfl)) rfl rfl (GOk.mk rfl rfl hb_5) ?_
                clear S; intro aa S
                refine OL.pure S (Lf.run_eqlb Try.underlying4 (S.ev rfl) (S.ev rfl)) rfl rfl (GOk.mk rfl rfl hb_5) ?_
                clear S; intro aa S
                refine OL.pure S (Lf.run_pickT (S.ev rfl) hb_5 (S.ev rfl)) rfl rfl trivial ?_
                clear S; intro aa S
                refine OL.nil ?_
                exact (S.hd (by rw [hb_5, Bool.true_and])).sub _ ⟨rfl, rfl, rfl, rfl, rfl, rfl, rfl, rfl, rfl, trivial⟩
              · refine OL.not S rfl rfl (GNo.mk rfl rfl hb_5) ?_
                clear S; intro aa S
                refine OL.not S rfl rfl (GNo.mk rfl rfl hb_5) ?_
                clear S; intro aa S
                refine OL.not S rfl rfl (GNo.mk rfl rfl hb_5) ?_
                clear S; intro aa S
                refine OL.pure S (Lf.run_pickF (S.ev rfl) hb_5 (S.ev rfl)) rfl rfl trivial ?_
                clear S; intro aa S
                refine OL.nil ?_
                exact (S.hd (by rw [hb_5, Bool.false_and])).sub _ ⟨rfl, rfl, rfl, rfl, rfl, rfl, rfl, rfl, rfl, trivial⟩
            · clear S aa
              intro aa ww S
              refine OL.pure S (Lf.run_assign (S.ev rfl)) rfl rfl trivial ?_
              clear S; intro aa S
              refine OL.nil ?_
              refine W.ret ?_
              exact Ret.one S rfl rfl H

/-- chattel chattellaw02.NumFloats -/
def L5 (a0 : Int) (b1 : Int) (h : Heap) (R : Value → Heap → Prop) : Prop :=
  cal Try.prog 10 #[] h fun u h1 => asB u fun x5 =>
  ∃ J : Bool → Heap → Prop, (andj x5 (fun k =>
    cal Try.prog 23 #[Value.int .u64 a0, Value.int .u64 b1] h1 fun u_1 h3 => asI .u64 u_1 fun x9 =>
    cal Try.prog 24 #[Value.int .u64 a0, Value.int .u64 b1] h3 fun u_2 h4 => asI .u64 u_2 fun x12 =>
    k (x9 == x12) h4) h1 J) ∧ ∀ x14 h2, J x14 h2 →
  ∃ J_1 : Bool → Heap → Prop, (andj x14 (fun k_1 =>
    cal Try.prog 25 #[Value.int .u64 a0, Value.int .u64 b1] h2 fun u_3 h6 => asI .u64 u_3 fun x18 =>
    cal Try.prog 26 #[Value.int .u64 a0, Value.int .u64 b1] h6 fun u_4 h7 => asI .u64 u_4 fun x21 =>
    k_1 (x18 == x21) h7) h2 J_1) ∧ ∀ x23 h5, J_1 x23 h5 →
  ∃ J_2 : Bool → Heap → Prop, (andj x23 (fun k_2 =>
    cal Try.prog 27 #[Value.int .u64 a0, Value.int .u64 b1] h5 fun u_5 h9 => asI .u64 u_5 fun x27 =>
    cal Try.prog 28 #[Value.int .u64 a0, Value.int .u64 b1] h9 fun u_6 h10 => asI .u64 u_6 fun x30 =>
    k_2 (x27 == x30) h10) h5 J_2) ∧ ∀ x32 h8, J_2 x32 h8 →
  ∃ J_3 : Bool → Heap → Prop, (andj x32 (fun k_3 =>
    cal Try.prog 29 #[Value.int .u64 a0, Value.int .u64 b1] h8 fun u_7 h12 => asI .u64 u_7 fun x36 =>
    cal Try.prog 30 #[Value.int .u64 a0, Value.int .u64 b1] h12 fun u_8 h13 => asI .u64 u_8 fun x39 =>
    k_3 (x36 == x39) h13) h8 J_3) ∧ ∀ x41 h11, J_3 x41 h11 →
  ∃ J_4 : Bool → Heap → Prop, (andj x41 (fun k_4 =>
    cal Try.prog 31 #[Value.int .u64 a0] h11 fun u_9 h15 => asI .u64 u_9 fun x44 =>
    cal Try.prog 32 #[Value.int .u64 a0] h15 fun u_10 h16 => asI .u64 u_10 fun x46 =>
    k_4 (x44 == x46) h16) h11 J_4) ∧ ∀ x48 h14, J_4 x48 h14 →
  ∃ J_5 : Bool → Heap → Prop, (andj x48 (fun k_5 =>
    cal Try.prog 33 #[Value.int .u64 a0] h14 fun u_11 h18 => asI .u64 u_11 fun x51 =>
    cal Try.prog 34 #[Value.int .u64 a0] h18 fun u_12 h19 => asI .u64 u_12 fun x53 =>
    k_5 (x51 == x53) h19) h14 J_5) ∧ ∀ x55 h17, J_5 x55 h17 →
  R (Value.bool x55) h17

set_option maxRecDepth 100000 in

theorem F5 {a0 b1 h : _} {R : Value → Heap → Prop} (H : L5 a0 b1 h R) : CallsH Try.prog 5 #[Value.int .u64 a0, Value.int .u64 b1] h R := by
  refine CallsH.enter (n := 56) Try.func5 rfl rfl rfl rfl ?_
  intro w0 aa ww S
  unfold L5 at H
  refine W.seq ?_
  replace S := S.sub [(0, Value.int .u64 a0), (1, Value.int .u64 b1)] ⟨rfl, rfl, trivial⟩
  refine W.region ?_
  refine OL.pure S (Lf.run_assign (S.ev rfl)) rfl rfl trivial ?_
  clear S; intro aa S
  refine OL.nil ?_
  refine W.seq ?_
  replace S := S.sub [(0, Value.int .u64 a0), (1, Value.int .u64 b1)] ⟨rfl, rfl, trivial⟩
  refine W.region ?_
  refine ol_cal S H isfn10 rfl rfl trivial ?_
  clear S H aa; intro u aa ww h1 H S
  obtain ⟨x5, rfl, H⟩ := H
  refine OL.pure S (Lf.run_move (S.ev rfl)) rfl rfl trivial ?_
  clear S; intro aa S
  obtain ⟨J, H, HK⟩ := H
  refine OL.cutN 8 (fun aa ww => ∃ x14 h2, St 56 ((14, Value.bool x14) :: [(0, Value.int .u64 a0), (1, Value.int .u64 b1), (5, Value.bool x5), (6, Value.bool x5)]) h2 w0 aa ww ∧ J x14 h2) ?_ ?_
  · rcases Bool.eq_false_or_eq_true x5 with hb | hb
    · replace H := H.1 hb
      refine OL.pure S (Lf.run_move (S.ev rfl)) rfl rfl (GOk.mk rfl rfl hb) ?_
      clear S; intro aa S
      refine OL.pure S (Lf.run_move (S.ev rfl)) rfl rfl (GOk.mk rfl rfl hb) ?_
      clear S; intro aa S
      refine ol_cal S H isfn23 rfl rfl (GOk.mk rfl rfl hb) ?_
      clear S H aa; intro u_1 aa ww h3 H S
      obtain ⟨x9, rfl, H⟩ := H
      refine OL.pure S (Lf.run_move (S.ev rfl)) rfl rfl (GOk.mk rfl rfl hb) ?_
      clear S; intro aa S
      refine OL.pure S (Lf.run_move (S.ev rfl)) rfl rfl (GOk.mk rfl rfl hb) ?_
      clear S; intro aa S
      refine ol_cal S H isfn24 rfl rfl (GOk.mk rfl rfl hb) ?_
      clear S H aa; intro u_2 aa ww h4 H S
      obtain ⟨x12, rfl, H⟩ := H
      refine OL.pure S (Lf.run_eql (S.ev rfl) (S.ev rfl)) rfl rfl (GOk.mk rfl rfl hb) ?_
      clear S; intro aa S
      refine OL.pure S (Lf.run_pickT (S.ev rfl) hb (S.ev rfl)) rfl rfl trivial ?_
      clear S; intro aa S
      refine OL.nil ?_
      exact ⟨_, _, S.sub _ ⟨rfl, rfl, rfl, rfl, rfl, trivial⟩, H⟩
    · replace H := H.2 hb
      refine OL.not S rfl rfl (GNo.mk rfl rfl hb) ?_
      clear S; intro aa S
      refine OL.not S rfl rfl (GNo.mk rfl rfl hb) ?_
      clear S; intro aa S
      refine OL.not S rfl rfl (GNo.mk rfl rfl hb) ?_
      clear S; intro aa S
      refine OL.not S rfl rfl (GNo.mk rfl rfl hb) ?_
      clear S; intro aa S
      refine OL.not S rfl rfl (GNo.mk rfl rfl hb) ?_
      clear S; intro aa S
      refine OL.not S rfl rfl (GNo.mk rfl rfl hb) ?_
      clear S; intro aa S
      refine OL.not S rfl rfl (GNo.mk rfl rfl hb) ?_
      clear S; intro aa S
      refine OL.pure S (Lf.run_pickF (S.ev rfl) hb (S.ev rfl)) rfl rfl trivial ?_
      clear S; intro aa S
      refine OL.nil ?_
      exact ⟨_, _, S.sub _ ⟨rfl, rfl, rfl, rfl, rfl, trivial⟩, H⟩
  · clear S aa
    rintro aa ww ⟨x14, h2, S, HJ⟩
    replace H := HK _ _ HJ
    clear HK HJ
    refine OL.pure S (Lf.run_move (S.ev rfl)) rfl rfl trivial ?_
    clear S; intro aa S
    obtain ⟨J_1, H, HK_1⟩ := H
    refine OL.cutN 8 (fun aa ww => ∃ x23 h5, St 56 ((23, Value.bool x23) :: [(0, Value.int .u64 a0), (1, Value.int .u64 b1), (5, Value.bool x5), (6, Value.bool x5), (14, Value.bool x14), (15, Value.bool x14)]) h5 w0 aa ww ∧ J_1 x23 h5) ?_ ?_
    · rcases Bool.eq_false_or_eq_true x14 with hb_1 | hb_1
      · replace H := H.1 hb_1
        refine OL.pure S (Lf.run_move (S.ev rfl)) rfl rfl (GOk.mk rfl rfl hb_1) ?_
        clear S; intro aa S
        refine OL.pure S (Lf.run_move (S.ev rfl)) rfl rfl (GOk.mk rfl rfl hb_1) ?_
        clear S; intro aa S
        refine ol_cal S H isfn25 rfl rfl (GOk.mk rfl rfl hb_1) ?_
        clear S H aa; intro u_3 aa ww h6 H S
        obtain ⟨x18, rfl, H⟩ := H
        refine OL.pure S (Lf.run_move (S.ev rfl)) rfl rfl (GOk.mk rfl rfl hb_1) ?_
        clear S; intro aa S
        refine OL.pure S (Lf.run_move (S.ev rfl)) rfl rfl (GOk.mk rfl rfl hb_1) ?_
        clear S; intro aa S
        refine ol_cal S H isfn26 rfl rfl (GOk.mk rfl rfl hb_1) ?_
        clear S H aa; intro u_4 aa ww h7 H S
        obtain ⟨x21, rfl, H⟩ := H
        refine OL.pure S (Lf.run_eql (S.ev rfl) (S.ev rfl)) rfl rfl (GOk.mk rfl rfl hb_1) ?_
        clear S; intro aa S
        refine OL.pure S (Lf.run_pickT (S.ev rfl) hb_1 (S.ev rfl)) rfl rfl trivial ?_
        clear S; intro aa S
        refine OL.nil ?_
        exact ⟨_, _, S.sub _ ⟨rfl, rfl, rfl, rfl, rfl, rfl, rfl, trivial⟩, H⟩
      · replace H := H.2 hb_1
        refine OL.not S rfl rfl (GNo.mk rfl rfl hb_1) ?_
        clear S; intro aa S
        refine OL.not S rfl rfl (GNo.mk rfl rfl hb_1) ?_
        clear S; intro aa S
        refine OL.not S rfl rfl (GNo.mk rfl rfl hb_1) ?_
        clear S; intro aa S
        refine OL.not S rfl rfl (GNo.mk rfl rfl hb_1) ?_
        clear S; intro aa S
        refine OL.not S rfl rfl (GNo.mk rfl rfl hb_1) ?_
        clear S; intro aa S
        refine OL.not S rfl rfl (GNo.mk rfl rfl hb_1) ?_
        clear S; intro aa S
        refine OL.not S rfl rfl (GNo.mk rfl rfl hb_1) ?_
        clear S; intro aa S
        refine OL.pure S (Lf.run_pickF (S.ev rfl) hb_1 (S.ev rfl)) rfl rfl trivial ?_
        clear S; intro aa S
        refine OL.nil ?_
        exact ⟨_, _, S.sub _ ⟨rfl, rfl, rfl, rfl, rfl, rfl, rfl, trivial⟩, H⟩
    · clear S aa
      rintro aa ww ⟨x23, h5, S, HJ⟩
      replace H := HK_1 _ _ HJ
      clear HK_1 HJ
      refine OL.pure S (Lf.run_move (S.ev rfl)) rfl rfl trivial ?_
      clear S; intro aa S
      obtain ⟨J_2, H, HK_2⟩ := H
      refine OL.cutN 8 (fun aa ww => ∃ x32 h8, St 56 ((32, Value.bool x32) :: [(0, Value.int .u64 a0), (1, Value.int .u64 b1), (5, Value.bool x5), (6, Value.bool x5), (14, Value.bool x14), (15, Value.bool x14), (23, Value.bool x23), (24, Value.bool x23)]) h8 w0 aa ww ∧ J_2 x32 h8) ?_ ?_
      · rcases Bool.eq_false_or_eq_true x23 with hb_2 | hb_2
        · replace H := H.1 hb_2
          refine OL.pure S (Lf.run_move (S.ev rfl)) rfl rfl (GOk.mk rfl rfl hb_2) ?_
          clear S; intro aa S
          refine OL.pure S (Lf.run_move (S.ev rfl)) rfl rfl (GOk.mk rfl rfl hb_2) ?_
          clear S; intro aa S
          refine ol_cal S H isfn27 rfl rfl (GOk.mk rfl rfl hb_2) ?_
          clear S H aa; intro u_5 aa ww h9 H S
          obtain ⟨x27, rfl, H⟩ := H
          refine OL.pure S (Lf.run_move (S.ev rfl)) rfl rfl (GOk.mk rfl rfl hb_2) ?_
          clear S; intro aa S
          refine OL.pure S (Lf.run_move (S.ev rfl)) rfl rfl (GOk.mk rfl rfl hb_2) ?_
          clear S; intro aa S
          refine ol_cal S H isfn28 rfl rfl (GOk.mk rfl rfl hb_2) ?_
          clear S H aa; intro u_6 aa ww h10 H S
          obtain ⟨x30, rfl, H⟩ := H
          refine OL.pure S (Lf.run_eql (S.ev rfl) (S.ev rfl)) rfl rfl (GOk.mk rfl rfl hb_2) ?_
          clear S; intro aa S
          refine OL.pure S (Lf.run_pickT (S.ev rfl) hb_2 (S.ev rfl)) rfl rfl trivial ?_
          clear S; intro aa S
          refine OL.nil ?_
          exact ⟨_, _, S.sub _ ⟨rfl, rfl, rfl, rfl, rfl, rfl, rfl, rfl, rfl, trivial⟩, H⟩
        · replace H := H.2 hb_2
          refine OL.not S rfl rfl (GNo.mk rfl rfl hb_2) ?_
          clear S; intro aa S
          refine OL.not S rfl rfl (GNo.mk rfl rfl hb_2) ?_
          clear S; intro aa S
          refine OL.not S rfl rfl (GNo.mk rfl rfl hb_2) ?_
          clear S; intro aa S
          refine OL.not S rfl rfl (GNo.mk rfl rfl hb_2) ?_
          clear S; intro aa S
          refine OL.not S rfl rfl (GNo.mk rfl rfl hb_2) ?_
          clear S; intro aa S
          refine OL.not S rfl rfl (GNo.mk rfl rfl hb_2) ?_
          clear S; intro aa S
          refine OL.not S rfl rfl (GNo.mk rfl rfl hb_2) ?_
          clear S; intro aa S
          refine OL.pure S (Lf.run_pickF (S.ev rfl) hb_2 (S.ev rfl)) rfl rfl trivial ?_
          clear S; intro aa S
          refine OL.nil ?_
          exact ⟨_, _, S.sub _ ⟨rfl, rfl, rfl, rfl, rfl, rfl, rfl, rfl, rfl, trivial⟩, H⟩
      · clear S aa
        rintro aa ww ⟨x32, h8, S, HJ⟩
        replace H := HK_2 _ _ HJ
        clear HK_2 HJ
        refine OL.pure S (Lf.run_move (S.ev rfl)) rfl rfl trivial ?_
        clear S; intro aa S
        obtain ⟨J_3, H, HK_3⟩ := H
        refine OL.cutN 8 (fun aa ww => ∃ x41 h11, St 56 ((41, Value.bool x41) :: [(0, Value.int .u64 a0), (1, Value.int .u64 b1), (5, Value.bool x5), (6, Value.bool x5), (14, Value.bool x14), (15, Value.bool x14), (23, Value.bool x23), (24, Value.bool x23), (32, Value.bool x32), (33, Value.bool x32)]) h11 w0 aa ww ∧ J_3 x41 h11) ?_ ?_
        · rcases Bool.eq_false_or_eq_true x32 with hb_3 | hb_3
          · replace H := H.1 hb_3
            refine OL.pure S (Lf.run_move (S.ev rfl)) rfl rfl (GOk.mk rfl rfl hb_3) ?_
            clear S; intro aa S
            refine OL.pure S (Lf.run_move (S.ev rfl)) rfl rfl (GOk.mk rfl rfl hb_3) ?_
            clear S; intro aa S
            refine ol_cal S H isfn29 rfl rfl (GOk.mk rfl rfl hb_3) ?_
            clear S H aa; intro u_7 aa ww h12 H S
            obtain ⟨x36, rfl, H⟩ := H
            refine OL.pure S (Lf.run_move (S.ev rfl)) rfl rfl (GOk.mk rfl rfl hb_3) ?_
            clear S; intro aa S
            refine OL.pure S (Lf.run_move (S.ev rfl)) rfl rfl (GOk.mk rfl rfl hb_3) ?_
            clear S; intro aa S
            refine ol_cal S H isfn30 rfl rfl (GOk.mk rfl rfl hb_3) ?_
            clear S H aa; intro u_8 aa ww h13 H S
            obtain ⟨x39, rfl, H⟩ := H
            refine OL.pure S (Lf.run_eql (S.ev rfl) (S.ev rfl)) rfl rfl (GOk.mk rfl rfl hb_3) ?_
            clear S; intro aa S
            refine OL.pure S (Lf.run_pickT (S.ev rfl) hb_3 (S.ev rfl)) rfl rfl trivial ?_
            clear S; intro aa S
            refine OL.nil ?_
            exact ⟨_, _, S.sub _ ⟨rfl, rfl, rfl, rfl, rfl, rfl, rfl, rfl, rfl, rfl, rfl, trivial⟩, H⟩
          · replace H := H.2 hb_3
            refine OL.not S rfl rfl (GNo.mk rfl rfl hb_3) ?_
            clear S; intro aa S
            refine OL.not S rfl rfl (GNo.mk rfl rfl hb_3) ?_
            clear S; intro aa S
            refine OL.not S rfl rfl (GNo.mk rfl rfl hb_3) ?_
            clear S; intro aa S
            refine OL.not S rfl rfl (GNo.mk rfl rfl hb_3) ?_
            clear S; intro aa S
            refine OL.not S rfl rfl (GNo.mk rfl rfl hb_3) ?_
            clear S; intro aa S
            refine OL.not S rfl rfl (GNo.mk rfl rfl hb_3) ?_
            clear S; intro aa S
            refine OL.not S rfl rfl (GNo.mk rfl rfl hb_3) ?_
            clear S; intro aa S
            refine OL.pure S (Lf.run_pickF (S.ev rfl) hb_3 (S.ev rfl)) rfl rfl trivial ?_
            clear S; intro aa S
            refine OL.nil ?_
            exact ⟨_, _, S.sub _ ⟨rfl, rfl, rfl, rfl, rfl, rfl, rfl, rfl, rfl, rfl, rfl, trivial⟩, H⟩
        · clear S aa
          rintro aa ww ⟨x41, h11, S, HJ⟩
          replace H := HK_3 _ _ HJ
          clear HK_3 HJ
          refine OL.pure S (Lf.run_move (S.ev rfl)) rfl rfl trivial ?_
          clear S; intro aa S
          obtain ⟨J_4, H, HK_4⟩ := H
          refine OL.cutN 6 (fun aa ww => ∃ x48 h14, St 56 ((48, Value.bool x48) :: [(0, Value.int .u64 a0), (1, Value.int .u64 b1), (5, Value.bool x5), (6, Value.bool x5), (14, Value.bool x14), (15, Value.bool x14), (23, Value.bool x23), (24, Value.bool x23), (32, Value.bool x32), (33, Value.bool x32), (41, Value.bool x41), (42, Value.bool x41)]) h14 w0 aa ww ∧ J_4 x48 h14) ?_ ?_
          · rcases Bool.eq_false_or_eq_true x41 with hb_4 | hb_4
            · replace H := H.1 hb_4
              refine OL.pure S (Lf.run_move (S.ev rfl)) rfl rfl (GOk.mk rfl rfl hb_4) ?_
              clear S; intro aa S
              refine ol_cal S H isfn31 rfl rfl (GOk.mk rfl rfl hb_4) ?_
              clear S H aa; intro u_9 aa ww h15 H S
              obtain ⟨x44, rfl, H⟩ := H
              refine OL.pure S (Lf.run_move (S.ev rfl)) rfl rfl (GOk.mk rfl rfl hb_4) ?_
              clear S; intro aa S
              refine ol_cal S H isfn32 rfl rfl (GOk.mk rfl rfl hb_4) ?_
              clear S H aa; intro u_10 aa ww h16 H S
              obtain ⟨x46, rfl, H⟩ := H
              refine OL.pure S (Lf.run_eql (S.ev rfl) (S.ev rfl)) rfl rfl (GOk.mk rfl rfl hb_4) ?_
              clear S; intro aa S
              refine OL.pure S (Lf.run_pickT (S.ev rfl) hb_4 (S.ev rfl)) rfl rfl trivial ?_
              clear S; intro aa S
              refine OL.nil ?_
              exact ⟨_, _, S.sub _ ⟨rfl, rfl, rfl, rfl, rfl, rfl, rfl, rfl, rfl, rfl, rfl, rfl, rfl, trivial⟩, H⟩
            · replace H := H.2 hb_4
              refine OL.not S rfl rfl (GNo.mk rfl rfl hb_4) ?_
              clear S; intro aa S
              refine OL.not S rfl rfl (GNo.mk rfl rfl hb_4) ?_
              clear S; intro aa S
              refine OL.not S rfl rfl (GNo.mk rfl rfl hb_4) ?_
              clear S; intro aa S
              refine OL.not S rfl rfl (GNo.mk rfl rfl hb_4) ?_
              clear S; intro aa S
              refine OL.not S rfl rfl (GNo.mk rfl rfl hb_4) ?_
              clear S; intro aa S
              refine OL.pure S (Lf.run_pickF (S.ev rfl) hb_4 (S.ev rfl)) rfl rfl trivial ?_
              clear S; intro aa S
              refine OL.nil ?_
              exact ⟨_, _, S.sub _ ⟨rfl, rfl, rfl, rfl, rfl, rfl, rfl, rfl, rfl, rfl, rfl, rfl, rfl, trivial⟩, H⟩
          · clear S aa
            rintro aa ww ⟨x48, h14, S, HJ⟩
            replace H := HK_4 _ _ HJ
            clear HK_4 HJ
            refine OL.pure S (Lf.run_move (S.ev rfl)) rfl rfl trivial ?_
            clear S; intro aa S
            obtain ⟨J_5, H, HK_5⟩ := H
            refine OL.cutN 6 (fun aa ww => ∃ x55 h17, St 56 ((55, Value.bool x55) :: [(0, Value.int .u64 a0), (1, Value.int .u64 b1), (5, Value.bool x5), (6, Value.bool x5), (14, Value.bool x14), (15, Value.bool x14), (23, Value.bool x23), (24, Value.bool x23), (32, Value.bool x32), (33, Value.bool x32), (41, Value.bool x41), (42, Value.bool x41), (48, Value.bool x48), (49, Value.bool x48)]) h17 w0 aa ww ∧ J_5 x55 h17) ?_ ?_
            · rcases Bool.eq_false_or_eq_true x48 with hb_5 | hb_5
              · replace H := H.1 hb_5
                refine OL.pure S (Lf.run_move (S.ev rfl)) rfl rfl (GOk.mk rfl rfl hb_5) ?_
                clear S; intro aa S
                refine ol_cal S H isfn33 rfl rfl (GOk.mk rfl rfl hb_5) ?_
                clear S H aa; intro u_11 aa ww h18 H S
                obtain ⟨x51, rfl, H⟩ := H
                refine OL.pure S (Lf.run_move (S.ev rfl)) rfl rfl (GOk.mk rfl rfl hb_5) ?_
                clear S; intro aa S
                refine ol_cal S H isfn34 rfl rfl (GOk.mk rfl rfl hb_5) ?_
                clear S H aa; intro u_12 aa ww h19 H S
                obtain ⟨x53, rfl, H⟩ := H
                refine OL.pure S (Lf.run_eql (S.ev rfl) (S.ev rfl)) rfl rfl (GOk.mk rfl rfl hb_5) ?_
                clear S; intro aa S
                refine OL.pure S (Lf.run_pickT (S.ev rfl) hb_5 (S.ev rfl)) rfl rfl trivial ?_
                clear S; intro aa S
                refine OL.nil ?_
                exact ⟨_, _, S.sub _ ⟨rfl, rfl, rfl, rfl, rfl, rfl, rfl, rfl, rfl, rfl, rfl, rfl, rfl, rfl, rfl, trivial⟩, H⟩
              · replace H := H.2 hb_5
                refine OL.not S rfl rfl (GNo.mk rfl rfl hb_5) ?_
                clear S; intro aa S
                refine OL.not S rfl rfl (GNo.mk rfl rfl hb_5) ?_
                clear S; intro aa S
                refine OL.not S rfl rfl (GNo.mk rfl rfl hb_5) ?_
                clear S; intro aa S
                refine OL.not S rfl rfl (GNo.mk rfl rfl hb_5) ?_
                clear S; intro aa S
                refine OL.not S rfl rfl (GNo.mk rfl rfl hb_5) ?_
                clear S; intro aa S
                refine OL.pure S (Lf.run_pickF (S.ev rfl) hb_5 (S.ev rfl)) rfl rfl trivial ?_
                clear S; intro aa S
                refine OL.nil ?_
                exact ⟨_, _, S.sub _ ⟨rfl, rfl, rfl, rfl, rfl, rfl, rfl, rfl, rfl, rfl, rfl, rfl, rfl, rfl, rfl, trivial⟩, H⟩
            · clear S aa
              rintro aa ww ⟨x55, h17, S, HJ⟩
              replace H := HK_5 _ _ HJ
              clear HK_5 HJ
              refine OL.pure S (Lf.run_assign (S.ev rfl)) rfl rfl trivial ?_
              clear S; intro aa S
              refine OL.nil ?_
              refine W.ret ?_
              exact Ret.one S rfl rfl H

/-- chattel chattellaw02.NumTurns -/
def L6 (a0 : Int) (b1 : Int) (h : Heap) (R : Value → Heap → Prop) : Prop :=
  cal Try.prog 10 #[] h fun u h1 => asB u fun x7 =>
  ∃ J : Bool → Heap → Prop, (orj (!x7) (fun k =>
    cal Try.prog 23 #[Value.int .u64 a0, Value.int .u64 b1] h1 fun u_1 h3 => asI .u64 u_1 fun x12 =>
    cal Try.prog 23 #[Value.int .u64 b1, Value.int .u64 a0] h3 fun u_2 h4 => asI .u64 u_2 fun x15 =>
    k (x12 != x15) h4) h1 J) ∧ ∀ x17 h2, J x17 h2 →
  ∃ J_1 : Bool → Heap → Prop, (orj x17 (fun k_1 =>
    cal Try.prog 27 #[Value.int .u64 a0, Value.int .u64 b1] h2 fun u_3 h6 => asI .u64 u_3 fun x21 =>
    cal Try.prog 27 #[Value.int .u64 b1, Value.int .u64 a0] h6 fun u_4 h7 => asI .u64 u_4 fun x24 =>
    k_1 (x21 != x24) h7) h2 J_1) ∧ ∀ x26 h5, J_1 x26 h5 →
  ∃ J_2 : Bool → Heap → Prop, (orj x26 (fun k_2 =>
    cal Try.prog 31 #[Value.int .u64 a0] h5 fun u_5 h9 => asI .u64 u_5 fun x29 =>
    cal Try.prog 31 #[Value.int .u64 x29] h9 fun u_6 h10 => asI .u64 u_6 fun x30 =>
    cal Try.prog 33 #[Value.int .u64 a0] h10 fun u_7 h11 => asI .u64 u_7 fun x32 =>
    k_2 (x30 != x32) h11) h5 J_2) ∧ ∀ x34 h8, J_2 x34 h8 →
  ifb x34 (
    R (Value.bool false) h8) (
    cal Try.prog 25 #[Value.int .u64 a0, Value.int .u64 b1] h8 fun u_8 h12 => asI .u64 u_8 fun x37 =>
    cal Try.prog 31 #[Value.int .u64 x37] h12 fun u_9 h13 => asI .u64 u_9 fun x38 =>
    cal Try.prog 25 #[Value.int .u64 b1, Value.int .u64 a0] h13 fun u_10 h14 => asI .u64 u_10 fun x41 =>
    cal Try.prog 13 #[Value.int .u64 x38, Value.int .u64 x41] h14 fun u_11 h15 => asB u_11 fun x44 =>
    R (Value.bool (x44 || ((x38 == 9221120237041090561) && (x41 == 9221120237041090561)))) h15)

set_option maxRecDepth 100000 in

theorem F6 {a0 b1 h : _} {R : Value → Heap → Prop} (H : L6 a0 b1 h R) : CallsH Try.prog 6 #[Value.int .u64 a0, Value.int .u64 b1] h R := by
  refine CallsH.enter (n := 53) Try.func6 rfl rfl rfl rfl ?_
  intro w0 aa ww S
  unfold L6 at H
  refine W.seq ?_
  replace S := S.sub [(0, Value.int .u64 a0), (1, Value.int .u64 b1)] ⟨rfl, rfl, trivial⟩
  refine W.region ?_
  refine OL.pure S (Lf.run_assign (S.ev rfl)) rfl rfl trivial ?_
  clear S; intro aa S
  refine OL.nil ?_
  refine W.seq ?_
  refine W.seq ?_
  replace S := S.sub [(0, Value.int .u64 a0), (1, Value.int .u64 b1)] ⟨rfl, rfl, trivial⟩
  refine W.region ?_
  refine ol_cal S H isfn10 rfl rfl trivial ?_
  clear S H aa; intro u aa ww h1 H S
  obtain ⟨x7, rfl, H⟩ := H
  refine OL.pure S (Lf.run_not (S.ev rfl)) rfl rfl trivial ?_
  clear S; intro aa S
  refine OL.pure S (Lf.run_move (S.ev rfl)) rfl rfl trivial ?_
  clear S; intro aa S
  obtain ⟨J, H, HK⟩ := H
  refine OL.cutN 8 (fun aa ww => ∃ x17 h2, St 53 ((17, Value.bool x17) :: [(0, Value.int .u64 a0), (1, Value.int .u64 b1), (7, Value.bool x7), (8, Value.bool (!x7)), (9, Value.bool (!x7))]) h2 w0 aa ww ∧ J x17 h2) ?_ ?_
  · rcases Bool.eq_false_or_eq_true (!x7) with hb | hb
    · replace H := H.1 hb
      refine OL.not S rfl rfl (GNo.mk rfl rfl hb) ?_
      clear S; intro aa S
      refine OL.not S rfl rfl (GNo.mk rfl rfl hb) ?_
      clear S; intro aa S
      refine OL.not S rfl rfl (GNo.mk rfl rfl hb) ?_
      clear S; intro aa S
      refine OL.not S rfl rfl (GNo.mk rfl rfl hb) ?_
      clear S; intro aa S
      refine OL.not S rfl rfl (GNo.mk rfl rfl hb) ?_
      clear S; intro aa S
      refine OL.not S rfl rfl (GNo.mk rfl rfl hb) ?_
      clear S; intro aa S
      refine OL.not S rfl rfl (GNo.mk rfl rfl hb) ?_
      clear S; intro aa S
      refine OL.pure S (Lf.run_pickT (S.ev rfl) hb (S.ev rfl)) rfl rfl trivial ?_
      clear S; intro aa S
      refine OL.nil ?_
      exact ⟨_, _, S.sub _ ⟨rfl, rfl, rfl, rfl, rfl, rfl, trivial⟩, H⟩
    · replace H := H.2 hb
      refine OL.pure S (Lf.run_move (S.ev rfl)) rfl rfl (GOk.mk rfl rfl hb) ?_
      clear S; intro aa S
      refine OL.pure S (Lf.run_move (S.ev rfl)) rfl rfl (GOk.mk rfl rfl hb) ?_
      clear S; intro aa S
      refine ol_cal S H isfn23 rfl rfl (GOk.mk rfl rfl hb) ?_
      clear S H aa; intro u_1 aa ww h3 H S
      obtain ⟨x12, rfl, H⟩ := H
      refine OL.pure S (Lf.run_move (S.ev rfl)) rfl rfl (GOk.mk rfl rfl hb) ?_
      clear S; intro aa S
      refine OL.pure S (Lf.run_move (S.ev rfl)) rfl rfl (GOk.mk rfl rfl hb) ?_
      clear S; intro aa S
      refine ol_cal S H isfn23 rfl rfl (GOk.mk rfl rfl hb) ?_
      clear S H aa; intro u_2 aa ww h4 H S
      obtain ⟨x15, rfl, H⟩ := H
      refine OL.pure S (Lf.run_neq (S.ev rfl) (S.ev rfl)) rfl rfl (GOk.mk rfl rfl hb) ?_
      clear S; intro aa S
      refine OL.pure S (Lf.run_pickF (S.ev rfl) hb (S.ev rfl)) rfl rfl trivial ?_
      clear S; intro aa S
      refine OL.nil ?_
      exact ⟨_, _, S.sub _ ⟨rfl, rfl, rfl, rfl, rfl, rfl, trivial⟩, H⟩
  · clear S aa
    rintro aa ww ⟨x17, h2, S, HJ⟩
    replace H := HK _ _ HJ
    clear HK HJ
    refine OL.pure S (Lf.run_move (S.ev rfl)) rfl rfl trivial ?_
    clear S; intro aa S
    obtain ⟨J_1, H, HK_1⟩ := H
    refine OL.cutN 8 (fun aa ww => ∃ x26 h5, St 53 ((26, Value.bool x26) :: [(0, Value.int .u64 a0), (1, Value.int .u64 b1), (7, Value.bool x7), (8, Value.bool (!x7)), (9, Value.bool (!x7)), (17, Value.bool x17), (18, Value.bool x17)]) h5 w0 aa ww ∧ J_1 x26 h5) ?_ ?_
    · rcases Bool.eq_false_or_eq_true x17 with hb_1 | hb_1
      · replace H := H.1 hb_1
        refine OL.not S rfl rfl (GNo.mk rfl rfl hb_1) ?_
        clear S; intro aa S
        refine OL.not S rfl rfl (GNo.mk rfl rfl hb_1) ?_
        clear S; intro aa S
        refine OL.not S rfl rfl (GNo.mk rfl rfl hb_1) ?_
        clear S; intro aa S
        refine OL.not S rfl rfl (GNo.mk rfl rfl hb_1) ?_
        clear S; intro aa S
        refine OL.not S rfl rfl (GNo.mk rfl rfl hb_1) ?_
        clear S; intro aa S
        refine OL.not S rfl rfl (GNo.mk rfl rfl hb_1) ?_
        clear S; intro aa S
        refine OL.not S rfl rfl (GNo.mk rfl rfl hb_1) ?_
        clear S; intro aa S
        refine OL.pure S (Lf.run_pickT (S.ev rfl) hb_1 (S.ev rfl)) rfl rfl trivial ?_
        clear S; intro aa S
        refine OL.nil ?_
        exact ⟨_, _, S.sub _ ⟨rfl, rfl, rfl, rfl, rfl, rfl, rfl, rfl, trivial⟩, H⟩
      · replace H := H.2 hb_1
        refine OL.pure S (Lf.run_move (S.ev rfl)) rfl rfl (GOk.mk rfl rfl hb_1) ?_
        clear S; intro aa S
        refine OL.pure S (Lf.run_move (S.ev rfl)) rfl rfl (GOk.mk rfl rfl hb_1) ?_
        clear S; intro aa S
        refine ol_cal S H isfn27 rfl rfl (GOk.mk rfl rfl hb_1) ?_
        clear S H aa; intro u_3 aa ww h6 H S
        obtain ⟨x21, rfl, H⟩ := H
        refine OL.pure S (Lf.run_move (S.ev rfl)) rfl rfl (GOk.mk rfl rfl hb_1) ?_
        clear S; intro aa S
        refine OL.pure S (Lf.run_move (S.ev rfl)) rfl rfl (GOk.mk rfl rfl hb_1) ?_
        clear S; intro aa S
        refine ol_cal S H isfn27 rfl rfl (GOk.mk rfl rfl hb_1) ?_
        clear S H aa; intro u_4 aa ww h7 H S
        obtain ⟨x24, rfl, H⟩ := H
        refine OL.pure S (Lf.run_neq (S.ev rfl) (S.ev rfl)) rfl rfl (GOk.mk rfl rfl hb_1) ?_
        clear S; intro aa S
        refine OL.pure S (Lf.run_pickF (S.ev rfl) hb_1 (S.ev rfl)) rfl rfl trivial ?_
        clear S; intro aa S
        refine OL.nil ?_
        exact ⟨_, _, S.sub _ ⟨rfl, rfl, rfl, rfl, rfl, rfl, rfl, rfl, trivial⟩, H⟩
    · clear S aa
      rintro aa ww ⟨x26, h5, S, HJ⟩
      replace H := HK_1 _ _ HJ
      clear HK_1 HJ
      refine OL.pure S (Lf.run_move (S.ev rfl)) rfl rfl trivial ?_
      clear S; intro aa S
      obtain ⟨J_2, H, HK_2⟩ := H
      refine OL.cutN 7 (fun aa ww => ∃ x34 h8, St 53 ((34, Value.bool x34) :: [(0, Value.int .u64 a0), (1, Value.int .u64 b1), (7, Value.bool x7), (8, Value.bool (!x7)), (9, Value.bool (!x7)), (17, Value.bool x17), (18, Value.bool x17), (26, Value.bool x26), (27, Value.bool x26)]) h8 w0 aa ww ∧ J_2 x34 h8) ?_ ?_
      · rcases Bool.eq_false_or_eq_true x26 with hb_2 | hb_2
        · replace H := H.1 hb_2
          refine OL.not S rfl rfl (GNo.mk rfl rfl hb_2) ?_
          clear S; intro aa S
          refine OL.not S rfl rfl (GNo.mk rfl rfl hb_2) ?_
          clear S; intro aa S
          refine OL.not S rfl rfl (GNo.mk rfl rfl hb_2) ?_
          clear S; intro aa S
          refine OL.not S rfl rfl (GNo.mk rfl rfl hb_2) ?_
          clear S; intro aa S
          refine OL.not S rfl rfl (GNo.mk rfl rfl hb_2) ?_
          clear S; intro aa S
          refine OL.not S rfl rfl (GNo.mk rfl rfl hb_2) ?_
          clear S; intro aa S
          refine OL.pure S (Lf.run_pickT (S.ev rfl) hb_2 (S.ev rfl)) rfl rfl trivial ?_
          clear S; intro aa S
          refine OL.nil ?_
          exact ⟨_, _, S.sub _ ⟨rfl, rfl, rfl, rfl, rfl, rfl, rfl, rfl, rfl, rfl, trivial⟩, H⟩
        · replace H := H.2 hb_2
          refine OL.pure S (Lf.run_move (S.ev rfl)) rfl rfl (GOk.mk rfl rfl hb_2) ?_
          clear S; intro aa S
          refine ol_cal S H isfn31 rfl rfl (GOk.mk rfl rfl hb_2) ?_
          clear S H aa; intro u_5 aa ww h9 H S
          obtain ⟨x29, rfl, H⟩ := H
          refine ol_cal S H isfn31 rfl rfl (GOk.mk rfl rfl hb_2) ?_
          clear S H aa; intro u_6 aa ww h10 H S
          obtain ⟨x30, rfl, H⟩ := H
          refine OL.pure S (Lf.run_move (S.ev rfl)) rfl rfl (GOk.mk rfl rfl hb_2) ?_
          clear S; intro aa S
          refine ol_cal S H isfn33 rfl rfl (GOk.mk rfl rfl hb_2) ?_
          clear S H aa; intro u_7 aa ww h11 H S
          obtain ⟨x32, rfl, H⟩ := H
          refine OL.pure S (Lf.run_neq (S.ev rfl) (S.ev rfl)) rfl rfl (GOk.mk rfl rfl hb_2) ?_
          clear S; intro aa S
          refine OL.pure S (Lf.run_pickF (S.ev rfl) hb_2 (S.ev rfl)) rfl rfl trivial ?_
          clear S; intro aa S
          refine OL.nil ?_
          exact ⟨_, _, S.sub _ ⟨rfl, rfl, rfl, rfl, rfl, rfl, rfl, rfl, rfl, rfl, trivial⟩, H⟩
      · clear S aa
        rintro aa ww ⟨x34, h8, S, HJ⟩
        replace H := HK_2 _ _ HJ
        clear HK_2 HJ
        refine OL.nil ?_
        refine W.cond S (b := x34) rfl (fun hb_3 => ?_) (fun hb_3 => ?_)
        · replace H := H.1 hb_3
          refine W.seq ?_
          replace S := S.sub [] trivial
          refine W.region ?_
          refine OL.pure S (Lf.run_assign (S.ev rfl)) rfl rfl trivial ?_
          clear S; intro aa S
          refine OL.nil ?_
          refine W.ret ?_
          exact Ret.one S rfl rfl H
        · replace H := H.2 hb_3
          refine W.skip ?_
          refine W.seq ?_
          replace S := S.sub [(0, Value.int .u64 a0), (1, Value.int .u64 b1)] ⟨rfl, rfl, trivial⟩
          refine W.region ?_
          refine OL.pure S (Lf.run_move (S.ev rfl)) rfl rfl trivial ?_
          clear S; intro aa S
          refine OL.pure S (Lf.run_move (S.ev rfl)) rfl rfl trivial ?_
          clear S; intro aa S
          refine ol_cal S H isfn25 rfl rfl trivial ?_
          clear S H aa; intro u_8 aa ww h12 H S
          obtain ⟨x37, rfl, H⟩ := H
          refine ol_cal S H isfn31 rfl rfl trivial ?_
          clear S H aa; intro u_9 aa ww h13 H S
          obtain ⟨x38, rfl, H⟩ := H
          refine OL.pure S (Lf.run_move (S.ev rfl)) rfl rfl trivial ?_
          clear S; intro aa S
          refine OL.pure S (Lf.run_move (S.ev rfl)) rfl rfl trivial ?_
          clear S; intro aa S
          refine ol_cal S H isfn25 rfl rfl trivial ?_
          clear S H aa; intro u_10 aa ww h14 H S
          obtain ⟨x41, rfl, H⟩ := H
          refine OL.pure S (Lf.run_assign (S.ev rfl)) rfl rfl trivial ?_
          clear S; intro aa S
          refine OL.pure S (Lf.run_assign (S.ev rfl)) rfl rfl trivial ?_
          clear S; intro aa S
          refine OL.nil ?_
          refine W.seq ?_
          replace S := S.sub [(5, Value.int .u64 x38), (6, Value.int .u64 x41)] ⟨rfl, rfl, trivial⟩
          refine W.region ?_
          refine OL.pure S (Lf.run_move (S.ev rfl)) rfl rfl trivial ?_
          clear S; intro aa S
          refine OL.pure S (Lf.run_move (S.ev rfl)) rfl rfl trivial ?_
          clear S; intro aa S
          refine ol_cal S H isfn13 rfl rfl trivial ?_
          clear S H aa; intro u_11 aa ww h15 H S
          obtain ⟨x44, rfl, H⟩ := H
          refine OL.pure S (Lf.run_move (S.ev rfl)) rfl rfl trivial ?_
          clear S; intro aa S
          refine OL.cutN 7 (fun aa ww => St 53 ((52, Value.bool (x44 || ((x38 == 9221120237041090561) && (x41 == 9221120237041090561)))) :: [(5, Value.int .u64 x38), (6, Value.int .u64 x41), (42, Value.int .u64 x38), (43, Value.int .u64 x41), (44, Value.bool x44), (45, Value.bool x44)]) h15 w0 aa ww) ?_ ?_
          · rcases Bool.eq_false_or_eq_true x44 with hb_4 | hb_4
            · refine OL.not S rfl rfl (GNo.mk rfl rfl hb_4) ?_
              clear S; intro aa S
              refine OL.not S rfl rfl (GNo.mk rfl rfl hb_4) ?_
              clear S; intro aa S
              refine OL.not S rfl rfl (GNo.mk rfl rfl hb_4) ?_
              clear S; intro aa S
              refine OL.not S rfl rfl (GNo.un rfl rfl) ?_
              clear S; intro aa S
              refine OL.not S rfl rfl (GNo.un rfl rfl) ?_
              clear S; intro aa S
              refine OL.not S rfl rfl (GNo.mk rfl rfl hb_4) ?_
              clear S; intro aa S
              refine OL.pure S (Lf.run_pickT (S.ev rfl) hb_4 (S.ev rfl)) rfl rfl trivial ?_
              clear S; intro aa S
              refine OL.nil ?_
              exact (S.hd (by rw [hb_4, Bool.true_or])).sub _ ⟨rfl, rfl, rfl, rfl, rfl, rfl, rfl, trivial⟩
            · refine OL.pure S (Lf.run_move (S.ev rfl)) rfl rfl (GOk.mk rfl rfl hb_4) ?_
              clear S; intro aa S
              refine OL.pure S (Lf.run_eql (S.ev rfl) (S.ev rfl)) rfl rfl (GOk.mk rfl rfl hb_4) ?_
              clear S; intro aa S
              refine OL.pure S (Lf.run_move (S.ev rfl)) rfl rfl (GOk.mk rfl rfl hb_4) ?_
              clear S; intro aa S
              refine OL.cutN 3 (fun aa ww => St 53 ((51, Value.bool ((x38 == 9221120237041090561) && (x41 == 9221120237041090561))) :: [(5, Value.int .u64 x38), (6, Value.int .u64 x41), (42, Value.int .u64 x38), (43, Value.int .u64 x41), (44, Value.bool x44), (45, Value.bool x44), (46, Value.int .u64 x38), (47, Value.bool (x38 == 9221120237041090561)), (48, Value.bool (x38 == 9221120237041090561))]) h15 w0 aa ww) ?_ ?_
              · rcases Bool.eq_false_or_eq_true (x38 == 9221120237041090561) with hb_5 | hb_5
                · refine OL.pure S (Lf.run_move (S.ev rfl)) rfl rfl (GOk.mk rfl rfl hb_5) ?_
                  clear S; intro aa S
                  refine OL.pure S (Lf.run_eql (S.ev rfl) (S.ev rfl)) rfl rfl (GOk.mk rfl rfl hb_5) ?_
                  clear S; intro aa S
                  refine OL.pure S (Lf.run_pickT (S.ev rfl) hb_5 (S.ev rfl)) rfl rfl (GOk.mk rfl rfl hb_4) ?_
                  clear S; intro aa S
                  refine OL.nil ?_
                  exact (S.hd (by rw [hb_5, Bool.true_and])).sub _ ⟨rfl, rfl, rfl, rfl, rfl, rfl, rfl, rfl, rfl, rfl, trivial⟩
                · refine OL.not S rfl rfl (GNo.mk rfl rfl hb_5) ?_
                  clear S; intro aa S
                  refine OL.not S rfl rfl (GNo.mk rfl rfl hb_5) ?_
                  clear S; intro aa S
                  refine OL.pure S (Lf.run_pickF (S.ev rfl) hb_5 (S.ev rfl)) rfl rfl (GOk.mk rfl rfl hb_4) ?_
                  clear S; intro aa S
                  refine OL.nil ?_
                  exact (S.hd (by rw [hb_5, Bool.false_and])).sub _ ⟨rfl, rfl, rfl, rfl, rfl, rfl, rfl, rfl, rfl, rfl, trivial⟩
              · clear S aa
                intro aa ww S
                refine OL.pure S (Lf.run_pickF (S.ev rfl) hb_4 (S.ev rfl)) rfl rfl trivial ?_
                clear S; intro aa S
                refine OL.nil ?_
                exact (S.hd (by rw [hb_4, Bool.false_or])).sub _ ⟨rfl, rfl, rfl, rfl, rfl, rfl, rfl, trivial⟩
          · clear S aa
            intro aa ww S
            refine OL.pure S (Lf.run_assign (S.ev rfl)) rfl rfl trivial ?_
            clear S; intro aa S
            refine OL.nil ?_
            refine W.ret ?_
            exact Ret.one S rfl rfl H

/-- chattel chattellaw02.NumParts -/
def L7 (a0 : Int) (b1 : Int) (h : Heap) (R : Value → Heap → Prop) : Prop :=
  cal Try.prog 35 #[Value.int .i64 a0, Value.int .i64 b1] h fun u h1 => asTup u fun r16 =>
  elt r16 0 fun u_1 => asI .i64 u_1 fun x17 =>
  elt r16 1 fun u_2 => asB u_2 fun x18 =>
  cal Try.prog 36 #[Value.int .i64 a0, Value.int .i64 b1] h1 fun u_3 h2 => asTup u_3 fun r22 =>
  elt r22 0 fun u_4 => asI .i64 u_4 fun x23 =>
  elt r22 1 fun u_5 => asB u_5 fun x24 =>
  cal Try.prog 37 #[Value.int .i64 a0] h2 fun u_6 h3 => asTup u_6 fun r27 =>
  elt r27 0 fun u_7 => asI .i64 u_7 fun x28 =>
  elt r27 1 fun u_8 => asB u_8 fun x29 =>
  cal Try.prog 38 #[Value.int .i64 a0] h3 fun u_9 h4 => asTup u_9 fun r32 =>
  elt r32 0 fun u_10 => asI .i64 u_10 fun x33 =>
  elt r32 1 fun u_11 => asB u_11 fun x34 =>
  cal Try.prog 10 #[] h4 fun u_12 h5 => asB u_12 fun x35 =>
  R (Value.bool ((((x35 && (x17 == x23)) && (x18 == x24)) && (x28 == x33)) && (x29 == x34))) h5

set_option maxRecDepth 100000 in

theorem F7 {a0 b1 h : _} {R : Value → Heap → Prop} (H : L7 a0 b1 h R) : CallsH Try.prog 7 #[Value.int .i64 a0, Value.int .i64 b1] h R := by
  refine CallsH.enter (n := 56) Try.func7 rfl rfl rfl rfl ?_
  intro w0 aa ww S
  unfold L7 at H
  refine W.seq ?_
  replace S := S.sub [(0, Value.int .i64 a0), (1, Value.int .i64 b1)] ⟨rfl, rfl, trivial⟩
  refine W.region ?_
  refine OL.pure S (Lf.run_assign (S.ev rfl)) rfl rfl trivial ?_
  clear S; intro aa S
  refine OL.nil ?_
  refine W.seq ?_
  replace S := S.sub [(0, Value.int .i64 a0), (1, Value.int .i64 b1)] ⟨rfl, rfl, trivial⟩
  refine W.region ?_
  refine OL.pure S (Lf.run_move (S.ev rfl)) rfl rfl trivial ?_
  clear S; intro aa S
  refine OL.pure S (Lf.run_move (S.ev rfl)) rfl rfl trivial ?_
  clear S; intro aa S
  refine ol_cal S H isfn35 rfl rfl trivial ?_
  clear S H aa; intro u aa ww h1 H S
  obtain ⟨r16, rfl, H⟩ := H
  refine OL.pure S (Lf.run_move (S.ev rfl)) rfl rfl trivial ?_
  clear S; intro aa S
  obtain ⟨u_1, e, x17, rfl, H⟩ := H
  refine OL.pure S (Lf.run_ex (S.ev rfl) e) rfl rfl trivial ?_
  clear S; intro aa S
  obtain ⟨u_2, e_1, x18, rfl, H⟩ := H
  refine OL.pure S (Lf.run_ex (S.ev rfl) e_1) rfl rfl trivial ?_
  clear S; intro aa S
  refine OL.pure S (Lf.run_assign (S.ev rfl)) rfl rfl trivial ?_
  clear S; intro aa S
  refine OL.pure S (Lf.run_assign (S.ev rfl)) rfl rfl trivial ?_
  clear S; intro aa S
  refine OL.nil ?_
  refine W.seq ?_
  replace S := S.sub [(0, Value.int .i64 a0), (1, Value.int .i64 b1), (5, Value.int .i64 x17), (6, Value.bool x18)] ⟨rfl, rfl, rfl, rfl, trivial⟩
  refine W.region ?_
  refine OL.pure S (Lf.run_move (S.ev rfl)) rfl rfl trivial ?_
  clear S; intro aa S
  refine OL.pure S (Lf.run_move (S.ev rfl)) rfl rfl trivial ?_
  clear S; intro aa S
  refine ol_cal S H isfn36 rfl rfl trivial ?_
  clear S H aa; intro u_3 aa ww h2 H S
  obtain ⟨r22, rfl, H⟩ := H
  refine OL.pure S (Lf.run_move (S.ev rfl)) rfl rfl trivial ?_
  clear S; intro aa S
  obtain ⟨u_4, e_2, x23, rfl, H⟩ := H
  refine OL.pure S (Lf.run_ex (S.ev rfl) e_2) rfl rfl trivial ?_
  clear S; intro aa S
  obtain ⟨u_5, e_3, x24, rfl, H⟩ := H
  refine OL.pure S (Lf.run_ex (S.ev rfl) e_3) rfl rfl trivial ?_
  clear S; intro aa S
  refine OL.pure S (Lf.run_assign (S.ev rfl)) rfl rfl trivial ?_
  clear S; intro aa S
  refine OL.pure S (Lf.run_assign (S.ev rfl)) rfl rfl trivial ?_
  clear S; intro aa S
  refine OL.nil ?_
  refine W.seq ?_
  replace S := S.sub [(0, Value.int .i64 a0), (5, Value.int .i64 x17), (6, Value.bool x18), (7, Value.int .i64 x23), (8, Value.bool x24)] ⟨rfl, rfl, rfl, rfl, rfl, trivial⟩
  refine W.region ?_
  refine OL.pure S (Lf.run_move (S.ev rfl)) rfl rfl trivial ?_
  clear S; intro aa S
  refine ol_cal S H isfn37 rfl rfl trivial ?_
  clear S H aa; intro u_6 aa ww h3 H S
  obtain ⟨r27, rfl, H⟩ := H
  refine OL.pure S (Lf.run_move (S.ev rfl)) rfl rfl trivial ?_
  clear S; intro aa S
  obtain ⟨u_7, e_4, x28, rfl, H⟩ := H
  refine OL.pure S (Lf.run_ex (S.ev rfl) e_4) rfl rfl trivial ?_
  clear S; intro aa S
  obtain ⟨u_8, e_5, x29, rfl, H⟩ := H
  refine OL.pure S (Lf.run_ex (S.ev rfl) e_5) rfl rfl trivial ?_
  clear S; intro aa S
  refine OL.pure S (Lf.run_assign (S.ev rfl)) rfl rfl trivial ?_
  clear S; intro aa S
  refine OL.pure S (Lf.run_assign (S.ev rfl)) rfl rfl trivial ?_
  clear S; intro aa S
  refine OL.nil ?_
  refine W.seq ?_
  replace S := S.sub [(0, Value.int .i64 a0), (5, Value.int .i64 x17), (6, Value.bool x18), (7, Value.int .i64 x23), (8, Value.bool x24), (9, Value.int .i64 x28), (10, Value.bool x29)] ⟨rfl, rfl, rfl, rfl, rfl, rfl, rfl, trivial⟩
  refine W.region ?_
  refine OL.pure S (Lf.run_move (S.ev rfl)) rfl rfl trivial ?_
  clear S; intro aa S
  refine ol_cal S H isfn38 rfl rfl trivial ?_
  clear S H aa; intro u_9 aa ww h4 H S
  obtain ⟨r32, rfl, H⟩ := H
  refine OL.pure S (Lf.run_move (S.ev rfl)) rfl rfl trivial ?_
  clear S; intro aa S
  obtain ⟨u_10, e_6, x33, rfl, H⟩ := H
  refine OL.pure S (Lf.run_ex (S.ev rfl) e_6) rfl rfl trivial ?_
  clear S; intro aa S
  obtain ⟨u_11, e_7, x34, rfl, H⟩ := H
  refine OL.pure S (Lf.run_ex (S.ev rfl) e_7) rfl rfl trivial ?_
  clear S; intro aa S
  refine OL.pure S (Lf.run_assign (S.ev rfl)) rfl rfl trivial ?_
  clear S; intro aa S
  refine OL.pure S (Lf.run_assign (S.ev rfl)) rfl rfl trivial ?_
  clear S; intro aa S
  refine OL.nil ?_
  refine W.seq ?_
  replace S := S.sub [(5, Value.int .i64 x17), (6, Value.bool x18), (7, Value.int .i64 x23), (8, Value.bool x24), (9, Value.int .i64 x28), (10, Value.bool x29), (11, Value.int .i64 x33), (12, Value.bool x34)] ⟨rfl, rfl, rfl, rfl, rfl, rfl, rfl, rfl, trivial⟩
  refine W.region ?_
  refine ol_cal S H isfn10 rfl rfl trivial ?_
  clear S H aa; intro u_12 aa ww h5 H S
  obtain ⟨x35, rfl, H⟩ := H
  refine OL.pure S (Lf.run_move (S.ev rfl)) rfl rfl trivial ?_
  clear S; intro aa S
  refine OL.cutN 4 (fun aa ww => St 56 ((40, Value.bool (x35 && (x17 == x23))) :: [(5, Value.int .i64 x17), (6, Value.bool x18), (7, Value.int .i64 x23), (8, Value.bool x24), (9, Value.int .i64 x28), (10, Value.bool x29), (11, Value.int .i64 x33), (12, Value.bool x34), (35, Value.bool x35), (36, Value.bool x35)]) h5 w0 aa ww) ?_ ?_
  · rcases Bool.eq_false_or_eq_true x35 with hb | hb
    · refine OL.pure S (Lf.run_move (S.ev rfl)) rfl rfl (GOk.mk rfl rfl hb) ?_
      clear S; intro aa S
      refine OL.pure S (Lf.run_move (S.ev rfl)) rfl rfl (GOk.mk rfl rfl hb) ?_
      clear S; intro aa S
      refine OL.pure S (Lf.run_eql (S.ev rfl) (S.ev rfl)) rfl rfl (GOk.mk rfl rfl hb) ?_
      clear S; intro aa S
      refine OL.pure S (Lf.run_pickT (S.ev rfl) hb (S.ev rfl)) rfl rfl trivial ?_
      clear S; intro aa S
      refine OL.nil ?_
      exact (S.hd (by rw [hb, Bool.true_and])).sub _ ⟨rfl, rfl, rfl, rfl, rfl, rfl, rfl, rfl, rfl, rfl, rfl, trivial⟩
    · refine OL.not S rfl rfl (GNo.mk rfl rfl hb) ?_
      clear S; intro aa S
      refine OL.not S rfl rfl (GNo.mk rfl rfl hb) ?_
      clear S; intro aa S
      refine OL.not S rfl rfl (GNo.mk rfl rfl hb) ?_
      clear S; intro aa S
      refine OL.pure S (Lf.run_pickF (S.ev rfl) hb (S.ev rfl)) rfl rfl trivial ?_
      clear S; intro aa S
      refine OL.nil ?_
      exact (S.hd (by rw [hb, Bool.false_and])).sub _ ⟨rfl, rfl, rfl, rfl, rfl, rfl, rfl, rfl, rfl, rfl, rfl, trivial⟩
  · clear S aa
    intro aa ww S
    refine OL.pure S (Lf.run_move (S.ev rfl)) rfl rfl trivial ?_
    clear S; intro aa S
    refine OL.cutN 4 (fun aa ww => St 56 ((45, Value.bool ((x35 && (x17 == x23)) && (x18 == x24))) :: [(5, Value.int .i64 x17), (6, Value.bool x18), (7, Value.int .i64 x23), (8, Value.bool x24), (9, Value.int .i64 x28), (10, Value.bool x29), (11, Value.int .i64 x33), (12, Value.bool x34), (35, Value.bool x35), (36, Value.bool x35), (40, Value.bool (x35 && (x17 == x23))), (41, Value.bool (x35 && (x17 == x23)))]) h5 w0 aa ww) ?_ ?_
    · rcases Bool.eq_false_or_eq_true (x35 && (x17 == x23)) with hb_1 | hb_1
      · refine OL.pure S (Lf.run_move (S.ev rfl)) rfl rfl (GOk.mk rfl rfl hb_1) ?_
        clear S; intro aa S
        refine OL.pure S (Lf.run_move (S.ev rfl)) rfl rfl (GOk.mk rfl rfl hb_1) ?_
        clear S; intro aa S
        refine OL.pure S (Lf.run_eqlb Try.underlying4 (S.ev rfl) (S.ev rfl)) rfl rfl (GOk.mk rfl rfl hb_1) ?_
        clear S; intro aa S
        refine OL.pure S (Lf.run_pickT (S.ev rfl) hb_1 (S.ev rfl)) rfl rfl trivial ?_
        clear S; intro aa S
        refine OL.nil ?_
        exact (S.hd (by rw [hb_1, Bool.true_and])).sub _ ⟨rfl, rfl, rfl, rfl, rfl, rfl, rfl, rfl, rfl, rfl, rfl, rfl, rfl, trivial⟩
      · refine OL.not S rfl rfl (GNo.mk rfl rfl hb_1) ?_
        clear S; intro aa S
        refine OL.not S rfl rfl (GNo.mk rfl rfl hb_1) ?_
        clear S; intro aa S
        refine OL.not S rfl rfl (GNo.mk rfl rfl hb_1) ?_
        clear S; intro aa S
        refine OL.pure S (Lf.run_pickF (S.ev rfl) hb_1 (S.ev rfl)) rfl rfl trivial ?_
        clear S; intro aa S
        refine OL.nil ?_
        exact (S.hd (by rw [hb_1, Bool.false_and])).sub _ ⟨rfl, rfl, rfl, rfl, rfl, rfl, rfl, rfl, rfl, rfl, rfl, rfl, rfl, trivial⟩
    · clear S aa
      intro aa ww S
      refine OL.pure S (Lf.run_move (S.ev rfl)) rfl rfl trivial ?_
      clear S; intro aa S
      refine OL.cutN 4 (fun aa ww => St 56 ((50, Value.bool (((x35 && (x17 == x23)) && (x18 == x24)) && (x28 == x33))) :: [(5, Value.int .i64 x17), (6, Value.bool x18), (7, Value.int .i64 x23), (8, Value.bool x24), (9, Value.int .i64 x28), (10, Value.bool x29), (11, Value.int .i64 x33), (12, Value.bool x34), (35, Value.bool x35), (36, Value.bool x35), (40, Value.bool (x35 && (x17 == x23))), (41, Value.bool (x35 && (x17 == x23))), (45, Value.bool ((x35 && (x17 == x23)) && (x18 == x24))), (46, Value.bool ((x35 && (x17 == x23)) && (x18 == x24)))]) h5 w0 aa ww) ?_ ?_
      · rcases Bool.eq_false_or_eq_true ((x35 && (x17 == x23)) && (x18 == x24)) with hb_2 | hb_2
        · refine OL.pure S (Lf.run_move (S.ev rfl)) rfl rfl (GOk.mk rfl rfl hb_2) ?_
          clear S; intro aa S
          refine OL.pure S (Lf.run_move (S.ev rfl)) rfl rfl (GOk.mk rfl rfl hb_2) ?_
          clear S; intro aa S
          refine OL.pure S (Lf.run_eql (S.ev rfl) (S.ev rfl)) rfl rfl (GOk.mk rfl rfl hb_2) ?_
          clear S; intro aa S
          refine OL.pure S (Lf.run_pickT (S.ev rfl) hb_2 (S.ev rfl)) rfl rfl trivial ?_
          clear S; intro aa S
          refine OL.nil ?_
          exact (S.hd (by rw [hb_2, Bool.true_and])).sub _ ⟨rfl, rfl, rfl, rfl, rfl, rfl, rfl, rfl, rfl, rfl, rfl, rfl, rfl, rfl, rfl, trivial⟩
        · refine OL.not S rfl rfl (GNo.mk rfl rfl hb_2) ?_
          clear S; intro aa S
          refine OL.not S rfl rfl (GNo.mk rfl rfl hb_2) ?_
          clear S; intro aa S
          refine OL.not S rfl rfl (GNo.mk rfl rfl hb_2) ?_
          clear S; intro aa S
          refine OL.pure S (Lf.run_pickF (S.ev rfl) hb_2 (S.ev rfl)) rfl rfl trivial ?_
          clear S; intro aa S
          refine OL.nil ?_
          exact (S.hd (by rw [hb_2, Bool.false_and])).sub _ ⟨rfl, rfl, rfl, rfl, rfl, rfl, rfl, rfl, rfl, rfl, rfl, rfl, rfl, rfl, rfl, trivial⟩
      · clear S aa
        intro aa ww S
        refine OL.pure S (Lf.run_move (S.ev rfl)) rfl rfl trivial ?_
        clear S; intro aa S
        refine OL.cutN 4 (fun aa ww => St 56 ((55, Value.bool ((((x35 && (x17 == x23)) && (x18 == x24)) && (x28 == x33)) && (x29 == x34))) :: [(5, Value.int .i64 x17), (6, Value.bool x18), (7, Value.int .i64 x23), (8, Value.bool x24), (9, Value.int .i64 x28), (10, Value.bool x29), (11, Value.int .i64 x33), (12, Value.bool x34), (35, Value.bool x35), (36, Value.bool x35), (40, Value.bool (x35 && (x17 == x23))), (41, Value.bool (x35 && (x17 == x23))), (45, Value.bool ((x35 && (x17 == x23)) && (x18 == x24))), (46, Value.bool ((x35 && (x17 == x23)) && (x18 == x24))), (50, Value.bool (((x35 && (x17 == x23)) && (x18 == x24)) && (x28 == x33))), (51, Value.bool (((x35 && (x17 == x23)) && (x18 == x24)) && (x28 == x33)))]) h5 w0 aa ww) ?_ ?_
        · rcases Bool.eq_false_or_eq_true (((x35 && (x17 == x23)) && (x18 == x24)) && (x28 == x33)) with hb_3 | hb_3
          · refine OL.pure S (Lf.run_move (S.ev rfl)) rfl rfl (GOk.mk rfl rfl hb_3) ?_
            clear S; intro aa S
            refine OL.pure S (Lf.run_move (S.ev rfl)) rfl rfl (GOk.mk rfl rfl hb_3) ?_
            clear S; intro aa S
            refine OL.pure S (Lf.run_eqlb Try.underlying4 (S.ev rfl) (S.ev rfl)) rfl rfl (GOk.mk rfl rfl hb_3) ?_
            clear S; intro aa S
            refine OL.pure S (Lf.run_pickT (S.ev rfl) hb_3 (S.ev rfl)) rfl rfl trivial ?_
            clear S; intro aa S
            refine OL.nil ?_
            exact (S.hd (by rw [hb_3, Bool.true_and])).sub _ ⟨rfl, rfl, rfl, rfl, rfl, rfl, rfl, rfl, rfl, rfl, rfl, rfl, rfl, rfl, rfl, rfl, rfl, trivial⟩
          · refine OL.not S rfl rfl (GNo.mk rfl rfl hb_3) ?_
            clear S; intro aa S
            refine OL.not S rfl rfl (GNo.mk rfl rfl hb_3) ?_
            clear S; intro aa S
            refine OL.not S rfl rfl (GNo.mk rfl rfl hb_3) ?_
            clear S; intro aa S
            refine OL.pure S (Lf.run_pickF (S.ev rfl) hb_3 (S.ev rfl)) rfl rfl trivial ?_
            clear S; intro aa S
            refine OL.nil ?_
            exact (S.hd (by rw [hb_3, Bool.false_and])).sub _ ⟨rfl, rfl, rfl, rfl, rfl, rfl, rfl, rfl, rfl, rfl, rfl, rfl, rfl, rfl, rfl, rfl, rfl, trivial⟩
        · clear S aa
          intro aa ww S
          refine OL.pure S (Lf.run_assign (S.ev rfl)) rfl rfl trivial ?_
          clear S; intro aa S
          refine OL.nil ?_
          refine W.ret ?_
          exact Ret.one S rfl rfl H

/-- chattel chattellaw02.NumTexts -/
def L8 (n0 : Int) (a1 : Int) (h : Heap) (R : Value → Heap → Prop) : Prop :=
  cal Try.prog 10 #[] h fun u h1 => asB u fun x5 =>
  ∃ J : Bool → Heap → Prop, (andj x5 (fun k =>
    cal Try.prog 39 #[Value.int .i64 n0] h1 fun u_1 h3 => asT u_1 fun x8 =>
    cal Try.prog 40 #[Value.int .i64 n0] h3 fun u_2 h4 => asT u_2 fun x10 =>
    k (x8.toList == x10.toList) h4) h1 J) ∧ ∀ x12 h2, J x12 h2 →
  ∃ J_1 : Bool → Heap → Prop, (andj x12 (fun k_1 =>
    cal Try.prog 41 #[Value.int .u64 a1] h2 fun u_3 h6 => asT u_3 fun x15 =>
    cal Try.prog 42 #[Value.int .u64 a1] h6 fun u_4 h7 => asT u_4 fun x17 =>
    k_1 (x15.toList == x17.toList) h7) h2 J_1) ∧ ∀ x19 h5, J_1 x19 h5 →
  R (Value.bool x19) h5

set_option maxRecDepth 100000 in

theorem F8 {n0 a1 h : _} {R : Value → Heap → Prop} (H : L8 n0 a1 h R) : CallsH Try.prog 8 #[Value.int .i64 n0, Value.int .u64 a1] h R := by
  refine CallsH.enter (n := 20) Try.func8 rfl rfl rfl rfl ?_
  intro w0 aa ww S
  unfold L8 at H
  refine W.seq ?_
  replace S := S.sub [(0, Value.int .i64 n0), (1, Value.int .u64 a1)] ⟨rfl, rfl, trivial⟩
  refine W.region ?_
  refine OL.pure S (Lf.run_assign (S.ev rfl)) rfl rfl trivial ?_
  clear S; intro aa S
  refine OL.nil ?_
  refine W.seq ?_
  replace S := S.sub [(0, Value.int .i64 n0), (1, Value.int .u64 a1)] ⟨rfl, rfl, trivial⟩
  refine W.region ?_
  refine ol_cal S H isfn10 rfl rfl trivial ?_
  clear S H aa; intro u aa ww h1 H S
  obtain ⟨x5, rfl, H⟩ := H
  refine OL.pure S (Lf.run_move (S.ev rfl)) rfl rfl trivial ?_
  clear S; intro aa S
  obtain ⟨J, H, HK⟩ := H
  refine OL.cutN 6 (fun aa ww => ∃ x12 h2, St 20 ((12, Value.bool x12) :: [(0, Value.int .i64 n0), (1, Value.int .u64 a1), (5, Value.bool x5), (6, Value.bool x5)]) h2 w0 aa ww ∧ J x12 h2) ?_ ?_
  · rcases Bool.eq_false_or_eq_true x5 with hb | hb
    · replace H := H.1 hb
      refine OL.pure S (Lf.run_move (S.ev rfl)) rfl rfl (GOk.mk rfl rfl hb) ?_
      clear S; intro aa S
      refine ol_cal S H isfn39 rfl rfl (GOk.mk rfl rfl hb) ?_
      clear S H aa; intro u_1 aa ww h3 H S
      obtain ⟨x8, rfl, H⟩ := H
      refine OL.pure S (Lf.run_move (S.ev rfl)) rfl rfl (GOk.mk rfl rfl hb) ?_
      clear S; intro aa S
      refine ol_cal S H isfn40 rfl rfl (GOk.mk rfl rfl hb) ?_
      clear S H aa; intro u_2 aa ww h4 H S
      obtain ⟨x10, rfl, H⟩ := H
      refine OL.pure S (Lf.run_eqlt (S.ev rfl) (S.ev rfl)) rfl rfl (GOk.mk rfl rfl hb) ?_
      clear S; intro aa S
      refine OL.pure S (Lf.run_pickT (S.ev rfl) hb (S.ev rfl)) rfl rfl trivial ?_
      clear S; intro aa S
      refine OL.nil ?_
      exact ⟨_, _, S.sub _ ⟨rfl, rfl, rfl, rfl, rfl, trivial⟩, H⟩
    · replace H := H.2 hb
      refine OL.not S rfl rfl (GNo.mk rfl rfl hb) ?_
      clear S; intro aa S
      refine OL.not S rfl rfl (GNo.mk rfl rfl hb) ?_
      clear S; intro aa S
      refine OL.not S rfl rfl (GNo.mk rfl rfl hb) ?_
      clear S; intro aa S
      refine OL.not S rfl rfl (GNo.mk rfl rfl hb) ?_
      clear S; intro aa S
      refine OL.not S rfl rfl (GNo.mk rfl rfl hb) ?_
      clear S; intro aa S
      refine OL.pure S (Lf.run_pickF (S.ev rfl) hb (S.ev rfl)) rfl rfl trivial ?_
      clear S; intro aa S
      refine OL.nil ?_
      exact ⟨_, _, S.sub _ ⟨rfl, rfl, rfl, rfl, rfl, trivial⟩, H⟩
  · clear S aa
    rintro aa ww ⟨x12, h2, S, HJ⟩
    replace H := HK _ _ HJ
    clear HK HJ
    refine OL.pure S (Lf.run_move (S.ev rfl)) rfl rfl trivial ?_
    clear S; intro aa S
    obtain ⟨J_1, H, HK_1⟩ := H
    refine OL.cutN 6 (fun aa ww => ∃ x19 h5, St 20 ((19, Value.bool x19) :: [(0, Value.int .i64 n0), (1, Value.int .u64 a1), (5, Value.bool x5), (6, Value.bool x5), (12, Value.bool x12), (13, Value.bool x12)]) h5 w0 aa ww ∧ J_1 x19 h5) ?_ ?_
    · rcases Bool.eq_false_or_eq_true x12 with hb_1 | hb_1
      · replace H := H.1 hb_1
        refine OL.pure S (Lf.run_move (S.ev rfl)) rfl rfl (GOk.mk rfl rfl hb_1) ?_
        clear S; intro aa S
        refine ol_cal S H isfn41 rfl rfl (GOk.mk rfl rfl hb_1) ?_
        clear S H aa; intro u_3 aa ww h6 H S
        obtain ⟨x15, rfl, H⟩ := H
        refine OL.pure S (Lf.run_move (S.ev rfl)) rfl rfl (GOk.mk rfl rfl hb_1) ?_
        clear S; intro aa S
        refine ol_cal S H isfn42 rfl rfl (GOk.mk rfl rfl hb_1) ?_
        clear S H aa; intro u_4 aa ww h7 H S
        obtain ⟨x17, rfl, H⟩ := H
        refine OL.pure S (Lf.run_eqlt (S.ev rfl) (S.ev rfl)) rfl rfl (GOk.mk rfl rfl hb_1) ?_
        clear S; intro aa S
        refine OL.pure S (Lf.run_pickT (S.ev rfl) hb_1 (S.ev rfl)) rfl rfl trivial ?_
        clear S; intro aa S
        refine OL.nil ?_
        exact ⟨_, _, S.sub _ ⟨rfl, rfl, rfl, rfl, rfl, rfl, rfl, trivial⟩, H⟩
      · replace H := H.2 hb_1
        refine OL.not S rfl rfl (GNo.mk rfl rfl hb_1) ?_
        clear S; intro aa S
        refine OL.not S rfl rfl (GNo.mk rfl rfl hb_1) ?_
        clear S; intro aa S
        refine OL.not S rfl rfl (GNo.mk rfl rfl hb_1) ?_
        clear S; intro aa S
        refine OL.not S rfl rfl (GNo.mk rfl rfl hb_1) ?_
        clear S; intro aa S
        refine OL.not S rfl rfl (GNo.mk rfl rfl hb_1) ?_
        clear S; intro aa S
        refine OL.pure S (Lf.run_pickF (S.ev rfl) hb_1 (S.ev rfl)) rfl rfl trivial ?_
        clear S; intro aa S
        refine OL.nil ?_
        exact ⟨_, _, S.sub _ ⟨rfl, rfl, rfl, rfl, rfl, rfl, rfl, trivial⟩, H⟩
    · clear S aa
      rintro aa ww ⟨x19, h5, S, HJ⟩
      replace H := HK_1 _ _ HJ
      clear HK_1 HJ
      refine OL.pure S (Lf.run_assign (S.ev rfl)) rfl rfl trivial ?_
      clear S; intro aa S
      refine OL.nil ?_
      refine W.ret ?_
      exact Ret.one S rfl rfl H

/-- chattel chattellaw02.NumBack -/
def L9 (a0 : Int) (b1 : Int) (h : Heap) (R : Value → Heap → Prop) : Prop :=
  ∃ J : Heap → Prop, (
    cal Try.prog 17 #[Value.int .i64 a0, Value.int .i64 b1] h fun u h1 => asTup u fun r16 =>
    elt r16 0 fun u_1 => asI .i64 u_1 fun x17 =>
    elt r16 1 fun u_2 => asB u_2 fun x18 =>
    ifb x18 (
      cal Try.prog 19 #[Value.int .i64 x17, Value.int .i64 b1] h1 fun u_3 h2 => asTup u_3 fun r23 =>
      elt r23 0 fun u_4 => asI .i64 u_4 fun x24 =>
      elt r23 1 fun u_5 => asB u_5 fun x25 =>
      ifb ((!x25) || (x24 != a0)) (
        R (Value.bool false) h2) (
        J h2)) (
      J h1)) ∧ (∀ h3, J h3 →
  ∃ J_1 : Heap → Prop, (
    cal Try.prog 21 #[Value.int .i64 a0, Value.int .i64 b1] h3 fun u_6 h4 => asTup u_6 fun r36 =>
    elt r36 0 fun u_7 => asI .i64 u_7 fun x37 =>
    elt r36 1 fun u_8 => asB u_8 fun x38 =>
    ifb (x38 && (b1 != 0)) (
      cal Try.prog 35 #[Value.int .i64 x37, Value.int .i64 b1] h4 fun u_9 h5 => asTup u_9 fun r47 =>
      elt r47 0 fun u_10 => asI .i64 u_10 fun x48 =>
      elt r47 1 fun u_11 => asB u_11 fun x49 =>
      ifb ((!x49) || (x48 != a0)) (
        R (Value.bool false) h5) (
        J_1 h5)) (
      J_1 h4)) ∧ (∀ h6, J_1 h6 →
  cal Try.prog 10 #[] h6 fun u_12 h7 => asB u_12 fun x57 =>
  R (Value.bool x57) h7))

set_option maxRecDepth 100000 in

theorem F9 {a0 b1 h : _} {R : Value → Heap → Prop} (H : L9 a0 b1 h R) : CallsH Try.prog 9 #[Value.int .i64 a0, Value.int .i64 b1] h R := by
  refine CallsH.enter (n := 58) Try.func9 rfl rfl rfl rfl ?_
  intro w0 aa ww S
  unfold L9 at H
  refine W.seq ?_
  replace S := S.sub [(0, Value.int .i64 a0), (1, Value.int .i64 b1)] ⟨rfl, rfl, trivial⟩
  refine W.region ?_
  refine OL.pure S (Lf.run_assign (S.ev rfl)) rfl rfl trivial ?_
  clear S; intro aa S
  refine OL.nil ?_
  obtain ⟨J, H, HK⟩ := H
  refine W.seqJ (fun aa ww => ∃ h3, St 58 [(0, Value.int .i64 a0), (1, Value.int .i64 b1)] h3 w0 aa ww ∧ J h3) ?_ ?_
  · clear HK
    refine W.seq ?_
    replace S := S.sub [(0, Value.int .i64 a0), (1, Value.int .i64 b1)] ⟨rfl, rfl, trivial⟩
    refine W.region ?_
    refine OL.pure S (Lf.run_move (S.ev rfl)) rfl rfl trivial ?_
    clear S; intro aa S
    refine OL.pure S (Lf.run_move (S.ev rfl)) rfl rfl trivial ?_
    clear S; intro aa S
    refine ol_cal S H isfn17 rfl rfl trivial ?_
    clear S H aa; intro u aa ww h1 H S
    obtain ⟨r16, rfl, H⟩ := H
    refine OL.pure S (Lf.run_move (S.ev rfl)) rfl rfl trivial ?_
    clear S; intro aa S
    obtain ⟨u_1, e, x17, rfl, H⟩ := H
    refine OL.pure S (Lf.run_ex (S.ev rfl) e) rfl rfl trivial ?_
    clear S; intro aa S
    obtain ⟨u_2, e_1, x18, rfl, H⟩ := H
    refine OL.pure S (Lf.run_ex (S.ev rfl) e_1) rfl rfl trivial ?_
    clear S; intro aa S
    refine OL.pure S (Lf.run_assign (S.ev rfl)) rfl rfl trivial ?_
    clear S; intro aa S
    refine OL.pure S (Lf.run_assign (S.ev rfl)) rfl rfl trivial ?_
    clear S; intro aa S
    refine OL.nil ?_
    refine W.seq ?_
    replace S := S.sub [(0, Value.int .i64 a0), (1, Value.int .i64 b1), (5, Value.int .i64 x17), (6, Value.bool x18)] ⟨rfl, rfl, rfl, rfl, trivial⟩
    refine W.region ?_
    refine OL.pure S (Lf.run_move (S.ev rfl)) rfl rfl trivial ?_
    clear S; intro aa S
    refine OL.nil ?_
    refine W.cond S (b := x18) rfl (fun hb => ?_) (fun hb => ?_)
    · replace H := H.1 hb
      refine W.seq ?_
      replace S := S.sub [(0, Value.int .i64 a0), (1, Value.int .i64 b1), (5, Value.int .i64 x17)] ⟨rfl, rfl, rfl, trivial⟩
      refine W.region ?_
      refine OL.pure S (Lf.run_move (S.ev rfl)) rfl rfl trivial ?_
      clear S; intro aa S
      refine OL.pure S (Lf.run_move (S.ev rfl)) rfl rfl trivial ?_
      clear S; intro aa S
      refine ol_cal S H isfn19 rfl rfl trivial ?_
      clear S H aa; intro u_3 aa ww h2 H S
      obtain ⟨r23, rfl, H⟩ := H
      refine OL.pure S (Lf.run_move (S.ev rfl)) rfl rfl trivial ?_
      clear S; intro aa S
      obtain ⟨u_4, e_2, x24, rfl, H⟩ := H
      refine OL.pure S (Lf.run_ex (S.ev rfl) e_2) rfl rfl trivial ?_
      clear S; intro aa S
      obtain ⟨u_5, e_3, x25, rfl, H⟩ := H
      refine OL.pure S (Lf.run_ex (S.ev rfl) e_3) rfl rfl trivial ?_
      clear S; intro aa S
      refine OL.pure S (Lf.run_assign (S.ev rfl)) rfl rfl trivial ?_
      clear S; intro aa S
      refine OL.pure S (Lf.run_assign (S.ev rfl)) rfl rfl trivial ?_
      clear S; intro aa S
      refine OL.nil ?_
      refine W.seq ?_
      replace S := S.sub [(0, Value.int .i64 a0), (1, Value.int .i64 b1), (7, Value.int .i64 x24), (8, Value.bool x25)] ⟨rfl, rfl, rfl, rfl, trivial⟩
      refine W.region ?_
      refine OL.pure S (Lf.run_move (S.ev rfl)) rfl rfl trivial ?_
      clear S; intro aa S
      refine OL.pure S (Lf.run_not (S.ev rfl)) rfl rfl trivial ?_
      clear S; intro aa S
      refine OL.pure S (Lf.run_move (S.ev rfl)) rfl rfl trivial ?_
      clear S; intro aa S
      refine OL.cutN 4 (fun aa ww => St 58 ((32, Value.bool ((!x25) || (x24 != a0))) :: [(0, Value.int .i64 a0), (1, Value.int .i64 b1), (7, Value.int .i64 x24), (8, Value.bool x25), (26, Value.bool x25), (27, Value.bool (!x25)), (28, Value.bool (!x25))]) h2 w0 aa ww) ?_ ?_
      · rcases Bool.eq_false_or_eq_true (!x25) with hb_1 | hb_1
        · refine OL.not S rfl rfl (GNo.mk rfl rfl hb_1) ?_
          clear S; intro aa S
          refine OL.not S rfl rfl (GNo.mk rfl rfl hb_1) ?_
          clear S; intro aa S
          refine OL.not S rfl rfl (GNo.mk rfl rfl hb_1) ?_
          clear S; intro aa S
          refine OL.pure S (Lf.run_pickT (S.ev rfl) hb_1 (S.ev rfl)) rfl rfl trivial ?_
          clear S; intro aa S
          refine OL.nil ?_
          exact (S.hd (by rw [hb_1, Bool.true_or])).sub _ ⟨rfl, rfl, rfl, rfl, rfl, rfl, rfl, rfl, trivial⟩
        · refine OL.pure S (Lf.run_move (S.ev rfl)) rfl rfl (GOk.mk rfl rfl hb_1) ?_
          clear S; intro aa S
          refine OL.pure S (Lf.run_move (S.ev rfl)) rfl rfl (GOk.mk rfl rfl hb_1) ?_
          clear S; intro aa S
          refine OL.pure S (Lf.run_neq (S.ev rfl) (S.ev rfl)) rfl rfl (GOk.mk rfl rfl hb_1) ?_
          clear S; intro aa S
          refine OL.pure S (Lf.run_pickF (S.ev rfl) hb_1 (S.ev rfl)) rfl rfl trivial ?_
          clear S; intro aa S
          refine OL.nil ?_
          exact (S.hd (by rw [hb_1, Bool.false_or])).sub _ ⟨rfl, rfl, rfl, rfl, rfl, rfl, rfl, rfl, trivial⟩
      · clear S aa
        intro aa ww S
        refine OL.nil ?_
        refine W.cond S (b := ((!x25) || (x24 != a0))) rfl (fun hb_2 => ?_) (fun hb_2 => ?_)
        · replace H := H.1 hb_2
          refine W.seq ?_
          replace S := S.sub [] trivial
          refine W.region ?_
          refine OL.pure S (Lf.run_assign (S.ev rfl)) rfl rfl trivial ?_
          clear S; intro aa S
          refine OL.nil ?_
          refine W.ret ?_
          exact Ret.one S rfl rfl H
        · replace H := H.2 hb_2
          refine W.skip ?_
          exact ⟨h2, S.sub _ ⟨rfl, rfl, trivial⟩, H⟩
    · replace H := H.2 hb
      refine W.skip ?_
      exact ⟨h1, S.sub _ ⟨rfl, rfl, trivial⟩, H⟩
  · clear H S aa
    rintro aa ww ⟨h3, S, HJ⟩
    have H := HK _ HJ
    clear HK HJ
    obtain ⟨J_1, H, HK_1⟩ := H
    refine W.seqJ (fun aa ww => ∃ h6, St 58 [] h6 w0 aa ww ∧ J_1 h6) ?_ ?_
    · clear HK_1
      refine W.seq ?_
      replace S := S.sub [(0, Value.int .i64 a0), (1, Value.int .i64 b1)] ⟨rfl, rfl, trivial⟩
      refine W.region ?_
      refine OL.pure S (Lf.run_move (S.ev rfl)) rfl rfl trivial ?_
      clear S; intro aa S
      refine OL.pure S (Lf.run_move (S.ev rfl)) rfl rfl trivial ?_
      clear S; intro aa S
      refine ol_cal S H isfn21 rfl rfl trivial ?_
      clear S H aa; intro u_6 aa ww h4 H S
      obtain ⟨r36, rfl, H⟩ := H
      refine OL.pure S (Lf.run_move (S.ev rfl)) rfl rfl trivial ?_
      clear S; intro aa S
      obtain ⟨u_7, e_4, x37, rfl, H⟩ := H
      refine OL.pure S (Lf.run_ex (S.ev rfl) e_4) rfl rfl trivial ?_
      clear S; intro aa S
      obtain ⟨u_8, e_5, x38, rfl, H⟩ := H
      refine OL.pure S (Lf.run_ex (S.ev rfl) e_5) rfl rfl trivial ?_
      clear S; intro aa S
      refine OL.pure S (Lf.run_assign (S.ev rfl)) rfl rfl trivial ?_
      clear S; intro aa S
      refine OL.pure S (Lf.run_assign (S.ev rfl)) rfl rfl trivial ?_
      clear S; intro aa S
      refine OL.nil ?_
      refine W.seq ?_
      replace S := S.sub [(0, Value.int .i64 a0), (1, Value.int .i64 b1), (9, Value.int .i64 x37), (10, Value.bool x38)] ⟨rfl, rfl, rfl, rfl, trivial⟩
      refine W.region ?_
      refine OL.pure S (Lf.run_move (S.ev rfl)) rfl rfl trivial ?_
      clear S; intro aa S
      refine OL.pure S (Lf.run_move (S.ev rfl)) rfl rfl trivial ?_
      clear S; intro aa S
      refine OL.cutN 3 (fun aa ww => St 58 ((43, Value.bool (x38 && (b1 != 0))) :: [(0, Value.int .i64 a0), (1, Value.int .i64 b1), (9, Value.int .i64 x37), (10, Value.bool x38), (39, Value.bool x38), (40, Value.bool x38)]) h4 w0 aa ww) ?_ ?_
      · rcases Bool.eq_false_or_eq_true x38 with hb_3 | hb_3
        · refine OL.pure S (Lf.run_move (S.ev rfl)) rfl rfl (GOk.mk rfl rfl hb_3) ?_
          clear S; intro aa S
          refine OL.pure S (Lf.run_neq (S.ev rfl) (S.ev rfl)) rfl rfl (GOk.mk rfl rfl hb_3) ?_
          clear S; intro aa S
          refine OL.pure S (Lf.run_pickT (S.ev rfl) hb_3 (S.ev rfl)) rfl rfl trivial ?_
          clear S; intro aa S
          refine OL.nil ?_
          exact (S.hd (by rw [hb_3, Bool.true_and])).sub _ ⟨rfl, rfl, rfl, rfl, rfl, rfl, rfl, trivial⟩
        · refine OL.not S rfl rfl (GNo.mk rfl rfl hb_3) ?_
          clear S; intro aa S
          refine OL.not S rfl rfl (GNo.mk rfl rfl hb_3) ?_
          clear S; intro aa S
          refine OL.pure S (Lf.run_pickF (S.ev rfl) hb_3 (S.ev rfl)) rfl rfl trivial ?_
          clear S; intro aa S
          refine OL.nil ?_
          exact (S.hd (by rw [hb_3, Bool.false_and])).sub _ ⟨rfl, rfl, rfl, rfl, rfl, rfl, rfl, trivial⟩
      · clear S aa
        intro aa ww S
        refine OL.nil ?_
        refine W.cond S (b := (x38 && (b1 != 0))) rfl (fun hb_4 => ?_) (fun hb_4 => ?_)
        · replace H := H.1 hb_4
          refine W.seq ?_
          replace S := S.sub [(0, Value.int .i64 a0), (1, Value.int .i64 b1), (9, Value.int .i64 x37)] ⟨rfl, rfl, rfl, trivial⟩
          refine W.region ?_
          refine OL.pure S (Lf.run_move (S.ev rfl)) rfl rfl trivial ?_
          clear S; intro aa S
          refine OL.pure S (Lf.run_move (S.ev rfl)) rfl rfl trivial ?_
          clear S; intro aa S
          refine ol_cal S H isfn35 rfl rfl trivial ?_
          clear S H aa; intro u_9 aa ww h5 H S
          obtain ⟨r47, rfl, H⟩ := H
          refine OL.pure S (Lf.run_move (S.ev rfl)) rfl rfl trivial ?_
          clear S; intro aa S
          obtain ⟨u_10, e_6, x48, rfl, H⟩ := H
          refine OL.pure S (Lf.run_ex (S.ev rfl) e_6) rfl rfl trivial ?_
          clear S; intro aa S
          obtain ⟨u_11, e_7, x49, rfl, H⟩ := H
          refine OL.pure S (Lf.run_ex (S.ev rfl) e_7) rfl rfl trivial ?_
          clear S; intro aa S
          refine OL.pure S (Lf.run_assign (S.ev rfl)) rfl rfl trivial ?_
          clear S; intro aa S
          refine OL.pure S (Lf.run_assign (S.ev rfl)) rfl rfl trivial ?_
          clear S; intro aa S
          refine OL.nil ?_
          refine W.seq ?_
          replace S := S.sub [(0, Value.int .i64 a0), (11, Value.int .i64 x48), (12, Value.bool x49)] ⟨rfl, rfl, rfl, trivial⟩
          refine W.region ?_
          refine OL.pure S (Lf.run_move (S.ev rfl)) rfl rfl trivial ?_
          clear S; intro aa S
          refine OL.pure S (Lf.run_not (S.ev rfl)) rfl rfl trivial ?_
          clear S; intro aa S
          refine OL.pure S (Lf.run_move (S.ev rfl)) rfl rfl trivial ?_
          clear S; intro aa S
          refine OL.cutN 4 (fun aa ww => St 58 ((56, Value.bool ((!x49) || (x48 != a0))) :: [(0, Value.int .i64 a0), (11, Value.int .i64 x48), (12, Value.bool x49), (50, Value.bool x49), (51, Value.bool (!x49)), (52, Value.bool (!x49))]) h5 w0 aa ww) ?_ ?_
          · rcases Bool.eq_false_or_eq_true (!x49) with hb_5 | hb_5
            · refine OL.not S rfl rfl (GNo.mk rfl rfl hb_5) ?_
              clear S; intro aa S
              refine OL.not S rfl rfl (GNo.mk rfl rfl hb_5) ?_
              clear S; intro aa S
              refine OL.not S rfl rfl (GNo.mk rfl rfl hb_5) ?_
              clear S; intro aa S
              refine OL.pure S (Lf.run_pickT (S.ev rfl) hb_5 (S.ev rfl)) rfl rfl trivial ?_
              clear S; intro aa S
              refine OL.nil ?_
              exact (S.hd (by rw [hb_5, Bool.true_or])).sub _ ⟨rfl, rfl, rfl, rfl, rfl, rfl, rfl, trivial⟩
            · refine OL.pure S (Lf.run_move (S.ev rfl)) rfl rfl (GOk.mk rfl rfl hb_5) ?_
              clear S; intro aa S
              refine OL.pure S (Lf.run_move (S.ev rfl)) rfl rfl (GOk.mk rfl rfl hb_5) ?_
              clear S; intro aa S
              refine OL.pure S (Lf.run_neq (S.ev rfl) (S.ev rfl)) rfl rfl (GOk.mk rfl rfl hb_5) ?_
              clear S; intro aa S
              refine OL.pure S (Lf.run_pickF (S.ev rfl) hb_5 (S.ev rfl)) rfl rfl trivial ?_
              clear S; intro aa S
              refine OL.nil ?_
              exact (S.hd (by rw [hb_5, Bool.false_or])).sub _ ⟨rfl, rfl, rfl, rfl, rfl, rfl, rfl, trivial⟩
          · clear S aa
            intro aa ww S
            refine OL.nil ?_
            refine W.cond S (b := ((!x49) || (x48 != a0))) rfl (fun hb_6 => ?_) (fun hb_6 => ?_)
            · replace H := H.1 hb_6
              refine W.seq ?_
              replace S := S.sub [] trivial
              refine W.region ?_
              refine OL.pure S (Lf.run_assign (S.ev rfl)) rfl rfl trivial ?_
              clear S; intro aa S
              refine OL.nil ?_
              refine W.ret ?_
              exact Ret.one S rfl rfl H
            · replace H := H.2 hb_6
              refine W.skip ?_
              exact ⟨h5, S.sub _ trivial, H⟩
        · replace H := H.2 hb_4
          refine W.skip ?_
          exact ⟨h4, S.sub _ trivial, H⟩
    · clear H S aa
      rintro aa ww ⟨h6, S, HJ⟩
      have H := HK_1 _ HJ
      clear HK_1 HJ
      refine W.seq ?_
      replace S := S.sub [] trivial
      refine W.region ?_
      refine ol_cal S H isfn10 rfl rfl trivial ?_
      clear S H aa; intro u_12 aa ww h7 H S
      obtain ⟨x57, rfl, H⟩ := H
      refine OL.pure S (Lf.run_assign (S.ev rfl)) rfl rfl trivial ?_
      clear S; intro aa S
      refine OL.nil ?_
      refine W.ret ?_
      exact Ret.one S rfl rfl H

/-- chattel chattellaw02.reckoned -/
def L10  (h : Heap) (R : Value → Heap → Prop) : Prop :=
  cal Try.prog 21 #[Value.int .i64 4611686018427387904, Value.int .i64 2] h fun u h1 => asTup u fun r6 =>
  elt r6 0 fun u_1 => asI .i64 u_1 fun x7 =>
  elt r6 1 fun u_2 => asB u_2 fun x8 =>
  cal Try.prog 19 #[Value.int .i64 7, Value.int .i64 9] h1 fun u_3 h2 => asTup u_3 fun r10 =>
  elt r10 0 fun u_4 => asI .i64 u_4 fun x11 =>
  elt r10 1 fun u_5 => asB u_5 fun x12 =>
  ∃ J : Bool → Heap → Prop, (andj (((!x8) && x12) && (x11 == (-2))) (fun k =>
    cal Try.prog 15 #[Value.int .u64 0] h2 fun u_6 h4 => asI .i64 u_6 fun x23 =>
    k (x23 == 4) h4) h2 J) ∧ ∀ x25 h3, J x25 h3 →
  ∃ J_1 : Bool → Heap → Prop, (andj x25 (fun k_1 =>
    cal Try.prog 29 #[Value.int .u64 0, Value.int .u64 0] h3 fun u_7 h6 => asI .u64 u_7 fun x27 =>
    cal Try.prog 15 #[Value.int .u64 x27] h6 fun u_8 h7 => asI .i64 u_8 fun x28 =>
    k_1 (x28 == 0) h7) h3 J_1) ∧ ∀ x30 h5, J_1 x30 h5 →
  ∃ J_2 : Bool → Heap → Prop, (andj x30 (fun k_2 =>
    cal Try.prog 29 #[Value.int .u64 0, Value.int .u64 0] h5 fun u_9 h9 => asI .u64 u_9 fun x32 =>
    k_2 (x32 == 9221120237041090561) h9) h5 J_2) ∧ ∀ x34 h8, J_2 x34 h8 →
  ∃ J_3 : Bool → Heap → Prop, (andj x34 (fun k_3 =>
    cal Try.prog 39 #[Value.int .i64 (-10)] h8 fun u_10 h11 => asT u_10 fun x36 =>
    k_3 (x36.toList == (⟨#[45, 49, 48]⟩ : ByteArray).toList) h11) h8 J_3) ∧ ∀ x38 h10, J_3 x38 h10 →
  R (Value.bool x38) h10

set_option maxRecDepth 100000 in

theorem F10 {h : _} {R : Value → Heap → Prop} (H : L10 h R) : CallsH Try.prog 10 #[] h R := by
  refine CallsH.enter (n := 39) Try.func10 rfl rfl rfl rfl ?_
  intro w0 aa ww S
  unfold L10 at H
  refine W.seq ?_
  replace S := S.sub [] trivial
  refine W.region ?_
  refine OL.pure S (Lf.run_assign (S.ev rfl)) rfl rfl trivial ?_
  clear S; intro aa S
  refine OL.nil ?_
  refine W.seq ?_
  replace S := S.sub [] trivial
  refine W.region ?_
  refine ol_cal S H isfn21 rfl rfl trivial ?_
  clear S H aa; intro u aa ww h1 H S
  obtain ⟨r6, rfl, H⟩ := H
  refine OL.pure S (Lf.run_move (S.ev rfl)) rfl rfl trivial ?_
  clear S; intro aa S
  obtain ⟨u_1, e, x7, rfl, H⟩ := H
  refine OL.pure S (Lf.run_ex (S.ev rfl) e) rfl rfl trivial ?_
  clear S; intro aa S
  obtain ⟨u_2, e_1, x8, rfl, H⟩ := H
  refine OL.pure S (Lf.run_ex (S.ev rfl) e_1) rfl rfl trivial ?_
  clear S; intro aa S
  refine OL.pure S (Lf.run_assign (S.ev rfl)) rfl rfl trivial ?_
  clear S; intro aa S
  refine OL.pure S (Lf.run_assign (S.ev rfl)) rfl rfl trivial ?_
  clear S; intro aa S
  refine OL.nil ?_
  refine W.seq ?_
  replace S := S.sub [(2, Value.bool x8)] ⟨rfl, trivial⟩
  refine W.region ?_
  refine ol_cal S H isfn19 rfl rfl trivial ?_
  clear S H aa; intro u_3 aa ww h2 H S
  obtain ⟨r10, rfl, H⟩ := H
  refine OL.pure S (Lf.run_move (S.ev rfl)) rfl rfl trivial ?_
  clear S; intro aa S
  obtain ⟨u_4, e_2, x11, rfl, H⟩ := H
  refine OL.pure S (Lf.run_ex (S.ev rfl) e_2) rfl rfl trivial ?_
  clear S; intro aa S
  obtain ⟨u_5, e_3, x12, rfl, H⟩ := H
  refine OL.pure S (Lf.run_ex (S.ev rfl) e_3) rfl rfl trivial ?_
  clear S; intro aa S
  refine OL.pure S (Lf.run_assign (S.ev rfl)) rfl rfl trivial ?_
  clear S; intro aa S
  refine OL.pure S (Lf.run_assign (S.ev rfl)) rfl rfl trivial ?_
  clear S; intro aa S
  refine OL.nil ?_
  refine W.seq ?_
  replace S := S.sub [(2, Value.bool x8), (3, Value.int .i64 x11), (4, Value.bool x12)] ⟨rfl, rfl, rfl, trivial⟩
  refine W.region ?_
  refine OL.pure S (Lf.run_move (S.ev rfl)) rfl rfl trivial ?_
  clear S; intro aa S
  refine OL.pure S (Lf.run_not (S.ev rfl)) rfl rfl trivial ?_
  clear S; intro aa S
  refine OL.pure S (Lf.run_move (S.ev rfl)) rfl rfl trivial ?_
  clear S; intro aa S
  refine OL.cutN 2 (fun aa ww => St 39 ((17, Value.bool ((!x8) && x12)) :: [(2, Value.bool x8), (3, Value.int .i64 x11), (4, Value.bool x12), (13, Value.bool x8), (14, Value.bool (!x8)), (15, Value.bool (!x8))]) h2 w0 aa ww) ?_ ?_
  · rcases Bool.eq_false_or_eq_true (!x8) with hb | hb
    · refine OL.pure S (Lf.run_move (S.ev rfl)) rfl rfl (GOk.mk rfl rfl hb) ?_
      clear S; intro aa S
      refine OL.pure S (Lf.run_pickT (S.ev rfl) hb (S.ev rfl)) rfl rfl trivial ?_
      clear S; intro aa S
      refine OL.nil ?_
      exact (S.hd (by rw [hb, Bool.true_and])).sub _ ⟨rfl, rfl, rfl, rfl, rfl, rfl, rfl, trivial⟩
    · refine OL.not S rfl rfl (GNo.mk rfl rfl hb) ?_
      clear S; intro aa S
      refine OL.pure S (Lf.run_pickF (S.ev rfl) hb (S.ev rfl)) rfl rfl trivial ?_
      clear S; intro aa S
      refine OL.nil ?_
      exact (S.hd (by rw [hb, Bool.false_and])).sub _ ⟨rfl, rfl, rfl, rfl, rfl, rfl, rfl, trivial⟩
  · clear S aa
    intro aa ww S
    refine OL.pure S (Lf.run_move (S.ev rfl)) rfl rfl trivial ?_
    clear S; intro aa S
    refine OL.cutN 3 (fun aa ww => St 39 ((21, Value.bool (((!x8) && x12) && (x11 == (-2)))) :: [(2, Value.bool x8), (3, Value.int .i64 x11), (4, Value.bool x12), (13, Value.bool x8), (14, Value.bool (!x8)), (15, Value.bool (!x8)), (17, Value.bool ((!x8) && x12)), (18, Value.bool ((!x8) && x12))]) h2 w0 aa ww) ?_ ?_
    · rcases Bool.eq_false_or_eq_true ((!x8) && x12) with hb_1 | hb_1
      · refine OL.pure S (Lf.run_move (S.ev rfl)) rfl rfl (GOk.mk rfl rfl hb_1) ?_
        clear S; intro aa S
        refine OL.pure S (Lf.run_eql (S.ev rfl) (S.ev rfl)) rfl rfl (GOk.mk rfl rfl hb_1) ?_
        clear S; intro aa S
        refine OL.pure S (Lf.run_pickT (S.ev rfl) hb_1 (S.ev rfl)) rfl rfl trivial ?_
        clear S; intro aa S
        refine OL.nil ?_
        exact (S.hd (by rw [hb_1, Bool.true_and])).sub _ ⟨rfl, rfl, rfl, rfl, rfl, rfl, rfl, rfl, rfl, trivial⟩
      · refine OL.not S rfl rfl (GNo.mk rfl rfl hb_1) ?_
        clear S; intro aa S
        refine OL.not S rfl rfl (GNo.mk rfl rfl hb_1) ?_
        clear S; intro aa S
        refine OL.pure S (Lf.run_pickF (S.ev rfl) hb_1 (S.ev rfl)) rfl rfl trivial ?_
        clear S; intro aa S
        refine OL.nil ?_
        exact (S.hd (by rw [hb_1, Bool.false_and])).sub _ ⟨rfl, rfl, rfl, rfl, rfl, rfl, rfl, rfl, rfl, trivial⟩
    · clear S aa
      intro aa ww S
      refine OL.pure S (Lf.run_move (S.ev rfl)) rfl rfl trivial ?_
      clear S; intro aa S
      obtain ⟨J, H, HK⟩ := H
      refine OL.cutN 3 (fun aa ww => ∃ x25 h3, St 39 ((25, Value.bool x25) :: [(2, Value.bool x8), (3, Value.int .i64 x11), (4, Value.bool x12), (13, Value.bool x8), (14, Value.bool (!x8)), (15, Value.bool (!x8)), (17, Value.bool ((!x8) && x12)), (18, Value.bool ((!x8) && x12)), (21, Value.bool (((!x8) && x12) && (x11 == (-2)))), (22, Value.bool (((!x8) && x12) && (x11 == (-2))))]) h3 w0 aa ww ∧ J x25 h3) ?_ ?_
      · rcases Bool.eq_false_or_eq_true (((!x8) && x12) && (x11 == (-2))) with hb_2 | hb_2
        · replace H := H.1 hb_2
          refine ol_cal S H isfn15 rfl rfl (GOk.mk rfl rfl hb_2) ?_
          clear S H aa; intro u_6 aa ww h4 H S
          obtain ⟨x23, rfl, H⟩ := H
          refine OL.pure S (Lf.run_eql (S.ev rfl) (S.ev rfl)) rfl rfl (GOk.mk rfl rfl hb_2) ?_
          clear S; intro aa S
          refine OL.pure S (Lf.run_pickT (S.ev rfl) hb_2 (S.ev rfl)) rfl rfl trivial ?_
          clear S; intro aa S
          refine OL.nil ?_
          exact ⟨_, _, S.sub _ ⟨rfl, rfl, rfl, rfl, rfl, rfl, rfl, rfl, rfl, rfl, rfl, trivial⟩, H⟩
        · replace H := H.2 hb_2
          refine OL.not S rfl rfl (GNo.mk rfl rfl hb_2) ?_
          clear S; intro aa S
          refine OL.not S rfl rfl (GNo.mk rfl rfl hb_2) ?_
          clear S; intro aa S
          refine OL.pure S (Lf.run_pickF (S.ev rfl) hb_2 (S.ev rfl)) rfl rfl trivial ?_
          clear S; intro aa S
          refine OL.nil ?_
          exact ⟨_, _, S.sub _ ⟨rfl, rfl, rfl, rfl, rfl, rfl, rfl, rfl, rfl, rfl, rfl, trivial⟩, H⟩
      · clear S aa
        rintro aa ww ⟨x25, h3, S, HJ⟩
        replace H := HK _ _ HJ
        clear HK HJ
        refine OL.pure S (Lf.run_move (S.ev rfl)) rfl rfl trivial ?_
        clear S; intro aa S
        obtain ⟨J_1, H, HK_1⟩ := H
        refine OL.cutN 4 (fun aa ww => ∃ x30 h5, St 39 ((30, Value.bool x30) :: [(2, Value.bool x8), (3, Value.int .i64 x11), (4, Value.bool x12), (13, Value.bool x8), (14, Value.bool (!x8)), (15, Value.bool (!x8)), (17, Value.bool ((!x8) && x12)), (18, Value.bool ((!x8) && x12)), (21, Value.bool (((!x8) && x12) && (x11 == (-2)))), (22, Value.bool (((!x8) && x12) && (x11 == (-2)))), (25, Value.bool x25), (26, Value.bool x25)]) h5 w0 aa ww ∧ J_1 x30 h5) ?_ ?_
        · rcases Bool.eq_false_or_eq_true x25 with hb_3 | hb_3
          · replace H := H.1 hb_3
            refine ol_cal S H isfn29 rfl rfl (GOk.mk rfl rfl hb_3) ?_
            clear S H aa; intro u_7 aa ww h6 H S
            obtain ⟨x27, rfl, H⟩ := H
            refine ol_cal S H isfn15 rfl rfl (GOk.mk rfl rfl hb_3) ?_
            clear S H aa; intro u_8 aa ww h7 H S
            obtain ⟨x28, rfl, H⟩ := H
            refine OL.pure S (Lf.run_eql (S.ev rfl) (S.ev rfl)) rfl rfl (GOk.mk rfl rfl hb_3) ?_
            clear S; intro aa S
            refine OL.pure S (Lf.run_pickT (S.ev rfl) hb_3 (S.ev rfl)) rfl rfl trivial ?_
            clear S; intro aa S
            refine OL.nil ?_
            exact ⟨_, _, S.sub _ ⟨rfl, rfl, rfl, rfl, rfl, rfl, rfl, rfl, rfl, rfl, rfl, rfl, rfl, trivial⟩, H⟩
          · replace H := H.2 hb_3
            refine OL.not S rfl rfl (GNo.mk rfl rfl hb_3) ?_
            clear S; intro aa S
            refine OL.not S rfl rfl (GNo.mk rfl rfl hb_3) ?_
            clear S; intro aa S
            refine OL.not S rfl rfl (GNo.mk rfl rfl hb_3) ?_
            clear S; intro aa S
            refine OL.pure S (Lf.run_pickF (S.ev rfl) hb_3 (S.ev rfl)) rfl rfl trivial ?_
            clear S; intro aa S
            refine OL.nil ?_
            exact ⟨_, _, S.sub _ ⟨rfl, rfl, rfl, rfl, rfl, rfl, rfl, rfl, rfl, rfl, rfl, rfl, rfl, trivial⟩, H⟩
        · clear S aa
          rintro aa ww ⟨x30, h5, S, HJ⟩
          replace H := HK_1 _ _ HJ
          clear HK_1 HJ
          refine OL.pure S (Lf.run_move (S.ev rfl)) rfl rfl trivial ?_
          clear S; intro aa S
          obtain ⟨J_2, H, HK_2⟩ := H
          refine OL.cutN 3 (fun aa ww => ∃ x34 h8, St 39 ((34, Value.bool x34) :: [(2, Value.bool x8), (3, Value.int .i64 x11), (4, Value.bool x12), (13, Value.bool x8), (14, Value.bool (!x8)), (15, Value.bool (!x8)), (17, Value.bool ((!x8) && x12)), (18, Value.bool ((!x8) && x12)), (21, Value.bool (((!x8) && x12) && (x11 == (-2)))), (22, Value.bool (((!x8) && x12) && (x11 == (-2)))), (25, Value.bool x25), (26, Value.bool x25), (30, Value.bool x30), (31, Value.bool x30)]) h8 w0 aa ww ∧ J_2 x34 h8) ?_ ?_
          · rcases Bool.eq_false_or_eq_true x30 with hb_4 | hb_4
            · replace H := H.1 hb_4
              refine ol_cal S H isfn29 rfl rfl (GOk.mk rfl rfl hb_4) ?_
              clear S H aa; intro u_9 aa ww h9 H S
              obtain ⟨x32, rfl, H⟩ := H
              refine OL.pure S (Lf.run_eql (S.ev rfl) (S.ev rfl)) rfl rfl (GOk.mk rfl rfl hb_4) ?_
              clear S; intro aa S
              refine OL.pure S (Lf.run_pickT (S.ev rfl) hb_4 (S.ev rfl)) rfl rfl trivial ?_
              clear S; intro aa S
              refine OL.nil ?_
              exact ⟨_, _, S.sub _ ⟨rfl, rfl, rfl, rfl, rfl, rfl, rfl, rfl, rfl, rfl, rfl, rfl, rfl, rfl, rfl, trivial⟩, H⟩
            · replace H := H.2 hb_4
              refine OL.not S rfl rfl (GNo.mk rfl rfl hb_4) ?_
              clear S; intro aa S
              refine OL.not S rfl rfl (GNo.mk rfl rfl hb_4) ?_
              clear S; intro aa S
              refine OL.pure S (Lf.run_pickF (S.ev rfl) hb_4 (S.ev rfl)) rfl rfl trivial ?_
              clear S; intro aa S
              refine OL.nil ?_
              exact ⟨_, _, S.sub _ ⟨rfl, rfl, rfl, rfl, rfl, rfl, rfl, rfl, rfl, rfl, rfl, rfl, rfl, rfl, rfl, trivial⟩, H⟩
          · clear S aa
            rintro aa ww ⟨x34, h8, S, HJ⟩
            replace H := HK_2 _ _ HJ
            clear HK_2 HJ
            refine OL.pure S (Lf.run_move (S.ev rfl)) rfl rfl trivial ?_
            clear S; intro aa S
            obtain ⟨J_3, H, HK_3⟩ := H
            refine OL.cutN 3 (fun aa ww => ∃ x38 h10, St 39 ((38, Value.bool x38) :: [(2, Value.bool x8), (3, Value.int .i64 x11), (4, Value.bool x12), (13, Value.bool x8), (14, Value.bool (!x8)), (15, Value.bool (!x8)), (17, Value.bool ((!x8) && x12)), (18, Value.bool ((!x8) && x12)), (21, Value.bool (((!x8) && x12) && (x11 == (-2)))), (22, Value.bool (((!x8) && x12) && (x11 == (-2)))), (25, Value.bool x25), (26, Value.bool x25), (30, Value.bool x30), (31, Value.bool x30), (34, Value.bool x34), (35, Value.bool x34)]) h10 w0 aa ww ∧ J_3 x38 h10) ?_ ?_
            · rcases Bool.eq_false_or_eq_true x34 with hb_5 | hb_5
              · replace H := H.1 hb_5
                refine ol_cal S H isfn39 rfl rfl (GOk.mk rfl rfl hb_5) ?_
                clear S H aa; intro u_10 aa ww h11 H S
                obtain ⟨x36, rfl, H⟩ := H
                refine OL.pure S (Lf.run_eqlt (S.ev rfl) (S.ev rfl)) rfl rfl (GOk.mk rfl rfl hb_5) ?_
                clear S; intro aa S
                refine OL.pure S (Lf.run_pickT (S.ev rfl) hb_5 (S.ev rfl)) rfl rfl trivial ?_
                clear S; intro aa S
                refine OL.nil ?_
                exact ⟨_, _, S.sub _ ⟨rfl, rfl, rfl, rfl, rfl, rfl, rfl, rfl, rfl, rfl, rfl, rfl, rfl, rfl, rfl, rfl, rfl, trivial⟩, H⟩
              · replace H := H.2 hb_5
                refine OL.not S rfl rfl (GNo.mk rfl rfl hb_5) ?_
                clear S; intro aa S
                refine OL.not S rfl rfl (GNo.mk rfl rfl hb_5) ?_
                clear S; intro aa S
                refine OL.pure S (Lf.run_pickF (S.ev rfl) hb_5 (S.ev rfl)) rfl rfl trivial ?_
                clear S; intro aa S
                refine OL.nil ?_
                exact ⟨_, _, S.sub _ ⟨rfl, rfl, rfl, rfl, rfl, rfl, rfl, rfl, rfl, rfl, rfl, rfl, rfl, rfl, rfl, rfl, rfl, trivial⟩, H⟩
            · clear S aa
              rintro aa ww ⟨x38, h10, S, HJ⟩
              replace H := HK_3 _ _ HJ
              clear HK_3 HJ
              refine OL.pure S (Lf.run_assign (S.ev rfl)) rfl rfl trivial ?_
              clear S; intro aa S
              refine OL.nil ?_
              refine W.ret ?_
              exact Ret.one S rfl rfl H

/-- chattel num.FLess -/
def L11 (a0 : Int) (b1 : Int) (h : Heap) (R : Value → Heap → Prop) : Prop :=
  R (Value.bool (fO (((a0 : Int)).toNat) (((b1 : Int)).toNat) == some .lt)) h

set_option maxRecDepth 100000 in

theorem F11 {a0 b1 h : _} {R : Value → Heap → Prop} (H : L11 a0 b1 h R) : CallsH Try.prog 11 #[Value.int .u64 a0, Value.int .u64 b1] h R := by
  refine CallsH.enter (n := 10) Try.func11 rfl rfl rfl rfl ?_
  intro w0 aa ww S
  unfold L11 at H
  refine W.seq ?_
  replace S := S.sub [(0, Value.int .u64 a0), (1, Value.int .u64 b1)] ⟨rfl, rfl, trivial⟩
  refine W.region ?_
  refine OL.pure S (Lf.run_assign (S.ev rfl)) rfl rfl trivial ?_
  clear S; intro aa S
  refine OL.nil ?_
  refine W.seq ?_
  replace S := S.sub [(0, Value.int .u64 a0), (1, Value.int .u64 b1)] ⟨rfl, rfl, trivial⟩
  refine W.region ?_
  refine OL.pure S (Lf.run_move (S.ev rfl)) rfl rfl trivial ?_
  clear S; intro aa S
  refine OL.pure S (Lf.run_fromB isext43 (evs_map S rfl)) rfl rfl trivial ?_
  clear S; intro aa S
  refine OL.pure S (Lf.run_move (S.ev rfl)) rfl rfl trivial ?_
  clear S; intro aa S
  refine OL.pure S (Lf.run_fromB isext43 (evs_map S rfl)) rfl rfl trivial ?_
  clear S; intro aa S
  refine OL.pure S (Lf.run_flss (S.ev rfl) (S.ev rfl)) rfl rfl trivial ?_
  clear S; intro aa S
  refine OL.pure S (Lf.run_assign (S.ev rfl)) rfl rfl trivial ?_
  clear S; intro aa S
  refine OL.nil ?_
  refine W.ret ?_
  exact Ret.one S rfl rfl H

/-- chattel chattelref02.FLess -/
def L12 (a0 : Int) (b1 : Int) (h : Heap) (R : Value → Heap → Prop) : Prop :=
  cal Try.prog 16 #[Value.int .u64 a0] h fun u h1 => asI .i64 u fun x6 =>
  ∃ J : Bool → Heap → Prop, (andj (decide (0 < x6)) (fun k =>
    cal Try.prog 16 #[Value.int .u64 b1] h1 fun u_1 h3 => asI .i64 u_1 fun x10 =>
    k (decide (0 < x10)) h3) h1 J) ∧ ∀ x12 h2, J x12 h2 →
  ∃ J_1 : Bool → Heap → Prop, (andj x12 (fun k_1 =>
    cal Try.prog 44 #[Value.int .u64 a0] h2 fun u_2 h5 => asI .i64 u_2 fun x15 =>
    cal Try.prog 44 #[Value.int .u64 b1] h5 fun u_3 h6 => asI .i64 u_3 fun x17 =>
    k_1 (decide (x15 < x17)) h6) h2 J_1) ∧ ∀ x19 h4, J_1 x19 h4 →
  R (Value.bool x19) h4

set_option maxRecDepth 100000 in

theorem F12 {a0 b1 h : _} {R : Value → Heap → Prop} (H : L12 a0 b1 h R) : CallsH Try.prog 12 #[Value.int .u64 a0, Value.int .u64 b1] h R := by
  refine CallsH.enter (n := 20) Try.func12 rfl rfl rfl rfl ?_
  intro w0 aa ww S
  unfold L12 at H
  refine W.seq ?_
  replace S := S.sub [(0, Value.int .u64 a0), (1, Value.int .u64 b1)] ⟨rfl, rfl, trivial⟩
  refine W.region ?_
  refine OL.pure S (Lf.run_assign (S.ev rfl)) rfl rfl trivial ?_
  clear S; intro aa S
  refine OL.nil ?_
  refine W.seq ?_
  replace S := S.sub [(0, Value.int .u64 a0), (1, Value.int .u64 b1)] ⟨rfl, rfl, trivial⟩
  refine W.region ?_
  refine OL.pure S (Lf.run_move (S.ev rfl)) rfl rfl trivial ?_
  clear S; intro aa S
  refine ol_cal S H isfn16 rfl rfl trivial ?_
  clear S H aa; intro u aa ww h1 H S
  obtain ⟨x6, rfl, H⟩ := H
  refine OL.pure S (Lf.run_gtr (S.ev rfl) (S.ev rfl)) rfl rfl trivial ?_
  clear S; intro aa S
  refine OL.pure S (Lf.run_move (S.ev rfl)) rfl rfl trivial ?_
  clear S; intro aa S
  obtain ⟨J, H, HK⟩ := H
  refine OL.cutN 4 (fun aa ww => ∃ x12 h2, St 20 ((12, Value.bool x12) :: [(0, Value.int .u64 a0), (1, Value.int .u64 b1), (5, Value.int .u64 a0), (6, Value.int .i64 x6), (7, Value.bool (decide (0 < x6))), (8, Value.bool (decide (0 < x6)))]) h2 w0 aa ww ∧ J x12 h2) ?_ ?_
  · rcases Bool.eq_false_or_eq_true (decide (0 < x6)) with hb | hb
    · replace H := H.1 hb
      refine OL.pure S (Lf.run_move (S.ev rfl)) rfl rfl (GOk.mk rfl rfl hb) ?_
      clear S; intro aa S
      refine ol_cal S H isfn16 rfl rfl (GOk.mk rfl rfl hb) ?_
      clear S H aa; intro u_1 aa ww h3 H S
      obtain ⟨x10, rfl, H⟩ := H
      refine OL.pure S (Lf.run_gtr (S.ev rfl) (S.ev rfl)) rfl rfl (GOk.mk rfl rfl hb) ?_
      clear S; intro aa S
      refine OL.pure S (Lf.run_pickT (S.ev rfl) hb (S.ev rfl)) rfl rfl trivial ?_
      clear S; intro aa S
      refine OL.nil ?_
      exact ⟨_, _, S.sub _ ⟨rfl, rfl, rfl, rfl, rfl, rfl, rfl, trivial⟩, H⟩
    · replace H := H.2 hb
      refine OL.not S rfl rfl (GNo.mk rfl rfl hb) ?_
      clear S; intro aa S
      refine OL.not S rfl rfl (GNo.mk rfl rfl hb) ?_
      clear S; intro aa S
      refine OL.not S rfl rfl (GNo.mk rfl rfl hb) ?_
      clear S; intro aa S
      refine OL.pure S (Lf.run_pickF (S.ev rfl) hb (S.ev rfl)) rfl rfl trivial ?_
      clear S; intro aa S
      refine OL.nil ?_
      exact ⟨_, _, S.sub _ ⟨rfl, rfl, rfl, rfl, rfl, rfl, rfl, trivial⟩, H⟩
  · clear S aa
    rintro aa ww ⟨x12, h2, S, HJ⟩
    replace H := HK _ _ HJ
    clear HK HJ
    refine OL.pure S (Lf.run_move (S.ev rfl)) rfl rfl trivial ?_
    clear S; intro aa S
    obtain ⟨J_1, H, HK_1⟩ := H
    refine OL.cutN 6 (fun aa ww => ∃ x19 h4, St 20 ((19, Value.bool x19) :: [(0, Value.int .u64 a0), (1, Value.int .u64 b1), (5, Value.int .u64 a0), (6, Value.int .i64 x6), (7, Value.bool (decide (0 < x6))), (8, Value.bool (decide (0 < x6))), (12, Value.bool x12), (13, Value.bool x12)]) h4 w0 aa ww ∧ J_1 x19 h4) ?_ ?_
    · rcases Bool.eq_false_or_eq_true x12 with hb_1 | hb_1
      · replace H := H.1 hb_1
        refine OL.pure S (Lf.run_move (S.ev rfl)) rfl rfl (GOk.mk rfl rfl hb_1) ?_
        clear S; intro aa S
        refine ol_cal S H isfn44 rfl rfl (GOk.mk rfl rfl hb_1) ?_
        clear S H aa; intro u_2 aa ww h5 H S
        obtain ⟨x15, rfl, H⟩ := H
        refine OL.pure S (Lf.run_move (S.ev rfl)) rfl rfl (GOk.mk rfl rfl hb_1) ?_
        clear S; intro aa S
        refine ol_cal S H isfn44 rfl rfl (GOk.mk rfl rfl hb_1) ?_
        clear S H aa; intro u_3 aa ww h6 H S
        obtain ⟨x17, rfl, H⟩ := H
        refine OL.pure S (Lf.run_lss (S.ev rfl) (S.ev rfl)) rfl rfl (GOk.mk rfl rfl hb_1) ?_
        clear S; intro aa S
        refine OL.pure S (Lf.run_pickT (S.ev rfl) hb_1 (S.ev rfl)) rfl rfl trivial ?_
        clear S; intro aa S
        refine OL.nil ?_
        exact ⟨_, _, S.sub _ ⟨rfl, rfl, rfl, rfl, rfl, rfl, rfl, rfl, rfl, trivial⟩, H⟩
      · replace H := H.2 hb_1
        refine OL.not S rfl rfl (GNo.mk rfl rfl hb_1) ?_
        clear S; intro aa S
        refine OL.not S rfl rfl (GNo.mk rfl rfl hb_1) ?_
        clear S; intro aa S
        refine OL.not S rfl rfl (GNo.mk rfl rfl hb_1) ?_
        clear S; intro aa S
        refine OL.not S rfl rfl (GNo.mk rfl rfl hb_1) ?_
        clear S; intro aa S
        refine OL.not S rfl rfl (GNo.mk rfl rfl hb_1) ?_
        clear S; intro aa S
        refine OL.pure S (Lf.run_pickF (S.ev rfl) hb_1 (S.ev rfl)) rfl rfl trivial ?_
        clear S; intro aa S
        refine OL.nil ?_
        exact ⟨_, _, S.sub _ ⟨rfl, rfl, rfl, rfl, rfl, rfl, rfl, rfl, rfl, trivial⟩, H⟩
    · clear S aa
      rintro aa ww ⟨x19, h4, S, HJ⟩
      replace H := HK_1 _ _ HJ
      clear HK_1 HJ
      refine OL.pure S (Lf.run_assign (S.ev rfl)) rfl rfl trivial ?_
      clear S; intro aa S
      refine OL.nil ?_
      refine W.ret ?_
      exact Ret.one S rfl rfl H

/-- chattel num.FSame -/
def L13 (a0 : Int) (b1 : Int) (h : Heap) (R : Value → Heap → Prop) : Prop :=
  R (Value.bool (fO (((a0 : Int)).toNat) (((b1 : Int)).toNat) == some .eq)) h

set_option maxRecDepth 100000 in

theorem F13 {a0 b1 h : _} {R : Value → Heap → Prop} (H : L13 a0 b1 h R) : CallsH Try.prog 13 #[Value.int .u64 a0, Value.int .u64 b1] h R := by
  refine CallsH.enter (n := 10) Try.func13 rfl rfl rfl rfl ?_
  intro w0 aa ww S
  unfold L13 at H
  refine W.seq ?_
  replace S := S.sub [(0, Value.int .u64 a0), (1, Value.int .u64 b1)] ⟨rfl, rfl, trivial⟩
  refine W.region ?_
  refine OL.pure S (Lf.run_assign (S.ev rfl)) rfl rfl trivial ?_
  clear S; intro aa S
  refine OL.nil ?_
  refine W.seq ?_
  replace S := S.sub [(0, Value.int .u64 a0), (1, Value.int .u64 b1)] ⟨rfl, rfl, trivial⟩
  refine W.region ?_
  refine OL.pure S (Lf.run_move (S.ev rfl)) rfl rfl trivial ?_
  clear S; intro aa S
  refine OL.pure S (Lf.run_fromB isext43 (evs_map S rfl)) rfl rfl trivial ?_
  clear S; intro aa S
  refine OL.pure S (Lf.run_move (S.ev rfl)) rfl rfl trivial ?_
  clear S; intro aa S
  refine OL.pure S (Lf.run_fromB isext43 (evs_map S rfl)) rfl rfl trivial ?_
  clear S; intro aa S
  refine OL.pure S (Lf.run_feql (S.ev rfl) (S.ev rfl)) rfl rfl trivial ?_
  clear S; intro aa S
  refine OL.pure S (Lf.run_assign (S.ev rfl)) rfl rfl trivial ?_
  clear S; intro aa S
  refine OL.nil ?_
  refine W.ret ?_
  exact Ret.one S rfl rfl H

/-- chattel chattelref02.FSame -/
def L14 (a0 : Int) (b1 : Int) (h : Heap) (R : Value → Heap → Prop) : Prop :=
  cal Try.prog 16 #[Value.int .u64 a0] h fun u h1 => asI .i64 u fun x6 =>
  ∃ J : Bool → Heap → Prop, (andj (decide (0 < x6)) (fun k =>
    cal Try.prog 16 #[Value.int .u64 b1] h1 fun u_1 h3 => asI .i64 u_1 fun x10 =>
    k (decide (0 < x10)) h3) h1 J) ∧ ∀ x12 h2, J x12 h2 →
  ∃ J_1 : Bool → Heap → Prop, (andj x12 (fun k_1 =>
    cal Try.prog 44 #[Value.int .u64 a0] h2 fun u_2 h5 => asI .i64 u_2 fun x15 =>
    cal Try.prog 44 #[Value.int .u64 b1] h5 fun u_3 h6 => asI .i64 u_3 fun x17 =>
    k_1 (x15 == x17) h6) h2 J_1) ∧ ∀ x19 h4, J_1 x19 h4 →
  R (Value.bool x19) h4

set_option maxRecDepth 100000 in

theorem F14 {a0 b1 h : _} {R : Value → Heap → Prop} (H : L14 a0 b1 h R) : CallsH Try.prog 14 #[Value.int .u64 a0, Value.int .u64 b1] h R := by
  refine CallsH.enter (n := 20) Try.func14 rfl rfl rfl rfl ?_
  intro w0 aa ww S
  unfold L14 at H
  refine W.seq ?_
  replace S := S.sub [(0, Value.int .u64 a0), (1, Value.int .u64 b1)] ⟨rfl, rfl, trivial⟩
  refine W.region ?_
  refine OL.pure S (Lf.run_assign (S.ev rfl)) rfl rfl trivial ?_
  clear S; intro aa S
  refine OL.nil ?_
  refine W.seq ?_
  replace S := S.sub [(0, Value.int .u64 a0), (1, Value.int .u64 b1)] ⟨rfl, rfl, trivial⟩
  refine W.region ?_
  refine OL.pure S (Lf.run_move (S.ev rfl)) rfl rfl trivial ?_
  clear S; intro aa S
  refine ol_cal S H isfn16 rfl rfl trivial ?_
  clear S H aa; intro u aa ww h1 H S
  obtain ⟨x6, rfl, H⟩ := H
  refine OL.pure S (Lf.run_gtr (S.ev rfl) (S.ev rfl)) rfl rfl trivial ?_
  clear S; intro aa S
  refine OL.pure S (Lf.run_move (S.ev rfl)) rfl rfl trivial ?_
  clear S; intro aa S
  obtain ⟨J, H, HK⟩ := H
  refine OL.cutN 4 (fun aa ww => ∃ x12 h2, St 20 ((12, Value.bool x12) :: [(0, Value.int .u64 a0), (1, Value.int .u64 b1), (5, Value.int .u64 a0), (6, Value.int .i64 x6), (7, Value.bool (decide (0 < x6))), (8, Value.bool (decide (0 < x6)))]) h2 w0 aa ww ∧ J x12 h2) ?_ ?_
  · rcases Bool.eq_false_or_eq_true (decide (0 < x6)) with hb | hb
    · replace H := H.1 hb
      refine OL.pure S (Lf.run_move (S.ev rfl)) rfl rfl (GOk.mk rfl rfl hb) ?_
      clear S; intro aa S
      refine ol_cal S H isfn16 rfl rfl (GOk.mk rfl rfl hb) ?_
      clear S H aa; intro u_1 aa ww h3 H S
      obtain ⟨x10, rfl, H⟩ := H
      refine OL.pure S (Lf.run_gtr (S.ev rfl) (S.ev rfl)) rfl rfl (GOk.mk rfl rfl hb) ?_
      clear S; intro aa S
      refine OL.pure S (Lf.run_pickT (S.ev rfl) hb (S.ev rfl)) rfl rfl trivial ?_
      clear S; intro aa S
      refine OL.nil ?_
      exact ⟨_, _, S.sub _ ⟨rfl, rfl, rfl, rfl, rfl, rfl, rfl, trivial⟩, H⟩
    · replace H := H.2 hb
      refine OL.not S rfl rfl (GNo.mk rfl rfl hb) ?_
      clear S; intro aa S
      refine OL.not S rfl rfl (GNo.mk rfl rfl hb) ?_
      clear S; intro aa S
      refine OL.not S rfl rfl (GNo.mk rfl rfl hb) ?_
      clear S; intro aa S
      refine OL.pure S (Lf.run_pickF (S.ev rfl) hb (S.ev rfl)) rfl rfl trivial ?_
      clear S; intro aa S
      refine OL.nil ?_
      exact ⟨_, _, S.sub _ ⟨rfl, rfl, rfl, rfl, rfl, rfl, rfl, trivial⟩, H⟩
  · clear S aa
    rintro aa ww ⟨x12, h2, S, HJ⟩
    replace H := HK _ _ HJ
    clear HK HJ
    refine OL.pure S (Lf.run_move (S.ev rfl)) rfl rfl trivial ?_
    clear S; intro aa S
    obtain ⟨J_1, H, HK_1⟩ := H
    refine OL.cutN 6 (fun aa ww => ∃ x19 h4, St 20 ((19, Value.bool x19) :: [(0, Value.int .u64 a0), (1, Value.int .u64 b1), (5, Value.int .u64 a0), (6, Value.int .i64 x6), (7, Value.bool (decide (0 < x6))), (8, Value.bool (decide (0 < x6))), (12, Value.bool x12), (13, Value.bool x12)]) h4 w0 aa ww ∧ J_1 x19 h4) ?_ ?_
    · rcases Bool.eq_false_or_eq_true x12 with hb_1 | hb_1
      · replace H := H.1 hb_1
        refine OL.pure S (Lf.run_move (S.ev rfl)) rfl rfl (GOk.mk rfl rfl hb_1) ?_
        clear S; intro aa S
        refine ol_cal S H isfn44 rfl rfl (GOk.mk rfl rfl hb_1) ?_
        clear S H aa; intro u_2 aa ww h5 H S
        obtain ⟨x15, rfl, H⟩ := H
        refine OL.pure S (Lf.run_move (S.ev rfl)) rfl rfl (GOk.mk rfl rfl hb_1) ?_
        clear S; intro aa S
        refine ol_cal S H isfn44 rfl rfl (GOk.mk rfl rfl hb_1) ?_
        clear S H aa; intro u_3 aa ww h6 H S
        obtain ⟨x17, rfl, H⟩ := H
        refine OL.pure S (Lf.run_eql (S.ev rfl) (S.ev rfl)) rfl rfl (GOk.mk rfl rfl hb_1) ?_
        clear S; intro aa S
        refine OL.pure S (Lf.run_pickT (S.ev rfl) hb_1 (S.ev rfl)) rfl rfl trivial ?_
        clear S; intro aa S
        refine OL.nil ?_
        exact ⟨_, _, S.sub _ ⟨rfl, rfl, rfl, rfl, rfl, rfl, rfl, rfl, rfl, trivial⟩, H⟩
      · replace H := H.2 hb_1
        refine OL.not S rfl rfl (GNo.mk rfl rfl hb_1) ?_
        clear S; intro aa S
        refine OL.not S rfl rfl (GNo.mk rfl rfl hb_1) ?_
        clear S; intro aa S
        refine OL.not S rfl rfl (GNo.mk rfl rfl hb_1) ?_
        clear S; intro aa S
        refine OL.not S rfl rfl (GNo.mk rfl rfl hb_1) ?_
        clear S; intro aa S
        refine OL.not S rfl rfl (GNo.mk rfl rfl hb_1) ?_
        clear S; intro aa S
        refine OL.pure S (Lf.run_pickF (S.ev rfl) hb_1 (S.ev rfl)) rfl rfl trivial ?_
        clear S; intro aa S
        refine OL.nil ?_
        exact ⟨_, _, S.sub _ ⟨rfl, rfl, rfl, rfl, rfl, rfl, rfl, rfl, rfl, trivial⟩, H⟩
    · clear S aa
      rintro aa ww ⟨x19, h4, S, HJ⟩
      replace H := HK_1 _ _ HJ
      clear HK_1 HJ
      refine OL.pure S (Lf.run_assign (S.ev rfl)) rfl rfl trivial ?_
      clear S; intro aa S
      refine OL.nil ?_
      refine W.ret ?_
      exact Ret.one S rfl rfl H

/-- chattel num.Kind -/
def L15 (a0 : Int) (h : Heap) (R : Value → Heap → Prop) : Prop :=
  ifb (fO (((a0 : Int)).toNat) (((a0 : Int)).toNat) != some .eq) (
    R (Value.int .i64 0) h) (
    cal Try.prog 45 #[Value.float .f64 (((a0 : Int)).toNat), Value.int .i64 (-1)] h fun u h1 => asB u fun x12 =>
    ifb x12 (
      R (Value.int .i64 1) h1) (
      cal Try.prog 45 #[Value.float .f64 (((a0 : Int)).toNat), Value.int .i64 1] h1 fun u_1 h2 => asB u_1 fun x15 =>
      ifb x15 (
        R (Value.int .i64 6) h2) (
        ifb (fO (((a0 : Int)).toNat) 0 == some .lt) (
          R (Value.int .i64 2) h2) (
          ifb (fO (((a0 : Int)).toNat) 0 == some .gt) (
            R (Value.int .i64 5) h2) (
            cal Try.prog 46 #[Value.float .f64 (((a0 : Int)).toNat)] h2 fun u_2 h3 => asB u_2 fun x24 =>
            ifb x24 (
              R (Value.int .i64 3) h3) (
              R (Value.int .i64 4) h3))))))

set_option maxRecDepth 100000 in

theorem F15 {a0 h : _} {R : Value → Heap → Prop} (H : L15 a0 h R) : CallsH Try.prog 15 #[Value.int .u64 a0] h R := by
  refine CallsH.enter (n := 25) Try.func15 rfl rfl rfl rfl ?_
  intro w0 aa ww S
  unfold L15 at H
  refine W.seq ?_
  replace S := S.sub [(0, Value.int .u64 a0)] ⟨rfl, trivial⟩
  refine W.region ?_
  refine OL.pure S (Lf.run_assign (S.ev rfl)) rfl rfl trivial ?_
  clear S; intro aa S
  refine OL.nil ?_
  refine W.seq ?_
  replace S := S.sub [(0, Value.int .u64 a0)] ⟨rfl, trivial⟩
  refine W.region ?_
  refine OL.pure S (Lf.run_move (S.ev rfl)) rfl rfl trivial ?_
  clear S; intro aa S
  refine OL.pure S (Lf.run_fromB isext43 (evs_map S rfl)) rfl rfl trivial ?_
  clear S; intro aa S
  refine OL.pure S (Lf.run_assign (S.ev rfl)) rfl rfl trivial ?_
  clear S; intro aa S
  refine OL.nil ?_
  refine W.seq ?_
  refine W.block ?_
  refine W.seq ?_
  replace S := S.sub [(3, Value.float .f64 (((a0 : Int)).toNat))] ⟨rfl, trivial⟩
  refine W.region ?_
  refine OL.pure S (Lf.run_move (S.ev rfl)) rfl rfl trivial ?_
  clear S; intro aa S
  refine OL.pure S (Lf.run_move (S.ev rfl)) rfl rfl trivial ?_
  clear S; intro aa S
  refine OL.pure S (Lf.run_fneq (S.ev rfl) (S.ev rfl)) rfl rfl trivial ?_
  clear S; intro aa S
  refine OL.pure S (Lf.run_assign (S.ev rfl)) rfl rfl trivial ?_
  clear S; intro aa S
  refine OL.nil ?_
  refine W.cond S (b := (fO (((a0 : Int)).toNat) (((a0 : Int)).toNat) != some .eq)) rfl (fun hb => ?_) (fun hb => ?_)
  · replace H := H.1 hb
    refine W.seq ?_
    replace S := S.sub [] trivial
    refine W.region ?_
    refine OL.pure S (Lf.run_assign (S.ev rfl)) rfl rfl trivial ?_
    clear S; intro aa S
    refine OL.nil ?_
    refine W.ret ?_
    exact Ret.one S rfl rfl H
  · replace H := H.2 hb
    refine W.seq ?_
    replace S := S.sub [(3, Value.float .f64 (((a0 : Int)).toNat))] ⟨rfl, trivial⟩
    refine W.region ?_
    refine OL.pure S (Lf.run_move (S.ev rfl)) rfl rfl trivial ?_
    clear S; intro aa S
    refine ol_cal S H isfn45 rfl rfl trivial ?_
    clear S H aa; intro u aa ww h1 H S
    obtain ⟨x12, rfl, H⟩ := H
    refine OL.pure S (Lf.run_assign (S.ev rfl)) rfl rfl trivial ?_
    clear S; intro aa S
    refine OL.nil ?_
    refine W.cond S (b := x12) rfl (fun hb_1 => ?_) (fun hb_1 => ?_)
    · replace H := H.1 hb_1
      refine W.seq ?_
      replace S := S.sub [] trivial
      refine W.region ?_
      refine OL.pure S (Lf.run_assign (S.ev rfl)) rfl rfl trivial ?_
      clear S; intro aa S
      refine OL.nil ?_
      refine W.ret ?_
      exact Ret.one S rfl rfl H
    · replace H := H.2 hb_1
      refine W.seq ?_
      replace S := S.sub [(3, Value.float .f64 (((a0 : Int)).toNat))] ⟨rfl, trivial⟩
      refine W.region ?_
      refine OL.pure S (Lf.run_move (S.ev rfl)) rfl rfl trivial ?_
      clear S; intro aa S
      refine ol_cal S H isfn45 rfl rfl trivial ?_
      clear S H aa; intro u_1 aa ww h2 H S
      obtain ⟨x15, rfl, H⟩ := H
      refine OL.pure S (Lf.run_assign (S.ev rfl)) rfl rfl trivial ?_
      clear S; intro aa S
      refine OL.nil ?_
      refine W.cond S (b := x15) rfl (fun hb_2 => ?_) (fun hb_2 => ?_)
      · replace H := H.1 hb_2
        refine W.seq ?_
        replace S := S.sub [] trivial
        refine W.region ?_
        refine OL.pure S (Lf.run_assign (S.ev rfl)) rfl rfl trivial ?_
        clear S; intro aa S
        refine OL.nil ?_
        refine W.ret ?_
        exact Ret.one S rfl rfl H
      · replace H := H.2 hb_2
        refine W.seq ?_
        replace S := S.sub [(3, Value.float .f64 (((a0 : Int)).toNat))] ⟨rfl, trivial⟩
        refine W.region ?_
        refine OL.pure S (Lf.run_move (S.ev rfl)) rfl rfl trivial ?_
        clear S; intro aa S
        refine OL.pure S (Lf.run_flss (S.ev rfl) (S.ev rfl)) rfl rfl trivial ?_
        clear S; intro aa S
        refine OL.pure S (Lf.run_assign (S.ev rfl)) rfl rfl trivial ?_
        clear S; intro aa S
        refine OL.nil ?_
        refine W.cond S (b := (fO (((a0 : Int)).toNat) 0 == some .lt)) rfl (fun hb_3 => ?_) (fun hb_3 => ?_)
        · replace H := H.1 hb_3
          refine W.seq ?_
          replace S := S.sub [] trivial
          refine W.region ?_
          refine OL.pure S (Lf.run_assign (S.ev rfl)) rfl rfl trivial ?_
          clear S; intro aa S
          refine OL.nil ?_
          refine W.ret ?_
          exact Ret.one S rfl rfl H
        · replace H := H.2 hb_3
          refine W.seq ?_
          replace S := S.sub [(3, Value.float .f64 (((a0 : Int)).toNat))] ⟨rfl, trivial⟩
          refine W.region ?_
          refine OL.pure S (Lf.run_move (S.ev rfl)) rfl rfl trivial ?_
          clear S; intro aa S
          refine OL.pure S (Lf.run_fgtr (S.ev rfl) (S.ev rfl)) rfl rfl trivial ?_
          clear S; intro aa S
          refine OL.pure S (Lf.run_assign (S.ev rfl)) rfl rfl trivial ?_
          clear S; intro aa S
          refine OL.nil ?_
          refine W.cond S (b := (fO (((a0 : Int)).toNat) 0 == some .gt)) rfl (fun hb_4 => ?_) (fun hb_4 => ?_)
          · replace H := H.1 hb_4
            refine W.seq ?_
            replace S := S.sub [] trivial
            refine W.region ?_
            refine OL.pure S (Lf.run_assign (S.ev rfl)) rfl rfl trivial ?_
            clear S; intro aa S
            refine OL.nil ?_
            refine W.ret ?_
            exact Ret.one S rfl rfl H
          · replace H := H.2 hb_4
            refine W.seq ?_
            replace S := S.sub [(3, Value.float .f64 (((a0 : Int)).toNat))] ⟨rfl, trivial⟩
            refine W.region ?_
            refine OL.pure S (Lf.run_move (S.ev rfl)) rfl rfl trivial ?_
            clear S; intro aa S
            refine ol_cal S H isfn46 rfl rfl trivial ?_
            clear S H aa; intro u_2 aa ww h3 H S
            obtain ⟨x24, rfl, H⟩ := H
            refine OL.pure S (Lf.run_assign (S.ev rfl)) rfl rfl trivial ?_
            clear S; intro aa S
            refine OL.nil ?_
            refine W.cond S (b := x24) rfl (fun hb_5 => ?_) (fun hb_5 => ?_)
            · replace H := H.1 hb_5
              refine W.seq ?_
              replace S := S.sub [] trivial
              refine W.region ?_
              refine OL.pure S (Lf.run_assign (S.ev rfl)) rfl rfl trivial ?_
              clear S; intro aa S
              refine OL.nil ?_
              refine W.ret ?_
              exact Ret.one S rfl rfl H
            · replace H := H.2 hb_5
              refine W.skip ?_
              refine W.seq ?_
              replace S := S.sub [] trivial
              refine W.region ?_
              refine OL.pure S (Lf.run_assign (S.ev rfl)) rfl rfl trivial ?_
              clear S; intro aa S
              refine OL.nil ?_
              refine W.ret ?_
              exact Ret.one S rfl rfl H

/-- chattel chattelref02.Kind -/
def L16 (a0 : Int) (h : Heap) (R : Value → Heap → Prop) : Prop :=
  cal Try.prog 47 #[Value.int .u64 a0] h fun u h1 => asTup u fun r8 =>
  elt r8 0 fun u_1 => asI .u64 u_1 fun x9 =>
  elt r8 1 fun u_2 => asI .u64 u_2 fun x10 =>
  elt r8 2 fun u_3 => asI .u64 u_3 fun x11 =>
  ifb ((x10 == 2047) && (decide (0 < x11))) (
    R (Value.int .i64 0) h1) (
    ifb (x10 == 2047) (
      ifb (decide (0 < x9)) (
        R (Value.int .i64 1) h1) (
        R (Value.int .i64 6) h1)) (
      ifb ((x10 == 0) && (x11 == 0)) (
        ifb (decide (0 < x9)) (
          R (Value.int .i64 3) h1) (
          R (Value.int .i64 4) h1)) (
        ifb (decide (0 < x9)) (
          R (Value.int .i64 2) h1) (
          R (Value.int .i64 5) h1))))

set_option maxRecDepth 100000 in

theorem F16 {a0 h : _} {R : Value → Heap → Prop} (H : L16 a0 h R) : CallsH Try.prog 16 #[Value.int .u64 a0] h R := by
  refine CallsH.enter (n := 32) Try.func16 rfl rfl rfl rfl ?_
  intro w0 aa ww S
  unfold L16 at H
  refine W.seq ?_
  replace S := S.sub [(0, Value.int .u64 a0)] ⟨rfl, trivial⟩
  refine W.region ?_
  refine OL.pure S (Lf.run_assign (S.ev rfl)) rfl rfl trivial ?_
  clear S; intro aa S
  refine OL.nil ?_
  refine W.seq ?_
  replace S := S.sub [(0, Value.int .u64 a0)] ⟨rfl, trivial⟩
  refine W.region ?_
  refine OL.pure S (Lf.run_move (S.ev rfl)) rfl rfl trivial ?_
  clear S; intro aa S
  refine ol_cal S H isfn47 rfl rfl trivial ?_
  clear S H aa; intro u aa ww h1 H S
  obtain ⟨r8, rfl, H⟩ := H
  refine OL.pure S (Lf.run_move (S.ev rfl)) rfl rfl trivial ?_
  clear S; intro aa S
  obtain ⟨u_1, e, x9, rfl, H⟩ := H
  refine OL.pure S (Lf.run_ex (S.ev rfl) e) rfl rfl trivial ?_
  clear S; intro aa S
  obtain ⟨u_2, e_1, x10, rfl, H⟩ := H
  refine OL.pure S (Lf.run_ex (S.ev rfl) e_1) rfl rfl trivial ?_
  clear S; intro aa S
  obtain ⟨u_3, e_2, x11, rfl, H⟩ := H
  refine OL.pure S (Lf.run_ex (S.ev rfl) e_2) rfl rfl trivial ?_
  clear S; intro aa S
  refine OL.pure S (Lf.run_assign (S.ev rfl)) rfl rfl trivial ?_
  clear S; intro aa S
  refine OL.pure S (Lf.run_assign (S.ev rfl)) rfl rfl trivial ?_
  clear S; intro aa S
  refine OL.pure S (Lf.run_assign (S.ev rfl)) rfl rfl trivial ?_
  clear S; intro aa S
  refine OL.nil ?_
  refine W.seq ?_
  refine W.seq ?_
  replace S := S.sub [(3, Value.int .u64 x9), (4, Value.int .u64 x10), (5, Value.int .u64 x11)] ⟨rfl, rfl, rfl, trivial⟩
  refine W.region ?_
  refine OL.pure S (Lf.run_move (S.ev rfl)) rfl rfl trivial ?_
  clear S; intro aa S
  refine OL.pure S (Lf.run_eql (S.ev rfl) (S.ev rfl)) rfl rfl trivial ?_
  clear S; intro aa S
  refine OL.pure S (Lf.run_move (S.ev rfl)) rfl rfl trivial ?_
  clear S; intro aa S
  refine OL.cutN 3 (fun aa ww => St 32 ((17, Value.bool ((x10 == 2047) && (decide (0 < x11)))) :: [(3, Value.int .u64 x9), (4, Value.int .u64 x10), (5, Value.int .u64 x11), (12, Value.int .u64 x10), (13, Value.bool (x10 == 2047)), (14, Value.bool (x10 == 2047))]) h1 w0 aa ww) ?_ ?_
  · rcases Bool.eq_false_or_eq_true (x10 == 2047) with hb | hb
    · refine OL.pure S (Lf.run_move (S.ev rfl)) rfl rfl (GOk.mk rfl rfl hb) ?_
      clear S; intro aa S
      refine OL.pure S (Lf.run_gtr (S.ev rfl) (S.ev rfl)) rfl rfl (GOk.mk rfl rfl hb) ?_
      clear S; intro aa S
      refine OL.pure S (Lf.run_pickT (S.ev rfl) hb (S.ev rfl)) rfl rfl trivial ?_
      clear S; intro aa S
      refine OL.nil ?_
      exact (S.hd (by rw [hb, Bool.true_and])).sub _ ⟨rfl, rfl, rfl, rfl, rfl, rfl, rfl, trivial⟩
    · refine OL.not S rfl rfl (GNo.mk rfl rfl hb) ?_
      clear S; intro aa S
      refine OL.not S rfl rfl (GNo.mk rfl rfl hb) ?_
      clear S; intro aa S
      refine OL.pure S (Lf.run_pickF (S.ev rfl) hb (S.ev rfl)) rfl rfl trivial ?_
      clear S; intro aa S
      refine OL.nil ?_
      exact (S.hd (by rw [hb, Bool.false_and])).sub _ ⟨rfl, rfl, rfl, rfl, rfl, rfl, rfl, trivial⟩
  · clear S aa
    intro aa ww S
    refine OL.nil ?_
    refine W.cond S (b := ((x10 == 2047) && (decide (0 < x11)))) rfl (fun hb_1 => ?_) (fun hb_1 => ?_)
    · replace H := H.1 hb_1
      refine W.seq ?_
      replace S := S.sub [] trivial
      refine W.region ?_
      refine OL.pure S (Lf.run_assign (S.ev rfl)) rfl rfl trivial ?_
      clear S; intro aa S
      refine OL.nil ?_
      refine W.ret ?_
      exact Ret.one S rfl rfl H
    · replace H := H.2 hb_1
      refine W.skip ?_
      refine W.seq ?_
      refine W.seq ?_
      replace S := S.sub [(3, Value.int .u64 x9), (4, Value.int .u64 x10), (5, Value.int .u64 x11)] ⟨rfl, rfl, rfl, trivial⟩
      refine W.region ?_
      refine OL.pure S (Lf.run_move (S.ev rfl)) rfl rfl trivial ?_
      clear S; intro aa S
      refine OL.pure S (Lf.run_eql (S.ev rfl) (S.ev rfl)) rfl rfl trivial ?_
      clear S; intro aa S
      refine OL.nil ?_
      refine W.cond S (b := (x10 == 2047)) rfl (fun hb_2 => ?_) (fun hb_2 => ?_)
      · replace H := H.1 hb_2
        refine W.seq ?_
        refine W.seq ?_
        replace S := S.sub [(3, Value.int .u64 x9)] ⟨rfl, trivial⟩
        refine W.region ?_
        refine OL.pure S (Lf.run_move (S.ev rfl)) rfl rfl trivial ?_
        clear S; intro aa S
        refine OL.pure S (Lf.run_gtr (S.ev rfl) (S.ev rfl)) rfl rfl trivial ?_
        clear S; intro aa S
        refine OL.nil ?_
        refine W.cond S (b := (decide (0 < x9))) rfl (fun hb_3 => ?_) (fun hb_3 => ?_)
        · replace H := H.1 hb_3
          refine W.seq ?_
          replace S := S.sub [] trivial
          refine W.region ?_
          refine OL.pure S (Lf.run_assign (S.ev rfl)) rfl rfl trivial ?_
          clear S; intro aa S
          refine OL.nil ?_
          refine W.ret ?_
          exact Ret.one S rfl rfl H
        · replace H := H.2 hb_3
          refine W.skip ?_
          refine W.seq ?_
          replace S := S.sub [] trivial
          refine W.region ?_
          refine OL.pure S (Lf.run_assign (S.ev rfl)) rfl rfl trivial ?_
          clear S; intro aa S
          refine OL.nil ?_
          refine W.ret ?_
          exact Ret.one S rfl rfl H
      · replace H := H.2 hb_2
        refine W.skip ?_
        refine W.seq ?_
        refine W.seq ?_
        replace S := S.sub [(3, Value.int .u64 x9), (4, Value.int .u64 x10), (5, Value.int .u64 x11)] ⟨rfl, rfl, rfl, trivial⟩
        refine W.region ?_
        refine OL.pure S (Lf.run_move (S.ev rfl)) rfl rfl trivial ?_
        clear S; intro aa S
        refine OL.pure S (Lf.run_eql (S.ev rfl) (S.ev rfl)) rfl rfl trivial ?_
        clear S; intro aa S
        refine OL.pure S (Lf.run_move (S.ev rfl)) rfl rfl trivial ?_
        clear S; intro aa S
        refine OL.cutN 3 (fun aa ww => St 32 ((27, Value.bool ((x10 == 0) && (x11 == 0))) :: [(3, Value.int .u64 x9), (4, Value.int .u64 x10), (5, Value.int .u64 x11), (22, Value.int .u64 x10), (23, Value.bool (x10 == 0)), (24, Value.bool (x10 == 0))]) h1 w0 aa ww) ?_ ?_
        · rcases Bool.eq_false_or_eq_true (x10 == 0) with hb_4 | hb_4
          · refine OL.pure S (Lf.run_move (S.ev rfl)) rfl rfl (GOk.mk rfl rfl hb_4) ?_
            clear S; intro aa S
            refine OL.pure S (Lf.run_eql (S.ev rfl) (S.ev rfl)) rfl rfl (GOk.mk rfl rfl hb_4) ?_
            clear S; intro aa S
            refine OL.pure S (Lf.run_pickT (S.ev rfl) hb_4 (S.ev rfl)) rfl rfl trivial ?_
            clear S; intro aa S
            refine OL.nil ?_
            exact (S.hd (by rw [hb_4, Bool.true_and])).sub _ ⟨rfl, rfl, rfl, rfl, rfl, rfl, rfl, trivial⟩
          · refine OL.not S rfl rfl (GNo.mk rfl rfl hb_4) ?_
            clear S; intro aa S
            refine OL.not S rfl rfl (GNo.mk rfl rfl hb_4) ?_
            clear S; intro aa S
            refine OL.pure S (Lf.run_pickF (S.ev rfl) hb_4 (S.ev rfl)) rfl rfl trivial ?_
            clear S; intro aa S
            refine OL.nil ?_
            exact (S.hd (by rw [hb_4, Bool.false_and])).sub _ ⟨rfl, rfl, rfl, rfl, rfl, rfl, rfl, trivial⟩
        · clear S aa
          intro aa ww S
          refine OL.nil ?_
          refine W.cond S (b := ((x10 == 0) && (x11 == 0))) rfl (fun hb_5 => ?_) (fun hb_5 => ?_)
          · replace H := H.1 hb_5
            refine W.seq ?_
            refine W.seq ?_
            replace S := S.sub [(3, Value.int .u64 x9)] ⟨rfl, trivial⟩
            refine W.region ?_
            refine OL.pure S (Lf.run_move (S.ev rfl)) rfl rfl trivial ?_
            clear S; intro aa S
            refine OL.pure S (Lf.run_gtr (S.ev rfl) (S.ev rfl)) rfl rfl trivial ?_
            clear S; intro aa S
            refine OL.nil ?_
            refine W.cond S (b := (decide (0 < x9))) rfl (fun hb_6 => ?_) (fun hb_6 => ?_)
            · replace H := H.1 hb_6
              refine W.seq ?_
              replace S := S.sub [] trivial
              refine W.region ?_
              refine OL.pure S (Lf.run_assign (S.ev rfl)) rfl rfl trivial ?_
              clear S; intro aa S
              refine OL.nil ?_
              refine W.ret ?_
              exact Ret.one S rfl rfl H
            · replace H := H.2 hb_6
              refine W.skip ?_
              refine W.seq ?_
              replace S := S.sub [] trivial
              refine W.region ?_
              refine OL.pure S (Lf.run_assign (S.ev rfl)) rfl rfl trivial ?_
              clear S; intro aa S
              refine OL.nil ?_
              refine W.ret ?_
              exact Ret.one S rfl rfl H
          · replace H := H.2 hb_5
            refine W.skip ?_
            refine W.seq ?_
            refine W.seq ?_
            replace S := S.sub [(3, Value.int .u64 x9)] ⟨rfl, trivial⟩
            refine W.region ?_
            refine OL.pure S (Lf.run_move (S.ev rfl)) rfl rfl trivial ?_
            clear S; intro aa S
            refine OL.pure S (Lf.run_gtr (S.ev rfl) (S.ev rfl)) rfl rfl trivial ?_
            clear S; intro aa S
            refine OL.nil ?_
            refine W.cond S (b := (decide (0 < x9))) rfl (fun hb_7 => ?_) (fun hb_7 => ?_)
            · replace H := H.1 hb_7
              refine W.seq ?_
              replace S := S.sub [] trivial
              refine W.region ?_
              refine OL.pure S (Lf.run_assign (S.ev rfl)) rfl rfl trivial ?_
              clear S; intro aa S
              refine OL.nil ?_
              refine W.ret ?_
              exact Ret.one S rfl rfl H
            · replace H := H.2 hb_7
              refine W.skip ?_
              refine W.seq ?_
              replace S := S.sub [] trivial
              refine W.region ?_
              refine OL.pure S (Lf.run_assign (S.ev rfl)) rfl rfl trivial ?_
              clear S; intro aa S
              refine OL.nil ?_
              refine W.ret ?_
              exact Ret.one S rfl rfl H

/-- chattel num.Add -/
def L17 (a0 : Int) (b1 : Int) (h : Heap) (R : Value → Heap → Prop) : Prop :=
  ifb (((decide (a0 < (IntKind.i64.wrap (a0 + b1)))) != (decide (0 < b1))) && (b1 != 0)) (
    R (.tuple #[Value.int .i64 0, Value.bool false]) h) (
    R (.tuple #[Value.int .i64 (IntKind.i64.wrap (a0 + b1)), Value.bool true]) h)

set_option maxRecDepth 100000 in

theorem F17 {a0 b1 h : _} {R : Value → Heap → Prop} (H : L17 a0 b1 h R) : CallsH Try.prog 17 #[Value.int .i64 a0, Value.int .i64 b1] h R := by
  refine CallsH.enter (n := 21) Try.func17 rfl rfl rfl rfl ?_
  intro w0 aa ww S
  unfold L17 at H
  refine W.seq ?_
  replace S := S.sub [(0, Value.int .i64 a0), (1, Value.int .i64 b1)] ⟨rfl, rfl, trivial⟩
  refine W.region ?_
  refine OL.pure S (Lf.run_assign (S.ev rfl)) rfl rfl trivial ?_
  clear S; intro aa S
  refine OL.pure S (Lf.run_assign (S.ev rfl)) rfl rfl trivial ?_
  clear S; intro aa S
  refine OL.nil ?_
  refine W.seq ?_
  replace S := S.sub [(0, Value.int .i64 a0), (1, Value.int .i64 b1)] ⟨rfl, rfl, trivial⟩
  refine W.region ?_
  refine OL.pure S (Lf.run_move (S.ev rfl)) rfl rfl trivial ?_
  clear S; intro aa S
  refine OL.pure S (Lf.run_move (S.ev rfl)) rfl rfl trivial ?_
  clear S; intro aa S
  refine OL.pure S (Lf.run_add (S.ev rfl) (S.ev rfl)) rfl rfl trivial ?_
  clear S; intro aa S
  refine OL.pure S (Lf.run_assign (S.ev rfl)) rfl rfl trivial ?_
  clear S; intro aa S
  refine OL.nil ?_
  refine W.seq ?_
  refine W.seq ?_
  replace S := S.sub [(0, Value.int .i64 a0), (1, Value.int .i64 b1), (6, Value.int .i64 (IntKind.i64.wrap (a0 + b1)))] ⟨rfl, rfl, rfl, trivial⟩
  refine W.region ?_
  refine OL.pure S (Lf.run_move (S.ev rfl)) rfl rfl trivial ?_
  clear S; intro aa S
  refine OL.pure S (Lf.run_move (S.ev rfl)) rfl rfl trivial ?_
  clear S; intro aa S
  refine OL.pure S (Lf.run_gtr (S.ev rfl) (S.ev rfl)) rfl rfl trivial ?_
  clear S; intro aa S
  refine OL.pure S (Lf.run_move (S.ev rfl)) rfl rfl trivial ?_
  clear S; intro aa S
  refine OL.pure S (Lf.run_gtr (S.ev rfl) (S.ev rfl)) rfl rfl trivial ?_
  clear S; intro aa S
  refine OL.pure S (Lf.run_neqb Try.underlying4 (S.ev rfl) (S.ev rfl)) rfl rfl trivial ?_
  clear S; intro aa S
  refine OL.pure S (Lf.run_move (S.ev rfl)) rfl rfl trivial ?_
  clear S; intro aa S
  refine OL.cutN 3 (fun aa ww => St 21 ((19, Value.bool (((decide (a0 < (IntKind.i64.wrap (a0 + b1)))) != (decide (0 < b1))) && (b1 != 0))) :: [(0, Value.int .i64 a0), (1, Value.int .i64 b1), (6, Value.int .i64 (IntKind.i64.wrap (a0 + b1))), (10, Value.int .i64 (IntKind.i64.wrap (a0 + b1))), (11, Value.int .i64 a0), (12, Value.bool (decide (a0 < (IntKind.i64.wrap (a0 + b1))))), (13, Value.int .i64 b1), (14, Value.bool (decide (0 < b1))), (15, Value.bool ((decide (a0 < (IntKind.i64.wrap (a0 + b1)))) != (decide (0 < b1)))), (16, Value.bool ((decide (a0 < (IntKind.i64.wrap (a0 + b1)))) != (decide (0 < b1))))]) h w0 aa ww) ?_ ?_
  · rcases Bool.eq_false_or_eq_true ((decide (a0 < (IntKind.i64.wrap (a0 + b1)))) != (decide (0 < b1))) with hb | hb
    · refine OL.pure S (Lf.run_move (S.ev rfl)) rfl rfl (GOk.mk rfl rfl hb) ?_
      clear S; intro aa S
      refine OL.pure S (Lf.run_neq (S.ev rfl) (S.ev rfl)) rfl rfl (GOk.mk rfl rfl hb) ?_
      clear S; intro aa S
      refine OL.pure S (Lf.run_pickT (S.ev rfl) hb (S.ev rfl)) rfl rfl trivial ?_
      clear S; intro aa S
      refine OL.nil ?_
      exact (S.hd (by rw [hb, Bool.true_and])).sub _ ⟨rfl, rfl, rfl, rfl, rfl, rfl, rfl, rfl, rfl, rfl, rfl, trivial⟩
    · refine OL.not S rfl rfl (GNo.mk rfl rfl hb) ?_
      clear S; intro aa S
      refine OL.not S rfl rfl (GNo.mk rfl rfl hb) ?_
      clear S; intro aa S
      refine OL.pure S (Lf.run_pickF (S.ev rfl) hb (S.ev rfl)) rfl rfl trivial ?_
      clear S; intro aa S
      refine OL.nil ?_
      exact (S.hd (by rw [hb, Bool.false_and])).sub _ ⟨rfl, rfl, rfl, rfl, rfl, rfl, rfl, rfl, rfl, rfl, rfl, trivial⟩
  · clear S aa
    intro aa ww S
    refine OL.nil ?_
    refine W.cond S (b := (((decide (a0 < (IntKind.i64.wrap (a0 + b1)))) != (decide (0 < b1))) && (b1 != 0))) rfl (fun hb_1 => ?_) (fun hb_1 => ?_)
    · replace H := H.1 hb_1
      refine W.seq ?_
      replace S := S.sub [] trivial
      refine W.region ?_
      refine OL.pure S (Lf.run_assign (S.ev rfl)) rfl rfl trivial ?_
      clear S; intro aa S
      refine OL.pure S (Lf.run_assign (S.ev rfl)) rfl rfl trivial ?_
      clear S; intro aa S
      refine OL.nil ?_
      refine W.ret ?_
      exact Ret.two S rfl rfl rfl H
    · replace H := H.2 hb_1
      refine W.skip ?_
      refine W.seq ?_
      replace S := S.sub [(6, Value.int .i64 (IntKind.i64.wrap (a0 + b1)))] ⟨rfl, trivial⟩
      refine W.region ?_
      refine OL.pure S (Lf.run_move (S.ev rfl)) rfl rfl trivial ?_
      clear S; intro aa S
      refine OL.pure S (Lf.run_assign (S.ev rfl)) rfl rfl trivial ?_
      clear S; intro aa S
      refine OL.pure S (Lf.run_assign (S.ev rfl)) rfl rfl trivial ?_
      clear S; intro aa S
      refine OL.nil ?_
      refine W.ret ?_
      exact Ret.two S rfl rfl rfl H

/-- chattel chattelref02.Add -/
def L18 (a0 : Int) (b1 : Int) (h : Heap) (R : Value → Heap → Prop) : Prop :=
  cal Try.prog 48 #[Value.int .i64 a0] h fun u h1 => asTup u fun r12 =>
  elt r12 0 fun u_1 => asB u_1 fun x13 =>
  elt r12 1 fun u_2 => asI .u64 u_2 fun x14 =>
  cal Try.prog 48 #[Value.int .i64 b1] h1 fun u_3 h2 => asTup u_3 fun r17 =>
  elt r17 0 fun u_4 => asB u_4 fun x18 =>
  elt r17 1 fun u_5 => asI .u64 u_5 fun x19 =>
  ifb (x13 == x18) (
    ifb (decide ((IntKind.u64.wrap (9223372036854775808 - x19)) < x14)) (
      R (.tuple #[Value.int .i64 0, Value.bool false]) h2) (
      cal Try.prog 49 #[Value.bool x13, Value.int .u64 (IntKind.u64.wrap (x14 + x19))] h2 fun u_6 h3 => asTup u_6 fun r31 =>
      elt r31 0 fun u_7 => asI .i64 u_7 fun x32 =>
      elt r31 1 fun u_8 => asB u_8 fun x33 =>
      R (.tuple #[Value.int .i64 x32, Value.bool x33]) h3)) (
    ifb (decide (x19 ≤ x14)) (
      cal Try.prog 49 #[Value.bool x13, Value.int .u64 (IntKind.u64.wrap (x14 - x19))] h2 fun u_9 h4 => asTup u_9 fun r41 =>
      elt r41 0 fun u_10 => asI .i64 u_10 fun x42 =>
      elt r41 1 fun u_11 => asB u_11 fun x43 =>
      R (.tuple #[Value.int .i64 x42, Value.bool x43]) h4) (
      cal Try.prog 49 #[Value.bool x18, Value.int .u64 (IntKind.u64.wrap (x19 - x14))] h2 fun u_12 h5 => asTup u_12 fun r48 =>
      elt r48 0 fun u_13 => asI .i64 u_13 fun x49 =>
      elt r48 1 fun u_14 => asB u_14 fun x50 =>
      R (.tuple #[Value.int .i64 x49, Value.bool x50]) h5))

set_option maxRecDepth 100000 in

theorem F18 {a0 b1 h : _} {R : Value → Heap → Prop} (H : L18 a0 b1 h R) : CallsH Try.prog 18 #[Value.int .i64 a0, Value.int .i64 b1] h R := by
  refine CallsH.enter (n := 51) Try.func18 rfl rfl rfl rfl ?_
  intro w0 aa ww S
  unfold L18 at H
  refine W.seq ?_
  replace S := S.sub [(0, Value.int .i64 a0), (1, Value.int .i64 b1)] ⟨rfl, rfl, trivial⟩
  refine W.region ?_
  refine OL.pure S (Lf.run_assign (S.ev rfl)) rfl rfl trivial ?_
  clear S; intro aa S
  refine OL.pure S (Lf.run_assign (S.ev rfl)) rfl rfl trivial ?_
  clear S; intro aa S
  refine OL.nil ?_
  refine W.seq ?_
  replace S := S.sub [(0, Value.int .i64 a0), (1, Value.int .i64 b1)] ⟨rfl, rfl, trivial⟩
  refine W.region ?_
  refine OL.pure S (Lf.run_move (S.ev rfl)) rfl rfl trivial ?_
  clear S; intro aa S
  refine ol_cal S H isfn48 rfl rfl trivial ?_
  clear S H aa; intro u aa ww h1 H S
  obtain ⟨r12, rfl, H⟩ := H
  refine OL.pure S (Lf.run_move (S.ev rfl)) rfl rfl trivial ?_
  clear S; intro aa S
  obtain ⟨u_1, e, x13, rfl, H⟩ := H
  refine OL.pure S (Lf.run_ex (S.ev rfl) e) rfl rfl trivial ?_
  clear S; intro aa S
  obtain ⟨u_2, e_1, x14, rfl, H⟩ := H
  refine OL.pure S (Lf.run_ex (S.ev rfl) e_1) rfl rfl trivial ?_
  clear S; intro aa S
  refine OL.pure S (Lf.run_assign (S.ev rfl)) rfl rfl trivial ?_
  clear S; intro aa S
  refine OL.pure S (Lf.run_assign (S.ev rfl)) rfl rfl trivial ?_
  clear S; intro aa S
  refine OL.nil ?_
  refine W.seq ?_
  replace S := S.sub [(1, Value.int .i64 b1), (6, Value.bool x13), (7, Value.int .u64 x14)] ⟨rfl, rfl, rfl, trivial⟩
  refine W.region ?_
  refine OL.pure S (Lf.run_move (S.ev rfl)) rfl rfl trivial ?_
  clear S; intro aa S
  refine ol_cal S H isfn48 rfl rfl trivial ?_
  clear S H aa; intro u_3 aa ww h2 H S
  obtain ⟨r17, rfl, H⟩ := H
  refine OL.pure S (Lf.run_move (S.ev rfl)) rfl rfl trivial ?_
  clear S; intro aa S
  obtain ⟨u_4, e_2, x18, rfl, H⟩ := H
  refine OL.pure S (Lf.run_ex (S.ev rfl) e_2) rfl rfl trivial ?_
  clear S; intro aa S
  obtain ⟨u_5, e_3, x19, rfl, H⟩ := H
  refine OL.pure S (Lf.run_ex (S.ev rfl) e_3) rfl rfl trivial ?_
  clear S; intro aa S
  refine OL.pure S (Lf.run_assign (S.ev rfl)) rfl rfl trivial ?_
  clear S; intro aa S
  refine OL.pure S (Lf.run_assign (S.ev rfl)) rfl rfl trivial ?_
  clear S; intro aa S
  refine OL.nil ?_
  refine W.seq ?_
  refine W.seq ?_
  replace S := S.sub [(6, Value.bool x13), (7, Value.int .u64 x14), (8, Value.bool x18), (9, Value.int .u64 x19)] ⟨rfl, rfl, rfl, rfl, trivial⟩
  refine W.region ?_
  refine OL.pure S (Lf.run_move (S.ev rfl)) rfl rfl trivial ?_
  clear S; intro aa S
  refine OL.pure S (Lf.run_move (S.ev rfl)) rfl rfl trivial ?_
  clear S; intro aa S
  refine OL.pure S (Lf.run_eqlb Try.underlying4 (S.ev rfl) (S.ev rfl)) rfl rfl trivial ?_
  clear S; intro aa S
  refine OL.nil ?_
  refine W.cond S (b := (x13 == x18)) rfl (fun hb => ?_) (fun hb => ?_)
  · replace H := H.1 hb
    refine W.seq ?_
    refine W.seq ?_
    replace S := S.sub [(6, Value.bool x13), (7, Value.int .u64 x14), (9, Value.int .u64 x19)] ⟨rfl, rfl, rfl, trivial⟩
    refine W.region ?_
    refine OL.pure S (Lf.run_move (S.ev rfl)) rfl rfl trivial ?_
    clear S; intro aa S
    refine OL.pure S (Lf.run_move (S.ev rfl)) rfl rfl trivial ?_
    clear S; intro aa S
    refine OL.pure S (Lf.run_sub (S.ev rfl) (S.ev rfl)) rfl rfl trivial ?_
    clear S; intro aa S
    refine OL.pure S (Lf.run_gtr (S.ev rfl) (S.ev rfl)) rfl rfl trivial ?_
    clear S; intro aa S
    refine OL.nil ?_
    refine W.cond S (b := (decide ((IntKind.u64.wrap (9223372036854775808 - x19)) < x14))) rfl (fun hb_1 => ?_) (fun hb_1 => ?_)
    · replace H := H.1 hb_1
      refine W.seq ?_
      replace S := S.sub [] trivial
      refine W.region ?_
      refine OL.pure S (Lf.run_assign (S.ev rfl)) rfl rfl trivial ?_
      clear S; intro aa S
      refine OL.pure S (Lf.run_assign (S.ev rfl)) rfl rfl trivial ?_
      clear S; intro aa S
      refine OL.nil ?_
      refine W.ret ?_
      exact Ret.two S rfl rfl rfl H
    · replace H := H.2 hb_1
      refine W.skip ?_
      refine W.seq ?_
      replace S := S.sub [(6, Value.bool x13), (7, Value.int .u64 x14), (9, Value.int .u64 x19)] ⟨rfl, rfl, rfl, trivial⟩
      refine W.region ?_
      refine OL.pure S (Lf.run_move (S.ev rfl)) rfl rfl trivial ?_
      clear S; intro aa S
      refine OL.pure S (Lf.run_move (S.ev rfl)) rfl rfl trivial ?_
      clear S; intro aa S
      refine OL.pure S (Lf.run_move (S.ev rfl)) rfl rfl trivial ?_
      clear S; intro aa S
      refine OL.pure S (Lf.run_add (S.ev rfl) (S.ev rfl)) rfl rfl trivial ?_
      clear S; intro aa S
      refine ol_cal S H isfn49 rfl rfl trivial ?_
      clear S H aa; intro u_6 aa ww h3 H S
      obtain ⟨r31, rfl, H⟩ := H
      obtain ⟨u_7, e_4, x32, rfl, H⟩ := H
      refine OL.pure S (Lf.run_ex (S.ev rfl) e_4) rfl rfl trivial ?_
      clear S; intro aa S
      obtain ⟨u_8, e_5, x33, rfl, H⟩ := H
      refine OL.pure S (Lf.run_ex (S.ev rfl) e_5) rfl rfl trivial ?_
      clear S; intro aa S
      refine OL.pure S (Lf.run_assign (S.ev rfl)) rfl rfl trivial ?_
      clear S; intro aa S
      refine OL.pure S (Lf.run_assign (S.ev rfl)) rfl rfl trivial ?_
      clear S; intro aa S
      refine OL.nil ?_
      refine W.ret ?_
      exact Ret.two S rfl rfl rfl H
  · replace H := H.2 hb
    refine W.skip ?_
    refine W.seq ?_
    refine W.seq ?_
    replace S := S.sub [(6, Value.bool x13), (7, Value.int .u64 x14), (8, Value.bool x18), (9, Value.int .u64 x19)] ⟨rfl, rfl, rfl, rfl, trivial⟩
    refine W.region ?_
    refine OL.pure S (Lf.run_move (S.ev rfl)) rfl rfl trivial ?_
    clear S; intro aa S
    refine OL.pure S (Lf.run_move (S.ev rfl)) rfl rfl trivial ?_
    clear S; intro aa S
    refine OL.pure S (Lf.run_geq (S.ev rfl) (S.ev rfl)) rfl rfl trivial ?_
    clear S; intro aa S
    refine OL.nil ?_
    refine W.cond S (b := (decide (x19 ≤ x14))) rfl (fun hb_2 => ?_) (fun hb_2 => ?_)
    · replace H := H.1 hb_2
      refine W.seq ?_
      replace S := S.sub [(6, Value.bool x13), (7, Value.int .u64 x14), (9, Value.int .u64 x19)] ⟨rfl, rfl, rfl, trivial⟩
      refine W.region ?_
      refine OL.pure S (Lf.run_move (S.ev rfl)) rfl rfl trivial ?_
      clear S; intro aa S
      refine OL.pure S (Lf.run_move (S.ev rfl)) rfl rfl trivial ?_
      clear S; intro aa S
      refine OL.pure S (Lf.run_move (S.ev rfl)) rfl rfl trivial ?_
      clear S; intro aa S
      refine OL.pure S (Lf.run_sub (S.ev rfl) (S.ev rfl)) rfl rfl trivial ?_
      clear S; intro aa S
      refine ol_cal S H isfn49 rfl rfl trivial ?_
      clear S H aa; intro u_9 aa ww h4 H S
      obtain ⟨r41, rfl, H⟩ := H
      obtain ⟨u_10, e_6, x42, rfl, H⟩ := H
      refine OL.pure S (Lf.run_ex (S.ev rfl) e_6) rfl rfl trivial ?_
      clear S; intro aa S
      obtain ⟨u_11, e_7, x43, rfl, H⟩ := H
      refine OL.pure S (Lf.run_ex (S.ev rfl) e_7) rfl rfl trivial ?_
      clear S; intro aa S
      refine OL.pure S (Lf.run_assign (S.ev rfl)) rfl rfl trivial ?_
      clear S; intro aa S
      refine OL.pure S (Lf.run_assign (S.ev rfl)) rfl rfl trivial ?_
      clear S; intro aa S
      refine OL.nil ?_
      refine W.ret ?_
      exact Ret.two S rfl rfl rfl H
    · replace H := H.2 hb_2
      refine W.skip ?_
      refine W.seq ?_
      replace S := S.sub [(7, Value.int .u64 x14), (8, Value.bool x18), (9, Value.int .u64 x19)] ⟨rfl, rfl, rfl, trivial⟩
      refine W.region ?_
      refine OL.pure S (Lf.run_move (S.ev rfl)) rfl rfl trivial ?_
      clear S; intro aa S
      refine OL.pure S (Lf.run_move (S.ev rfl)) rfl rfl trivial ?_
      clear S; intro aa S
      refine OL.pure S (Lf.run_move (S.ev rfl)) rfl rfl trivial ?_
      clear S; intro aa S
      refine OL.pure S (Lf.run_sub (S.ev rfl) (S.ev rfl)) rfl rfl trivial ?_
      clear S; intro aa S
      refine ol_cal S H isfn49 rfl rfl trivial ?_
      clear S H aa; intro u_12 aa ww h5 H S
      obtain ⟨r48, rfl, H⟩ := H
      obtain ⟨u_13, e_8, x49, rfl, H⟩ := H
      refine OL.pure S (Lf.run_ex (S.ev rfl) e_8) rfl rfl trivial ?_
      clear S; intro aa S
      obtain ⟨u_14, e_9, x50, rfl, H⟩ := H
      refine OL.pure S (Lf.run_ex (S.ev rfl) e_9) rfl rfl trivial ?_
      clear S; intro aa S
      refine OL.pure S (Lf.run_assign (S.ev rfl)) rfl rfl trivial ?_
      clear S; intro aa S
      refine OL.pure S (Lf.run_assign (S.ev rfl)) rfl rfl trivial ?_
      clear S; intro aa S
      refine OL.nil ?_
      refine W.ret ?_
      exact Ret.two S rfl rfl rfl H

/-- chattel num.Sub -/
def L19 (a0 : Int) (b1 : Int) (h : Heap) (R : Value → Heap → Prop) : Prop :=
  ifb (((decide ((IntKind.i64.wrap (a0 - b1)) < a0)) != (decide (0 < b1))) && (b1 != 0)) (
    R (.tuple #[Value.int .i64 0, Value.bool false]) h) (
    R (.tuple #[Value.int .i64 (IntKind.i64.wrap (a0 - b1)), Value.bool true]) h)

set_option maxRecDepth 100000 in

theorem F19 {a0 b1 h : _} {R : Value → Heap → Prop} (H : L19 a0 b1 h R) : CallsH Try.prog 19 #[Value.int .i64 a0, Value.int .i64 b1] h R := by
  refine CallsH.enter (n := 21) Try.func19 rfl rfl rfl rfl ?_
  intro w0 aa ww S
  unfold L19 at H
  refine W.seq ?_
  replace S := S.sub [(0, Value.int .i64 a0), (1, Value.int .i64 b1)] ⟨rfl, rfl, trivial⟩
  refine W.region ?_
  refine OL.pure S (Lf.run_assign (S.ev rfl)) rfl rfl trivial ?_
  clear S; intro aa S
  refine OL.pure S (Lf.run_assign (S.ev rfl)) rfl rfl trivial ?_
  clear S; intro aa S
  refine OL.nil ?_
  refine W.seq ?_
  replace S := S.sub [(0, Value.int .i64 a0), (1, Value.int .i64 b1)] ⟨rfl, rfl, trivial⟩
  refine W.region ?_
  refine OL.pure S (Lf.run_move (S.ev rfl)) rfl rfl trivial ?_
  clear S; intro aa S
  refine OL.pure S (Lf.run_move (S.ev rfl)) rfl rfl trivial ?_
  clear S; intro aa S
  refine OL.pure S (Lf.run_sub (S.ev rfl) (S.ev rfl)) rfl rfl trivial ?_
  clear S; intro aa S
  refine OL.pure S (Lf.run_assign (S.ev rfl)) rfl rfl trivial ?_
  clear S; intro aa S
  refine OL.nil ?_
  refine W.seq ?_
  refine W.seq ?_
  replace S := S.sub [(0, Value.int .i64 a0), (1, Value.int .i64 b1), (6, Value.int .i64 (IntKind.i64.wrap (a0 - b1)))] ⟨rfl, rfl, rfl, trivial⟩
  refine W.region ?_
  refine OL.pure S (Lf.run_move (S.ev rfl)) rfl rfl trivial ?_
  clear S; intro aa S
  refine OL.pure S (Lf.run_move (S.ev rfl)) rfl rfl trivial ?_
  clear S; intro aa S
  refine OL.pure S (Lf.run_lss (S.ev rfl) (S.ev rfl)) rfl rfl trivial ?_
  clear S; intro aa S
  refine OL.pure S (Lf.run_move (S.ev rfl)) rfl rfl trivial ?_
  clear S; intro aa S
  refine OL.pure S (Lf.run_gtr (S.ev rfl) (S.ev rfl)) rfl rfl trivial ?_
  clear S; intro aa S
  refine OL.pure S (Lf.run_neqb Try.underlying4 (S.ev rfl) (S.ev rfl)) rfl rfl trivial ?_
  clear S; intro aa S
  refine OL.pure S (Lf.run_move (S.ev rfl)) rfl rfl trivial ?_
  clear S; intro aa S
  refine OL.cutN 3 (fun aa ww => St 21 ((19, Value.bool (((decide ((IntKind.i64.wrap (a0 - b1)) < a0)) != (decide (0 < b1))) && (b1 != 0))) :: [(0, Value.int .i64 a0), (1, Value.int .i64 b1), (6, Value.int .i64 (IntKind.i64.wrap (a0 - b1))), (10, Value.int .i64 (IntKind.i64.wrap (a0 - b1))), (11, Value.int .i64 a0), (12, Value.bool (decide ((IntKind.i64.wrap (a0 - b1)) < a0))), (13, Value.int .i64 b1), (14, Value.bool (decide (0 < b1))), (15, Value.bool ((decide ((IntKind.i64.wrap (a0 - b1)) < a0)) != (decide (0 < b1)))), (16, Value.bool ((decide ((IntKind.i64.wrap (a0 - b1)) < a0)) != (decide (0 < b1))))]) h w0 aa ww) ?_ ?_
  · rcases Bool.eq_false_or_eq_true ((decide ((IntKind.i64.wrap (a0 - b1)) < a0)) != (decide (0 < b1))) with hb | hb
    · refine OL.pure S (Lf.run_move (S.ev rfl)) rfl rfl (GOk.mk rfl rfl hb) ?_
      clear S; intro aa S
      refine OL.pure S (Lf.run_neq (S.ev rfl) (S.ev rfl)) rfl rfl (GOk.mk rfl rfl hb) ?_
      clear S; intro aa S
      refine OL.pure S (Lf.run_pickT (S.ev rfl) hb (S.ev rfl)) rfl rfl trivial ?_
      clear S; intro aa S
      refine OL.nil ?_
      exact (S.hd (by rw [hb, Bool.true_and])).sub _ ⟨rfl, rfl, rfl, rfl, rfl, rfl, rfl, rfl, rfl, rfl, rfl, trivial⟩
    · refine OL.not S rfl rfl (GNo.mk rfl rfl hb) ?_
      clear S; intro aa S
      refine OL.not S rfl rfl (GNo.mk rfl rfl hb) ?_
      clear S; intro aa S
      refine OL.pure S (Lf.run_pickF (S.ev rfl) hb (S.ev rfl)) rfl rfl trivial ?_
      clear S; intro aa S
      refine OL.nil ?_
      exact (S.hd (by rw [hb, Bool.false_and])).sub _ ⟨rfl, rfl, rfl, rfl, rfl, rfl, rfl, rfl, rfl, rfl, rfl, trivial⟩
  · clear S aa
    intro aa ww S
    refine OL.nil ?_
    refine W.cond S (b := (((decide ((IntKind.i64.wrap (a0 - b1)) < a0)) != (decide (0 < b1))) && (b1 != 0))) rfl (fun hb_1 => ?_) (fun hb_1 => ?_)
    · replace H := H.1 hb_1
      refine W.seq ?_
      replace S := S.sub [] trivial
      refine W.region ?_
      refine OL.pure S (Lf.run_assign (S.ev rfl)) rfl rfl trivial ?_
      clear S; intro aa S
      refine OL.pure S (Lf.run_assign (S.ev rfl)) rfl rfl trivial ?_
      clear S; intro aa S
      refine OL.nil ?_
      refine W.ret ?_
      exact Ret.two S rfl rfl rfl H
    · replace H := H.2 hb_1
      refine W.skip ?_
      refine W.seq ?_
      replace S := S.sub [(6, Value.int .i64 (IntKind.i64.wrap (a0 - b1)))] ⟨rfl, trivial⟩
      refine W.region ?_
      refine OL.pure S (Lf.run_move (S.ev rfl)) rfl rfl trivial ?_
      clear S; intro aa S
      refine OL.pure S (Lf.run_assign (S.ev rfl)) rfl rfl trivial ?_
      clear S; intro aa S
      refine OL.pure S (Lf.run_assign (S.ev rfl)) rfl rfl trivial ?_
      clear S; intro aa S
      refine OL.nil ?_
      refine W.ret ?_
      exact Ret.two S rfl rfl rfl H

/-- chattel chattelref02.Sub -/
def L20 (a0 : Int) (b1 : Int) (h : Heap) (R : Value → Heap → Prop) : Prop :=
  cal Try.prog 48 #[Value.int .i64 a0] h fun u h1 => asTup u fun r12 =>
  elt r12 0 fun u_1 => asB u_1 fun x13 =>
  elt r12 1 fun u_2 => asI .u64 u_2 fun x14 =>
  cal Try.prog 48 #[Value.int .i64 b1] h1 fun u_3 h2 => asTup u_3 fun r17 =>
  elt r17 0 fun u_4 => asB u_4 fun x18 =>
  elt r17 1 fun u_5 => asI .u64 u_5 fun x19 =>
  ifb (x13 != x18) (
    ifb ((decide ((IntKind.u64.wrap (9223372036854775808 - x19)) < x14)) || ((x19 == 9223372036854775808) && (decide (0 < x14)))) (
      R (.tuple #[Value.int .i64 0, Value.bool false]) h2) (
      cal Try.prog 49 #[Value.bool x13, Value.int .u64 (IntKind.u64.wrap (x14 + x19))] h2 fun u_6 h3 => asTup u_6 fun r39 =>
      elt r39 0 fun u_7 => asI .i64 u_7 fun x40 =>
      elt r39 1 fun u_8 => asB u_8 fun x41 =>
      R (.tuple #[Value.int .i64 x40, Value.bool x41]) h3)) (
    ifb (decide (x19 ≤ x14)) (
      cal Try.prog 49 #[Value.bool x13, Value.int .u64 (IntKind.u64.wrap (x14 - x19))] h2 fun u_9 h4 => asTup u_9 fun r49 =>
      elt r49 0 fun u_10 => asI .i64 u_10 fun x50 =>
      elt r49 1 fun u_11 => asB u_11 fun x51 =>
      R (.tuple #[Value.int .i64 x50, Value.bool x51]) h4) (
      cal Try.prog 49 #[Value.bool (!x18), Value.int .u64 (IntKind.u64.wrap (x19 - x14))] h2 fun u_12 h5 => asTup u_12 fun r57 =>
      elt r57 0 fun u_13 => asI .i64 u_13 fun x58 =>
      elt r57 1 fun u_14 => asB u_14 fun x59 =>
      R (.tuple #[Value.int .i64 x58, Value.bool x59]) h5))

set_option maxRecDepth 100000 in

theorem F20 {a0 b1 h : _} {R : Value → Heap → Prop} (H : L20 a0 b1 h R) : CallsH Try.prog 20 #[Value.int .i64 a0, Value.int .i64 b1] h R := by
  refine CallsH.enter (n := 60) Try.func20 rfl rfl rfl rfl ?_
  intro w0 aa ww S
  unfold L20 at H
  refine W.seq ?_
  replace S := S.sub [(0, Value.int .i64 a0), (1, Value.int .i64 b1)] ⟨rfl, rfl, trivial⟩
  refine W.region ?_
  refine OL.pure S (Lf.run_assign (S.ev rfl)) rfl rfl trivial ?_
  clear S; intro aa S
  refine OL.pure S (Lf.run_assign (S.ev rfl)) rfl rfl trivial ?_
  clear S; intro aa S
  refine OL.nil ?_
  refine W.seq ?_
  replace S := S.sub [(0, Value.int .i64 a0), (1, Value.int .i64 b1)] ⟨rfl, rfl, trivial⟩
  refine W.region ?_
  refine OL.pure S (Lf.run_move (S.ev rfl)) rfl rfl trivial ?_
  clear S; intro aa S
  refine ol_cal S H isfn48 rfl rfl trivial ?_
  clear S H aa; intro u aa ww h1 H S
  obtain ⟨r12, rfl, H⟩ := H
  refine OL.pure S (Lf.run_move (S.ev rfl)) rfl rfl trivial ?_
  clear S; intro aa S
  obtain ⟨u_1, e, x13, rfl, H⟩ := H
  refine OL.pure S (Lf.run_ex (S.ev rfl) e) rfl rfl trivial ?_
  clear S; intro aa S
  obtain ⟨u_2, e_1, x14, rfl, H⟩ := H
  refine OL.pure S (Lf.run_ex (S.ev rfl) e_1) rfl rfl trivial ?_
  clear S; intro aa S
  refine OL.pure S (Lf.run_assign (S.ev rfl)) rfl rfl trivial ?_
  clear S; intro aa S
  refine OL.pure S (Lf.run_assign (S.ev rfl)) rfl rfl trivial ?_
  clear S; intro aa S
  refine OL.nil ?_
  refine W.seq ?_
  replace S := S.sub [(1, Value.int .i64 b1), (6, Value.bool x13), (7, Value.int .u64 x14)] ⟨rfl, rfl, rfl, trivial⟩
  refine W.region ?_
  refine OL.pure S (Lf.run_move (S.ev rfl)) rfl rfl trivial ?_
  clear S; intro aa S
  refine ol_cal S H isfn48 rfl rfl trivial ?_
  clear S H aa; intro u_3 aa ww h2 H S
  obtain ⟨r17, rfl, H⟩ := H
  refine OL.pure S (Lf.run_move (S.ev rfl)) rfl rfl trivial ?_
  clear S; intro aa S
  obtain ⟨u_4, e_2, x18, rfl, H⟩ := H
  refine OL.pure S (Lf.run_ex (S.ev rfl) e_2) rfl rfl trivial ?_
  clear S; intro aa S
  obtain ⟨u_5, e_3, x19, rfl, H⟩ := H
  refine OL.pure S (Lf.run_ex (S.ev rfl) e_3) rfl rfl trivial ?_
  clear S; intro aa S
  refine OL.pure S (Lf.run_assign (S.ev rfl)) rfl rfl trivial ?_
  clear S; intro aa S
  refine OL.pure S (Lf.run_assign (S.ev rfl)) rfl rfl trivial ?_
  clear S; intro aa S
  refine OL.nil ?_
  refine W.seq ?_
  refine W.seq ?_
  replace S := S.sub [(6, Value.bool x13), (7, Value.int .u64 x14), (8, Value.bool x18), (9, Value.int .u64 x19)] ⟨rfl, rfl, rfl, rfl, trivial⟩
  refine W.region ?_
  refine OL.pure S (Lf.run_move (S.ev rfl)) rfl rfl trivial ?_
  clear S; intro aa S
  refine OL.pure S (Lf.run_move (S.ev rfl)) rfl rfl trivial ?_
  clear S; intro aa S
  refine OL.pure S (Lf.run_neqb Try.underlying4 (S.ev rfl) (S.ev rfl)) rfl rfl trivial ?_
  clear S; intro aa S
  refine OL.nil ?_
  refine W.cond S (b := (x13 != x18)) rfl (fun hb => ?_) (fun hb => ?_)
  · replace H := H.1 hb
    refine W.seq ?_
    refine W.seq ?_
    replace S := S.sub [(6, Value.bool x13), (7, Value.int .u64 x14), (9, Value.int .u64 x19)] ⟨rfl, rfl, rfl, trivial⟩
    refine W.region ?_
    refine OL.pure S (Lf.run_move (S.ev rfl)) rfl rfl trivial ?_
    clear S; intro aa S
    refine OL.pure S (Lf.run_move (S.ev rfl)) rfl rfl trivial ?_
    clear S; intro aa S
    refine OL.pure S (Lf.run_sub (S.ev rfl) (S.ev rfl)) rfl rfl trivial ?_
    clear S; intro aa S
    refine OL.pure S (Lf.run_gtr (S.ev rfl) (S.ev rfl)) rfl rfl trivial ?_
    clear S; intro aa S
    refine OL.pure S (Lf.run_move (S.ev rfl)) rfl rfl trivial ?_
    clear S; intro aa S
    refine OL.cutN 7 (fun aa ww => St 60 ((34, Value.bool ((decide ((IntKind.u64.wrap (9223372036854775808 - x19)) < x14)) || ((x19 == 9223372036854775808) && (decide (0 < x14))))) :: [(6, Value.bool x13), (7, Value.int .u64 x14), (9, Value.int .u64 x19), (23, Value.int .u64 x14), (24, Value.int .u64 x19), (25, Value.int .u64 (IntKind.u64.wrap (9223372036854775808 - x19))), (26, Value.bool (decide ((IntKind.u64.wrap (9223372036854775808 - x19)) < x14))), (27, Value.bool (decide ((IntKind.u64.wrap (9223372036854775808 - x19)) < x14)))]) h2 w0 aa ww) ?_ ?_
    · rcases Bool.eq_false_or_eq_true (decide ((IntKind.u64.wrap (9223372036854775808 - x19)) < x14)) with hb_1 | hb_1
      · refine OL.not S rfl rfl (GNo.mk rfl rfl hb_1) ?_
        clear S; intro aa S
        refine OL.not S rfl rfl (GNo.mk rfl rfl hb_1) ?_
        clear S; intro aa S
        refine OL.not S rfl rfl (GNo.mk rfl rfl hb_1) ?_
        clear S; intro aa S
        refine OL.not S rfl rfl (GNo.un rfl rfl) ?_
        clear S; intro aa S
        refine OL.not S rfl rfl (GNo.un rfl rfl) ?_
        clear S; intro aa S
        refine OL.not S rfl rfl (GNo.mk rfl rfl hb_1) ?_
        clear S; intro aa S
        refine OL.pure S (Lf.run_pickT (S.ev rfl) hb_1 (S.ev rfl)) rfl rfl trivial ?_
        clear S; intro aa S
        refine OL.nil ?_
        exact (S.hd (by rw [hb_1, Bool.true_or])).sub _ ⟨rfl, rfl, rfl, rfl, rfl, rfl, rfl, rfl, rfl, trivial⟩
      · refine OL.pure S (Lf.run_move (S.ev rfl)) rfl rfl (GOk.mk rfl rfl hb_1) ?_
        clear S; intro aa S
        refine OL.pure S (Lf.run_eql (S.ev rfl) (S.ev rfl)) rfl rfl (GOk.mk rfl rfl hb_1) ?_
        clear S; intro aa S
        refine OL.pure S (Lf.run_move (S.ev rfl)) rfl rfl (GOk.mk rfl rfl hb_1) ?_
        clear S; intro aa S
        refine OL.cutN 3 (fun aa ww => St 60 ((33, Value.bool ((x19 == 9223372036854775808) && (decide (0 < x14)))) :: [(6, Value.bool x13), (7, Value.int .u64 x14), (9, Value.int .u64 x19), (23, Value.int .u64 x14), (24, Value.int .u64 x19), (25, Value.int .u64 (IntKind.u64.wrap (9223372036854775808 - x19))), (26, Value.bool (decide ((IntKind.u64.wrap (9223372036854775808 - x19)) < x14))), (27, Value.bool (decide ((IntKind.u64.wrap (9223372036854775808 - x19)) < x14))), (28, Value.int .u64 x19), (29, Value.bool (x19 == 9223372036854775808)), (30, Value.bool (x19 == 9223372036854775808))]) h2 w0 aa ww) ?_ ?_
        · rcases Bool.eq_false_or_eq_true (x19 == 9223372036854775808) with hb_2 | hb_2
          · refine OL.pure S (Lf.run_move (S.ev rfl)) rfl rfl (GOk.mk rfl rfl hb_2) ?_
            clear S; intro aa S
            refine OL.pure S (Lf.run_gtr (S.ev rfl) (S.ev rfl)) rfl rfl (GOk.mk rfl rfl hb_2) ?_
            clear S; intro aa S
            refine OL.pure S (Lf.run_pickT (S.ev rfl) hb_2 (S.ev rfl)) rfl rfl (GOk.mk rfl rfl hb_1) ?_
            clear S; intro aa S
            refine OL.nil ?_
            exact (S.hd (by rw [hb_2, Bool.true_and])).sub _ ⟨rfl, rfl, rfl, rfl, rfl, rfl, rfl, rfl, rfl, rfl, rfl, rfl, trivial⟩
          · refine OL.not S rfl rfl (GNo.mk rfl rfl hb_2) ?_
            clear S; intro aa S
            refine OL.not S rfl rfl (GNo.mk rfl rfl hb_2) ?_
            clear S; intro aa S
            refine OL.pure S (Lf.run_pickF (S.ev rfl) hb_2 (S.ev rfl)) rfl rfl (GOk.mk rfl rfl hb_1) ?_
            clear S; intro aa S
            refine OL.nil ?_
            exact (S.hd (by rw [hb_2, Bool.false_and])).sub _ ⟨rfl, rfl, rfl, rfl, rfl, rfl, rfl, rfl, rfl, rfl, rfl, rfl, trivial⟩
        · clear S aa
          intro aa ww S
          refine OL.pure S (Lf.run_pickF (S.ev rfl) hb_1 (S.ev rfl)) rfl rfl trivial ?_
          clear S; intro aa S
          refine OL.nil ?_
          exact (S.hd (by rw [hb_1, Bool.false_or])).sub _ ⟨rfl, rfl, rfl, rfl, rfl, rfl, rfl, rfl, rfl, trivial⟩
    · clear S aa
      intro aa ww S
      refine OL.nil ?_
      refine W.cond S (b := ((decide ((IntKind.u64.wrap (9223372036854775808 - x19)) < x14)) || ((x19 == 9223372036854775808) && (decide (0 < x14))))) rfl (fun hb_3 => ?_) (fun hb_3 => ?_)
      · replace H := H.1 hb_3
        refine W.seq ?_
        replace S := S.sub [] trivial
        refine W.region ?_
        refine OL.pure S (Lf.run_assign (S.ev rfl)) rfl rfl trivial ?_
        clear S; intro aa S
        refine OL.pure S (Lf.run_assign (S.ev rfl)) rfl rfl trivial ?_
        clear S; intro aa S
        refine OL.nil ?_
        refine W.ret ?_
        exact Ret.two S rfl rfl rfl H
      · replace H := H.2 hb_3
        refine W.skip ?_
        refine W.seq ?_
        replace S := S.sub [(6, Value.bool x13), (7, Value.int .u64 x14), (9, Value.int .u64 x19)] ⟨rfl, rfl, rfl, trivial⟩
        refine W.region ?_
        refine OL.pure S (Lf.run_move (S.ev rfl)) rfl rfl trivial ?_
        clear S; intro aa S
        refine OL.pure S (Lf.run_move (S.ev rfl)) rfl rfl trivial ?_
        clear S; intro aa S
        refine OL.pure S (Lf.run_move (S.ev rfl)) rfl rfl trivial ?_
        clear S; intro aa S
        refine OL.pure S (Lf.run_add (S.ev rfl) (S.ev rfl)) rfl rfl trivial ?_
        clear S; intro aa S
        refine ol_cal S H isfn49 rfl rfl trivial ?_
        clear S H aa; intro u_6 aa ww h3 H S
        obtain ⟨r39, rfl, H⟩ := H
        obtain ⟨u_7, e_4, x40, rfl, H⟩ := H
        refine OL.pure S (Lf.run_ex (S.ev rfl) e_4) rfl rfl trivial ?_
        clear S; intro aa S
        obtain ⟨u_8, e_5, x41, rfl, H⟩ := H
        refine OL.pure S (Lf.run_ex (S.ev rfl) e_5) rfl rfl trivial ?_
        clear S; intro aa S
        refine OL.pure S (Lf.run_assign (S.ev rfl)) rfl rfl trivial ?_
        clear S; intro aa S
        refine OL.pure S (Lf.run_assign (S.ev rfl)) rfl rfl trivial ?_
        clear S; intro aa S
        refine OL.nil ?_
        refine W.ret ?_
        exact Ret.two S rfl rfl rfl H
  · replace H := H.2 hb
    refine W.skip ?_
    refine W.seq ?_
    refine W.seq ?_
    replace S := S.sub [(6, Value.bool x13), (7, Value.int .u64 x14), (8, Value.bool x18), (9, Value.int .u64 x19)] ⟨rfl, rfl, rfl, rfl, trivial⟩
    refine W.region ?_
    refine OL.pure S (Lf.run_move (S.ev rfl)) rfl rfl trivial ?_
    clear S; intro aa S
    refine OL.pure S (Lf.run_move (S.ev rfl)) rfl rfl trivial ?_
    clear S; intro aa S
    refine OL.pure S (Lf.run_geq (S.ev rfl) (S.ev rfl)) rfl rfl trivial ?_
    clear S; intro aa S
    refine OL.nil ?_
    refine W.cond S (b := (decide (x19 ≤ x14))) rfl (fun hb_4 => ?_) (fun hb_4 => ?_)
    · replace H := H.1 hb_4
      refine W.seq ?_
      replace S := S.sub [(6, Value.bool x13), (7, Value.int .u64 x14), (9, Value.int .u64 x19)] ⟨rfl, rfl, rfl, trivial⟩
      refine W.region ?_
      refine OL.pure S (Lf.run_move (S.ev rfl)) rfl rfl trivial ?_
      clear S; intro aa S
      refine OL.pure S (Lf.run_move (S.ev rfl)) rfl rfl trivial ?_
      clear S; intro aa S
      refine OL.pure S (Lf.run_move (S.ev rfl)) rfl rfl trivial ?_
      clear S; intro aa S
      refine OL.pure S (Lf.run_sub (S.ev rfl) (S.ev rfl)) rfl rfl trivial ?_
      clear S; intro aa S
      refine ol_cal S H isfn49 rfl rfl trivial ?_
      clear S H aa; intro u_9 aa ww h4 H S
      obtain ⟨r49, rfl, H⟩ := H
      obtain ⟨u_10, e_6, x50, rfl, H⟩ := H
      refine OL.pure S (Lf.run_ex (S.ev rfl) e_6) rfl rfl trivial ?_
      clear S; intro aa S
      obtain ⟨u_11, e_7, x51, rfl, H⟩ := H
      refine OL.pure S (Lf.run_ex (S.ev rfl) e_7) rfl rfl trivial ?_
      clear S; intro aa S
      refine OL.pure S (Lf.run_assign (S.ev rfl)) rfl rfl trivial ?_
      clear S; intro aa S
      refine OL.pure S (Lf.run_assign (S.ev rfl)) rfl rfl trivial ?_
      clear S; intro aa S
      refine OL.nil ?_
      refine W.ret ?_
      exact Ret.two S rfl rfl rfl H
    · replace H := H.2 hb_4
      refine W.skip ?_
      refine W.seq ?_
      replace S := S.sub [(7, Value.int .u64 x14), (8, Value.bool x18), (9, Value.int .u64 x19)] ⟨rfl, rfl, rfl, trivial⟩
      refine W.region ?_
      refine OL.pure S (Lf.run_move (S.ev rfl)) rfl rfl trivial ?_
      clear S; intro aa S
      refine OL.pure S (Lf.run_not (S.ev rfl)) rfl rfl trivial ?_
      clear S; intro aa S
      refine OL.pure S (Lf.run_move (S.ev rfl)) rfl rfl trivial ?_
      clear S; intro aa S
      refine OL.pure S (Lf.run_move (S.ev rfl)) rfl rfl trivial ?_
      clear S; intro aa S
      refine OL.pure S (Lf.run_sub (S.ev rfl) (S.ev rfl)) rfl rfl trivial ?_
      clear S; intro aa S
      refine ol_cal S H isfn49 rfl rfl trivial ?_
      clear S H aa; intro u_12 aa ww h5 H S
      obtain ⟨r57, rfl, H⟩ := H
      obtain ⟨u_13, e_8, x58, rfl, H⟩ := H
      refine OL.pure S (Lf.run_ex (S.ev rfl) e_8) rfl rfl trivial ?_
      clear S; intro aa S
      obtain ⟨u_14, e_9, x59, rfl, H⟩ := H
      refine OL.pure S (Lf.run_ex (S.ev rfl) e_9) rfl rfl trivial ?_
      clear S; intro aa S
      refine OL.pure S (Lf.run_assign (S.ev rfl)) rfl rfl trivial ?_
      clear S; intro aa S
      refine OL.pure S (Lf.run_assign (S.ev rfl)) rfl rfl trivial ?_
      clear S; intro aa S
      refine OL.nil ?_
      refine W.ret ?_
      exact Ret.two S rfl rfl rfl H

/-- chattel num.Mul -/
def L21 (a0 : Int) (b1 : Int) (h : Heap) (R : Value → Heap → Prop) : Prop :=
  ifb ((a0 == 0) || (b1 == 0)) (
    R (.tuple #[Value.int .i64 0, Value.bool true]) h) (
    ifb (a0 == (-1)) (
      cal Try.prog 37 #[Value.int .i64 b1] h fun u h1 => asTup u fun r16 =>
      elt r16 0 fun u_1 => asI .i64 u_1 fun x17 =>
      elt r16 1 fun u_2 => asB u_2 fun x18 =>
      R (.tuple #[Value.int .i64 x17, Value.bool x18]) h1) (
      ifb (b1 == (-1)) (
        cal Try.prog 37 #[Value.int .i64 a0] h fun u_3 h2 => asTup u_3 fun r22 =>
        elt r22 0 fun u_4 => asI .i64 u_4 fun x23 =>
        elt r22 1 fun u_5 => asB u_5 fun x24 =>
        R (.tuple #[Value.int .i64 x23, Value.bool x24]) h2) (
        (b1 ≠ 0) ∧
        ifb ((IntKind.i64.wrap (((IntKind.i64.wrap (a0 * b1)) : Int).tdiv b1)) != a0) (
          R (.tuple #[Value.int .i64 0, Value.bool false]) h) (
          R (.tuple #[Value.int .i64 (IntKind.i64.wrap (a0 * b1)), Value.bool true]) h))))

set_option maxRecDepth 100000 in

theorem F21 {a0 b1 h : _} {R : Value → Heap → Prop} (H : L21 a0 b1 h R) : CallsH Try.prog 21 #[Value.int .i64 a0, Value.int .i64 b1] h R := by
  refine CallsH.enter (n := 34) Try.func21 rfl rfl rfl rfl ?_
  intro w0 aa ww S
  unfold L21 at H
  refine W.seq ?_
  replace S := S.sub [(0, Value.int .i64 a0), (1, Value.int .i64 b1)] ⟨rfl, rfl, trivial⟩
  refine W.region ?_
  refine OL.pure S (Lf.run_assign (S.ev rfl)) rfl rfl trivial ?_
  clear S; intro aa S
  refine OL.pure S (Lf.run_assign (S.ev rfl)) rfl rfl trivial ?_
  clear S; intro aa S
  refine OL.nil ?_
  refine W.seq ?_
  refine W.seq ?_
  replace S := S.sub [(0, Value.int .i64 a0), (1, Value.int .i64 b1)] ⟨rfl, rfl, trivial⟩
  refine W.region ?_
  refine OL.pure S (Lf.run_move (S.ev rfl)) rfl rfl trivial ?_
  clear S; intro aa S
  refine OL.pure S (Lf.run_eql (S.ev rfl) (S.ev rfl)) rfl rfl trivial ?_
  clear S; intro aa S
  refine OL.pure S (Lf.run_move (S.ev rfl)) rfl rfl trivial ?_
  clear S; intro aa S
  refine OL.cutN 3 (fun aa ww => St 34 ((12, Value.bool ((a0 == 0) || (b1 == 0))) :: [(0, Value.int .i64 a0), (1, Value.int .i64 b1), (7, Value.int .i64 a0), (8, Value.bool (a0 == 0)), (9, Value.bool (a0 == 0))]) h w0 aa ww) ?_ ?_
  · rcases Bool.eq_false_or_eq_true (a0 == 0) with hb | hb
    · refine OL.not S rfl rfl (GNo.mk rfl rfl hb) ?_
      clear S; intro aa S
      refine OL.not S rfl rfl (GNo.mk rfl rfl hb) ?_
      clear S; intro aa S
      refine OL.pure S (Lf.run_pickT (S.ev rfl) hb (S.ev rfl)) rfl rfl trivial ?_
      clear S; intro aa S
      refine OL.nil ?_
      exact (S.hd (by rw [hb, Bool.true_or])).sub _ ⟨rfl, rfl, rfl, rfl, rfl, rfl, trivial⟩
    · refine OL.pure S (Lf.run_move (S.ev rfl)) rfl rfl (GOk.mk rfl rfl hb) ?_
      clear S; intro aa S
      refine OL.pure S (Lf.run_eql (S.ev rfl) (S.ev rfl)) rfl rfl (GOk.mk rfl rfl hb) ?_
      clear S; intro aa S
      refine OL.pure S (Lf.run_pickF (S.ev rfl) hb (S.ev rfl)) rfl rfl trivial ?_
      clear S; intro aa S
      refine OL.nil ?_
      exact (S.hd (by rw [hb, Bool.false_or])).sub _ ⟨rfl, rfl, rfl, rfl, rfl, rfl, trivial⟩
  · clear S aa
    intro aa ww S
    refine OL.nil ?_
    refine W.cond S (b := ((a0 == 0) || (b1 == 0))) rfl (fun hb_1 => ?_) (fun hb_1 => ?_)
    · replace H := H.1 hb_1
      refine W.seq ?_
      replace S := S.sub [] trivial
      refine W.region ?_
      refine OL.pure S (Lf.run_assign (S.ev rfl)) rfl rfl trivial ?_
      clear S; intro aa S
      refine OL.pure S (Lf.run_assign (S.ev rfl)) rfl rfl trivial ?_
      clear S; intro aa S
      refine OL.nil ?_
      refine W.ret ?_
      exact Ret.two S rfl rfl rfl H
    · replace H := H.2 hb_1
      refine W.skip ?_
      refine W.seq ?_
      refine W.seq ?_
      replace S := S.sub [(0, Value.int .i64 a0), (1, Value.int .i64 b1)] ⟨rfl, rfl, trivial⟩
      refine W.region ?_
      refine OL.pure S (Lf.run_move (S.ev rfl)) rfl rfl trivial ?_
      clear S; intro aa S
      refine OL.pure S (Lf.run_eql (S.ev rfl) (S.ev rfl)) rfl rfl trivial ?_
      clear S; intro aa S
      refine OL.nil ?_
      refine W.cond S (b := (a0 == (-1))) rfl (fun hb_2 => ?_) (fun hb_2 => ?_)
      · replace H := H.1 hb_2
        refine W.seq ?_
        replace S := S.sub [(1, Value.int .i64 b1)] ⟨rfl, trivial⟩
        refine W.region ?_
        refine OL.pure S (Lf.run_move (S.ev rfl)) rfl rfl trivial ?_
        clear S; intro aa S
        refine ol_cal S H isfn37 rfl rfl trivial ?_
        clear S H aa; intro u aa ww h1 H S
        obtain ⟨r16, rfl, H⟩ := H
        obtain ⟨u_1, e, x17, rfl, H⟩ := H
        refine OL.pure S (Lf.run_ex (S.ev rfl) e) rfl rfl trivial ?_
        clear S; intro aa S
        obtain ⟨u_2, e_1, x18, rfl, H⟩ := H
        refine OL.pure S (Lf.run_ex (S.ev rfl) e_1) rfl rfl trivial ?_
        clear S; intro aa S
        refine OL.pure S (Lf.run_assign (S.ev rfl)) rfl rfl trivial ?_
        clear S; intro aa S
        refine OL.pure S (Lf.run_assign (S.ev rfl)) rfl rfl trivial ?_
        clear S; intro aa S
        refine OL.nil ?_
        refine W.ret ?_
        exact Ret.two S rfl rfl rfl H
      · replace H := H.2 hb_2
        refine W.skip ?_
        refine W.seq ?_
        refine W.seq ?_
        replace S := S.sub [(0, Value.int .i64 a0), (1, Value.int .i64 b1)] ⟨rfl, rfl, trivial⟩
        refine W.region ?_
        refine OL.pure S (Lf.run_move (S.ev rfl)) rfl rfl trivial ?_
        clear S; intro aa S
        refine OL.pure S (Lf.run_eql (S.ev rfl) (S.ev rfl)) rfl rfl trivial ?_
        clear S; intro aa S
        refine OL.nil ?_
        refine W.cond S (b := (b1 == (-1))) rfl (fun hb_3 => ?_) (fun hb_3 => ?_)
        · replace H := H.1 hb_3
          refine W.seq ?_
          replace S := S.sub [(0, Value.int .i64 a0)] ⟨rfl, trivial⟩
          refine W.region ?_
          refine OL.pure S (Lf.run_move (S.ev rfl)) rfl rfl trivial ?_
          clear S; intro aa S
          refine ol_cal S H isfn37 rfl rfl trivial ?_
          clear S H aa; intro u_3 aa ww h2 H S
          obtain ⟨r22, rfl, H⟩ := H
          obtain ⟨u_4, e_2, x23, rfl, H⟩ := H
          refine OL.pure S (Lf.run_ex (S.ev rfl) e_2) rfl rfl trivial ?_
          clear S; intro aa S
          obtain ⟨u_5, e_3, x24, rfl, H⟩ := H
          refine OL.pure S (Lf.run_ex (S.ev rfl) e_3) rfl rfl trivial ?_
          clear S; intro aa S
          refine OL.pure S (Lf.run_assign (S.ev rfl)) rfl rfl trivial ?_
          clear S; intro aa S
          refine OL.pure S (Lf.run_assign (S.ev rfl)) rfl rfl trivial ?_
          clear S; intro aa S
          refine OL.nil ?_
          refine W.ret ?_
          exact Ret.two S rfl rfl rfl H
        · replace H := H.2 hb_3
          refine W.skip ?_
          refine W.seq ?_
          replace S := S.sub [(0, Value.int .i64 a0), (1, Value.int .i64 b1)] ⟨rfl, rfl, trivial⟩
          refine W.region ?_
          refine OL.pure S (Lf.run_move (S.ev rfl)) rfl rfl trivial ?_
          clear S; intro aa S
          refine OL.pure S (Lf.run_move (S.ev rfl)) rfl rfl trivial ?_
          clear S; intro aa S
          refine OL.pure S (Lf.run_mul (S.ev rfl) (S.ev rfl)) rfl rfl trivial ?_
          clear S; intro aa S
          refine OL.pure S (Lf.run_assign (S.ev rfl)) rfl rfl trivial ?_
          clear S; intro aa S
          refine OL.nil ?_
          refine W.seq ?_
          refine W.seq ?_
          replace S := S.sub [(0, Value.int .i64 a0), (1, Value.int .i64 b1), (6, Value.int .i64 (IntKind.i64.wrap (a0 * b1)))] ⟨rfl, rfl, rfl, trivial⟩
          refine W.region ?_
          refine OL.pure S (Lf.run_move (S.ev rfl)) rfl rfl trivial ?_
          clear S; intro aa S
          refine OL.pure S (Lf.run_move (S.ev rfl)) rfl rfl trivial ?_
          clear S; intro aa S
          obtain ⟨c, H⟩ := H
          refine OL.pure S (Lf.run_quo (S.ev rfl) (S.ev rfl) c) rfl rfl trivial ?_
          clear S; intro aa S
          refine OL.pure S (Lf.run_move (S.ev rfl)) rfl rfl trivial ?_
          clear S; intro aa S
          refine OL.pure S (Lf.run_neq (S.ev rfl) (S.ev rfl)) rfl rfl trivial ?_
          clear S; intro aa S
          refine OL.nil ?_
          refine W.cond S (b := ((IntKind.i64.wrap (((IntKind.i64.wrap (a0 * b1)) : Int).tdiv b1)) != a0)) rfl (fun hb_4 => ?_) (fun hb_4 => ?_)
          · replace H := H.1 hb_4
            refine W.seq ?_
            replace S := S.sub [] trivial
            refine W.region ?_
            refine OL.pure S (Lf.run_assign (S.ev rfl)) rfl rfl trivial ?_
            clear S; intro aa S
            refine OL.pure S (Lf.run_assign (S.ev rfl)) rfl rfl trivial ?_
            clear S; intro aa S
            refine OL.nil ?_
            refine W.ret ?_
            exact Ret.two S rfl rfl rfl H
          · replace H := H.2 hb_4
            refine W.skip ?_
            refine W.seq ?_
            replace S := S.sub [(6, Value.int .i64 (IntKind.i64.wrap (a0 * b1)))] ⟨rfl, trivial⟩
            refine W.region ?_
            refine OL.pure S (Lf.run_move (S.ev rfl)) rfl rfl trivial ?_
            clear S; intro aa S
            refine OL.pure S (Lf.run_assign (S.ev rfl)) rfl rfl trivial ?_
            clear S; intro aa S
            refine OL.pure S (Lf.run_assign (S.ev rfl)) rfl rfl trivial ?_
            clear S; intro aa S
            refine OL.nil ?_
            refine W.ret ?_
            exact Ret.two S rfl rfl rfl H

/-- chattel chattelref02.Mul -/
def L22 (a0 : Int) (b1 : Int) (h : Heap) (R : Value → Heap → Prop) : Prop :=
  cal Try.prog 48 #[Value.int .i64 a0] h fun u h1 => asTup u fun r12 =>
  elt r12 0 fun u_1 => asB u_1 fun x13 =>
  elt r12 1 fun u_2 => asI .u64 u_2 fun x14 =>
  cal Try.prog 48 #[Value.int .i64 b1] h1 fun u_3 h2 => asTup u_3 fun r17 =>
  elt r17 0 fun u_4 => asB u_4 fun x18 =>
  elt r17 1 fun u_5 => asI .u64 u_5 fun x19 =>
  ∃ J : Bool → Prop, (andr (decide (0 < x19)) (fun k =>
    (x19 ≠ 0) ∧
    k (decide ((IntKind.u64.wrap ((9223372036854775808 : Int).tdiv x19)) < x14))) J) ∧ ∀ x27, J x27 →
  ifb x27 (
    R (.tuple #[Value.int .i64 0, Value.bool false]) h2) (
    cal Try.prog 49 #[Value.bool (x13 != x18), Value.int .u64 (IntKind.u64.wrap (x14 * x19))] h2 fun u_6 h3 => asTup u_6 fun r34 =>
    elt r34 0 fun u_7 => asI .i64 u_7 fun x35 =>
    elt r34 1 fun u_8 => asB u_8 fun x36 =>
    R (.tuple #[Value.int .i64 x35, Value.bool x36]) h3)

set_option maxRecDepth 100000 in

theorem F22 {a0 b1 h : _} {R : Value → Heap → Prop} (H : L22 a0 b1 h R) : CallsH Try.prog 22 #[Value.int .i64 a0, Value.int .i64 b1] h R := by
  refine CallsH.enter (n := 37) Try.func22 rfl rfl rfl rfl ?_
  intro w0 aa ww S
  unfold L22 at H
  refine W.seq ?_
  replace S := S.sub [(0, Value.int .i64 a0), (1, Value.int .i64 b1)] ⟨rfl, rfl, trivial⟩
  refine W.region ?_
  refine OL.pure S (Lf.run_assign (S.ev rfl)) rfl rfl trivial ?_
  clear S; intro aa S
  refine OL.pure S (Lf.run_assign (S.ev rfl)) rfl rfl trivial ?_
  clear S; intro aa S
  refine OL.nil ?_
  refine W.seq ?_
  replace S := S.sub [(0, Value.int .i64 a0), (1, Value.int .i64 b1)] ⟨rfl, rfl, trivial⟩
  refine W.region ?_
  refine OL.pure S (Lf.run_move (S.ev rfl)) rfl rfl trivial ?_
  clear S; intro aa S
  refine ol_cal S H isfn48 rfl rfl trivial ?_
  clear S H aa; intro u aa ww h1 H S
  obtain ⟨r12, rfl, H⟩ := H
  refine OL.pure S (Lf.run_move (S.ev rfl)) rfl rfl trivial ?_
  clear S; intro aa S
  obtain ⟨u_1, e, x13, rfl, H⟩ := H
  refine OL.pure S (Lf.run_ex (S.ev rfl) e) rfl rfl trivial ?_
  clear S; intro aa S
  obtain ⟨u_2, e_1, x14, rfl, H⟩ := H
  refine OL.pure S (Lf.run_ex (S.ev rfl) e_1) rfl rfl trivial ?_
  clear S; intro aa S
  refine OL.pure S (Lf.run_assign (S.ev rfl)) rfl rfl trivial ?_
  clear S; intro aa S
  refine OL.pure S (Lf.run_assign (S.ev rfl)) rfl rfl trivial ?_
  clear S; intro aa S
  refine OL.nil ?_
  refine W.seq ?_
  replace S := S.sub [(1, Value.int .i64 b1), (6, Value.bool x13), (7, Value.int .u64 x14)] ⟨rfl, rfl, rfl, trivial⟩
  refine W.region ?_
  refine OL.pure S (Lf.run_move (S.ev rfl)) rfl rfl trivial ?_
  clear S; intro aa S
  refine ol_cal S H isfn48 rfl rfl trivial ?_
  clear S H aa; intro u_3 aa ww h2 H S
  obtain ⟨r17, rfl, H⟩ := H
  refine OL.pure S (Lf.run_move (S.ev rfl)) rfl rfl trivial ?_
  clear S; intro aa S
  obtain ⟨u_4, e_2, x18, rfl, H⟩ := H
  refine OL.pure S (Lf.run_ex (S.ev rfl) e_2) rfl rfl trivial ?_
  clear S; intro aa S
  obtain ⟨u_5, e_3, x19, rfl, H⟩ := H
  refine OL.pure S (Lf.run_ex (S.ev rfl) e_3) rfl rfl trivial ?_
  clear S; intro aa S
  refine OL.pure S (Lf.run_assign (S.ev rfl)) rfl rfl trivial ?_
  clear S; intro aa S
  refine OL.pure S (Lf.run_assign (S.ev rfl)) rfl rfl trivial ?_
  clear S; intro aa S
  refine OL.nil ?_
  refine W.seq ?_
  refine W.seq ?_
  replace S := S.sub [(6, Value.bool x13), (7, Value.int .u64 x14), (8, Value.bool x18), (9, Value.int .u64 x19)] ⟨rfl, rfl, rfl, rfl, trivial⟩
  refine W.region ?_
  refine OL.pure S (Lf.run_move (S.ev rfl)) rfl rfl trivial ?_
  clear S; intro aa S
  refine OL.pure S (Lf.run_gtr (S.ev rfl) (S.ev rfl)) rfl rfl trivial ?_
  clear S; intro aa S
  refine OL.pure S (Lf.run_move (S.ev rfl)) rfl rfl trivial ?_
  clear S; intro aa S
  obtain ⟨J, H, HK⟩ := H
  refine OL.cutN 5 (fun aa ww => ∃ x27, St 37 ((27, Value.bool x27) :: [(6, Value.bool x13), (7, Value.int .u64 x14), (8, Value.bool x18), (9, Value.int .u64 x19), (20, Value.int .u64 x19), (21, Value.bool (decide (0 < x19))), (22, Value.bool (decide (0 < x19)))]) h2 w0 aa ww ∧ J x27) ?_ ?_
  · rcases Bool.eq_false_or_eq_true (decide (0 < x19)) with hb | hb
    · replace H := H.1 hb
      refine OL.pure S (Lf.run_move (S.ev rfl)) rfl rfl (GOk.mk rfl rfl hb) ?_
      clear S; intro aa S
      refine OL.pure S (Lf.run_move (S.ev rfl)) rfl rfl (GOk.mk rfl rfl hb) ?_
      clear S; intro aa S
      obtain ⟨c, H⟩ := H
      refine OL.pure S (Lf.run_quo (S.ev rfl) (S.ev rfl) c) rfl rfl (GOk.mk rfl rfl hb) ?_
      clear S; intro aa S
      refine OL.pure S (Lf.run_gtr (S.ev rfl) (S.ev rfl)) rfl rfl (GOk.mk rfl rfl hb) ?_
      clear S; intro aa S
      refine OL.pure S (Lf.run_pickT (S.ev rfl) hb (S.ev rfl)) rfl rfl trivial ?_
      clear S; intro aa S
      refine OL.nil ?_
      exact ⟨_, S.sub _ ⟨rfl, rfl, rfl, rfl, rfl, rfl, rfl, rfl, trivial⟩, H⟩
    · replace H := H.2 hb
      refine OL.not S rfl rfl (GNo.mk rfl rfl hb) ?_
      clear S; intro aa S
      refine OL.not S rfl rfl (GNo.mk rfl rfl hb) ?_
      clear S; intro aa S
      refine OL.not S rfl rfl (GNo.mk rfl rfl hb) ?_
      clear S; intro aa S
      refine OL.not S rfl rfl (GNo.mk rfl rfl hb) ?_
      clear S; intro aa S
      refine OL.pure S (Lf.run_pickF (S.ev rfl) hb (S.ev rfl)) rfl rfl trivial ?_
      clear S; intro aa S
      refine OL.nil ?_
      exact ⟨_, S.sub _ ⟨rfl, rfl, rfl, rfl, rfl, rfl, rfl, rfl, trivial⟩, H⟩
  · clear S aa
    rintro aa ww ⟨x27, S, HJ⟩
    replace H := HK _ HJ
    clear HK HJ
    refine OL.nil ?_
    refine W.cond S (b := x27) rfl (fun hb_1 => ?_) (fun hb_1 => ?_)
    · replace H := H.1 hb_1
      refine W.seq ?_
      replace S := S.sub [] trivial
      refine W.region ?_
      refine OL.pure S (Lf.run_assign (S.ev rfl)) rfl rfl trivial ?_
      clear S; intro aa S
      refine OL.pure S (Lf.run_assign (S.ev rfl)) rfl rfl trivial ?_
      clear S; intro aa S
      refine OL.nil ?_
      refine W.ret ?_
      exact Ret.two S rfl rfl rfl H
    · replace H := H.2 hb_1
      refine W.skip ?_
      refine W.seq ?_
      replace S := S.sub [(6, Value.bool x13), (7, Value.int .u64 x14), (8, Value.bool x18), (9, Value.int .u64 x19)] ⟨rfl, rfl, rfl, rfl, trivial⟩
      refine W.region ?_
      refine OL.pure S (Lf.run_move (S.ev rfl)) rfl rfl trivial ?_
      clear S; intro aa S
      refine OL.pure S (Lf.run_move (S.ev rfl)) rfl rfl trivial ?_
      clear S; intro aa S
      refine OL.pure S (Lf.run_neqb Try.underlying4 (S.ev rfl) (S.ev rfl)) rfl rfl trivial ?_
      clear S; intro aa S
      refine OL.pure S (Lf.run_move (S.ev rfl)) rfl rfl trivial ?_
      clear S; intro aa S
      refine OL.pure S (Lf.run_move (S.ev rfl)) rfl rfl trivial ?_
      clear S; intro aa S
      refine OL.pure S (Lf.run_mul (S.ev rfl) (S.ev rfl)) rfl rfl trivial ?_
      clear S; intro aa S
      refine ol_cal S H isfn49 rfl rfl trivial ?_
      clear S H aa; intro u_6 aa ww h3 H S
      obtain ⟨r34, rfl, H⟩ := H
      obtain ⟨u_7, e_4, x35, rfl, H⟩ := H
      refine OL.pure S (Lf.run_ex (S.ev rfl) e_4) rfl rfl trivial ?_
      clear S; intro aa S
      obtain ⟨u_8, e_5, x36, rfl, H⟩ := H
      refine OL.pure S (Lf.run_ex (S.ev rfl) e_5) rfl rfl trivial ?_
      clear S; intro aa S
      refine OL.pure S (Lf.run_assign (S.ev rfl)) rfl rfl trivial ?_
      clear S; intro aa S
      refine OL.pure S (Lf.run_assign (S.ev rfl)) rfl rfl trivial ?_
      clear S; intro aa S
      refine OL.nil ?_
      refine W.ret ?_
      exact Ret.two S rfl rfl rfl H

/-- chattel num.FAdd -/
def L23 (a0 : Int) (b1 : Int) (h : Heap) (R : Value → Heap → Prop) : Prop :=
  flA .add (((a0 : Int)).toNat) (((b1 : Int)).toNat) fun r9 =>
  cal Try.prog 50 #[Value.float .f64 r9] h fun u h1 => asI .u64 u fun x10 =>
  R (Value.int .u64 x10) h1

set_option maxRecDepth 100000 in

theorem F23 {a0 b1 h : _} {R : Value → Heap → Prop} (H : L23 a0 b1 h R) : CallsH Try.prog 23 #[Value.int .u64 a0, Value.int .u64 b1] h R := by
  refine CallsH.enter (n := 11) Try.func23 rfl rfl rfl rfl ?_
  intro w0 aa ww S
  unfold L23 at H
  refine W.seq ?_
  replace S := S.sub [(0, Value.int .u64 a0), (1, Value.int .u64 b1)] ⟨rfl, rfl, trivial⟩
  refine W.region ?_
  refine OL.pure S (Lf.run_assign (S.ev rfl)) rfl rfl trivial ?_
  clear S; intro aa S
  refine OL.nil ?_
  refine W.seq ?_
  replace S := S.sub [(0, Value.int .u64 a0), (1, Value.int .u64 b1)] ⟨rfl, rfl, trivial⟩
  refine W.region ?_
  refine OL.pure S (Lf.run_move (S.ev rfl)) rfl rfl trivial ?_
  clear S; intro aa S
  refine OL.pure S (Lf.run_fromB isext43 (evs_map S rfl)) rfl rfl trivial ?_
  clear S; intro aa S
  refine OL.pure S (Lf.run_move (S.ev rfl)) rfl rfl trivial ?_
  clear S; intro aa S
  refine OL.pure S (Lf.run_fromB isext43 (evs_map S rfl)) rfl rfl trivial ?_
  clear S; intro aa S
  refine ol_flA S H (by simp) rfl rfl rfl trivial ?_
  clear S H aa; intro r9 aa ww H S
  refine ol_cal S H isfn50 rfl rfl trivial ?_
  clear S H aa; intro u aa ww h1 H S
  obtain ⟨x10, rfl, H⟩ := H
  refine OL.pure S (Lf.run_assign (S.ev rfl)) rfl rfl trivial ?_
  clear S; intro aa S
  refine OL.nil ?_
  refine W.ret ?_
  exact Ret.one S rfl rfl H

/-- chattel chattelref02.FAdd -/
def L24 (a0 : Int) (b1 : Int) (h : Heap) (R : Value → Heap → Prop) : Prop :=
  cal Try.prog 16 #[Value.int .u64 a0] h fun u h1 => asI .i64 u fun x6 =>
  ∃ J : Bool → Heap → Prop, (orj (x6 == 0) (fun k =>
    cal Try.prog 16 #[Value.int .u64 b1] h1 fun u_1 h3 => asI .i64 u_1 fun x10 =>
    k (x10 == 0) h3) h1 J) ∧ ∀ x12 h2, J x12 h2 →
  ifb x12 (
    R (Value.int .u64 9221120237041090561) h2) (
    cal Try.prog 51 #[Value.int .u64 a0] h2 fun u_2 h4 => asB u_2 fun x14 =>
    ifb (!x14) (
      cal Try.prog 51 #[Value.int .u64 b1] h4 fun u_3 h5 => asB u_3 fun x17 =>
      ifb ((!x17) && (a0 != b1)) (
        R (Value.int .u64 9221120237041090561) h5) (
        R (Value.int .u64 a0) h5)) (
      cal Try.prog 51 #[Value.int .u64 b1] h4 fun u_4 h6 => asB u_4 fun x26 =>
      ifb (!x26) (
        R (Value.int .u64 b1) h6) (
        cal Try.prog 52 #[Value.int .u64 a0] h6 fun u_5 h7 => asB u_5 fun x30 =>
        ∃ J_1 : Bool → Heap → Prop, (andj x30 (fun k_1 =>
          cal Try.prog 52 #[Value.int .u64 b1] h7 fun u_6 h9 => asB u_6 fun x33 =>
          k_1 x33 h9) h7 J_1) ∧ ∀ x34 h8, J_1 x34 h8 →
        ifb x34 (
          R (Value.int .u64 (bitsI .and .u64 a0 b1)) h8) (
          flA .add (((a0 : Int)).toNat) (((b1 : Int)).toNat) fun r42 =>
          cal Try.prog 53 #[Value.float .f64 r42] h8 fun u_7 h10 => asI .u64 u_7 fun x43 =>
          R (Value.int .u64 x43) h10))))

set_option maxRecDepth 100000 in

theorem F24 {a0 b1 h : _} {R : Value → Heap → Prop} (H : L24 a0 b1 h R) : CallsH Try.prog 24 #[Value.int .u64 a0, Value.int .u64 b1] h R := by
  refine CallsH.enter (n := 44) Try.func24 rfl rfl rfl rfl ?_
  intro w0 aa ww S
  unfold L24 at H
  refine W.seq ?_
  replace S := S.sub [(0, Value.int .u64 a0), (1, Value.int .u64 b1)] ⟨rfl, rfl, trivial⟩
  refine W.region ?_
  refine OL.pure S (Lf.run_assign (S.ev rfl)) rfl rfl trivial ?_
  clear S; intro aa S
  refine OL.nil ?_
  refine W.seq ?_
  refine W.seq ?_
  replace S := S.sub [(0, Value.int .u64 a0), (1, Value.int .u64 b1)] ⟨rfl, rfl, trivial⟩
  refine W.region ?_
  refine OL.pure S (Lf.run_move (S.ev rfl)) rfl rfl trivial ?_
  clear S; intro aa S
  refine ol_cal S H isfn16 rfl rfl trivial ?_
  clear S H aa; intro u aa ww h1 H S
  obtain ⟨x6, rfl, H⟩ := H
  refine OL.pure S (Lf.run_eql (S.ev rfl) (S.ev rfl)) rfl rfl trivial ?_
  clear S; intro aa S
  refine OL.pure S (Lf.run_move (S.ev rfl)) rfl rfl trivial ?_
  clear S; intro aa S
  obtain ⟨J, H, HK⟩ := H
  refine OL.cutN 4 (fun aa ww => ∃ x12 h2, St 44 ((12, Value.bool x12) :: [(0, Value.int .u64 a0), (1, Value.int .u64 b1), (5, Value.int .u64 a0), (6, Value.int .i64 x6), (7, Value.bool (x6 == 0)), (8, Value.bool (x6 == 0))]) h2 w0 aa ww ∧ J x12 h2) ?_ ?_
  · rcases Bool.eq_false_or_eq_true (x6 == 0) with hb | hb
    · replace H := H.1 hb
      refine OL.not S rfl rfl (GNo.mk rfl rfl hb) ?_
      clear S; intro aa S
      refine OL.not S rfl rfl (GNo.mk rfl rfl hb) ?_
      clear S; intro aa S
      refine OL.not S rfl rfl (GNo.mk rfl rfl hb) ?_
      clear S; intro aa S
      refine OL.pure S (Lf.run_pickT (S.ev rfl) hb (S.ev rfl)) rfl rfl trivial ?_
      clear S; intro aa S
      refine OL.nil ?_
      exact ⟨_, _, S.sub _ ⟨rfl, rfl, rfl, rfl, rfl, rfl, rfl, trivial⟩, H⟩
    · replace H := H.2 hb
      refine OL.pure S (Lf.run_move (S.ev rfl)) rfl rfl (GOk.mk rfl rfl hb) ?_
      clear S; intro aa S
      refine ol_cal S H isfn16 rfl rfl (GOk.mk rfl rfl hb) ?_
      clear S H aa; intro u_1 aa ww h3 H S
      obtain ⟨x10, rfl, H⟩ := H
      refine OL.pure S (Lf.run_eql (S.ev rfl) (S.ev rfl)) rfl rfl (GOk.mk rfl rfl hb) ?_
      clear S; intro aa S
      refine OL.pure S (Lf.run_pickF (S.ev rfl) hb (S.ev rfl)) rfl rfl trivial ?_
      clear S; intro aa S
      refine OL.nil ?_
      exact ⟨_, _, S.sub _ ⟨rfl, rfl, rfl, rfl, rfl, rfl, rfl, trivial⟩, H⟩
  · clear S aa
    rintro aa ww ⟨x12, h2, S, HJ⟩
    replace H := HK _ _ HJ
    clear HK HJ
    refine OL.nil ?_
    refine W.cond S (b := x12) rfl (fun hb_1 => ?_) (fun hb_1 => ?_)
    · replace H := H.1 hb_1
      refine W.seq ?_
      replace S := S.sub [] trivial
      refine W.region ?_
      refine OL.pure S (Lf.run_assign (S.ev rfl)) rfl rfl trivial ?_
      clear S; intro aa S
      refine OL.nil ?_
      refine W.ret ?_
      exact Ret.one S rfl rfl H
    · replace H := H.2 hb_1
      refine W.skip ?_
      refine W.seq ?_
      refine W.seq ?_
      replace S := S.sub [(0, Value.int .u64 a0), (1, Value.int .u64 b1)] ⟨rfl, rfl, trivial⟩
      refine W.region ?_
      refine OL.pure S (Lf.run_move (S.ev rfl)) rfl rfl trivial ?_
      clear S; intro aa S
      refine ol_cal S H isfn51 rfl rfl trivial ?_
      clear S H aa; intro u_2 aa ww h4 H S
      obtain ⟨x14, rfl, H⟩ := H
      refine OL.pure S (Lf.run_not (S.ev rfl)) rfl rfl trivial ?_
      clear S; intro aa S
      refine OL.nil ?_
      refine W.cond S (b := (!x14)) rfl (fun hb_2 => ?_) (fun hb_2 => ?_)
      · replace H := H.1 hb_2
        refine W.seq ?_
        refine W.seq ?_
        replace S := S.sub [(0, Value.int .u64 a0), (1, Value.int .u64 b1)] ⟨rfl, rfl, trivial⟩
        refine W.region ?_
        refine OL.pure S (Lf.run_move (S.ev rfl)) rfl rfl trivial ?_
        clear S; intro aa S
        refine ol_cal S H isfn51 rfl rfl trivial ?_
        clear S H aa; intro u_3 aa ww h5 H S
        obtain ⟨x17, rfl, H⟩ := H
        refine OL.pure S (Lf.run_not (S.ev rfl)) rfl rfl trivial ?_
        clear S; intro aa S
        refine OL.pure S (Lf.run_move (S.ev rfl)) rfl rfl trivial ?_
        clear S; intro aa S
        refine OL.cutN 4 (fun aa ww => St 44 ((23, Value.bool ((!x17) && (a0 != b1))) :: [(0, Value.int .u64 a0), (1, Value.int .u64 b1), (16, Value.int .u64 b1), (17, Value.bool x17), (18, Value.bool (!x17)), (19, Value.bool (!x17))]) h5 w0 aa ww) ?_ ?_
        · rcases Bool.eq_false_or_eq_true (!x17) with hb_3 | hb_3
          · refine OL.pure S (Lf.run_move (S.ev rfl)) rfl rfl (GOk.mk rfl rfl hb_3) ?_
            clear S; intro aa S
            refine OL.pure S (Lf.run_move (S.ev rfl)) rfl rfl (GOk.mk rfl rfl hb_3) ?_
            clear S; intro aa S
            refine OL.pure S (Lf.run_neq (S.ev rfl) (S.ev rfl)) rfl rfl (GOk.mk rfl rfl hb_3) ?_
            clear S; intro aa S
            refine OL.pure S (Lf.run_pickT (S.ev rfl) hb_3 (S.ev rfl)) rfl rfl trivial ?_
            clear S; intro aa S
            refine OL.nil ?_
            exact (S.hd (by rw [hb_3, Bool.true_and])).sub _ ⟨rfl, rfl, rfl, rfl, rfl, rfl, rfl, trivial⟩
          · refine OL.not S rfl rfl (GNo.mk rfl rfl hb_3) ?_
            clear S; intro aa S
            refine OL.not S rfl rfl (GNo.mk rfl rfl hb_3) ?_
            clear S; intro aa S
            refine OL.not S rfl rfl (GNo.mk rfl rfl hb_3) ?_
            clear S; intro aa S
            refine OL.pure S (Lf.run_pickF (S.ev rfl) hb_3 (S.ev rfl)) rfl rfl trivial ?_
            clear S; intro aa S
            refine OL.nil ?_
            exact (S.hd (by rw [hb_3, Bool.false_and])).sub _ ⟨rfl, rfl, rfl, rfl, rfl, rfl, rfl, trivial⟩
        · clear S aa
          intro aa ww S
          refine OL.nil ?_
          refine W.cond S (b := ((!x17) && (a0 != b1))) rfl (fun hb_4 => ?_) (fun hb_4 => ?_)
          · replace H := H.1 hb_4
            refine W.seq ?_
            replace S := S.sub [] trivial
            refine W.region ?_
            refine OL.pure S (Lf.run_assign (S.ev rfl)) rfl rfl trivial ?_
            clear S; intro aa S
            refine OL.nil ?_
            refine W.ret ?_
            exact Ret.one S rfl rfl H
          · replace H := H.2 hb_4
            refine W.skip ?_
            refine W.seq ?_
            replace S := S.sub [(0, Value.int .u64 a0)] ⟨rfl, trivial⟩
            refine W.region ?_
            refine OL.pure S (Lf.run_move (S.ev rfl)) rfl rfl trivial ?_
            clear S; intro aa S
            refine OL.pure S (Lf.run_assign (S.ev rfl)) rfl rfl trivial ?_
            clear S; intro aa S
            refine OL.nil ?_
            refine W.ret ?_
            exact Ret.one S rfl rfl H
      · replace H := H.2 hb_2
        refine W.skip ?_
        refine W.seq ?_
        refine W.seq ?_
        replace S := S.sub [(0, Value.int .u64 a0), (1, Value.int .u64 b1)] ⟨rfl, rfl, trivial⟩
        refine W.region ?_
        refine OL.pure S (Lf.run_move (S.ev rfl)) rfl rfl trivial ?_
        clear S; intro aa S
        refine ol_cal S H isfn51 rfl rfl trivial ?_
        clear S H aa; intro u_4 aa ww h6 H S
        obtain ⟨x26, rfl, H⟩ := H
        refine OL.pure S (Lf.run_not (S.ev rfl)) rfl rfl trivial ?_
        clear S; intro aa S
        refine OL.nil ?_
        refine W.cond S (b := (!x26)) rfl (fun hb_5 => ?_) (fun hb_5 => ?_)
        · replace H := H.1 hb_5
          refine W.seq ?_
          replace S := S.sub [(1, Value.int .u64 b1)] ⟨rfl, trivial⟩
          refine W.region ?_
          refine OL.pure S (Lf.run_move (S.ev rfl)) rfl rfl trivial ?_
          clear S; intro aa S
          refine OL.pure S (Lf.run_assign (S.ev rfl)) rfl rfl trivial ?_
          clear S; intro aa S
          refine OL.nil ?_
          refine W.ret ?_
          exact Ret.one S rfl rfl H
        · replace H := H.2 hb_5
          refine W.skip ?_
          refine W.seq ?_
          refine W.seq ?_
          replace S := S.sub [(0, Value.int .u64 a0), (1, Value.int .u64 b1)] ⟨rfl, rfl, trivial⟩
          refine W.region ?_
          refine OL.pure S (Lf.run_move (S.ev rfl)) rfl rfl trivial ?_
          clear S; intro aa S
          refine ol_cal S H isfn52 rfl rfl trivial ?_
          clear S H aa; intro u_5 aa ww h7 H S
          obtain ⟨x30, rfl, H⟩ := H
          refine OL.pure S (Lf.run_move (S.ev rfl)) rfl rfl trivial ?_
          clear S; intro aa S
          obtain ⟨J_1, H, HK_1⟩ := H
          refine OL.cutN 3 (fun aa ww => ∃ x34 h8, St 44 ((34, Value.bool x34) :: [(0, Value.int .u64 a0), (1, Value.int .u64 b1), (29, Value.int .u64 a0), (30, Value.bool x30), (31, Value.bool x30)]) h8 w0 aa ww ∧ J_1 x34 h8) ?_ ?_
          · rcases Bool.eq_false_or_eq_true x30 with hb_6 | hb_6
            · replace H := H.1 hb_6
              refine OL.pure S (Lf.run_move (S.ev rfl)) rfl rfl (GOk.mk rfl rfl hb_6) ?_
              clear S; intro aa S
              refine ol_cal S H isfn52 rfl rfl (GOk.mk rfl rfl hb_6) ?_
              clear S H aa; intro u_6 aa ww h9 H S
              obtain ⟨x33, rfl, H⟩ := H
              refine OL.pure S (Lf.run_pickT (S.ev rfl) hb_6 (S.ev rfl)) rfl rfl trivial ?_
              clear S; intro aa S
              refine OL.nil ?_
              exact ⟨_, _, S.sub _ ⟨rfl, rfl, rfl, rfl, rfl, rfl, trivial⟩, H⟩
            · replace H := H.2 hb_6
              refine OL.not S rfl rfl (GNo.mk rfl rfl hb_6) ?_
              clear S; intro aa S
              refine OL.not S rfl rfl (GNo.mk rfl rfl hb_6) ?_
              clear S; intro aa S
              refine OL.pure S (Lf.run_pickF (S.ev rfl) hb_6 (S.ev rfl)) rfl rfl trivial ?_
              clear S; intro aa S
              refine OL.nil ?_
              exact ⟨_, _, S.sub _ ⟨rfl, rfl, rfl, rfl, rfl, rfl, trivial⟩, H⟩
          · clear S aa
            rintro aa ww ⟨x34, h8, S, HJ⟩
            replace H := HK_1 _ _ HJ
            clear HK_1 HJ
            refine OL.nil ?_
            refine W.cond S (b := x34) rfl (fun hb_7 => ?_) (fun hb_7 => ?_)
            · replace H := H.1 hb_7
              refine W.seq ?_
              replace S := S.sub [(0, Value.int .u64 a0), (1, Value.int .u64 b1)] ⟨rfl, rfl, trivial⟩
              refine W.region ?_
              refine OL.pure S (Lf.run_move (S.ev rfl)) rfl rfl trivial ?_
              clear S; intro aa S
              refine OL.pure S (Lf.run_move (S.ev rfl)) rfl rfl trivial ?_
              clear S; intro aa S
              refine OL.pure S (Lf.run_bits (op := .and) (by simp) (S.ev rfl) (S.ev rfl)) rfl rfl trivial ?_
              clear S; intro aa S
              refine OL.pure S (Lf.run_assign (S.ev rfl)) rfl rfl trivial ?_
              clear S; intro aa S
              refine OL.nil ?_
              refine W.ret ?_
              exact Ret.one S rfl rfl H
            · replace H := H.2 hb_7
              refine W.skip ?_
              refine W.seq ?_
              replace S := S.sub [(0, Value.int .u64 a0), (1, Value.int .u64 b1)] ⟨rfl, rfl, trivial⟩
              refine W.region ?_
              refine OL.pure S (Lf.run_move (S.ev rfl)) rfl rfl trivial ?_
              clear S; intro aa S
              refine OL.pure S (Lf.run_fromB isext43 (evs_map S rfl)) rfl rfl trivial ?_
              clear S; intro aa S
              refine OL.pure S (Lf.run_move (S.ev rfl)) rfl rfl trivial ?_
              clear S; intro aa S
              refine OL.pure S (Lf.run_fromB isext43 (evs_map S rfl)) rfl rfl trivial ?_
              clear S; intro aa S
              refine ol_flA S H (by simp) rfl rfl rfl trivial ?_
              clear S H aa; intro r42 aa ww H S
              refine ol_cal S H isfn53 rfl rfl trivial ?_
              clear S H aa; intro u_7 aa ww h10 H S
              obtain ⟨x43, rfl, H⟩ := H
              refine OL.pure S (Lf.run_assign (S.ev rfl)) rfl rfl trivial ?_
              clear S; intro aa S
              refine OL.nil ?_
              refine W.ret ?_
              exact Ret.one S rfl rfl H

/-- chattel num.FSub -/
def L25 (a0 : Int) (b1 : Int) (h : Heap) (R : Value → Heap → Prop) : Prop :=
  flA .sub (((a0 : Int)).toNat) (((b1 : Int)).toNat) fun r9 =>
  cal Try.prog 50 #[Value.float .f64 r9] h fun u h1 => asI .u64 u fun x10 =>
  R (Value.int .u64 x10) h1

set_option maxRecDepth 100000 in

theorem F25 {a0 b1 h : _} {R : Value → Heap → Prop} (H : L25 a0 b1 h R) : CallsH Try.prog 25 #[Value.int .u64 a0, Value.int .u64 b1] h R := by
  refine CallsH.enter (n := 11) Try.func25 rfl rfl rfl rfl ?_
  intro w0 aa ww S
  unfold L25 at H
  refine W.seq ?_
  replace S := S.sub [(0, Value.int .u64 a0), (1, Value.int .u64 b1)] ⟨rfl, rfl, trivial⟩
  refine W.region ?_
  refine OL.pure S (Lf.run_assign (S.ev rfl)) rfl rfl trivial ?_
  clear S; intro aa S
  refine OL.nil ?_
  refine W.seq ?_
  replace S := S.sub [(0, Value.int .u64 a0), (1, Value.int .u64 b1)] ⟨rfl, rfl, trivial⟩
  refine W.region ?_
  refine OL.pure S (Lf.run_move (S.ev rfl)) rfl rfl trivial ?_
  clear S; intro aa S
  refine OL.pure S (Lf.run_fromB isext43 (evs_map S rfl)) rfl rfl trivial ?_
  clear S; intro aa S
  refine OL.pure S (Lf.run_move (S.ev rfl)) rfl rfl trivial ?_
  clear S; intro aa S
  refine OL.pure S (Lf.run_fromB isext43 (evs_map S rfl)) rfl rfl trivial ?_
  clear S; intro aa S
  refine ol_flA S H (by simp) rfl rfl rfl trivial ?_
  clear S H aa; intro r9 aa ww H S
  refine ol_cal S H isfn50 rfl rfl trivial ?_
  clear S H aa; intro u aa ww h1 H S
  obtain ⟨x10, rfl, H⟩ := H
  refine OL.pure S (Lf.run_assign (S.ev rfl)) rfl rfl trivial ?_
  clear S; intro aa S
  refine OL.nil ?_
  refine W.ret ?_
  exact Ret.one S rfl rfl H

/-- chattel chattelref02.FSub -/
def L26 (a0 : Int) (b1 : Int) (h : Heap) (R : Value → Heap → Prop) : Prop :=
  cal Try.prog 16 #[Value.int .u64 a0] h fun u h1 => asI .i64 u fun x6 =>
  ∃ J : Bool → Heap → Prop, (orj (x6 == 0) (fun k =>
    cal Try.prog 16 #[Value.int .u64 b1] h1 fun u_1 h3 => asI .i64 u_1 fun x10 =>
    k (x10 == 0) h3) h1 J) ∧ ∀ x12 h2, J x12 h2 →
  ifb x12 (
    R (Value.int .u64 9221120237041090561) h2) (
    cal Try.prog 32 #[Value.int .u64 b1] h2 fun u_2 h4 => asI .u64 u_2 fun x15 =>
    cal Try.prog 24 #[Value.int .u64 a0, Value.int .u64 x15] h4 fun u_3 h5 => asI .u64 u_3 fun x16 =>
    R (Value.int .u64 x16) h5)

set_option maxRecDepth 100000 in

theorem F26 {a0 b1 h : _} {R : Value → Heap → Prop} (H : L26 a0 b1 h R) : CallsH Try.prog 26 #[Value.int .u64 a0, Value.int .u64 b1] h R := by
  refine CallsH.enter (n := 17) Try.func26 rfl rfl rfl rfl ?_
  intro w0 aa ww S
  unfold L26 at H
  refine W.seq ?_
  replace S := S.sub [(0, Value.int .u64 a0), (1, Value.int .u64 b1)] ⟨rfl, rfl, trivial⟩
  refine W.region ?_
  refine OL.pure S (Lf.run_assign (S.ev rfl)) rfl rfl trivial ?_
  clear S; intro aa S
  refine OL.nil ?_
  refine W.seq ?_
  refine W.seq ?_
  replace S := S.sub [(0, Value.int .u64 a0), (1, Value.int .u64 b1)] ⟨rfl, rfl, trivial⟩
  refine W.region ?_
  refine OL.pure S (Lf.run_move (S.ev rfl)) rfl rfl trivial ?_
  clear S; intro aa S
  refine ol_cal S H isfn16 rfl rfl trivial ?_
  clear S H aa; intro u aa ww h1 H S
  obtain ⟨x6, rfl, H⟩ := H
  refine OL.pure S (Lf.run_eql (S.ev rfl) (S.ev rfl)) rfl rfl trivial ?_
  clear S; intro aa S
  refine OL.pure S (Lf.run_move (S.ev rfl)) rfl rfl trivial ?_
  clear S; intro aa S
  obtain ⟨J, H, HK⟩ := H
  refine OL.cutN 4 (fun aa ww => ∃ x12 h2, St 17 ((12, Value.bool x12) :: [(0, Value.int .u64 a0), (1, Value.int .u64 b1), (5, Value.int .u64 a0), (6, Value.int .i64 x6), (7, Value.bool (x6 == 0)), (8, Value.bool (x6 == 0))]) h2 w0 aa ww ∧ J x12 h2) ?_ ?_
  · rcases Bool.eq_false_or_eq_true (x6 == 0) with hb | hb
    · replace H := H.1 hb
      refine OL.not S rfl rfl (GNo.mk rfl rfl hb) ?_
      clear S; intro aa S
      refine OL.not S rfl rfl (GNo.mk rfl rfl hb) ?_
      clear S; intro aa S
      refine OL.not S rfl rfl (GNo.mk rfl rfl hb) ?_
      clear S; intro aa S
      refine OL.pure S (Lf.run_pickT (S.ev rfl) hb (S.ev rfl)) rfl rfl trivial ?_
      clear S; intro aa S
      refine OL.nil ?_
      exact ⟨_, _, S.sub _ ⟨rfl, rfl, rfl, rfl, rfl, rfl, rfl, trivial⟩, H⟩
    · replace H := H.2 hb
      refine OL.pure S (Lf.run_move (S.ev rfl)) rfl rfl (GOk.mk rfl rfl hb) ?_
      clear S; intro aa S
      refine ol_cal S H isfn16 rfl rfl (GOk.mk rfl rfl hb) ?_
      clear S H aa; intro u_1 aa ww h3 H S
      obtain ⟨x10, rfl, H⟩ := H
      refine OL.pure S (Lf.run_eql (S.ev rfl) (S.ev rfl)) rfl rfl (GOk.mk rfl rfl hb) ?_
      clear S; intro aa S
      refine OL.pure S (Lf.run_pickF (S.ev rfl) hb (S.ev rfl)) rfl rfl trivial ?_
      clear S; intro aa S
      refine OL.nil ?_
      exact ⟨_, _, S.sub _ ⟨rfl, rfl, rfl, rfl, rfl, rfl, rfl, trivial⟩, H⟩
  · clear S aa
    rintro aa ww ⟨x12, h2, S, HJ⟩
    replace H := HK _ _ HJ
    clear HK HJ
    refine OL.nil ?_
    refine W.cond S (b := x12) rfl (fun hb_1 => ?_) (fun hb_1 => ?_)
    · replace H := H.1 hb_1
      refine W.seq ?_
      replace S := S.sub [] trivial
      refine W.region ?_
      refine OL.pure S (Lf.run_assign (S.ev rfl)) rfl rfl trivial ?_
      clear S; intro aa S
      refine OL.nil ?_
      refine W.ret ?_
      exact Ret.one S rfl rfl H
    · replace H := H.2 hb_1
      refine W.skip ?_
      refine W.seq ?_
      replace S := S.sub [(0, Value.int .u64 a0), (1, Value.int .u64 b1)] ⟨rfl, rfl, trivial⟩
      refine W.region ?_
      refine OL.pure S (Lf.run_move (S.ev rfl)) rfl rfl trivial ?_
      clear S; intro aa S
      refine OL.pure S (Lf.run_move (S.ev rfl)) rfl rfl trivial ?_
      clear S; intro aa S
      refine ol_cal S H isfn32 rfl rfl trivial ?_
      clear S H aa; intro u_2 aa ww h4 H S
      obtain ⟨x15, rfl, H⟩ := H
      refine ol_cal S H isfn24 rfl rfl trivial ?_
      clear S H aa; intro u_3 aa ww h5 H S
      obtain ⟨x16, rfl, H⟩ := H
      refine OL.pure S (Lf.run_assign (S.ev rfl)) rfl rfl trivial ?_
      clear S; intro aa S
      refine OL.nil ?_
      refine W.ret ?_
      exact Ret.one S rfl rfl H

/-- chattel num.FMul -/
def L27 (a0 : Int) (b1 : Int) (h : Heap) (R : Value → Heap → Prop) : Prop :=
  flA .mul (((a0 : Int)).toNat) (((b1 : Int)).toNat) fun r9 =>
  cal Try.prog 50 #[Value.float .f64 r9] h fun u h1 => asI .u64 u fun x10 =>
  R (Value.int .u64 x10) h1

set_option maxRecDepth 100000 in

theorem F27 {a0 b1 h : _} {R : Value → Heap → Prop} (H : L27 a0 b1 h R) : CallsH Try.prog 27 #[Value.int .u64 a0, Value.int .u64 b1] h R := by
  refine CallsH.enter (n := 11) Try.func27 rfl rfl rfl rfl ?_
  intro w0 aa ww S
  unfold L27 at H
  refine W.seq ?_
  replace S := S.sub [(0, Value.int .u64 a0), (1, Value.int .u64 b1)] ⟨rfl, rfl, trivial⟩
  refine W.region ?_
  refine OL.pure S (Lf.run_assign (S.ev rfl)) rfl rfl trivial ?_
  clear S; intro aa S
  refine OL.nil ?_
  refine W.seq ?_
  replace S := S.sub [(0, Value.int .u64 a0), (1, Value.int .u64 b1)] ⟨rfl, rfl, trivial⟩
  refine W.region ?_
  refine OL.pure S (Lf.run_move (S.ev rfl)) rfl rfl trivial ?_
  clear S; intro aa S
  refine OL.pure S (Lf.run_fromB isext43 (evs_map S rfl)) rfl rfl trivial ?_
  clear S; intro aa S
  refine OL.pure S (Lf.run_move (S.ev rfl)) rfl rfl trivial ?_
  clear S; intro aa S
  refine OL.pure S (Lf.run_fromB isext43 (evs_map S rfl)) rfl rfl trivial ?_
  clear S; intro aa S
  refine ol_flA S H (by simp) rfl rfl rfl trivial ?_
  clear S H aa; intro r9 aa ww H S
  refine ol_cal S H isfn50 rfl rfl trivial ?_
  clear S H aa; intro u aa ww h1 H S
  obtain ⟨x10, rfl, H⟩ := H
  refine OL.pure S (Lf.run_assign (S.ev rfl)) rfl rfl trivial ?_
  clear S; intro aa S
  refine OL.nil ?_
  refine W.ret ?_
  exact Ret.one S rfl rfl H

end Go.Proofs.Ytfafhadklhnemaa

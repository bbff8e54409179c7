/- Lifted by program off the elaborated code: each Go function, read as a proposition over typed variables and the heap. -/
import Derived.Test.YtomafdhiflbgcaaG0
import Derived.Test.YtomafdhiflbgcaaLiftY
namespace Go.Proofs.Ytomafdhiflbgcaa
open Go Go.Lf
set_option linter.unusedVariables false
set_option maxRecDepth 100000

/-- chattel chattellaw08.VaryThrough -/
def L3 (a0 : Int) (b1 : Int) (c2 : Int) (h : Heap) (R : Value → Heap → Prop) : Prop :=
  cal Try.prog 6 #[] h fun u h1 => asB u fun x19 =>
  ∃ J : Bool → Heap → Prop, (andj x19 (fun k =>
    cal Try.prog 7 #[Value.int .i64 (IntKind.i64.wrap (((IntKind.u64.wrap a0) : Int).tmod 4)), Value.int .i64 (IntKind.i64.wrap (((IntKind.u64.wrap b1) : Int).tmod 4))] h1 fun u_1 h3 => asI .i64 u_1 fun x23 =>
    cal Try.prog 8 #[Value.int .i64 (IntKind.i64.wrap (((IntKind.u64.wrap a0) : Int).tmod 4)), Value.int .i64 (IntKind.i64.wrap (((IntKind.u64.wrap b1) : Int).tmod 4))] h3 fun u_2 h4 => asI .i64 u_2 fun x26 =>
    k (x23 == x26) h4) h1 J) ∧ ∀ x28 h2, J x28 h2 →
  ∃ J_1 : Bool → Heap → Prop, (andj x28 (fun k_1 =>
    cal Try.prog 7 #[Value.int .i64 (IntKind.i64.wrap (((IntKind.u64.wrap a0) : Int).tmod 4)), Value.int .i64 (IntKind.i64.wrap (((IntKind.u64.wrap b1) : Int).tmod 4))] h2 fun u_3 h6 => asI .i64 u_3 fun x32 =>
    cal Try.prog 7 #[Value.int .i64 (IntKind.i64.wrap (((IntKind.u64.wrap b1) : Int).tmod 4)), Value.int .i64 (IntKind.i64.wrap (((IntKind.u64.wrap a0) : Int).tmod 4))] h6 fun u_4 h7 => asI .i64 u_4 fun x35 =>
    k_1 (x32 == x35) h7) h2 J_1) ∧ ∀ x37 h5, J_1 x37 h5 →
  ∃ J_2 : Bool → Heap → Prop, (andj x37 (fun k_2 =>
    cal Try.prog 7 #[Value.int .i64 (IntKind.i64.wrap (((IntKind.u64.wrap a0) : Int).tmod 4)), Value.int .i64 (IntKind.i64.wrap (((IntKind.u64.wrap b1) : Int).tmod 4))] h5 fun u_5 h9 => asI .i64 u_5 fun x41 =>
    cal Try.prog 7 #[Value.int .i64 x41, Value.int .i64 (IntKind.i64.wrap (((IntKind.u64.wrap c2) : Int).tmod 4))] h9 fun u_6 h10 => asI .i64 u_6 fun x43 =>
    cal Try.prog 7 #[Value.int .i64 (IntKind.i64.wrap (((IntKind.u64.wrap b1) : Int).tmod 4)), Value.int .i64 (IntKind.i64.wrap (((IntKind.u64.wrap c2) : Int).tmod 4))] h10 fun u_7 h11 => asI .i64 u_7 fun x47 =>
    cal Try.prog 7 #[Value.int .i64 (IntKind.i64.wrap (((IntKind.u64.wrap a0) : Int).tmod 4)), Value.int .i64 x47] h11 fun u_8 h12 => asI .i64 u_8 fun x48 =>
    k_2 (x43 == x48) h12) h5 J_2) ∧ ∀ x50 h8, J_2 x50 h8 →
  ∃ J_3 : Bool → Heap → Prop, (andj x50 (fun k_3 =>
    cal Try.prog 7 #[Value.int .i64 1, Value.int .i64 (IntKind.i64.wrap (((IntKind.u64.wrap a0) : Int).tmod 4))] h8 fun u_9 h14 => asI .i64 u_9 fun x53 =>
    k_3 (x53 == (IntKind.i64.wrap (((IntKind.u64.wrap a0) : Int).tmod 4))) h14) h8 J_3) ∧ ∀ x56 h13, J_3 x56 h13 →
  R (Value.bool x56) h13

set_option maxRecDepth 100000 in

theorem F3 {a0 b1 c2 h : _} {R : Value → Heap → Prop} (H : L3 a0 b1 c2 h R) : CallsH Try.prog 3 #[Value.int .i64 a0, Value.int .i64 b1, Value.int .i64 c2] h R := by
  refine CallsH.enter (n := 57) Try.func3 rfl rfl rfl rfl ?_
  intro w0 aa ww S
  unfold L3 at H
  refine W.seq ?_
  replace S := S.sub [(0, Value.int .i64 a0), (1, Value.int .i64 b1), (2, Value.int .i64 c2)] ⟨rfl, rfl, rfl, trivial⟩
  refine W.region ?_
  refine OL.pure S (Lf.run_assign (S.ev rfl)) rfl rfl trivial ?_
  clear S; intro aa S
  refine OL.nil ?_
  refine W.seq ?_
  replace S := S.sub [(0, Value.int .i64 a0), (1, Value.int .i64 b1), (2, Value.int .i64 c2)] ⟨rfl, rfl, rfl, trivial⟩
  refine W.region ?_
  refine OL.pure S (Lf.run_move (S.ev rfl)) rfl rfl trivial ?_
  clear S; intro aa S
  refine OL.pure S (Lf.run_cvi Try.underlying3 Try.underlying22 (S.ev rfl)) rfl rfl trivial ?_
  clear S; intro aa S
  refine OL.pure S (Lf.run_rem (S.ev rfl) (S.ev rfl) (by decide)) rfl rfl trivial ?_
  clear S; intro aa S
  refine OL.pure S (Lf.run_cvi Try.underlying22 Try.underlying3 (S.ev rfl)) rfl rfl trivial ?_
  clear S; intro aa S
  refine OL.pure S (Lf.run_move (S.ev rfl)) rfl rfl trivial ?_
  clear S; intro aa S
  refine OL.pure S (Lf.run_cvi Try.underlying3 Try.underlying22 (S.ev rfl)) rfl rfl trivial ?_
  clear S; intro aa S
  refine OL.pure S (Lf.run_rem (S.ev rfl) (S.ev rfl) (by decide)) rfl rfl trivial ?_
  clear S; intro aa S
  refine OL.pure S (Lf.run_cvi Try.underlying22 Try.underlying3 (S.ev rfl)) rfl rfl trivial ?_
  clear S; intro aa S
  refine OL.pure S (Lf.run_move (S.ev rfl)) rfl rfl trivial ?_
  clear S; intro aa S
  refine OL.pure S (Lf.run_cvi Try.underlying3 Try.underlying22 (S.ev rfl)) rfl rfl trivial ?_
  clear S; intro aa S
  refine OL.pure S (Lf.run_rem (S.ev rfl) (S.ev rfl) (by decide)) rfl rfl trivial ?_
  clear S; intro aa S
  refine OL.pure S (Lf.run_cvi Try.underlying22 Try.underlying3 (S.ev rfl)) rfl rfl trivial ?_
  clear S; intro aa S
  refine OL.pure S (Lf.run_assign (S.ev rfl)) rfl rfl trivial ?_
  clear S; intro aa S
  refine OL.pure S (Lf.run_assign (S.ev rfl)) rfl rfl trivial ?_
  clear S; intro aa S
  refine OL.pure S (Lf.run_assign (S.ev rfl)) rfl rfl trivial ?_
  clear S; intro aa S
  refine OL.nil ?_
  refine W.seq ?_
  replace S := S.sub [(0, Value.int .i64 (IntKind.i64.wrap (((IntKind.u64.wrap a0) : Int).tmod 4))), (1, Value.int .i64 (IntKind.i64.wrap (((IntKind.u64.wrap b1) : Int).tmod 4))), (2, Value.int .i64 (IntKind.i64.wrap (((IntKind.u64.wrap c2) : Int).tmod 4)))] ⟨rfl, rfl, rfl, trivial⟩
  refine W.region ?_
  refine ol_cal S H isfn6 rfl rfl trivial ?_
  clear S H aa; intro u aa ww h1 H S
  obtain ⟨x19, rfl, H⟩ := H
  refine OL.pure S (Lf.run_move (S.ev rfl)) rfl rfl trivial ?_
  clear S; intro aa S
  obtain ⟨J, H, HK⟩ := H
  refine OL.cutN 8 (fun aa ww => ∃ x28 h2, St 57 ((28, Value.bool x28) :: [(0, Value.int .i64 (IntKind.i64.wrap (((IntKind.u64.wrap a0) : Int).tmod 4))), (1, Value.int .i64 (IntKind.i64.wrap (((IntKind.u64.wrap b1) : Int).tmod 4))), (2, Value.int .i64 (IntKind.i64.wrap (((IntKind.u64.wrap c2) : Int).tmod 4))), (19, Value.bool x19), (20, Value.bool x19)]) h2 w0 aa ww ∧ J x28 h2) ?_ ?_
  · rcases Bool.eq_false_or_eq_true x19 with hb | hb
    · replace H := H.1 hb
      refine OL.pure S (Lf.run_move (S.ev rfl)) rfl rfl (GOk.mk rfl rfl hb) ?_
      clear S; intro aa S
      refine OL.pure S (Lf.run_move (S.ev rfl)) rfl rfl (GOk.mk rfl rfl hb) ?_
      clear S; intro aa S
      refine ol_cal S H isfn7 rfl rfl (GOk.mk rfl rfl hb) ?_
      clear S H aa; intro u_1 aa ww h3 H S
      obtain ⟨x23, rfl, H⟩ := H
      refine OL.pure S (Lf.run_move (S.ev rfl)) rfl rfl (GOk.mk rfl rfl hb) ?_
      clear S; intro aa S
      refine OL.pure S (Lf.run_move (S.ev rfl)) rfl rfl (GOk.mk rfl rfl hb) ?_
      clear S; intro aa S
      refine ol_cal S H isfn8 rfl rfl (GOk.mk rfl rfl hb) ?_
      clear S H aa; intro u_2 aa ww h4 H S
      obtain ⟨x26, rfl, H⟩ := H
      refine OL.pure S (Lf.run_eql (S.ev rfl) (S.ev rfl)) rfl rfl (GOk.mk rfl rfl hb) ?_
      clear S; intro aa S
      refine OL.pure S (Lf.run_pickT (S.ev rfl) hb (S.ev rfl)) rfl rfl trivial ?_
      clear S; intro aa S
      refine OL.nil ?_
      exact ⟨_, _, S.sub _ ⟨rfl, rfl, rfl, rfl, rfl, rfl, trivial⟩, H⟩
    · replace H := H.2 hb
      refine OL.not S rfl rfl (GNo.mk rfl rfl hb) ?_
      clear S; intro aa S
      refine OL.not S rfl rfl (GNo.mk rfl rfl hb) ?_
      clear S; intro aa S
      refine OL.not S rfl rfl (GNo.mk rfl rfl hb) ?_
      clear S; intro aa S
      refine OL.not S rfl rfl (GNo.mk rfl rfl hb) ?_
      clear S; intro aa S
      refine OL.not S rfl rfl (GNo.mk rfl rfl hb) ?_
      clear S; intro aa S
      refine OL.not S rfl rfl (GNo.mk rfl rfl hb) ?_
      clear S; intro aa S
      refine OL.not S rfl rfl (GNo.mk rfl rfl hb) ?_
      clear S; intro aa S
      refine OL.pure S (Lf.run_pickF (S.ev rfl) hb (S.ev rfl)) rfl rfl trivial ?_
      clear S; intro aa S
      refine OL.nil ?_
      exact ⟨_, _, S.sub _ ⟨rfl, rfl, rfl, rfl, rfl, rfl, trivial⟩, H⟩
  · clear S aa
    rintro aa ww ⟨x28, h2, S, HJ⟩
    replace H := HK _ _ HJ
    clear HK HJ
    refine OL.pure S (Lf.run_move (S.ev rfl)) rfl rfl trivial ?_
    clear S; intro aa S
    obtain ⟨J_1, H, HK_1⟩ := H
    refine OL.cutN 8 (fun aa ww => ∃ x37 h5, St 57 ((37, Value.bool x37) :: [(0, Value.int .i64 (IntKind.i64.wrap (((IntKind.u64.wrap a0) : Int).tmod 4))), (1, Value.int .i64 (IntKind.i64.wrap (((IntKind.u64.wrap b1) : Int).tmod 4))), (2, Value.int .i64 (IntKind.i64.wrap (((IntKind.u64.wrap c2) : Int).tmod 4))), (19, Value.bool x19), (20, Value.bool x19), (28, Value.bool x28), (29, Value.bool x28)]) h5 w0 aa ww ∧ J_1 x37 h5) ?_ ?_
    · rcases Bool.eq_false_or_eq_true x28 with hb_1 | hb_1
      · replace H := H.1 hb_1
        refine OL.pure S (Lf.run_move (S.ev rfl)) rfl rfl (GOk.mk rfl rfl hb_1) ?_
        clear S; intro aa S
        refine OL.pure S (Lf.run_move (S.ev rfl)) rfl rfl (GOk.mk rfl rfl hb_1) ?_
        clear S; intro aa S
        refine ol_cal S H isfn7 rfl rfl (GOk.mk rfl rfl hb_1) ?_
        clear S H aa; intro u_3 aa ww h6 H S
        obtain ⟨x32, rfl, H⟩ := H
        refine OL.pure S (Lf.run_move (S.ev rfl)) rfl rfl (GOk.mk rfl rfl hb_1) ?_
        clear S; intro aa S
        refine OL.pure S (Lf.run_move (S.ev rfl)) rfl rfl (GOk.mk rfl rfl hb_1) ?_
        clear S; intro aa S
        refine ol_cal S H isfn7 rfl rfl (GOk.mk rfl rfl hb_1) ?_
        clear S H aa; intro u_4 aa ww h7 H S
        obtain ⟨x35, rfl, H⟩ := H
        refine OL.pure S (Lf.run_eql (S.ev rfl) (S.ev rfl)) rfl rfl (GOk.mk rfl rfl hb_1) ?_
        clear S; intro aa S
        refine OL.pure S (Lf.run_pickT (S.ev rfl) hb_1 (S.ev rfl)) rfl rfl trivial ?_
        clear S; intro aa S
        refine OL.nil ?_
        exact ⟨_, _, S.sub _ ⟨rfl, rfl, rfl, rfl, rfl, rfl, rfl, rfl, trivial⟩, H⟩
      · replace H := H.2 hb_1
        refine OL.not S rfl rfl (GNo.mk rfl rfl hb_1) ?_
        clear S; intro aa S
        refine OL.not S rfl rfl (GNo.mk rfl rfl hb_1) ?_
        clear S; intro aa S
        refine OL.not S rfl rfl (GNo.mk rfl rfl hb_1) ?_
        clear S; intro aa S
        refine OL.not S rfl rfl (GNo.mk rfl rfl hb_1) ?_
        clear S; intro aa S
        refine OL.not S rfl rfl (GNo.mk rfl rfl hb_1) ?_
        clear S; intro aa S
        refine OL.not S rfl rfl (GNo.mk rfl rfl hb_1) ?_
        clear S; intro aa S
        refine OL.not S rfl rfl (GNo.mk rfl rfl hb_1) ?_
        clear S; intro aa S
        refine OL.pure S (Lf.run_pickF (S.ev rfl) hb_1 (S.ev rfl)) rfl rfl trivial ?_
        clear S; intro aa S
        refine OL.nil ?_
        exact ⟨_, _, S.sub _ ⟨rfl, rfl, rfl, rfl, rfl, rfl, rfl, rfl, trivial⟩, H⟩
    · clear S aa
      rintro aa ww ⟨x37, h5, S, HJ⟩
      replace H := HK_1 _ _ HJ
      clear HK_1 HJ
      refine OL.pure S (Lf.run_move (S.ev rfl)) rfl rfl trivial ?_
      clear S; intro aa S
      obtain ⟨J_2, H, HK_2⟩ := H
      refine OL.cutN 12 (fun aa ww => ∃ x50 h8, St 57 ((50, Value.bool x50) :: [(0, Value.int .i64 (IntKind.i64.wrap (((IntKind.u64.wrap a0) : Int).tmod 4))), (1, Value.int .i64 (IntKind.i64.wrap (((IntKind.u64.wrap b1) : Int).tmod 4))), (2, Value.int .i64 (IntKind.i64.wrap (((IntKind.u64.wrap c2) : Int).tmod 4))), (19, Value.bool x19), (20, Value.bool x19), (28, Value.bool x28), (29, Value.bool x28), (37, Value.bool x37), (38, Value.bool x37)]) h8 w0 aa ww ∧ J_2 x50 h8) ?_ ?_
      · rcases Bool.eq_false_or_eq_true x37 with hb_2 | hb_2
        · replace H := H.1 hb_2
          refine OL.pure S (Lf.run_move (S.ev rfl)) rfl rfl (GOk.mk rfl rfl hb_2) ?_
          clear S; intro aa S
          refine OL.pure S (Lf.run_move (S.ev rfl)) rfl rfl (GOk.mk rfl rfl hb_2) ?_
          clear S; intro aa S
          refine ol_cal S H isfn7 rfl rfl (GOk.mk rfl rfl hb_2) ?_
          clear S H aa; intro u_5 aa ww h9 H S
          obtain ⟨x41, rfl, H⟩ := H
          refine OL.pure S (Lf.run_move (S.ev rfl)) rfl rfl (GOk.mk rfl rfl hb_2) ?_
          clear S; intro aa S
          refine ol_cal S H isfn7 rfl rfl (GOk.mk rfl rfl hb_2) ?_
          clear S H aa; intro u_6 aa ww h10 H S
          obtain ⟨x43, rfl, H⟩ := H
          refine OL.pure S (Lf.run_move (S.ev rfl)) rfl rfl (GOk.mk rfl rfl hb_2) ?_
          clear S; intro aa S
          refine OL.pure S (Lf.run_move (S.ev rfl)) rfl rfl (GOk.mk rfl rfl hb_2) ?_
          clear S; intro aa S
          refine OL.pure S (Lf.run_move (S.ev rfl)) rfl rfl (GOk.mk rfl rfl hb_2) ?_
          clear S; intro aa S
          refine ol_cal S H isfn7 rfl rfl (GOk.mk rfl rfl hb_2) ?_
          clear S H aa; intro u_7 aa ww h11 H S
          obtain ⟨x47, rfl, H⟩ := H
          refine ol_cal S H isfn7 rfl rfl (GOk.mk rfl rfl hb_2) ?_
          clear S H aa; intro u_8 aa ww h12 H S
          obtain ⟨x48, rfl, H⟩ := H
          refine OL.pure S (Lf.run_eql (S.ev rfl) (S.ev rfl)) rfl rfl (GOk.mk rfl rfl hb_2) ?_
          clear S; intro aa S
          refine OL.pure S (Lf.run_pickT (S.ev rfl) hb_2 (S.ev rfl)) rfl rfl trivial ?_
          clear S; intro aa S
          refine OL.nil ?_
          exact ⟨_, _, S.sub _ ⟨rfl, rfl, rfl, rfl, rfl, rfl, rfl, rfl, rfl, rfl, trivial⟩, H⟩
        · replace H := H.2 hb_2
          refine OL.not S rfl rfl (GNo.mk rfl rfl hb_2) ?_
          clear S; intro aa S
          refine OL.not S rfl rfl (GNo.mk rfl rfl hb_2) ?_
          clear S; intro aa S
          refine OL.not S rfl rfl (GNo.mk rfl rfl hb_2) ?_
          clear S; intro aa S
          refine OL.not S rfl rfl (GNo.mk rfl rfl hb_2) ?_
          clear S; intro aa S
          refine OL.not S rfl rfl (GNo.mk rfl rfl hb_2) ?_
          clear S; intro aa S
          refine OL.not S rfl rfl (GNo.mk rfl rfl hb_2) ?_
          clear S; intro aa S
          refine OL.not S rfl rfl (GNo.mk rfl rfl hb_2) ?_
          clear S; intro aa S
          refine OL.not S rfl rfl (GNo.mk rfl rfl hb_2) ?_
          clear S; intro aa S
          refine OL.not S rfl rfl (GNo.mk rfl rfl hb_2) ?_
          clear S; intro aa S
          refine OL.not S rfl rfl (GNo.mk rfl rfl hb_2) ?_
          clear S; intro aa S
          refine OL.not S rfl rfl (GNo.mk rfl rfl hb_2) ?_
          clear S; intro aa S
          refine OL.pure S (Lf.run_pickF (S.ev rfl) hb_2 (S.ev rfl)) rfl rfl trivial ?_
          clear S; intro aa S
          refine OL.nil ?_
          exact ⟨_, _, S.sub _ ⟨rfl, rfl, rfl, rfl, rfl, rfl, rfl, rfl, rfl, rfl, trivial⟩, H⟩
      · clear S aa
        rintro aa ww ⟨x50, h8, S, HJ⟩
        replace H := HK_2 _ _ HJ
        clear HK_2 HJ
        refine OL.pure S (Lf.run_move (S.ev rfl)) rfl rfl trivial ?_
        clear S; intro aa S
        obtain ⟨J_3, H, HK_3⟩ := H
        refine OL.cutN 5 (fun aa ww => ∃ x56 h13, St 57 ((56, Value.bool x56) :: [(0, Value.int .i64 (IntKind.i64.wrap (((IntKind.u64.wrap a0) : Int).tmod 4))), (1, Value.int .i64 (IntKind.i64.wrap (((IntKind.u64.wrap b1) : Int).tmod 4))), (2, Value.int .i64 (IntKind.i64.wrap (((IntKind.u64.wrap c2) : Int).tmod 4))), (19, Value.bool x19), (20, Value.bool x19), (28, Value.bool x28), (29, Value.bool x28), (37, Value.bool x37), (38, Value.bool x37), (50, Value.bool x50), (51, Value.bool x50)]) h13 w0 aa ww ∧ J_3 x56 h13) ?_ ?_
        · rcases Bool.eq_false_or_eq_true x50 with hb_3 | hb_3
          · replace H := H.1 hb_3
            refine OL.pure S (Lf.run_move (S.ev rfl)) rfl rfl (GOk.mk rfl rfl hb_3) ?_
            clear S; intro aa S
            refine ol_cal S H isfn7 rfl rfl (GOk.mk rfl rfl hb_3) ?_
            clear S H aa; intro u_9 aa ww h14 H S
            obtain ⟨x53, rfl, H⟩ := H
            refine OL.pure S (Lf.run_move (S.ev rfl)) rfl rfl (GOk.mk rfl rfl hb_3) ?_
            clear S; intro aa S
            refine OL.pure S (Lf.run_eql (S.ev rfl) (S.ev rfl)) rfl rfl (GOk.mk rfl rfl hb_3) ?_
            clear S; intro aa S
            refine OL.pure S (Lf.run_pickT (S.ev rfl) hb_3 (S.ev rfl)) rfl rfl trivial ?_
            clear S; intro aa S
            refine OL.nil ?_
            exact ⟨_, _, S.sub _ ⟨rfl, rfl, rfl, rfl, rfl, rfl, rfl, rfl, rfl, rfl, rfl, rfl, trivial⟩, H⟩
          · replace H := H.2 hb_3
            refine OL.not S rfl rfl (GNo.mk rfl rfl hb_3) ?_
            clear S; intro aa S
            refine OL.not S rfl rfl (GNo.mk rfl rfl hb_3) ?_
            clear S; intro aa S
            refine OL.not S rfl rfl (GNo.mk rfl rfl hb_3) ?_
            clear S; intro aa S
            refine OL.not S rfl rfl (GNo.mk rfl rfl hb_3) ?_
            clear S; intro aa S
            refine OL.pure S (Lf.run_pickF (S.ev rfl) hb_3 (S.ev rfl)) rfl rfl trivial ?_
            clear S; intro aa S
            refine OL.nil ?_
            exact ⟨_, _, S.sub _ ⟨rfl, rfl, rfl, rfl, rfl, rfl, rfl, rfl, rfl, rfl, rfl, rfl, trivial⟩, H⟩
        · clear S aa
          rintro aa ww ⟨x56, h13, S, HJ⟩
          replace H := HK_3 _ _ HJ
          clear HK_3 HJ
          refine OL.pure S (Lf.run_assign (S.ev rfl)) rfl rfl trivial ?_
          clear S; intro aa S
          refine OL.nil ?_
          refine W.ret ?_
          exact Ret.one S rfl rfl H

/-- chattel chattellaw08.VaryOf -/
def L4 (l0 : Sv) (slot1 : Int) (other2 : ByteArray) (h : Heap) (R : Value → Heap → Prop) : Prop :=
  cal Try.prog 6 #[] h fun u h1 => asB u fun x9 =>
  ifb (((!x9) || (decide (40 < ((l0.n : Nat) : Int)))) || (decide (60 < ((other2.size : Nat) : Int)))) (
    cal Try.prog 6 #[] h1 fun u_1 h2 => asB u_1 fun x21 =>
    R (Value.bool x21) h2) (
    newM h1 fun m22 h3 =>
    insS h3 (Value.map (some m22)) (⟨#[83]⟩ : ByteArray) (Value.slice l0.a l0.n l0.c) fun h4 =>
    ∃ J : Int → Prop, (
      ifb ((decide (0 ≤ slot1)) && (decide (slot1 < ((l0.n : Nat) : Int)))) (
        ixS l0 slot1 fun q35 =>
        ldI .i64 h4 (q35.add ((slot1 : Int).toNat * 1)) fun x36 =>
        J x36) (
        J 3)) ∧ (∀ want8, J want8 →
    cal Try.prog 9 #[Value.map (some m22), Value.string (⟨#[83]⟩ : ByteArray), Value.int .i64 slot1] h4 fun u_2 h5 => asI .i64 u_2 fun x39 =>
    ∃ J_1 : Bool → Heap → Prop, (andj (x39 == want8) (fun k =>
      ∃ J_2 : Bool → Heap → Prop, (orj (other2.toList == (⟨#[83]⟩ : ByteArray).toList) (fun k_1 =>
        cal Try.prog 9 #[Value.map (some m22), Value.string other2, Value.int .i64 slot1] h5 fun u_3 h8 => asI .i64 u_3 fun x49 =>
        k_1 (x49 == 3) h8) h5 J_2) ∧ ∀ x51 h7, J_2 x51 h7 →
      k x51 h7) h5 J_1) ∧ ∀ x52 h6, J_1 x52 h6 →
    ∃ J_3 : Bool → Heap → Prop, (andj x52 (fun k_2 =>
      cal Try.prog 9 #[Value.map none, Value.string other2, Value.int .i64 0] h6 fun u_4 h10 => asI .i64 u_4 fun x55 =>
      k_2 (x55 == 3) h10) h6 J_3) ∧ ∀ x57 h9, J_3 x57 h9 →
    R (Value.bool x57) h9))

set_option maxRecDepth 100000 in

theorem F4 {l0 slot1 other2 h : _} {R : Value → Heap → Prop} (H : L4 l0 slot1 other2 h R) : CallsH Try.prog 4 #[Value.slice l0.a l0.n l0.c, Value.int .i64 slot1, Value.string other2] h R := by
  refine CallsH.enter (n := 58) Try.func4 rfl rfl rfl rfl ?_
  intro w0 aa ww S
  unfold L4 at H
  refine W.seq ?_
  replace S := S.sub [(0, Value.slice l0.a l0.n l0.c), (1, Value.int .i64 slot1), (2, Value.string other2)] ⟨rfl, rfl, rfl, trivial⟩
  refine W.region ?_
  refine OL.pure S (Lf.run_assign (S.ev rfl)) rfl rfl trivial ?_
  clear S; intro aa S
  refine OL.nil ?_
  refine W.seq ?_
  refine W.seq ?_
  replace S := S.sub [(0, Value.slice l0.a l0.n l0.c), (1, Value.int .i64 slot1), (2, Value.string other2)] ⟨rfl, rfl, rfl, trivial⟩
  refine W.region ?_
  refine ol_cal S H isfn6 rfl rfl trivial ?_
  clear S H aa; intro u aa ww h1 H S
  obtain ⟨x9, rfl, H⟩ := H
  refine OL.pure S (Lf.run_not (S.ev rfl)) rfl rfl trivial ?_
  clear S; intro aa S
  refine OL.pure S (Lf.run_move (S.ev rfl)) rfl rfl trivial ?_
  clear S; intro aa S
  refine OL.cutN 4 (fun aa ww => St 58 ((15, Value.bool ((!x9) || (decide (40 < ((l0.n : Nat) : Int))))) :: [(0, Value.slice l0.a l0.n l0.c), (1, Value.int .i64 slot1), (2, Value.string other2), (9, Value.bool x9), (10, Value.bool (!x9)), (11, Value.bool (!x9))]) h1 w0 aa ww) ?_ ?_
  · rcases Bool.eq_false_or_eq_true (!x9) with hb | hb
    · refine OL.not S rfl rfl (GNo.mk rfl rfl hb) ?_
      clear S; intro aa S
      refine OL.not S rfl rfl (GNo.mk rfl rfl hb) ?_
      clear S; intro aa S
      refine OL.not S rfl rfl (GNo.mk rfl rfl hb) ?_
      clear S; intro aa S
      refine OL.pure S (Lf.run_pickT (S.ev rfl) hb (S.ev rfl)) rfl rfl trivial ?_
      clear S; intro aa S
      refine OL.nil ?_
      exact (S.hd (by rw [hb, Bool.true_or])).sub _ ⟨rfl, rfl, rfl, rfl, rfl, rfl, rfl, trivial⟩
    · refine OL.pure S (Lf.run_move (S.ev rfl)) rfl rfl (GOk.mk rfl rfl hb) ?_
      clear S; intro aa S
      refine OL.pure S (Lf.run_lens (S.ev rfl) rfl Try.underlying26) rfl rfl (GOk.mk rfl rfl hb) ?_
      clear S; intro aa S
      refine OL.pure S (Lf.run_gtr (S.ev rfl) (S.ev rfl)) rfl rfl (GOk.mk rfl rfl hb) ?_
      clear S; intro aa S
      refine OL.pure S (Lf.run_pickF (S.ev rfl) hb (S.ev rfl)) rfl rfl trivial ?_
      clear S; intro aa S
      refine OL.nil ?_
      exact (S.hd (by rw [hb, Bool.false_or])).sub _ ⟨rfl, rfl, rfl, rfl, rfl, rfl, rfl, trivial⟩
  · clear S aa
    intro aa ww S
    refine OL.pure S (Lf.run_move (S.ev rfl)) rfl rfl trivial ?_
    clear S; intro aa S
    refine OL.cutN 4 (fun aa ww => St 58 ((20, Value.bool (((!x9) || (decide (40 < ((l0.n : Nat) : Int)))) || (decide (60 < ((other2.size : Nat) : Int))))) :: [(0, Value.slice l0.a l0.n l0.c), (1, Value.int .i64 slot1), (2, Value.string other2), (9, Value.bool x9), (10, Value.bool (!x9)), (11, Value.bool (!x9)), (15, Value.bool ((!x9) || (decide (40 < ((l0.n : Nat) : Int))))), (16, Value.bool ((!x9) || (decide (40 < ((l0.n : Nat) : Int)))))]) h1 w0 aa ww) ?_ ?_
    · rcases Bool.eq_false_or_eq_true ((!x9) || (decide (40 < ((l0.n : Nat) : Int)))) with hb_1 | hb_1
      · refine OL.not S rfl rfl (GNo.mk rfl rfl hb_1) ?_
        clear S; intro aa S
        refine OL.not S rfl rfl (GNo.mk rfl rfl hb_1) ?_
        clear S; intro aa S
        refine OL.not S rfl rfl (GNo.mk rfl rfl hb_1) ?_
        clear S; intro aa S
        refine OL.pure S (Lf.run_pickT (S.ev rfl) hb_1 (S.ev rfl)) rfl rfl trivial ?_
        clear S; intro aa S
        refine OL.nil ?_
        exact (S.hd (by rw [hb_1, Bool.true_or])).sub _ ⟨rfl, rfl, rfl, rfl, rfl, rfl, rfl, rfl, rfl, trivial⟩
      · refine OL.pure S (Lf.run_move (S.ev rfl)) rfl rfl (GOk.mk rfl rfl hb_1) ?_
        clear S; intro aa S
        refine OL.pure S (Lf.run_lent (S.ev rfl) rfl Try.underlying9) rfl rfl (GOk.mk rfl rfl hb_1) ?_
        clear S; intro aa S
        refine OL.pure S (Lf.run_gtr (S.ev rfl) (S.ev rfl)) rfl rfl (GOk.mk rfl rfl hb_1) ?_
        clear S; intro aa S
        refine OL.pure S (Lf.run_pickF (S.ev rfl) hb_1 (S.ev rfl)) rfl rfl trivial ?_
        clear S; intro aa S
        refine OL.nil ?_
        exact (S.hd (by rw [hb_1, Bool.false_or])).sub _ ⟨rfl, rfl, rfl, rfl, rfl, rfl, rfl, rfl, rfl, trivial⟩
    · clear S aa
      intro aa ww S
      refine OL.nil ?_
      refine W.cond S (b := (((!x9) || (decide (40 < ((l0.n : Nat) : Int)))) || (decide (60 < ((other2.size : Nat) : Int))))) rfl (fun hb_2 => ?_) (fun hb_2 => ?_)
      · replace H := H.1 hb_2
        refine W.seq ?_
        replace S := S.sub [] trivial
        refine W.region ?_
        refine ol_cal S H isfn6 rfl rfl trivial ?_
        clear S H aa; intro u_1 aa ww h2 H S
        obtain ⟨x21, rfl, H⟩ := H
        refine OL.pure S (Lf.run_assign (S.ev rfl)) rfl rfl trivial ?_
        clear S; intro aa S
        refine OL.nil ?_
        refine W.ret ?_
        exact Ret.one S rfl rfl H
      · replace H := H.2 hb_2
        refine W.skip ?_
        refine W.seq ?_
        replace S := S.sub [(0, Value.slice l0.a l0.n l0.c), (1, Value.int .i64 slot1), (2, Value.string other2)] ⟨rfl, rfl, rfl, trivial⟩
        refine W.region ?_
        refine ol_newM S H rfl trivial ?_
        clear S H aa; intro m22 aa ww h3 H S
        refine OL.pure S (Lf.run_move (S.ev rfl)) rfl rfl trivial ?_
        clear S; intro aa S
        refine ol_insS S H Try.underlying28 Try.underlying9 rfl rfl rfl trivial ?_
        clear S H aa; intro aa ww h4 H S
        refine OL.pure S (Lf.run_move (S.ev rfl)) rfl rfl trivial ?_
        clear S; intro aa S
        refine OL.pure S (Lf.run_assign (S.ev rfl)) rfl rfl trivial ?_
        clear S; intro aa S
        refine OL.nil ?_
        refine W.seq ?_
        replace S := S.sub [(0, Value.slice l0.a l0.n l0.c), (1, Value.int .i64 slot1), (2, Value.string other2), (7, Value.map (some m22))] ⟨rfl, rfl, rfl, rfl, trivial⟩
        refine W.region ?_
        refine OL.pure S (Lf.run_assign (S.ev rfl)) rfl rfl trivial ?_
        clear S; intro aa S
        refine OL.nil ?_
        obtain ⟨J, H, HK⟩ := H
        refine W.seqJ (fun aa ww => ∃ want8, St 58 [(1, Value.int .i64 slot1), (2, Value.string other2), (7, Value.map (some m22)), (8, Value.int .i64 want8)] h4 w0 aa ww ∧ J want8) ?_ ?_
        · clear HK
          refine W.seq ?_
          replace S := S.sub [(0, Value.slice l0.a l0.n l0.c), (1, Value.int .i64 slot1), (2, Value.string other2), (7, Value.map (some m22)), (8, Value.int .i64 3)] ⟨rfl, rfl, rfl, rfl, rfl, trivial⟩
          refine W.region ?_
          refine OL.pure S (Lf.run_move (S.ev rfl)) rfl rfl trivial ?_
          clear S; intro aa S
          refine OL.pure S (Lf.run_geq (S.ev rfl) (S.ev rfl)) rfl rfl trivial ?_
          clear S; intro aa S
          refine OL.pure S (Lf.run_move (S.ev rfl)) rfl rfl trivial ?_
          clear S; intro aa S
          refine OL.cutN 5 (fun aa ww => St 58 ((32, Value.bool ((decide (0 ≤ slot1)) && (decide (slot1 < ((l0.n : Nat) : Int))))) :: [(0, Value.slice l0.a l0.n l0.c), (1, Value.int .i64 slot1), (2, Value.string other2), (7, Value.map (some m22)), (8, Value.int .i64 3), (25, Value.int .i64 slot1), (26, Value.bool (decide (0 ≤ slot1))), (27, Value.bool (decide (0 ≤ slot1)))]) h4 w0 aa ww) ?_ ?_
          · rcases Bool.eq_false_or_eq_true (decide (0 ≤ slot1)) with hb_3 | hb_3
            · refine OL.pure S (Lf.run_move (S.ev rfl)) rfl rfl (GOk.mk rfl rfl hb_3) ?_
              clear S; intro aa S
              refine OL.pure S (Lf.run_move (S.ev rfl)) rfl rfl (GOk.mk rfl rfl hb_3) ?_
              clear S; intro aa S
              refine OL.pure S (Lf.run_lens (S.ev rfl) rfl Try.underlying26) rfl rfl (GOk.mk rfl rfl hb_3) ?_
              clear S; intro aa S
              refine OL.pure S (Lf.run_lss (S.ev rfl) (S.ev rfl)) rfl rfl (GOk.mk rfl rfl hb_3) ?_
              clear S; intro aa S
              refine OL.pure S (Lf.run_pickT (S.ev rfl) hb_3 (S.ev rfl)) rfl rfl trivial ?_
              clear S; intro aa S
              refine OL.nil ?_
              exact (S.hd (by rw [hb_3, Bool.true_and])).sub _ ⟨rfl, rfl, rfl, rfl, rfl, rfl, rfl, rfl, rfl, trivial⟩
            · refine OL.not S rfl rfl (GNo.mk rfl rfl hb_3) ?_
              clear S; intro aa S
              refine OL.not S rfl rfl (GNo.mk rfl rfl hb_3) ?_
              clear S; intro aa S
              refine OL.not S rfl rfl (GNo.mk rfl rfl hb_3) ?_
              clear S; intro aa S
              refine OL.not S rfl rfl (GNo.mk rfl rfl hb_3) ?_
              clear S; intro aa S
              refine OL.pure S (Lf.run_pickF (S.ev rfl) hb_3 (S.ev rfl)) rfl rfl trivial ?_
              clear S; intro aa S
              refine OL.nil ?_
              exact (S.hd (by rw [hb_3, Bool.false_and])).sub _ ⟨rfl, rfl, rfl, rfl, rfl, rfl, rfl, rfl, rfl, trivial⟩
          · clear S aa
            intro aa ww S
            refine OL.nil ?_
            refine W.cond S (b := ((decide (0 ≤ slot1)) && (decide (slot1 < ((l0.n : Nat) : Int))))) rfl (fun hb_4 => ?_) (fun hb_4 => ?_)
            · replace H := H.1 hb_4
              replace S := S.sub [(0, Value.slice l0.a l0.n l0.c), (1, Value.int .i64 slot1), (2, Value.string other2), (7, Value.map (some m22))] ⟨rfl, rfl, rfl, rfl, trivial⟩
              refine W.region ?_
              refine OL.pure S (Lf.run_move (S.ev rfl)) rfl rfl trivial ?_
              clear S; intro aa S
              refine OL.pure S (Lf.run_move (S.ev rfl)) rfl rfl trivial ?_
              clear S; intro aa S
              obtain ⟨q35, e, e_1, e_2, H⟩ := H
              refine OL.pure S (Lf.run_ixs (S.ev rfl) (S.ev rfl) Try.underlying26 ti3 e e_1 e_2) rfl rfl trivial ?_
              clear S; intro aa S
              obtain ⟨x36, c, H⟩ := H
              refine OL.pure S (Lf.run_ld (S.ev rfl) fl3 (S.cl c)) rfl rfl trivial ?_
              clear S; intro aa S
              refine OL.pure S (Lf.run_assign (S.ev rfl)) rfl rfl trivial ?_
              clear S; intro aa S
              refine OL.nil ?_
              exact ⟨x36, S.sub _ ⟨rfl, rfl, rfl, rfl, trivial⟩, H⟩
            · replace H := H.2 hb_4
              refine W.skip ?_
              exact ⟨3, S.sub _ ⟨rfl, rfl, rfl, rfl, trivial⟩, H⟩
        · clear H S aa
          rintro aa ww ⟨want8, S, HJ⟩
          have H := HK _ HJ
          clear HK HJ
          refine W.seq ?_
          replace S := S.sub [(1, Value.int .i64 slot1), (2, Value.string other2), (7, Value.map (some m22)), (8, Value.int .i64 want8)] ⟨rfl, rfl, rfl, rfl, trivial⟩
          refine W.region ?_
          refine OL.pure S (Lf.run_move (S.ev rfl)) rfl rfl trivial ?_
          clear S; intro aa S
          refine OL.pure S (Lf.run_move (S.ev rfl)) rfl rfl trivial ?_
          clear S; intro aa S
          refine ol_cal S H isfn9 rfl rfl trivial ?_
          clear S H aa; intro u_2 aa ww h5 H S
          obtain ⟨x39, rfl, H⟩ := H
          refine OL.pure S (Lf.run_move (S.ev rfl)) rfl rfl trivial ?_
          clear S; intro aa S
          refine OL.pure S (Lf.run_eql (S.ev rfl) (S.ev rfl)) rfl rfl trivial ?_
          clear S; intro aa S
          refine OL.pure S (Lf.run_move (S.ev rfl)) rfl rfl trivial ?_
          clear S; intro aa S
          obtain ⟨J_1, H, HK_1⟩ := H
          refine OL.cutN 10 (fun aa ww => ∃ x52 h6, St 58 ((52, Value.bool x52) :: [(1, Value.int .i64 slot1), (2, Value.string other2), (7, Value.map (some m22)), (8, Value.int .i64 want8), (37, Value.map (some m22)), (38, Value.int .i64 slot1), (39, Value.int .i64 x39), (40, Value.int .i64 want8), (41, Value.bool (x39 == want8)), (42, Value.bool (x39 == want8))]) h6 w0 aa ww ∧ J_1 x52 h6) ?_ ?_
          · rcases Bool.eq_false_or_eq_true (x39 == want8) with hb_5 | hb_5
            · replace H := H.1 hb_5
              refine OL.pure S (Lf.run_move (S.ev rfl)) rfl rfl (GOk.mk rfl rfl hb_5) ?_
              clear S; intro aa S
              refine OL.pure S (Lf.run_eqlt (S.ev rfl) (S.ev rfl)) rfl rfl (GOk.mk rfl rfl hb_5) ?_
              clear S; intro aa S
              refine OL.pure S (Lf.run_move (S.ev rfl)) rfl rfl (GOk.mk rfl rfl hb_5) ?_
              clear S; intro aa S
              obtain ⟨J_2, H, HK_2⟩ := H
              refine OL.cutN 6 (fun aa ww => ∃ x51 h7, St 58 ((51, Value.bool x51) :: [(1, Value.int .i64 slot1), (2, Value.string other2), (7, Value.map (some m22)), (8, Value.int .i64 want8), (37, Value.map (some m22)), (38, Value.int .i64 slot1), (39, Value.int .i64 x39), (40, Value.int .i64 want8), (41, Value.bool (x39 == want8)), (42, Value.bool (x39 == want8)), (43, Value.string other2), (44, Value.bool (other2.toList == (⟨#[83]⟩ : ByteArray).toList)), (45, Value.bool (other2.toList == (⟨#[83]⟩ : ByteArray).toList))]) h7 w0 aa ww ∧ J_2 x51 h7) ?_ ?_
              · rcases Bool.eq_false_or_eq_true (other2.toList == (⟨#[83]⟩ : ByteArray).toList) with hb_6 | hb_6
                · replace H := H.1 hb_6
                  refine OL.not S rfl rfl (GNo.mk rfl rfl hb_6) ?_
                  clear S; intro aa S
                  refine OL.not S rfl rfl (GNo.mk rfl rfl hb_6) ?_
                  clear S; intro aa S
                  refine OL.not S rfl rfl (GNo.mk rfl rfl hb_6) ?_
                  clear S; intro aa S
                  refine OL.not S rfl rfl (GNo.mk rfl rfl hb_6) ?_
                  clear S; intro aa S
                  refine OL.not S rfl rfl (GNo.mk rfl rfl hb_6) ?_
                  clear S; intro aa S
                  refine OL.pure S (Lf.run_pickT (S.ev rfl) hb_6 (S.ev rfl)) rfl rfl (GOk.mk rfl rfl hb_5) ?_
                  clear S; intro aa S
                  refine OL.nil ?_
                  exact ⟨_, _, S.sub _ ⟨rfl, rfl, rfl, rfl, rfl, rfl, rfl, rfl, rfl, rfl, rfl, rfl, rfl, rfl, trivial⟩, H⟩
                · replace H := H.2 hb_6
                  refine OL.pure S (Lf.run_move (S.ev rfl)) rfl rfl (GOk.mk rfl rfl hb_6) ?_
                  clear S; intro aa S
                  refine OL.pure S (Lf.run_move (S.ev rfl)) rfl rfl (GOk.mk rfl rfl hb_6) ?_
                  clear S; intro aa S
                  refine OL.pure S (Lf.run_move (S.ev rfl)) rfl rfl (GOk.mk rfl rfl hb_6) ?_
                  clear S; intro aa S
                  refine ol_cal S H isfn9 rfl rfl (GOk.mk rfl rfl hb_6) ?_
                  clear S H aa; intro u_3 aa ww h8 H S
                  obtain ⟨x49, rfl, H⟩ := H
                  refine OL.pure S (Lf.run_eql (S.ev rfl) (S.ev rfl)) rfl rfl (GOk.mk rfl rfl hb_6) ?_
                  clear S; intro aa S
                  refine OL.pure S (Lf.run_pickF (S.ev rfl) hb_6 (S.ev rfl)) rfl rfl (GOk.mk rfl rfl hb_5) ?_
                  clear S; intro aa S
                  refine OL.nil ?_
                  exact ⟨_, _, S.sub _ ⟨rfl, rfl, rfl, rfl, rfl, rfl, rfl, rfl, rfl, rfl, rfl, rfl, rfl, rfl, trivial⟩, H⟩
              · clear S aa
                rintro aa ww ⟨x51, h7, S, HJ⟩
                replace H := HK_2 _ _ HJ
                clear HK_2 HJ
                refine OL.pure S (Lf.run_pickT (S.ev rfl) hb_5 (S.ev rfl)) rfl rfl trivial ?_
                clear S; intro aa S
                refine OL.nil ?_
                exact ⟨_, _, S.sub _ ⟨rfl, rfl, rfl, rfl, rfl, rfl, rfl, rfl, rfl, rfl, rfl, trivial⟩, H⟩
            · replace H := H.2 hb_5
              refine OL.not S rfl rfl (GNo.mk rfl rfl hb_5) ?_
              clear S; intro aa S
              refine OL.not S rfl rfl (GNo.mk rfl rfl hb_5) ?_
              clear S; intro aa S
              refine OL.not S rfl rfl (GNo.mk rfl rfl hb_5) ?_
              clear S; intro aa S
              refine OL.not S rfl rfl (GNo.un rfl rfl) ?_
              clear S; intro aa S
              refine OL.not S rfl rfl (GNo.un rfl rfl) ?_
              clear S; intro aa S
              refine OL.not S rfl rfl (GNo.un rfl rfl) ?_
              clear S; intro aa S
              refine OL.not S rfl rfl (GNo.un rfl rfl) ?_
              clear S; intro aa S
              refine OL.not S rfl rfl (GNo.un rfl rfl) ?_
              clear S; intro aa S
              refine OL.not S rfl rfl (GNo.mk rfl rfl hb_5) ?_
              clear S; intro aa S
              refine OL.pure S (Lf.run_pickF (S.ev rfl) hb_5 (S.ev rfl)) rfl rfl trivial ?_
              clear S; intro aa S
              refine OL.nil ?_
              exact ⟨_, _, S.sub _ ⟨rfl, rfl, rfl, rfl, rfl, rfl, rfl, rfl, rfl, rfl, rfl, trivial⟩, H⟩
          · clear S aa
            rintro aa ww ⟨x52, h6, S, HJ⟩
            replace H := HK_1 _ _ HJ
            clear HK_1 HJ
            refine OL.pure S (Lf.run_move (S.ev rfl)) rfl rfl trivial ?_
            clear S; intro aa S
            obtain ⟨J_3, H, HK_3⟩ := H
            refine OL.cutN 4 (fun aa ww => ∃ x57 h9, St 58 ((57, Value.bool x57) :: [(1, Value.int .i64 slot1), (2, Value.string other2), (7, Value.map (some m22)), (8, Value.int .i64 want8), (37, Value.map (some m22)), (38, Value.int .i64 slot1), (39, Value.int .i64 x39), (40, Value.int .i64 want8), (41, Value.bool (x39 == want8)), (42, Value.bool (x39 == want8)), (52, Value.bool x52), (53, Value.bool x52)]) h9 w0 aa ww ∧ J_3 x57 h9) ?_ ?_
            · rcases Bool.eq_false_or_eq_true x52 with hb_7 | hb_7
              · replace H := H.1 hb_7
                refine OL.pure S (Lf.run_move (S.ev rfl)) rfl rfl (GOk.mk rfl rfl hb_7) ?_
                clear S; intro aa S
                refine ol_cal S H isfn9 rfl rfl (GOk.mk rfl rfl hb_7) ?_
                clear S H aa; intro u_4 aa ww h10 H S
                obtain ⟨x55, rfl, H⟩ := H
                refine OL.pure S (Lf.run_eql (S.ev rfl) (S.ev rfl)) rfl rfl (GOk.mk rfl rfl hb_7) ?_
                clear S; intro aa S
                refine OL.pure S (Lf.run_pickT (S.ev rfl) hb_7 (S.ev rfl)) rfl rfl trivial ?_
                clear S; intro aa S
                refine OL.nil ?_
                exact ⟨_, _, S.sub _ ⟨rfl, rfl, rfl, rfl, rfl, rfl, rfl, rfl, rfl, rfl, rfl, rfl, rfl, trivial⟩, H⟩
              · replace H := H.2 hb_7
                refine OL.not S rfl rfl (GNo.mk rfl rfl hb_7) ?_
                clear S; intro aa S
                refine OL.not S rfl rfl (GNo.mk rfl rfl hb_7) ?_
                clear S; intro aa S
                refine OL.not S rfl rfl (GNo.mk rfl rfl hb_7) ?_
                clear S; intro aa S
                refine OL.pure S (Lf.run_pickF (S.ev rfl) hb_7 (S.ev rfl)) rfl rfl trivial ?_
                clear S; intro aa S
                refine OL.nil ?_
                exact ⟨_, _, S.sub _ ⟨rfl, rfl, rfl, rfl, rfl, rfl, rfl, rfl, rfl, rfl, rfl, rfl, rfl, trivial⟩, H⟩
            · clear S aa
              rintro aa ww ⟨x57, h9, S, HJ⟩
              replace H := HK_3 _ _ HJ
              clear HK_3 HJ
              refine OL.pure S (Lf.run_assign (S.ev rfl)) rfl rfl trivial ?_
              clear S; intro aa S
              refine OL.nil ?_
              refine W.ret ?_
              exact Ret.one S rfl rfl H

/-- chattel chattellaw08.VaryMore -/
def L5 (l0 : Sv) (x1 : Int) (x1_1 : ByteArray) (x1_2 : Bool) (x1_3 : Int) (x1_4 : Sv) (x1_5 : Sv) (vat2 : Int) (h : Heap) (R : Value → Heap → Prop) : Prop :=
  new 34 #[Value.int .i64 x1, Value.string x1_1, Value.bool x1_2, Value.int .i64 x1_3, Value.slice x1_4.a x1_4.n x1_4.c, Value.slice x1_5.a x1_5.n x1_5.c] h fun p4 h1 =>
  cal Try.prog 6 #[] h1 fun u h2 => asB u fun x14 =>
  ∃ J : Bool → Heap → Prop, (orj (!x14) (fun k =>
    cal Try.prog 10 #[Value.slice l0.a l0.n l0.c] h2 fun u_1 h4 => asB u_1 fun x18 =>
    k (!x18) h4) h2 J) ∧ ∀ x20 h3, J x20 h3 →
  ∃ J_1 : Bool → Heap → Prop, (orj x20 (fun k_1 =>
    ∃ (y22 : Int) (y22_1 : ByteArray) (y22_2 : Bool) (y22_3 : Int) (y22_4 : Sv) (y22_5 : Sv), cl h3 p4 = some (Value.int .i64 y22) ∧ cl h3 (p4.add 1) = some (Value.string y22_1) ∧ cl h3 (p4.add 2) = some (Value.bool y22_2) ∧ cl h3 (p4.add 3) = some (Value.int .i64 y22_3) ∧ cl h3 (p4.add 4) = some (Value.slice y22_4.a y22_4.n y22_4.c) ∧ cl h3 (p4.add 5) = some (Value.slice y22_5.a y22_5.n y22_5.c) ∧
    cal Try.prog 11 #[Value.agg #[Value.int .i64 y22, Value.string y22_1, Value.bool y22_2, Value.int .i64 y22_3, Value.slice y22_4.a y22_4.n y22_4.c, Value.slice y22_5.a y22_5.n y22_5.c], Value.int .i64 6] h3 fun u_2 h6 => asB u_2 fun x23 =>
    k_1 (!x23) h6) h3 J_1) ∧ ∀ x25 h5, J_1 x25 h5 →
  ifb (x25 || (((l0.n : Nat) : Int) == 0)) (
    cal Try.prog 6 #[] h5 fun u_3 h7 => asB u_3 fun x31 =>
    R (Value.bool x31) h7) (
    ((IntKind.u64.wrap ((l0.n : Nat) : Int)) ≠ 0) ∧
    newS 39 #[] 0 h5 fun s39 h8 =>
    appS 39 (Value.agg #[Value.string (⟨#[]⟩ : ByteArray), Value.int .i64 0, Value.slice (⟨none, 0, 0⟩ : Sv).a (⟨none, 0, 0⟩ : Sv).n (⟨none, 0, 0⟩ : Sv).c, Value.slice (⟨none, 0, 0⟩ : Sv).a (⟨none, 0, 0⟩ : Sv).n (⟨none, 0, 0⟩ : Sv).c]).cells 4 72 h8 s39 l0 fun s41 h9 =>
    ∃ J_2 : Heap → Prop, (
      ∃ Sq : Heap → Prop, Sq h9 ∧ (
        ixS l0 (IntKind.i64.wrap (((IntKind.u64.wrap vat2) : Int).tmod (IntKind.u64.wrap ((l0.n : Nat) : Int)))) fun q47 =>
        ldS h9 ((q47.add (((IntKind.i64.wrap (((IntKind.u64.wrap vat2) : Int).tmod (IntKind.u64.wrap ((l0.n : Nat) : Int)))) : Int).toNat * 4)).add 3) fun x49 =>
        ∃ (y51 : Int) (y51_1 : ByteArray) (y51_2 : Bool) (y51_3 : Int) (y51_4 : Sv) (y51_5 : Sv), hld Sq p4 (Value.int .i64 y51) ∧ hld Sq (p4.add 1) (Value.string y51_1) ∧ hld Sq (p4.add 2) (Value.bool y51_2) ∧ hld Sq (p4.add 3) (Value.int .i64 y51_3) ∧ hld Sq (p4.add 4) (Value.slice y51_4.a y51_4.n y51_4.c) ∧ hld Sq (p4.add 5) (Value.slice y51_5.a y51_5.n y51_5.c) ∧
        (
          newS 34 #[] 0 h9 fun s44 h10 =>
          Sq h10 ∧
          (
            appS 34 (Value.agg #[Value.int .i64 0, Value.string (⟨#[]⟩ : ByteArray), Value.bool false, Value.int .i64 0, Value.slice (⟨none, 0, 0⟩ : Sv).a (⟨none, 0, 0⟩ : Sv).n (⟨none, 0, 0⟩ : Sv).c, Value.slice (⟨none, 0, 0⟩ : Sv).a (⟨none, 0, 0⟩ : Sv).n (⟨none, 0, 0⟩ : Sv).c]).cells 6 88 h10 s44 x49 fun s50 h11 =>
            Sq h11 ∧
            newS 34 #[Value.int .i64 y51, Value.string y51_1, Value.bool y51_2, Value.int .i64 y51_3, Value.slice y51_4.a y51_4.n y51_4.c, Value.slice y51_5.a y51_5.n y51_5.c] 1 h11 fun s52 h12 =>
            appS 34 (Value.agg #[Value.int .i64 0, Value.string (⟨#[]⟩ : ByteArray), Value.bool false, Value.int .i64 0, Value.slice (⟨none, 0, 0⟩ : Sv).a (⟨none, 0, 0⟩ : Sv).n (⟨none, 0, 0⟩ : Sv).c, Value.slice (⟨none, 0, 0⟩ : Sv).a (⟨none, 0, 0⟩ : Sv).n (⟨none, 0, 0⟩ : Sv).c]).cells 6 88 h12 s50 s52 fun s53 h13 =>
            ixS s41 (IntKind.i64.wrap (((IntKind.u64.wrap vat2) : Int).tmod (IntKind.u64.wrap ((l0.n : Nat) : Int)))) fun q54 =>
            sto h13 ((q54.add (((IntKind.i64.wrap (((IntKind.u64.wrap vat2) : Int).tmod (IntKind.u64.wrap ((l0.n : Nat) : Int)))) : Int).toNat * 4)).add 3) (Value.slice s53.a s53.n s53.c) fun h14 =>
            J_2 h14) ∧ (
            newS 34 #[Value.int .i64 y51, Value.string y51_1, Value.bool y51_2, Value.int .i64 y51_3, Value.slice y51_4.a y51_4.n y51_4.c, Value.slice y51_5.a y51_5.n y51_5.c] 1 h10 fun s52_1 h15 =>
            appS 34 (Value.agg #[Value.int .i64 0, Value.string (⟨#[]⟩ : ByteArray), Value.bool false, Value.int .i64 0, Value.slice (⟨none, 0, 0⟩ : Sv).a (⟨none, 0, 0⟩ : Sv).n (⟨none, 0, 0⟩ : Sv).c, Value.slice (⟨none, 0, 0⟩ : Sv).a (⟨none, 0, 0⟩ : Sv).n (⟨none, 0, 0⟩ : Sv).c]).cells 6 88 h15 s44 x49 fun s50_1 h16 =>
            appS 34 (Value.agg #[Value.int .i64 0, Value.string (⟨#[]⟩ : ByteArray), Value.bool false, Value.int .i64 0, Value.slice (⟨none, 0, 0⟩ : Sv).a (⟨none, 0, 0⟩ : Sv).n (⟨none, 0, 0⟩ : Sv).c, Value.slice (⟨none, 0, 0⟩ : Sv).a (⟨none, 0, 0⟩ : Sv).n (⟨none, 0, 0⟩ : Sv).c]).cells 6 88 h16 s50_1 s52_1 fun s53_1 h17 =>
            ixS s41 (IntKind.i64.wrap (((IntKind.u64.wrap vat2) : Int).tmod (IntKind.u64.wrap ((l0.n : Nat) : Int)))) fun q54_1 =>
            sto h17 ((q54_1.add (((IntKind.i64.wrap (((IntKind.u64.wrap vat2) : Int).tmod (IntKind.u64.wrap ((l0.n : Nat) : Int)))) : Int).toNat * 4)).add 3) (Value.slice s53_1.a s53_1.n s53_1.c) fun h18 =>
            J_2 h18)) ∧ (
          newS 34 #[Value.int .i64 y51, Value.string y51_1, Value.bool y51_2, Value.int .i64 y51_3, Value.slice y51_4.a y51_4.n y51_4.c, Value.slice y51_5.a y51_5.n y51_5.c] 1 h9 fun s52_2 h19 =>
          newS 34 #[] 0 h19 fun s44_1 h20 =>
          appS 34 (Value.agg #[Value.int .i64 0, Value.string (⟨#[]⟩ : ByteArray), Value.bool false, Value.int .i64 0, Value.slice (⟨none, 0, 0⟩ : Sv).a (⟨none, 0, 0⟩ : Sv).n (⟨none, 0, 0⟩ : Sv).c, Value.slice (⟨none, 0, 0⟩ : Sv).a (⟨none, 0, 0⟩ : Sv).n (⟨none, 0, 0⟩ : Sv).c]).cells 6 88 h20 s44_1 x49 fun s50_2 h21 =>
          appS 34 (Value.agg #[Value.int .i64 0, Value.string (⟨#[]⟩ : ByteArray), Value.bool false, Value.int .i64 0, Value.slice (⟨none, 0, 0⟩ : Sv).a (⟨none, 0, 0⟩ : Sv).n (⟨none, 0, 0⟩ : Sv).c, Value.slice (⟨none, 0, 0⟩ : Sv).a (⟨none, 0, 0⟩ : Sv).n (⟨none, 0, 0⟩ : Sv).c]).cells 6 88 h21 s50_2 s52_2 fun s53_2 h22 =>
          ixS s41 (IntKind.i64.wrap (((IntKind.u64.wrap vat2) : Int).tmod (IntKind.u64.wrap ((l0.n : Nat) : Int)))) fun q54_2 =>
          sto h22 ((q54_2.add (((IntKind.i64.wrap (((IntKind.u64.wrap vat2) : Int).tmod (IntKind.u64.wrap ((l0.n : Nat) : Int)))) : Int).toNat * 4)).add 3) (Value.slice s53_2.a s53_2.n s53_2.c) fun h23 =>
          J_2 h23))) ∧ (∀ h24, J_2 h24 →
    cal Try.prog 12 #[Value.slice l0.a l0.n l0.c] h24 fun u_4 h25 => asM u_4 fun x57 =>
    cal Try.prog 12 #[Value.slice s41.a s41.n s41.c] h25 fun u_5 h26 => asM u_5 fun x59 =>
    ∃ (I : Int → Prop) (m : Int → Nat), I 0 ∧ ∀ i11, I i11 →
    ifb (decide (i11 < ((l0.n : Nat) : Int))) (
      ixS l0 i11 fun q68 =>
      ldT h26 (q68.add ((i11 : Int).toNat * 4)) fun x70 =>
      lkS h26 (Value.map x57) x70 (Value.slice (⟨none, 0, 0⟩ : Sv).a (⟨none, 0, 0⟩ : Sv).n (⟨none, 0, 0⟩ : Sv).c) fun u_6 => asS u_6 fun x73 =>
      lkS h26 (Value.map x59) x70 (Value.slice (⟨none, 0, 0⟩ : Sv).a (⟨none, 0, 0⟩ : Sv).n (⟨none, 0, 0⟩ : Sv).c) fun u_7 => asS u_7 fun x77 =>
      ifb (((x73.n : Nat) : Int) != ((x77.n : Nat) : Int)) (
        R (Value.bool false) h26) (
        ∃ (I_1 : Int → Prop) (m_1 : Int → Nat), I_1 0 ∧ ∀ j13, I_1 j13 →
        lkS h26 (Value.map x57) x70 (Value.slice (⟨none, 0, 0⟩ : Sv).a (⟨none, 0, 0⟩ : Sv).n (⟨none, 0, 0⟩ : Sv).c) fun u_8 => asS u_8 fun x83 =>
        ifb (decide (j13 < ((x83.n : Nat) : Int))) (
          ∃ J_3 : Bool → Prop, (
            ∃ Sq_1 : Heap → Prop, Sq_1 h26 ∧ (
              (
                lkS h26 (Value.map x57) x70 (Value.slice (⟨none, 0, 0⟩ : Sv).a (⟨none, 0, 0⟩ : Sv).n (⟨none, 0, 0⟩ : Sv).c) fun u_9 => asS u_9 fun x90 =>
                Sq_1 h26 ∧
                ixS x90 j13 fun q92 =>
                hlI .i64 Sq_1 (q92.add ((j13 : Int).toNat * 1)) fun x93 =>
                (
                  lkS h26 (Value.map x59) x70 (Value.slice (⟨none, 0, 0⟩ : Sv).a (⟨none, 0, 0⟩ : Sv).n (⟨none, 0, 0⟩ : Sv).c) fun u_10 => asS u_10 fun x96 =>
                  Sq_1 h26 ∧
                  ixS x96 j13 fun q98 =>
                  hlI .i64 Sq_1 (q98.add ((j13 : Int).toNat * 1)) fun x99 =>
                  lkS h26 (Value.map x59) x70 (Value.slice (⟨none, 0, 0⟩ : Sv).a (⟨none, 0, 0⟩ : Sv).n (⟨none, 0, 0⟩ : Sv).c) fun u_11 => asS u_11 fun x103 =>
                  Sq_1 h26 ∧
                  ixS x103 j13 fun q105 =>
                  ldI .i64 h26 (q105.add ((j13 : Int).toNat * 1)) fun x106 =>
                  J_3 ((bitsI .or .i64 x93 x99) != x106)) ∧ (
                  lkS h26 (Value.map x59) x70 (Value.slice (⟨none, 0, 0⟩ : Sv).a (⟨none, 0, 0⟩ : Sv).n (⟨none, 0, 0⟩ : Sv).c) fun u_12 => asS u_12 fun x103_1 =>
                  Sq_1 h26 ∧
                  ixS x103_1 j13 fun q105_1 =>
                  hlI .i64 Sq_1 (q105_1.add ((j13 : Int).toNat * 1)) fun x106_1 =>
                  lkS h26 (Value.map x59) x70 (Value.slice (⟨none, 0, 0⟩ : Sv).a (⟨none, 0, 0⟩ : Sv).n (⟨none, 0, 0⟩ : Sv).c) fun u_13 => asS u_13 fun x96_1 =>
                  Sq_1 h26 ∧
                  ixS x96_1 j13 fun q98_1 =>
                  ldI .i64 h26 (q98_1.add ((j13 : Int).toNat * 1)) fun x99_1 =>
                  J_3 ((bitsI .or .i64 x93 x99_1) != x106_1))) ∧ (
                lkS h26 (Value.map x59) x70 (Value.slice (⟨none, 0, 0⟩ : Sv).a (⟨none, 0, 0⟩ : Sv).n (⟨none, 0, 0⟩ : Sv).c) fun u_14 => asS u_14 fun x96_2 =>
                Sq_1 h26 ∧
                ixS x96_2 j13 fun q98_2 =>
                hlI .i64 Sq_1 (q98_2.add ((j13 : Int).toNat * 1)) fun x99_2 =>
                (
                  lkS h26 (Value.map x57) x70 (Value.slice (⟨none, 0, 0⟩ : Sv).a (⟨none, 0, 0⟩ : Sv).n (⟨none, 0, 0⟩ : Sv).c) fun u_15 => asS u_15 fun x90_1 =>
                  Sq_1 h26 ∧
                  ixS x90_1 j13 fun q92_1 =>
                  hlI .i64 Sq_1 (q92_1.add ((j13 : Int).toNat * 1)) fun x93_1 =>
                  lkS h26 (Value.map x59) x70 (Value.slice (⟨none, 0, 0⟩ : Sv).a (⟨none, 0, 0⟩ : Sv).n (⟨none, 0, 0⟩ : Sv).c) fun u_16 => asS u_16 fun x103_2 =>
                  Sq_1 h26 ∧
                  ixS x103_2 j13 fun q105_2 =>
                  ldI .i64 h26 (q105_2.add ((j13 : Int).toNat * 1)) fun x106_2 =>
                  J_3 ((bitsI .or .i64 x93_1 x99_2) != x106_2)) ∧ (
                  lkS h26 (Value.map x59) x70 (Value.slice (⟨none, 0, 0⟩ : Sv).a (⟨none, 0, 0⟩ : Sv).n (⟨none, 0, 0⟩ : Sv).c) fun u_17 => asS u_17 fun x103_3 =>
                  Sq_1 h26 ∧
                  ixS x103_3 j13 fun q105_3 =>
                  hlI .i64 Sq_1 (q105_3.add ((j13 : Int).toNat * 1)) fun x106_3 =>
                  lkS h26 (Value.map x57) x70 (Value.slice (⟨none, 0, 0⟩ : Sv).a (⟨none, 0, 0⟩ : Sv).n (⟨none, 0, 0⟩ : Sv).c) fun u_18 => asS u_18 fun x90_2 =>
                  Sq_1 h26 ∧
                  ixS x90_2 j13 fun q92_2 =>
                  ldI .i64 h26 (q92_2.add ((j13 : Int).toNat * 1)) fun x93_2 =>
                  J_3 ((bitsI .or .i64 x93_2 x99_2) != x106_3))) ∧ (
                lkS h26 (Value.map x59) x70 (Value.slice (⟨none, 0, 0⟩ : Sv).a (⟨none, 0, 0⟩ : Sv).n (⟨none, 0, 0⟩ : Sv).c) fun u_19 => asS u_19 fun x103_4 =>
                Sq_1 h26 ∧
                ixS x103_4 j13 fun q105_4 =>
                hlI .i64 Sq_1 (q105_4.add ((j13 : Int).toNat * 1)) fun x106_4 =>
                (
                  lkS h26 (Value.map x57) x70 (Value.slice (⟨none, 0, 0⟩ : Sv).a (⟨none, 0, 0⟩ : Sv).n (⟨none, 0, 0⟩ : Sv).c) fun u_20 => asS u_20 fun x90_3 =>
                  Sq_1 h26 ∧
                  ixS x90_3 j13 fun q92_3 =>
                  hlI .i64 Sq_1 (q92_3.add ((j13 : Int).toNat * 1)) fun x93_3 =>
                  lkS h26 (Value.map x59) x70 (Value.slice (⟨none, 0, 0⟩ : Sv).a (⟨none, 0, 0⟩ : Sv).n (⟨none, 0, 0⟩ : Sv).c) fun u_21 => asS u_21 fun x96_3 =>
                  Sq_1 h26 ∧
                  ixS x96_3 j13 fun q98_3 =>
                  ldI .i64 h26 (q98_3.add ((j13 : Int).toNat * 1)) fun x99_3 =>
                  J_3 ((bitsI .or .i64 x93_3 x99_3) != x106_4)) ∧ (
                  lkS h26 (Value.map x59) x70 (Value.slice (⟨none, 0, 0⟩ : Sv).a (⟨none, 0, 0⟩ : Sv).n (⟨none, 0, 0⟩ : Sv).c) fun u_22 => asS u_22 fun x96_4 =>
                  Sq_1 h26 ∧
                  ixS x96_4 j13 fun q98_4 =>
                  hlI .i64 Sq_1 (q98_4.add ((j13 : Int).toNat * 1)) fun x99_4 =>
                  lkS h26 (Value.map x57) x70 (Value.slice (⟨none, 0, 0⟩ : Sv).a (⟨none, 0, 0⟩ : Sv).n (⟨none, 0, 0⟩ : Sv).c) fun u_23 => asS u_23 fun x90_4 =>
                  Sq_1 h26 ∧
                  ixS x90_4 j13 fun q92_4 =>
                  ldI .i64 h26 (q92_4.add ((j13 : Int).toNat * 1)) fun x93_4 =>
                  J_3 ((bitsI .or .i64 x93_4 x99_4) != x106_4))))) ∧ (∀ x107, J_3 x107 →
          ifb x107 (
            R (Value.bool false) h26) (
            I_1 (IntKind.i64.wrap (j13 + 1)) ∧ m_1 (IntKind.i64.wrap (j13 + 1)) < m_1 j13))) (
          I (IntKind.i64.wrap (i11 + 1)) ∧ m (IntKind.i64.wrap (i11 + 1)) < m i11))) (
      R (Value.bool true) h26)))

set_option maxRecDepth 100000 in

theorem F5 {l0 x1 x1_1 x1_2 x1_3 x1_4 x1_5 vat2 h : _} {R : Value → Heap → Prop} (H : L5 l0 x1 x1_1 x1_2 x1_3 x1_4 x1_5 vat2 h R) : CallsH Try.prog 5 #[Value.slice l0.a l0.n l0.c, Value.agg #[Value.int .i64 x1, Value.string x1_1, Value.bool x1_2, Value.int .i64 x1_3, Value.slice x1_4.a x1_4.n x1_4.c, Value.slice x1_5.a x1_5.n x1_5.c], Value.int .i64 vat2] h R := by
  refine CallsH.enter (n := 108) Try.func5 rfl rfl rfl rfl ?_
  intro w0 aa ww S
  unfold L5 at H
  refine W.seq ?_
  replace S := S.sub [(0, Value.slice l0.a l0.n l0.c), (1, Value.agg #[Value.int .i64 x1, Value.string x1_1, Value.bool x1_2, Value.int .i64 x1_3, Value.slice x1_4.a x1_4.n x1_4.c, Value.slice x1_5.a x1_5.n x1_5.c]), (2, Value.int .i64 vat2)] ⟨rfl, rfl, rfl, trivial⟩
  refine W.region ?_
  refine ol_box S H rfl rfl rfl trivial ?_
  clear S H aa; intro p4 aa ww h1 H S
  refine OL.pure S (Lf.run_assign (S.ev rfl)) rfl rfl trivial ?_
  clear S; intro aa S
  refine OL.nil ?_
  refine W.seq ?_
  refine W.seq ?_
  replace S := S.sub [(0, Value.slice l0.a l0.n l0.c), (2, Value.int .i64 vat2), (4, Value.pointer (some p4))] ⟨rfl, rfl, rfl, trivial⟩
  refine W.region ?_
  refine ol_cal S H isfn6 rfl rfl trivial ?_
  clear S H aa; intro u aa ww h2 H S
  obtain ⟨x14, rfl, H⟩ := H
  refine OL.pure S (Lf.run_not (S.ev rfl)) rfl rfl trivial ?_
  clear S; intro aa S
  refine OL.pure S (Lf.run_move (S.ev rfl)) rfl rfl trivial ?_
  clear S; intro aa S
  obtain ⟨J, H, HK⟩ := H
  refine OL.cutN 4 (fun aa ww => ∃ x20 h3, St 108 ((20, Value.bool x20) :: [(0, Value.slice l0.a l0.n l0.c), (2, Value.int .i64 vat2), (4, Value.pointer (some p4)), (14, Value.bool x14), (15, Value.bool (!x14)), (16, Value.bool (!x14))]) h3 w0 aa ww ∧ J x20 h3) ?_ ?_
  · rcases Bool.eq_false_or_eq_true (!x14) with hb | hb
    · replace H := H.1 hb
      refine OL.not S rfl rfl (GNo.mk rfl rfl hb) ?_
      clear S; intro aa S
      refine OL.not S rfl rfl (GNo.mk rfl rfl hb) ?_
      clear S; intro aa S
      refine OL.not S rfl rfl (GNo.mk rfl rfl hb) ?_
      clear S; intro aa S
      refine OL.pure S (Lf.run_pickT (S.ev rfl) hb (S.ev rfl)) rfl rfl trivial ?_
      clear S; intro aa S
      refine OL.nil ?_
      exact ⟨_, _, S.sub _ ⟨rfl, rfl, rfl, rfl, rfl, rfl, rfl, trivial⟩, H⟩
    · replace H := H.2 hb
      refine OL.pure S (Lf.run_move (S.ev rfl)) rfl rfl (GOk.mk rfl rfl hb) ?_
      clear S; intro aa S
      refine ol_cal S H isfn10 rfl rfl (GOk.mk rfl rfl hb) ?_
      clear S H aa; intro u_1 aa ww h4 H S
      obtain ⟨x18, rfl, H⟩ := H
      refine OL.pure S (Lf.run_not (S.ev rfl)) rfl rfl (GOk.mk rfl rfl hb) ?_
      clear S; intro aa S
      refine OL.pure S (Lf.run_pickF (S.ev rfl) hb (S.ev rfl)) rfl rfl trivial ?_
      clear S; intro aa S
      refine OL.nil ?_
      exact ⟨_, _, S.sub _ ⟨rfl, rfl, rfl, rfl, rfl, rfl, rfl, trivial⟩, H⟩
  · clear S aa
    rintro aa ww ⟨x20, h3, S, HJ⟩
    replace H := HK _ _ HJ
    clear HK HJ
    refine OL.pure S (Lf.run_move (S.ev rfl)) rfl rfl trivial ?_
    clear S; intro aa S
    obtain ⟨J_1, H, HK_1⟩ := H
    refine OL.cutN 4 (fun aa ww => ∃ x25 h5, St 108 ((25, Value.bool x25) :: [(0, Value.slice l0.a l0.n l0.c), (2, Value.int .i64 vat2), (4, Value.pointer (some p4)), (14, Value.bool x14), (15, Value.bool (!x14)), (16, Value.bool (!x14)), (20, Value.bool x20), (21, Value.bool x20)]) h5 w0 aa ww ∧ J_1 x25 h5) ?_ ?_
    · rcases Bool.eq_false_or_eq_true x20 with hb_1 | hb_1
      · replace H := H.1 hb_1
        refine OL.not S rfl rfl (GNo.mk rfl rfl hb_1) ?_
        clear S; intro aa S
        refine OL.not S rfl rfl (GNo.mk rfl rfl hb_1) ?_
        clear S; intro aa S
        refine OL.not S rfl rfl (GNo.mk rfl rfl hb_1) ?_
        clear S; intro aa S
        refine OL.pure S (Lf.run_pickT (S.ev rfl) hb_1 (S.ev rfl)) rfl rfl trivial ?_
        clear S; intro aa S
        refine OL.nil ?_
        exact ⟨_, _, S.sub _ ⟨rfl, rfl, rfl, rfl, rfl, rfl, rfl, rfl, rfl, trivial⟩, H⟩
      · replace H := H.2 hb_1
        obtain ⟨y22, y22_1, y22_2, y22_3, y22_4, y22_5, c_1, c_2, c_3, c_4, c_5, c_6, H⟩ := H
        refine OL.pure S (Lf.run_ldA (cs := [Value.int .i64 y22, Value.string y22_1, Value.bool y22_2, Value.int .i64 y22_3, Value.slice y22_4.a y22_4.n y22_4.c, Value.slice y22_5.a y22_5.n y22_5.c]) (S.ev rfl) ag34 ti34 (by rw [S.heap]; exact RowL.toRow ⟨c_1, c_2, c_3, c_4, c_5, c_6, trivial⟩)) rfl rfl (GOk.mk rfl rfl hb_1) ?_
        clear S; intro aa S
        refine ol_cal S H isfn11 rfl rfl (GOk.mk rfl rfl hb_1) ?_
        clear S H aa; intro u_2 aa ww h6 H S
        obtain ⟨x23, rfl, H⟩ := H
        refine OL.pure S (Lf.run_not (S.ev rfl)) rfl rfl (GOk.mk rfl rfl hb_1) ?_
        clear S; intro aa S
        refine OL.pure S (Lf.run_pickF (S.ev rfl) hb_1 (S.ev rfl)) rfl rfl trivial ?_
        clear S; intro aa S
        refine OL.nil ?_
        exact ⟨_, _, S.sub _ ⟨rfl, rfl, rfl, rfl, rfl, rfl, rfl, rfl, rfl, trivial⟩, H⟩
    · clear S aa
      rintro aa ww ⟨x25, h5, S, HJ⟩
      replace H := HK_1 _ _ HJ
      clear HK_1 HJ
      refine OL.pure S (Lf.run_move (S.ev rfl)) rfl rfl trivial ?_
      clear S; intro aa S
      refine OL.cutN 4 (fun aa ww => St 108 ((30, Value.bool (x25 || (((l0.n : Nat) : Int) == 0))) :: [(0, Value.slice l0.a l0.n l0.c), (2, Value.int .i64 vat2), (4, Value.pointer (some p4)), (14, Value.bool x14), (15, Value.bool (!x14)), (16, Value.bool (!x14)), (20, Value.bool x20), (21, Value.bool x20), (25, Value.bool x25), (26, Value.bool x25)]) h5 w0 aa ww) ?_ ?_
      · rcases Bool.eq_false_or_eq_true x25 with hb_2 | hb_2
        · refine OL.not S rfl rfl (GNo.mk rfl rfl hb_2) ?_
          clear S; intro aa S
          refine OL.not S rfl rfl (GNo.mk rfl rfl hb_2) ?_
          clear S; intro aa S
          refine OL.not S rfl rfl (GNo.mk rfl rfl hb_2) ?_
          clear S; intro aa S
          refine OL.pure S (Lf.run_pickT (S.ev rfl) hb_2 (S.ev rfl)) rfl rfl trivial ?_
          clear S; intro aa S
          refine OL.nil ?_
          exact (S.hd (by rw [hb_2, Bool.true_or])).sub _ ⟨rfl, rfl, rfl, rfl, rfl, rfl, rfl, rfl, rfl, rfl, rfl, trivial⟩
        · refine OL.pure S (Lf.run_move (S.ev rfl)) rfl rfl (GOk.mk rfl rfl hb_2) ?_
          clear S; intro aa S
          refine OL.pure S (Lf.run_lens (S.ev rfl) rfl Try.underlying31) rfl rfl (GOk.mk rfl rfl hb_2) ?_
          clear S; intro aa S
          refine OL.pure S (Lf.run_eql (S.ev rfl) (S.ev rfl)) rfl rfl (GOk.mk rfl rfl hb_2) ?_
          clear S; intro aa S
          refine OL.pure S (Lf.run_pickF (S.ev rfl) hb_2 (S.ev rfl)) rfl rfl trivial ?_
          clear S; intro aa S
          refine OL.nil ?_
          exact (S.hd (by rw [hb_2, Bool.false_or])).sub _ ⟨rfl, rfl, rfl, rfl, rfl, rfl, rfl, rfl, rfl, rfl, rfl, trivial⟩
      · clear S aa
        intro aa ww S
        refine OL.nil ?_
        refine W.cond S (b := (x25 || (((l0.n : Nat) : Int) == 0))) rfl (fun hb_3 => ?_) (fun hb_3 => ?_)
        · replace H := H.1 hb_3
          refine W.seq ?_
          replace S := S.sub [] trivial
          refine W.region ?_
          refine ol_cal S H isfn6 rfl rfl trivial ?_
          clear S H aa; intro u_3 aa ww h7 H S
          obtain ⟨x31, rfl, H⟩ := H
          refine OL.pure S (Lf.run_assign (S.ev rfl)) rfl rfl trivial ?_
          clear S; intro aa S
          refine OL.nil ?_
          refine W.ret ?_
          exact Ret.one S rfl rfl H
        · replace H := H.2 hb_3
          refine W.skip ?_
          refine W.seq ?_
          replace S := S.sub [(0, Value.slice l0.a l0.n l0.c), (2, Value.int .i64 vat2), (4, Value.pointer (some p4))] ⟨rfl, rfl, rfl, trivial⟩
          refine W.region ?_
          refine OL.pure S (Lf.run_move (S.ev rfl)) rfl rfl trivial ?_
          clear S; intro aa S
          refine OL.pure S (Lf.run_cvi Try.underlying3 Try.underlying22 (S.ev rfl)) rfl rfl trivial ?_
          clear S; intro aa S
          refine OL.pure S (Lf.run_move (S.ev rfl)) rfl rfl trivial ?_
          clear S; intro aa S
          refine OL.pure S (Lf.run_lens (S.ev rfl) rfl Try.underlying31) rfl rfl trivial ?_
          clear S; intro aa S
          refine OL.pure S (Lf.run_cvi Try.underlying3 Try.underlying22 (S.ev rfl)) rfl rfl trivial ?_
          clear S; intro aa S
          obtain ⟨c_31, H⟩ := H
          refine OL.pure S (Lf.run_rem (S.ev rfl) (S.ev rfl) c_31) rfl rfl trivial ?_
          clear S; intro aa S
          refine OL.pure S (Lf.run_cvi Try.underlying22 Try.underlying3 (S.ev rfl)) rfl rfl trivial ?_
          clear S; intro aa S
          refine OL.pure S (Lf.run_assign (S.ev rfl)) rfl rfl trivial ?_
          clear S; intro aa S
          refine OL.nil ?_
          refine W.seq ?_
          replace S := S.sub [(0, Value.slice l0.a l0.n l0.c), (4, Value.pointer (some p4)), (7, Value.int .i64 (IntKind.i64.wrap (((IntKind.u64.wrap vat2) : Int).tmod (IntKind.u64.wrap ((l0.n : Nat) : Int)))))] ⟨rfl, rfl, rfl, trivial⟩
          refine W.region ?_
          refine ol_newS0 S H Try.underlying31 ti39 rfl rfl trivial ?_
          clear S H aa; intro s39 aa ww h8 H S
          refine OL.pure S (Lf.run_move (S.ev rfl)) rfl rfl trivial ?_
          clear S; intro aa S
          refine ol_appS S H Try.underlying31 ti39 rfl rfl rfl trivial ?_
          clear S H aa; intro s41 aa ww h9 H S
          refine OL.pure S (Lf.run_assign (S.ev rfl)) rfl rfl trivial ?_
          clear S; intro aa S
          refine OL.nil ?_
          refine W.seq ?_
          replace S := S.sub [(0, Value.slice l0.a l0.n l0.c), (4, Value.pointer (some p4)), (7, Value.int .i64 (IntKind.i64.wrap (((IntKind.u64.wrap vat2) : Int).tmod (IntKind.u64.wrap ((l0.n : Nat) : Int))))), (8, Value.slice s41.a s41.n s41.c)] ⟨rfl, rfl, rfl, rfl, trivial⟩
          obtain ⟨J_2, H, HK_2⟩ := H
          refine W.mono (N' := fun aa ww => ∃ h24, St 108 [(0, Value.slice l0.a l0.n l0.c), (8, Value.slice s41.a s41.n s41.c)] h24 w0 aa ww ∧ J_2 h24) ?_ ?_
          · obtain ⟨Sq, HS, H⟩ := H
            refine W.regionN [9] [2, 8, 10, 11, 14] Sq S (by kernel_rfl) ?_
            clear S; intro ww S
            refine BN.pure 0 S (fun _ => HS) rfl (by kernel_rfl) (by kernel_rfl) (fun _ => Lf.run_move (S.ev rfl)) rfl rfl trivial ?_
            clear S; intro aa S
            refine BN.pure 1 S (fun _ => HS) rfl (by kernel_rfl) (by kernel_rfl) (fun _ => Lf.run_move (S.ev rfl)) rfl rfl trivial ?_
            clear S; intro aa S
            refine BN.pure 3 S (fun _ => HS) rfl (by kernel_rfl) (by kernel_rfl) (fun _ => Lf.run_move (S.ev rfl)) rfl rfl trivial ?_
            clear S; intro aa S
            refine BN.pure 4 S (fun _ => HS) rfl (by kernel_rfl) (by kernel_rfl) (fun _ => Lf.run_move (S.ev rfl)) rfl rfl trivial ?_
            clear S; intro aa S
            obtain ⟨q47, e, e_1, e_2, H⟩ := H
            refine BN.pure 5 S (fun _ => HS) rfl (by kernel_rfl) (by kernel_rfl) (fun _ => Lf.run_ixs (S.ev rfl) (S.ev rfl) Try.underlying31 ti39 e e_1 e_2) rfl rfl trivial ?_
            clear S; intro aa S
            refine BN.pure 6 S (fun _ => HS) rfl (by kernel_rfl) (by kernel_rfl) (fun _ => Lf.run_fa (S.ev rfl) fa39_3) rfl rfl trivial ?_
            clear S; intro aa S
            obtain ⟨x49, c_7, H⟩ := H
            refine BN.load 7 S (fun _ => HS) rfl (by kernel_rfl) (by kernel_rfl) (fun _ hx => Lf.run_ld (S.ev rfl) fl32 (hx.cell _ _ (S.cl c_7))) rfl rfl trivial ?_
            clear S; intro aa S
            obtain ⟨y51, y51_1, y51_2, y51_3, y51_4, y51_5, c_9, c_10, c_11, c_12, c_13, c_14, H⟩ := H
            refine BN.held 9 S HS rfl (by kernel_rfl) (fun _ hq => Lf.run_ldA (cs := [Value.int .i64 y51, Value.string y51_1, Value.bool y51_2, Value.int .i64 y51_3, Value.slice y51_4.a y51_4.n y51_4.c, Value.slice y51_5.a y51_5.n y51_5.c]) (S.ev rfl) ag34 ti34 (hlRow hq fun h_ hs_ => ⟨c_9 h_ hs_, c_10 h_ hs_, c_11 h_ hs_, c_12 h_ hs_, c_13 h_ hs_, c_14 h_ hs_, trivial⟩)) rfl rfl trivial ?_
            clear S; intro aa S
            refine BN.effs [2, 10] (by kernel_rfl) rfl ⟨⟨_, rfl, ?_⟩, ⟨_, rfl, ?_⟩, trivial⟩
            · replace H := H.1
              refine ol_newS0 S H Try.underlying32 ti34 rfl rfl trivial ?_
              clear S H aa; intro s44 aa ww h10 H S
              refine OL.nil ?_
              clear HS; obtain ⟨HS, H⟩ := H
              refine ⟨fun _ => by rw [S.heap]; exact HS, ?_⟩
              refine BN.effs [8, 10] (by kernel_rfl) rfl ⟨⟨_, rfl, ?_⟩, ⟨_, rfl, ?_⟩, trivial⟩
              · replace H := H.1
                refine ol_appS S H Try.underlying32 ti34 rfl rfl rfl trivial ?_
                clear S H aa; intro s50 aa ww h11 H S
                refine OL.nil ?_
                clear HS; obtain ⟨HS, H⟩ := H
                refine ⟨fun _ => by rw [S.heap]; exact HS, ?_⟩
                refine BN.eff 10 rfl (by kernel_rfl) ?_
                refine ol_newS S H Try.underlying32 ti34 (by decide) (parts_map S rfl) (by kernel_rfl) (by decide) rfl trivial ?_
                clear S H aa; intro s52 aa ww h12 H S
                refine OL.nil ?_
                refine ⟨noNeed (by kernel_rfl), ?_⟩
                refine BN.eff 11 rfl (by kernel_rfl) ?_
                refine ol_appS S H Try.underlying32 ti34 rfl rfl rfl trivial ?_
                clear S H aa; intro s53 aa ww h13 H S
                refine OL.nil ?_
                refine ⟨noNeed (by kernel_rfl), ?_⟩
                obtain ⟨q54, e_3, e_4, e_5, H⟩ := H
                refine BN.pure 12 S (noNeed (by kernel_rfl)) rfl (by kernel_rfl) (by kernel_rfl) (fun _ => Lf.run_ixs (S.ev rfl) (S.ev rfl) Try.underlying31 ti39 e_3 e_4 e_5) rfl rfl trivial ?_
                clear S; intro aa S
                refine BN.pure 13 S (noNeed (by kernel_rfl)) rfl (by kernel_rfl) (by kernel_rfl) (fun _ => Lf.run_fa (S.ev rfl) fa39_3) rfl rfl trivial ?_
                clear S; intro aa S
                refine BN.eff 14 rfl (by kernel_rfl) ?_
                refine ol_sto S H rfl rfl rfl ti32 trivial ?_
                clear S H aa; intro aa ww h14 H S
                refine OL.nil ?_
                refine ⟨noNeed (by kernel_rfl), ?_⟩
                refine BN.done (by kernel_rfl) ?_
                exact ⟨h14, S.sub _ ⟨rfl, rfl, trivial⟩, H⟩
              · replace H := H.2
                refine ol_newS S H Try.underlying32 ti34 (by decide) (parts_map S rfl) (by kernel_rfl) (by decide) rfl trivial ?_
                clear S H aa; intro s52_1 aa ww h15 H S
                refine OL.nil ?_
                refine ⟨noNeed (by kernel_rfl), ?_⟩
                refine BN.eff 8 rfl (by kernel_rfl) ?_
                refine ol_appS S H Try.underlying32 ti34 rfl rfl rfl trivial ?_
                clear S H aa; intro s50_1 aa ww h16 H S
                refine OL.nil ?_
                refine ⟨noNeed (by kernel_rfl), ?_⟩
                refine BN.eff 11 rfl (by kernel_rfl) ?_
                refine ol_appS S H Try.underlying32 ti34 rfl rfl rfl trivial ?_
                clear S H aa; intro s53_1 aa ww h17 H S
                refine OL.nil ?_
                refine ⟨noNeed (by kernel_rfl), ?_⟩
                obtain ⟨q54_1, e_6, e_7, e_8, H⟩ := H
                refine BN.pure 12 S (noNeed (by kernel_rfl)) rfl (by kernel_rfl) (by kernel_rfl) (fun _ => Lf.run_ixs (S.ev rfl) (S.ev rfl) Try.underlying31 ti39 e_6 e_7 e_8) rfl rfl trivial ?_
                clear S; intro aa S
                refine BN.pure 13 S (noNeed (by kernel_rfl)) rfl (by kernel_rfl) (by kernel_rfl) (fun _ => Lf.run_fa (S.ev rfl) fa39_3) rfl rfl trivial ?_
                clear S; intro aa S
                refine BN.eff 14 rfl (by kernel_rfl) ?_
                refine ol_sto S H rfl rfl rfl ti32 trivial ?_
                clear S H aa; intro aa ww h18 H S
                refine OL.nil ?_
                refine ⟨noNeed (by kernel_rfl), ?_⟩
                refine BN.done (by kernel_rfl) ?_
                exact ⟨h18, S.sub _ ⟨rfl, rfl, trivial⟩, H⟩
            · replace H := H.2
              refine ol_newS S H Try.underlying32 ti34 (by decide) (parts_map S rfl) (by kernel_rfl) (by decide) rfl trivial ?_
              clear S H aa; intro s52_2 aa ww h19 H S
              refine OL.nil ?_
              refine ⟨noNeed (by kernel_rfl), ?_⟩
              refine BN.eff 2 rfl (by kernel_rfl) ?_
              refine ol_newS0 S H Try.underlying32 ti34 rfl rfl trivial ?_
              clear S H aa; intro s44_1 aa ww h20 H S
              refine OL.nil ?_
              refine ⟨noNeed (by kernel_rfl), ?_⟩
              refine BN.eff 8 rfl (by kernel_rfl) ?_
              refine ol_appS S H Try.underlying32 ti34 rfl rfl rfl trivial ?_
              clear S H aa; intro s50_2 aa ww h21 H S
              refine OL.nil ?_
              refine ⟨noNeed (by kernel_rfl), ?_⟩
              refine BN.eff 11 rfl (by kernel_rfl) ?_
              refine ol_appS S H Try.underlying32 ti34 rfl rfl rfl trivial ?_
              clear S H aa; intro s53_2 aa ww h22 H S
              refine OL.nil ?_
              refine ⟨noNeed (by kernel_rfl), ?_⟩
              obtain ⟨q54_2, e_9, e_10, e_11, H⟩ := H
              refine BN.pure 12 S (noNeed (by kernel_rfl)) rfl (by kernel_rfl) (by kernel_rfl) (fun _ => Lf.run_ixs (S.ev rfl) (S.ev rfl) Try.underlying31 ti39 e_9 e_10 e_11) rfl rfl trivial ?_
              clear S; intro aa S
              refine BN.pure 13 S (noNeed (by kernel_rfl)) rfl (by kernel_rfl) (by kernel_rfl) (fun _ => Lf.run_fa (S.ev rfl) fa39_3) rfl rfl trivial ?_
              clear S; intro aa S
              refine BN.eff 14 rfl (by kernel_rfl) ?_
              refine ol_sto S H rfl rfl rfl ti32 trivial ?_
              clear S H aa; intro aa ww h23 H S
              refine OL.nil ?_
              refine ⟨noNeed (by kernel_rfl), ?_⟩
              refine BN.done (by kernel_rfl) ?_
              exact ⟨h23, S.sub _ ⟨rfl, rfl, trivial⟩, H⟩
          · clear H S aa
            rintro aa ww ⟨h24, S, HJ⟩
            have H := HK_2 _ HJ
            clear HK_2 HJ
            refine W.seq ?_
            replace S := S.sub [(0, Value.slice l0.a l0.n l0.c), (8, Value.slice s41.a s41.n s41.c)] ⟨rfl, rfl, trivial⟩
            refine W.region ?_
            refine OL.pure S (Lf.run_move (S.ev rfl)) rfl rfl trivial ?_
            clear S; intro aa S
            refine ol_cal S H isfn12 rfl rfl trivial ?_
            clear S H aa; intro u_4 aa ww h25 H S
            obtain ⟨x57, rfl, H⟩ := H
            refine OL.pure S (Lf.run_move (S.ev rfl)) rfl rfl trivial ?_
            clear S; intro aa S
            refine ol_cal S H isfn12 rfl rfl trivial ?_
            clear S H aa; intro u_5 aa ww h26 H S
            obtain ⟨x59, rfl, H⟩ := H
            refine OL.pure S (Lf.run_assign (S.ev rfl)) rfl rfl trivial ?_
            clear S; intro aa S
            refine OL.pure S (Lf.run_assign (S.ev rfl)) rfl rfl trivial ?_
            clear S; intro aa S
            refine OL.nil ?_
            refine W.seq ?_
            refine W.seq ?_
            replace S := S.sub [(0, Value.slice l0.a l0.n l0.c), (9, Value.map x57), (10, Value.map x59)] ⟨rfl, rfl, rfl, trivial⟩
            refine W.region ?_
            refine OL.pure S (Lf.run_assign (S.ev rfl)) rfl rfl trivial ?_
            clear S; intro aa S
            refine OL.nil ?_
            refine W.block ?_
            obtain ⟨I, m, H, HB_1⟩ := H
            refine W.loopS (σ := Int) (fun s aa ww => St 108 [(0, Value.slice l0.a l0.n l0.c), (9, Value.map x57), (10, Value.map x59), (11, Value.int .i64 s)] h26 w0 aa ww ∧ I s) (fun s => m s) (0) ⟨S.sub _ ⟨rfl, rfl, rfl, rfl, trivial⟩, H⟩ ?_
            clear H S aa
            rintro i11 aa ww ⟨S, HI⟩
            replace S : St 108 [(0, Value.slice l0.a l0.n l0.c), (9, Value.map x57), (10, Value.map x59), (11, Value.int .i64 i11)] h26 w0 aa ww := S
            have H := HB_1 i11 HI
            clear HI
            refine W.seq ?_
            refine W.seq ?_
            replace S := S.sub [(0, Value.slice l0.a l0.n l0.c), (9, Value.map x57), (10, Value.map x59), (11, Value.int .i64 i11)] ⟨rfl, rfl, rfl, rfl, trivial⟩
            refine W.region ?_
            refine OL.pure S (Lf.run_move (S.ev rfl)) rfl rfl trivial ?_
            clear S; intro aa S
            refine OL.pure S (Lf.run_move (S.ev rfl)) rfl rfl trivial ?_
            clear S; intro aa S
            refine OL.pure S (Lf.run_lens (S.ev rfl) rfl Try.underlying31) rfl rfl trivial ?_
            clear S; intro aa S
            refine OL.pure S (Lf.run_lss (S.ev rfl) (S.ev rfl)) rfl rfl trivial ?_
            clear S; intro aa S
            refine OL.nil ?_
            refine W.cond S (b := (decide (i11 < ((l0.n : Nat) : Int)))) rfl (fun hb_4 => ?_) (fun hb_4 => ?_)
            · replace H := H.1 hb_4
              refine W.skip ?_
              refine W.seq ?_
              refine W.block ?_
              refine W.seq ?_
              replace S := S.sub [(0, Value.slice l0.a l0.n l0.c), (9, Value.map x57), (10, Value.map x59), (11, Value.int .i64 i11)] ⟨rfl, rfl, rfl, rfl, trivial⟩
              refine W.region ?_
              refine OL.pure S (Lf.run_move (S.ev rfl)) rfl rfl trivial ?_
              clear S; intro aa S
              refine OL.pure S (Lf.run_move (S.ev rfl)) rfl rfl trivial ?_
              clear S; intro aa S
              obtain ⟨q68, e_12, e_13, e_14, H⟩ := H
              refine OL.pure S (Lf.run_ixs (S.ev rfl) (S.ev rfl) Try.underlying31 ti39 e_12 e_13 e_14) rfl rfl trivial ?_
              clear S; intro aa S
              refine OL.pure S (Lf.run_fa (S.ev rfl) fa39_0) rfl rfl trivial ?_
              clear S; intro aa S
              obtain ⟨x70, c_15, H⟩ := H
              refine OL.pure S (Lf.run_ld (S.ev rfl) fl9 (S.cl c_15)) rfl rfl trivial ?_
              clear S; intro aa S
              refine OL.pure S (Lf.run_assign (S.ev rfl)) rfl rfl trivial ?_
              clear S; intro aa S
              refine OL.nil ?_
              refine W.seq ?_
              refine W.seq ?_
              replace S := S.sub [(0, Value.slice l0.a l0.n l0.c), (9, Value.map x57), (10, Value.map x59), (11, Value.int .i64 i11), (12, Value.string x70)] ⟨rfl, rfl, rfl, rfl, rfl, trivial⟩
              refine W.region ?_
              refine OL.pure S (Lf.run_move (S.ev rfl)) rfl rfl trivial ?_
              clear S; intro aa S
              refine OL.pure S (Lf.run_move (S.ev rfl)) rfl rfl trivial ?_
              clear S; intro aa S
              refine ol_lkS S H Try.underlying28 Try.underlying9 ti26 rfl rfl rfl trivial ?_
              clear S H aa; intro u_6 aa H S
              obtain ⟨x73, rfl, H⟩ := H
              refine OL.pure S (Lf.run_lens (S.ev rfl) rfl Try.underlying26) rfl rfl trivial ?_
              clear S; intro aa S
              refine OL.pure S (Lf.run_move (S.ev rfl)) rfl rfl trivial ?_
              clear S; intro aa S
              refine OL.pure S (Lf.run_move (S.ev rfl)) rfl rfl trivial ?_
              clear S; intro aa S
              refine ol_lkS S H Try.underlying28 Try.underlying9 ti26 rfl rfl rfl trivial ?_
              clear S H aa; intro u_7 aa H S
              obtain ⟨x77, rfl, H⟩ := H
              refine OL.pure S (Lf.run_lens (S.ev rfl) rfl Try.underlying26) rfl rfl trivial ?_
              clear S; intro aa S
              refine OL.pure S (Lf.run_neq (S.ev rfl) (S.ev rfl)) rfl rfl trivial ?_
              clear S; intro aa S
              refine OL.nil ?_
              refine W.cond S (b := (((x73.n : Nat) : Int) != ((x77.n : Nat) : Int))) rfl (fun hb_5 => ?_) (fun hb_5 => ?_)
              · replace H := H.1 hb_5
                refine W.seq ?_
                replace S := S.sub [] trivial
                refine W.region ?_
                refine OL.pure S (Lf.run_assign (S.ev rfl)) rfl rfl trivial ?_
                clear S; intro aa S
                refine OL.nil ?_
                refine W.ret ?_
                exact Ret.one S rfl rfl H
              · replace H := H.2 hb_5
                refine W.skip ?_
                refine W.seq ?_
                replace S := S.sub [(0, Value.slice l0.a l0.n l0.c), (9, Value.map x57), (10, Value.map x59), (11, Value.int .i64 i11), (12, Value.string x70)] ⟨rfl, rfl, rfl, rfl, rfl, trivial⟩
                refine W.region ?_
                refine OL.pure S (Lf.run_assign (S.ev rfl)) rfl rfl trivial ?_
                clear S; intro aa S
                refine OL.nil ?_
                refine W.block ?_
                obtain ⟨I_1, m_1, H, HB⟩ := H
                refine W.loopS (σ := Int) (fun s aa ww => St 108 [(0, Value.slice l0.a l0.n l0.c), (9, Value.map x57), (10, Value.map x59), (11, Value.int .i64 i11), (12, Value.string x70), (13, Value.int .i64 s)] h26 w0 aa ww ∧ I_1 s) (fun s => m_1 s) (0) ⟨S.sub _ ⟨rfl, rfl, rfl, rfl, rfl, rfl, trivial⟩, H⟩ ?_
                clear H S aa
                rintro j13 aa ww ⟨S, HI⟩
                replace S : St 108 [(0, Value.slice l0.a l0.n l0.c), (9, Value.map x57), (10, Value.map x59), (11, Value.int .i64 i11), (12, Value.string x70), (13, Value.int .i64 j13)] h26 w0 aa ww := S
                have H := HB j13 HI
                clear HI
                refine W.seq ?_
                refine W.seq ?_
                replace S := S.sub [(0, Value.slice l0.a l0.n l0.c), (9, Value.map x57), (10, Value.map x59), (11, Value.int .i64 i11), (12, Value.string x70), (13, Value.int .i64 j13)] ⟨rfl, rfl, rfl, rfl, rfl, rfl, trivial⟩
                refine W.region ?_
                refine OL.pure S (Lf.run_move (S.ev rfl)) rfl rfl trivial ?_
                clear S; intro aa S
                refine OL.pure S (Lf.run_move (S.ev rfl)) rfl rfl trivial ?_
                clear S; intro aa S
                refine OL.pure S (Lf.run_move (S.ev rfl)) rfl rfl trivial ?_
                clear S; intro aa S
                refine ol_lkS S H Try.underlying28 Try.underlying9 ti26 rfl rfl rfl trivial ?_
                clear S H aa; intro u_8 aa H S
                obtain ⟨x83, rfl, H⟩ := H
                refine OL.pure S (Lf.run_lens (S.ev rfl) rfl Try.underlying26) rfl rfl trivial ?_
                clear S; intro aa S
                refine OL.pure S (Lf.run_lss (S.ev rfl) (S.ev rfl)) rfl rfl trivial ?_
                clear S; intro aa S
                refine OL.nil ?_
                refine W.cond S (b := (decide (j13 < ((x83.n : Nat) : Int)))) rfl (fun hb_6 => ?_) (fun hb_6 => ?_)
                · replace H := H.1 hb_6
                  refine W.skip ?_
                  refine W.seq ?_
                  refine W.block ?_
                  refine W.seq ?_
                  replace S := S.sub [(0, Value.slice l0.a l0.n l0.c), (9, Value.map x57), (10, Value.map x59), (11, Value.int .i64 i11), (12, Value.string x70), (13, Value.int .i64 j13)] ⟨rfl, rfl, rfl, rfl, rfl, rfl, trivial⟩
                  obtain ⟨J_3, H, HK_3⟩ := H
                  refine W.mono (N' := fun aa ww => ∃ x107, St 108 [(0, Value.slice l0.a l0.n l0.c), (9, Value.map x57), (10, Value.map x59), (11, Value.int .i64 i11), (12, Value.string x70), (13, Value.int .i64 j13), (107, Value.bool x107)] h26 w0 aa ww ∧ J_3 x107) ?_ ?_
                  · obtain ⟨Sq_1, HS_1, H⟩ := H
                    refine W.regionN [5, 11, 18] [2, 8, 15] Sq_1 S (by kernel_rfl) ?_
                    clear S; intro ww S
                    refine BN.pure 0 S (fun _ => HS_1) rfl (by kernel_rfl) (by kernel_rfl) (fun _ => Lf.run_move (S.ev rfl)) rfl rfl trivial ?_
                    clear S; intro aa S
                    refine BN.pure 1 S (fun _ => HS_1) rfl (by kernel_rfl) (by kernel_rfl) (fun _ => Lf.run_move (S.ev rfl)) rfl rfl trivial ?_
                    clear S; intro aa S
                    refine BN.pure 3 S (fun _ => HS_1) rfl (by kernel_rfl) (by kernel_rfl) (fun _ => Lf.run_move (S.ev rfl)) rfl rfl trivial ?_
                    clear S; intro aa S
                    refine BN.pure 6 S (fun _ => HS_1) rfl (by kernel_rfl) (by kernel_rfl) (fun _ => Lf.run_move (S.ev rfl)) rfl rfl trivial ?_
                    clear S; intro aa S
                    refine BN.pure 7 S (fun _ => HS_1) rfl (by kernel_rfl) (by kernel_rfl) (fun _ => Lf.run_move (S.ev rfl)) rfl rfl trivial ?_
                    clear S; intro aa S
                    refine BN.pure 9 S (fun _ => HS_1) rfl (by kernel_rfl) (by kernel_rfl) (fun _ => Lf.run_move (S.ev rfl)) rfl rfl trivial ?_
                    clear S; intro aa S
                    refine BN.pure 13 S (fun _ => HS_1) rfl (by kernel_rfl) (by kernel_rfl) (fun _ => Lf.run_move (S.ev rfl)) rfl rfl trivial ?_
                    clear S; intro aa S
                    refine BN.pure 14 S (fun _ => HS_1) rfl (by kernel_rfl) (by kernel_rfl) (fun _ => Lf.run_move (S.ev rfl)) rfl rfl trivial ?_
                    clear S; intro aa S
                    refine BN.pure 16 S (fun _ => HS_1) rfl (by kernel_rfl) (by kernel_rfl) (fun _ => Lf.run_move (S.ev rfl)) rfl rfl trivial ?_
                    clear S; intro aa S
                    refine BN.effs [2, 8, 15] (by kernel_rfl) rfl ⟨⟨_, rfl, ?_⟩, ⟨_, rfl, ?_⟩, ⟨_, rfl, ?_⟩, trivial⟩
                    · replace H := H.1
                      refine ol_lkS S H Try.underlying28 Try.underlying9 ti26 rfl rfl rfl trivial ?_
                      clear S H aa; intro u_9 aa H S
                      obtain ⟨x90, rfl, H⟩ := H
                      refine OL.nil ?_
                      clear HS_1; obtain ⟨HS_1, H⟩ := H
                      refine ⟨fun _ => by rw [S.heap]; exact HS_1, ?_⟩
                      obtain ⟨q92, e_15, e_16, e_17, H⟩ := H
                      refine BN.pure 4 S (fun _ => HS_1) rfl (by kernel_rfl) (by kernel_rfl) (fun _ => Lf.run_ixs (S.ev rfl) (S.ev rfl) Try.underlying26 ti3 e_15 e_16 e_17) rfl rfl trivial ?_
                      clear S; intro aa S
                      obtain ⟨x93, c_16, H⟩ := H
                      refine BN.held 5 S HS_1 rfl (by kernel_rfl) (fun _ hq => Lf.run_ld (S.ev rfl) fl3 (c_16 _ hq)) rfl rfl trivial ?_
                      clear S; intro aa S
                      refine BN.effs [8, 15] (by kernel_rfl) rfl ⟨⟨_, rfl, ?_⟩, ⟨_, rfl, ?_⟩, trivial⟩
                      · replace H := H.1
                        refine ol_lkS S H Try.underlying28 Try.underlying9 ti26 rfl rfl rfl trivial ?_
                        clear S H aa; intro u_10 aa H S
                        obtain ⟨x96, rfl, H⟩ := H
                        refine OL.nil ?_
                        clear HS_1; obtain ⟨HS_1, H⟩ := H
                        refine ⟨fun _ => by rw [S.heap]; exact HS_1, ?_⟩
                        obtain ⟨q98, e_18, e_19, e_20, H⟩ := H
                        refine BN.pure 10 S (fun _ => HS_1) rfl (by kernel_rfl) (by kernel_rfl) (fun _ => Lf.run_ixs (S.ev rfl) (S.ev rfl) Try.underlying26 ti3 e_18 e_19 e_20) rfl rfl trivial ?_
                        clear S; intro aa S
                        obtain ⟨x99, c_17, H⟩ := H
                        refine BN.held 11 S HS_1 rfl (by kernel_rfl) (fun _ hq => Lf.run_ld (S.ev rfl) fl3 (c_17 _ hq)) rfl rfl trivial ?_
                        clear S; intro aa S
                        refine BN.pure 12 S (fun _ => HS_1) rfl (by kernel_rfl) (by kernel_rfl) (fun _ => Lf.run_bits (op := .or) (by simp) (S.ev rfl) (S.ev rfl)) rfl rfl trivial ?_
                        clear S; intro aa S
                        refine BN.eff 15 rfl (by kernel_rfl) ?_
                        refine ol_lkS S H Try.underlying28 Try.underlying9 ti26 rfl rfl rfl trivial ?_
                        clear S H aa; intro u_11 aa H S
                        obtain ⟨x103, rfl, H⟩ := H
                        refine OL.nil ?_
                        clear HS_1; obtain ⟨HS_1, H⟩ := H
                        refine ⟨fun _ => by rw [S.heap]; exact HS_1, ?_⟩
                        obtain ⟨q105, e_21, e_22, e_23, H⟩ := H
                        refine BN.pure 17 S (fun _ => HS_1) rfl (by kernel_rfl) (by kernel_rfl) (fun _ => Lf.run_ixs (S.ev rfl) (S.ev rfl) Try.underlying26 ti3 e_21 e_22 e_23) rfl rfl trivial ?_
                        clear S; intro aa S
                        obtain ⟨x106, c_18, H⟩ := H
                        refine BN.load 18 S (fun _ => HS_1) rfl (by kernel_rfl) (by kernel_rfl) (fun _ hx => Lf.run_ld (S.ev rfl) fl3 (hx.cell _ _ (S.cl c_18))) rfl rfl trivial ?_
                        clear S; intro aa S
                        refine BN.pure 19 S (fun _ => HS_1) rfl (by kernel_rfl) (by kernel_rfl) (fun _ => Lf.run_neq (S.ev rfl) (S.ev rfl)) rfl rfl trivial ?_
                        clear S; intro aa S
                        refine BN.done (by kernel_rfl) ?_
                        exact ⟨((bitsI .or .i64 x93 x99) != x106), S.sub _ ⟨rfl, rfl, rfl, rfl, rfl, rfl, rfl, trivial⟩, H⟩
                      · replace H := H.2
                        refine ol_lkS S H Try.underlying28 Try.underlying9 ti26 rfl rfl rfl trivial ?_
                        clear S H aa; intro u_12 aa H S
                        obtain ⟨x103_1, rfl, H⟩ := H
                        refine OL.nil ?_
                        clear HS_1; obtain ⟨HS_1, H⟩ := H
                        refine ⟨fun _ => by rw [S.heap]; exact HS_1, ?_⟩
                        obtain ⟨q105_1, e_24, e_25, e_26, H⟩ := H
                        refine BN.pure 17 S (fun _ => HS_1) rfl (by kernel_rfl) (by kernel_rfl) (fun _ => Lf.run_ixs (S.ev rfl) (S.ev rfl) Try.underlying26 ti3 e_24 e_25 e_26) rfl rfl trivial ?_
                        clear S; intro aa S
                        obtain ⟨x106_1, c_19, H⟩ := H
                        refine BN.held 18 S HS_1 rfl (by kernel_rfl) (fun _ hq => Lf.run_ld (S.ev rfl) fl3 (c_19 _ hq)) rfl rfl trivial ?_
                        clear S; intro aa S
                        refine BN.eff 8 rfl (by kernel_rfl) ?_
                        refine ol_lkS S H Try.underlying28 Try.underlying9 ti26 rfl rfl rfl trivial ?_
                        clear S H aa; intro u_13 aa H S
                        obtain ⟨x96_1, rfl, H⟩ := H
                        refine OL.nil ?_
                        clear HS_1; obtain ⟨HS_1, H⟩ := H
                        refine ⟨fun _ => by rw [S.heap]; exact HS_1, ?_⟩
                        obtain ⟨q98_1, e_27, e_28, e_29, H⟩ := H
                        refine BN.pure 10 S (fun _ => HS_1) rfl (by kernel_rfl) (by kernel_rfl) (fun _ => Lf.run_ixs (S.ev rfl) (S.ev rfl) Try.underlying26 ti3 e_27 e_28 e_29) rfl rfl trivial ?_
                        clear S; intro aa S
                        obtain ⟨x99_1, c_20, H⟩ := H
                        refine BN.load 11 S (fun _ => HS_1) rfl (by kernel_rfl) (by kernel_rfl) (fun _ hx => Lf.run_ld (S.ev rfl) fl3 (hx.cell _ _ (S.cl c_20))) rfl rfl trivial ?_
                        clear S; intro aa S
                        refine BN.pure 12 S (fun _ => HS_1) rfl (by kernel_rfl) (by kernel_rfl) (fun _ => Lf.run_bits (op := .or) (by simp) (S.ev rfl) (S.ev rfl)) rfl rfl trivial ?_
                        clear S; intro aa S
                        refine BN.pure 19 S (fun _ => HS_1) rfl (by kernel_rfl) (by kernel_rfl) (fun _ => Lf.run_neq (S.ev rfl) (S.ev rfl)) rfl rfl trivial ?_
                        clear S; intro aa S
                        refine BN.done (by kernel_rfl) ?_
                        exact ⟨((bitsI .or .i64 x93 x99_1) != x106_1), S.sub _ ⟨rfl, rfl, rfl, rfl, rfl, rfl, rfl, trivial⟩, H⟩
                    · replace H := H.2.1
                      refine ol_lkS S H Try.underlying28 Try.underlying9 ti26 rfl rfl rfl trivial ?_
                      clear S H aa; intro u_14 aa H S
                      obtain ⟨x96_2, rfl, H⟩ := H
                      refine OL.nil ?_
                      clear HS_1; obtain ⟨HS_1, H⟩ := H
                      refine ⟨fun _ => by rw [S.heap]; exact HS_1, ?_⟩
                      obtain ⟨q98_2, e_30, e_31, e_32, H⟩ := H
                      refine BN.pure 10 S (fun _ => HS_1) rfl (by kernel_rfl) (by kernel_rfl) (fun _ => Lf.run_ixs (S.ev rfl) (S.ev rfl) Try.underlying26 ti3 e_30 e_31 e_32) rfl rfl trivial ?_
                      clear S; intro aa S
                      obtain ⟨x99_2, c_21, H⟩ := H
                      refine BN.held 11 S HS_1 rfl (by kernel_rfl) (fun _ hq => Lf.run_ld (S.ev rfl) fl3 (c_21 _ hq)) rfl rfl trivial ?_
                      clear S; intro aa S
                      refine BN.effs [2, 15] (by kernel_rfl) rfl ⟨⟨_, rfl, ?_⟩, ⟨_, rfl, ?_⟩, trivial⟩
                      · replace H := H.1
                        refine ol_lkS S H Try.underlying28 Try.underlying9 ti26 rfl rfl rfl trivial ?_
                        clear S H aa; intro u_15 aa H S
                        obtain ⟨x90_1, rfl, H⟩ := H
                        refine OL.nil ?_
                        clear HS_1; obtain ⟨HS_1, H⟩ := H
                        refine ⟨fun _ => by rw [S.heap]; exact HS_1, ?_⟩
                        obtain ⟨q92_1, e_33, e_34, e_35, H⟩ := H
                        refine BN.pure 4 S (fun _ => HS_1) rfl (by kernel_rfl) (by kernel_rfl) (fun _ => Lf.run_ixs (S.ev rfl) (S.ev rfl) Try.underlying26 ti3 e_33 e_34 e_35) rfl rfl trivial ?_
                        clear S; intro aa S
                        obtain ⟨x93_1, c_22, H⟩ := H
                        refine BN.held 5 S HS_1 rfl (by kernel_rfl) (fun _ hq => Lf.run_ld (S.ev rfl) fl3 (c_22 _ hq)) rfl rfl trivial ?_
                        clear S; intro aa S
                        refine BN.pure 12 S (fun _ => HS_1) rfl (by kernel_rfl) (by kernel_rfl) (fun _ => Lf.run_bits (op := .or) (by simp) (S.ev rfl) (S.ev rfl)) rfl rfl trivial ?_
                        clear S; intro aa S
                        refine BN.eff 15 rfl (by kernel_rfl) ?_
                        refine ol_lkS S H Try.underlying28 Try.underlying9 ti26 rfl rfl rfl trivial ?_
                        clear S H aa; intro u_16 aa H S
                        obtain ⟨x103_2, rfl, H⟩ := H
                        refine OL.nil ?_
                        clear HS_1; obtain ⟨HS_1, H⟩ := H
                        refine ⟨fun _ => by rw [S.heap]; exact HS_1, ?_⟩
                        obtain ⟨q105_2, e_36, e_37, e_38, H⟩ := H
                        refine BN.pure 17 S (fun _ => HS_1) rfl (by kernel_rfl) (by kernel_rfl) (fun _ => Lf.run_ixs (S.ev rfl) (S.ev rfl) Try.underlying26 ti3 e_36 e_37 e_38) rfl rfl trivial ?_
                        clear S; intro aa S
                        obtain ⟨x106_2, c_23, H⟩ := H
                        refine BN.load 18 S (fun _ => HS_1) rfl (by kernel_rfl) (by kernel_rfl) (fun _ hx => Lf.run_ld (S.ev rfl) fl3 (hx.cell _ _ (S.cl c_23))) rfl rfl trivial ?_
                        clear S; intro aa S
                        refine BN.pure 19 S (fun _ => HS_1) rfl (by kernel_rfl) (by kernel_rfl) (fun _ => Lf.run_neq (S.ev rfl) (S.ev rfl)) rfl rfl trivial ?_
                        clear S; intro aa S
                        refine BN.done (by kernel_rfl) ?_
                        exact ⟨((bitsI .or .i64 x93_1 x99_2) != x106_2), S.sub _ ⟨rfl, rfl, rfl, rfl, rfl, rfl, rfl, trivial⟩, H⟩
                      · replace H := H.2
                        refine ol_lkS S H Try.underlying28 Try.underlying9 ti26 rfl rfl rfl trivial ?_
                        clear S H aa; intro u_17 aa H S
                        obtain ⟨x103_3, rfl, H⟩ := H
                        refine OL.nil ?_
                        clear HS_1; obtain ⟨HS_1, H⟩ := H
                        refine ⟨fun _ => by rw [S.heap]; exact HS_1, ?_⟩
                        obtain ⟨q105_3, e_39, e_40, e_41, H⟩ := H
                        refine BN.pure 17 S (fun _ => HS_1) rfl (by kernel_rfl) (by kernel_rfl) (fun _ => Lf.run_ixs (S.ev rfl) (S.ev rfl) Try.underlying26 ti3 e_39 e_40 e_41) rfl rfl trivial ?_
                        clear S; intro aa S
                        obtain ⟨x106_3, c_24, H⟩ := H
                        refine BN.held 18 S HS_1 rfl (by kernel_rfl) (fun _ hq => Lf.run_ld (S.ev rfl) fl3 (c_24 _ hq)) rfl rfl trivial ?_
                        clear S; intro aa S
                        refine BN.eff 2 rfl (by kernel_rfl) ?_
                        refine ol_lkS S H Try.underlying28 Try.underlying9 ti26 rfl rfl rfl trivial ?_
                        clear S H aa; intro u_18 aa H S
                        obtain ⟨x90_2, rfl, H⟩ := H
                        refine OL.nil ?_
                        clear HS_1; obtain ⟨HS_1, H⟩ := H
                        refine ⟨fun _ => by rw [S.heap]; exact HS_1, ?_⟩
                        obtain ⟨q92_2, e_42, e_43, e_44, H⟩ := H
                        refine BN.pure 4 S (fun _ => HS_1) rfl (by kernel_rfl) (by kernel_rfl) (fun _ => Lf.run_ixs (S.ev rfl) (S.ev rfl) Try.underlying26 ti3 e_42 e_43 e_44) rfl rfl trivial ?_
                        clear S; intro aa S
                        obtain ⟨x93_2, c_25, H⟩ := H
                        refine BN.load 5 S (fun _ => HS_1) rfl (by kernel_rfl) (by kernel_rfl) (fun _ hx => Lf.run_ld (S.ev rfl) fl3 (hx.cell _ _ (S.cl c_25))) rfl rfl trivial ?_
                        clear S; intro aa S
                        refine BN.pure 12 S (fun _ => HS_1) rfl (by kernel_rfl) (by kernel_rfl) (fun _ => Lf.run_bits (op := .or) (by simp) (S.ev rfl) (S.ev rfl)) rfl rfl trivial ?_
                        clear S; intro aa S
                        refine BN.pure 19 S (fun _ => HS_1) rfl (by kernel_rfl) (by kernel_rfl) (fun _ => Lf.run_neq (S.ev rfl) (S.ev rfl)) rfl rfl trivial ?_
                        clear S; intro aa S
                        refine BN.done (by kernel_rfl) ?_
                        exact ⟨((bitsI .or .i64 x93_2 x99_2) != x106_3), S.sub _ ⟨rfl, rfl, rfl, rfl, rfl, rfl, rfl, trivial⟩, H⟩
                    · replace H := H.2.2
                      refine ol_lkS S H Try.underlying28 Try.underlying9 ti26 rfl rfl rfl trivial ?_
                      clear S H aa; intro u_19 aa H S
                      obtain ⟨x103_4, rfl, H⟩ := H
                      refine OL.nil ?_
                      clear HS_1; obtain ⟨HS_1, H⟩ := H
                      refine ⟨fun _ => by rw [S.heap]; exact HS_1, ?_⟩
                      obtain ⟨q105_4, e_45, e_46, e_47, H⟩ := H
                      refine BN.pure 17 S (fun _ => HS_1) rfl (by kernel_rfl) (by kernel_rfl) (fun _ => Lf.run_ixs (S.ev rfl) (S.ev rfl) Try.underlying26 ti3 e_45 e_46 e_47) rfl rfl trivial ?_
                      clear S; intro aa S
                      obtain ⟨x106_4, c_26, H⟩ := H
                      refine BN.held 18 S HS_1 rfl (by kernel_rfl) (fun _ hq => Lf.run_ld (S.ev rfl) fl3 (c_26 _ hq)) rfl rfl trivial ?_
                      clear S; intro aa S
                      refine BN.effs [2, 8] (by kernel_rfl) rfl ⟨⟨_, rfl, ?_⟩, ⟨_, rfl, ?_⟩, trivial⟩
                      · replace H := H.1
                        refine ol_lkS S H Try.underlying28 Try.underlying9 ti26 rfl rfl rfl trivial ?_
                        clear S H aa; intro u_20 aa H S
                        obtain ⟨x90_3, rfl, H⟩ := H
                        refine OL.nil ?_
                        clear HS_1; obtain ⟨HS_1, H⟩ := H
                        refine ⟨fun _ => by rw [S.heap]; exact HS_1, ?_⟩
                        obtain ⟨q92_3, e_48, e_49, e_50, H⟩ := H
                        refine BN.pure 4 S (fun _ => HS_1) rfl (by kernel_rfl) (by kernel_rfl) (fun _ => Lf.run_ixs (S.ev rfl) (S.ev rfl) Try.underlying26 ti3 e_48 e_49 e_50) rfl rfl trivial ?_
                        clear S; intro aa S
                        obtain ⟨x93_3, c_27, H⟩ := H
                        refine BN.held 5 S HS_1 rfl (by kernel_rfl) (fun _ hq => Lf.run_ld (S.ev rfl) fl3 (c_27 _ hq)) rfl rfl trivial ?_
                        clear S; intro aa S
                        refine BN.eff 8 rfl (by kernel_rfl) ?_
                        refine ol_lkS S H Try.underlying28 Try.underlying9 ti26 rfl rfl rfl trivial ?_
                        clear S H aa; intro u_21 aa H S
                        obtain ⟨x96_3, rfl, H⟩ := H
                        refine OL.nil ?_
                        clear HS_1; obtain ⟨HS_1, H⟩ := H
                        refine ⟨fun _ => by rw [S.heap]; exact HS_1, ?_⟩
                        obtain ⟨q98_3, e_51, e_52, e_53, H⟩ := H
                        refine BN.pure 10 S (fun _ => HS_1) rfl (by kernel_rfl) (by kernel_rfl) (fun _ => Lf.run_ixs (S.ev rfl) (S.ev rfl) Try.underlying26 ti3 e_51 e_52 e_53) rfl rfl trivial ?_
                        clear S; intro aa S
                        obtain ⟨x99_3, c_28, H⟩ := H
                        refine BN.load 11 S (fun _ => HS_1) rfl (by kernel_rfl) (by kernel_rfl) (fun _ hx => Lf.run_ld (S.ev rfl) fl3 (hx.cell _ _ (S.cl c_28))) rfl rfl trivial ?_
                        clear S; intro aa S
                        refine BN.pure 12 S (fun _ => HS_1) rfl (by kernel_rfl) (by kernel_rfl) (fun _ => Lf.run_bits (op := .or) (by simp) (S.ev rfl) (S.ev rfl)) rfl rfl trivial ?_
                        clear S; intro aa S
                        refine BN.pure 19 S (fun _ => HS_1) rfl (by kernel_rfl) (by kernel_rfl) (fun _ => Lf.run_neq (S.ev rfl) (S.ev rfl)) rfl rfl trivial ?_
                        clear S; intro aa S
                        refine BN.done (by kernel_rfl) ?_
                        exact ⟨((bitsI .or .i64 x93_3 x99_3) != x106_4), S.sub _ ⟨rfl, rfl, rfl, rfl, rfl, rfl, rfl, trivial⟩, H⟩
                      · replace H := H.2
                        refine ol_lkS S H Try.underlying28 Try.underlying9 ti26 rfl rfl rfl trivial ?_
                        clear S H aa; intro u_22 aa H S
                        obtain ⟨x96_4, rfl, H⟩ := H
                        refine OL.nil ?_
                        clear HS_1; obtain ⟨HS_1, H⟩ := H
                        refine ⟨fun _ => by rw [S.heap]; exact HS_1, ?_⟩
                        obtain ⟨q98_4, e_54, e_55, e_56, H⟩ := H
                        refine BN.pure 10 S (fun _ => HS_1) rfl (by kernel_rfl) (by kernel_rfl) (fun _ => Lf.run_ixs (S.ev rfl) (S.ev rfl) Try.underlying26 ti3 e_54 e_55 e_56) rfl rfl trivial ?_
                        clear S; intro aa S
                        obtain ⟨x99_4, c_29, H⟩ := H
                        refine BN.held 11 S HS_1 rfl (by kernel_rfl) (fun _ hq => Lf.run_ld (S.ev rfl) fl3 (c_29 _ hq)) rfl rfl trivial ?_
                        clear S; intro aa S
                        refine BN.eff 2 rfl (by kernel_rfl) ?_
                        refine ol_lkS S H Try.underlying28 Try.underlying9 ti26 rfl rfl rfl trivial ?_
                        clear S H aa; intro u_23 aa H S
                        obtain ⟨x90_4, rfl, H⟩ := H
                        refine OL.nil ?_
                        clear HS_1; obtain ⟨HS_1, H⟩ := H
                        refine ⟨fun _ => by rw [S.heap]; exact HS_1, ?_⟩
                        obtain ⟨q92_4, e_57, e_58, e_59, H⟩ := H
                        refine BN.pure 4 S (fun _ => HS_1) rfl (by kernel_rfl) (by kernel_rfl) (fun _ => Lf.run_ixs (S.ev rfl) (S.ev rfl) Try.underlying26 ti3 e_57 e_58 e_59) rfl rfl trivial ?_
                        clear S; intro aa S
                        obtain ⟨x93_4, c_30, H⟩ := H
                        refine BN.load 5 S (fun _ => HS_1) rfl (by kernel_rfl) (by kernel_rfl) (fun _ hx => Lf.run_ld (S.ev rfl) fl3 (hx.cell _ _ (S.cl c_30))) rfl rfl trivial ?_
                        clear S; intro aa S
                        refine BN.pure 12 S (fun _ => HS_1) rfl (by kernel_rfl) (by kernel_rfl) (fun _ => Lf.run_bits (op := .or) (by simp) (S.ev rfl) (S.ev rfl)) rfl rfl trivial ?_
                        clear S; intro aa S
                        refine BN.pure 19 S (fun _ => HS_1) rfl (by kernel_rfl) (by kernel_rfl) (fun _ => Lf.run_neq (S.ev rfl) (S.ev rfl)) rfl rfl trivial ?_
                        clear S; intro aa S
                        refine BN.done (by kernel_rfl) ?_
                        exact ⟨((bitsI .or .i64 x93_4 x99_4) != x106_4), S.sub _ ⟨rfl, rfl, rfl, rfl, rfl, rfl, rfl, trivial⟩, H⟩
                  · clear H S aa
                    rintro aa ww ⟨x107, S, HJ⟩
                    have H := HK_3 _ HJ
                    clear HK_3 HJ
                    refine W.cond S (b := x107) rfl (fun hb_7 => ?_) (fun hb_7 => ?_)
                    · replace H := H.1 hb_7
                      refine W.seq ?_
                      replace S := S.sub [] trivial
                      refine W.region ?_
                      refine OL.pure S (Lf.run_assign (S.ev rfl)) rfl rfl trivial ?_
                      clear S; intro aa S
                      refine OL.nil ?_
                      refine W.ret ?_
                      exact Ret.one S rfl rfl H
                    · replace H := H.2 hb_7
                      refine W.skip ?_
                      replace S := S.sub [(0, Value.slice l0.a l0.n l0.c), (9, Value.map x57), (10, Value.map x59), (11, Value.int .i64 i11), (12, Value.string x70), (13, Value.int .i64 j13)] ⟨rfl, rfl, rfl, rfl, rfl, rfl, trivial⟩
                      refine W.region ?_
                      refine OL.pure S (Lf.run_move (S.ev rfl)) rfl rfl trivial ?_
                      clear S; intro aa S
                      refine OL.pure S (Lf.run_add (S.ev rfl) (S.ev rfl)) rfl rfl trivial ?_
                      clear S; intro aa S
                      refine OL.pure S (Lf.run_assign (S.ev rfl)) rfl rfl trivial ?_
                      clear S; intro aa S
                      refine OL.nil ?_
                      exact ⟨((IntKind.i64.wrap (j13 + 1))), ⟨S.sub _ ⟨rfl, rfl, rfl, rfl, rfl, rfl, trivial⟩, H.1⟩, H.2⟩
                · replace H := H.2 hb_6
                  refine W.exit_ ?_
                  refine xhit ?_
                  replace S := S.sub [(0, Value.slice l0.a l0.n l0.c), (9, Value.map x57), (10, Value.map x59), (11, Value.int .i64 i11)] ⟨rfl, rfl, rfl, rfl, trivial⟩
                  refine W.region ?_
                  refine OL.pure S (Lf.run_move (S.ev rfl)) rfl rfl trivial ?_
                  clear S; intro aa S
                  refine OL.pure S (Lf.run_add (S.ev rfl) (S.ev rfl)) rfl rfl trivial ?_
                  clear S; intro aa S
                  refine OL.pure S (Lf.run_assign (S.ev rfl)) rfl rfl trivial ?_
                  clear S; intro aa S
                  refine OL.nil ?_
                  exact ⟨((IntKind.i64.wrap (i11 + 1))), ⟨S.sub _ ⟨rfl, rfl, rfl, rfl, trivial⟩, H.1⟩, H.2⟩
            · replace H := H.2 hb_4
              refine W.exit_ ?_
              refine xhit ?_
              refine W.seq ?_
              replace S := S.sub [] trivial
              refine W.region ?_
              refine OL.pure S (Lf.run_assign (S.ev rfl)) rfl rfl trivial ?_
              clear S; intro aa S
              refine OL.nil ?_
              refine W.ret ?_
              exact Ret.one S rfl rfl H

/-- chattel chattellaw08.varied -/
def L6  (h : Heap) (R : Value → Heap → Prop) : Prop :=
  newS 34 #[Value.int .i64 1, Value.string (⟨#[]⟩ : ByteArray), Value.bool false, Value.int .i64 0, Value.slice (⟨none, 0, 0⟩ : Sv).a (⟨none, 0, 0⟩ : Sv).n (⟨none, 0, 0⟩ : Sv).c, Value.slice (⟨none, 0, 0⟩ : Sv).a (⟨none, 0, 0⟩ : Sv).n (⟨none, 0, 0⟩ : Sv).c] 1 h fun s3 h1 =>
  newS 34 #[Value.int .i64 7, Value.string (⟨#[]⟩ : ByteArray), Value.bool false, Value.int .i64 2, Value.slice (⟨none, 0, 0⟩ : Sv).a (⟨none, 0, 0⟩ : Sv).n (⟨none, 0, 0⟩ : Sv).c, Value.slice s3.a s3.n s3.c] 1 h1 fun s5 h2 =>
  new 34 #[Value.int .i64 0, Value.string (⟨#[]⟩ : ByteArray), Value.bool false, Value.int .i64 0, Value.slice (⟨none, 0, 0⟩ : Sv).a (⟨none, 0, 0⟩ : Sv).n (⟨none, 0, 0⟩ : Sv).c, Value.slice (⟨none, 0, 0⟩ : Sv).a (⟨none, 0, 0⟩ : Sv).n (⟨none, 0, 0⟩ : Sv).c] h2 fun p1 h3 =>
  stoA h3 p1 [Value.int .i64 7, Value.string (⟨#[]⟩ : ByteArray), Value.bool true, Value.int .i64 1, Value.slice (⟨none, 0, 0⟩ : Sv).a (⟨none, 0, 0⟩ : Sv).n (⟨none, 0, 0⟩ : Sv).c, Value.slice s5.a s5.n s5.c] fun h4 =>
  ∃ (y7 : Int) (y7_1 : ByteArray) (y7_2 : Bool) (y7_3 : Int) (y7_4 : Sv) (y7_5 : Sv), cl h4 p1 = some (Value.int .i64 y7) ∧ cl h4 (p1.add 1) = some (Value.string y7_1) ∧ cl h4 (p1.add 2) = some (Value.bool y7_2) ∧ cl h4 (p1.add 3) = some (Value.int .i64 y7_3) ∧ cl h4 (p1.add 4) = some (Value.slice y7_4.a y7_4.n y7_4.c) ∧ cl h4 (p1.add 5) = some (Value.slice y7_5.a y7_5.n y7_5.c) ∧
  newS 34 #[Value.int .i64 y7, Value.string y7_1, Value.bool y7_2, Value.int .i64 y7_3, Value.slice y7_4.a y7_4.n y7_4.c, Value.slice y7_5.a y7_5.n y7_5.c] 1 h4 fun s8 h5 =>
  newS 39 #[Value.string (⟨#[83]⟩ : ByteArray), Value.int .i64 2, Value.slice (⟨none, 0, 0⟩ : Sv).a (⟨none, 0, 0⟩ : Sv).n (⟨none, 0, 0⟩ : Sv).c, Value.slice s8.a s8.n s8.c] 1 h5 fun s10 h6 =>
  cal Try.prog 12 #[Value.slice s10.a s10.n s10.c] h6 fun u h7 => asM u fun x11 =>
  lkS h7 (Value.map x11) (⟨#[83]⟩ : ByteArray) (Value.slice (⟨none, 0, 0⟩ : Sv).a (⟨none, 0, 0⟩ : Sv).n (⟨none, 0, 0⟩ : Sv).c) fun u_1 => asS u_1 fun x12 =>
  newS 3 #[Value.int .i64 1, Value.int .i64 3] 2 h7 fun s13 h8 =>
  cal Try.prog 13 #[Value.slice x12.a x12.n x12.c, Value.slice s13.a s13.n s13.c] h8 fun u_2 h9 => asB u_2 fun x14 =>
  R (Value.bool x14) h9

set_option maxRecDepth 100000 in

theorem F6 {h : _} {R : Value → Heap → Prop} (H : L6 h R) : CallsH Try.prog 6 #[] h R := by
  refine CallsH.enter (n := 15) Try.func6 rfl rfl rfl rfl ?_
  intro w0 aa ww S
  unfold L6 at H
  refine W.seq ?_
  replace S := S.sub [] trivial
  refine W.region ?_
  refine OL.pure S (Lf.run_assign (S.ev rfl)) rfl rfl trivial ?_
  clear S; intro aa S
  refine OL.nil ?_
  refine W.seq ?_
  replace S := S.sub [] trivial
  refine W.region ?_
  refine OL.pure S (Lf.run_build (cs := #[Value.int .i64 1, Value.string (⟨#[]⟩ : ByteArray), Value.bool false, Value.int .i64 0, Value.slice (⟨none, 0, 0⟩ : Sv).a (⟨none, 0, 0⟩ : Sv).n (⟨none, 0, 0⟩ : Sv).c, Value.slice (⟨none, 0, 0⟩ : Sv).a (⟨none, 0, 0⟩ : Sv).n (⟨none, 0, 0⟩ : Sv).c]) pl34 ti34 (parts_map S rfl) (by kernel_rfl)) rfl rfl trivial ?_
  clear S; intro aa S
  refine ol_newS S H Try.underlying32 ti34 (by decide) (parts_map S rfl) (by kernel_rfl) (by decide) rfl trivial ?_
  clear S H aa; intro s3 aa ww h1 H S
  refine OL.pure S (Lf.run_build (cs := #[Value.int .i64 7, Value.string (⟨#[]⟩ : ByteArray), Value.bool false, Value.int .i64 2, Value.slice (⟨none, 0, 0⟩ : Sv).a (⟨none, 0, 0⟩ : Sv).n (⟨none, 0, 0⟩ : Sv).c, Value.slice s3.a s3.n s3.c]) pl34 ti34 (parts_map S rfl) (by kernel_rfl)) rfl rfl trivial ?_
  clear S; intro aa S
  refine ol_newS S H Try.underlying32 ti34 (by decide) (parts_map S rfl) (by kernel_rfl) (by decide) rfl trivial ?_
  clear S H aa; intro s5 aa ww h2 H S
  refine OL.pure S (Lf.run_build (cs := #[Value.int .i64 7, Value.string (⟨#[]⟩ : ByteArray), Value.bool true, Value.int .i64 1, Value.slice (⟨none, 0, 0⟩ : Sv).a (⟨none, 0, 0⟩ : Sv).n (⟨none, 0, 0⟩ : Sv).c, Value.slice s5.a s5.n s5.c]) pl34 ti34 (parts_map S rfl) (by kernel_rfl)) rfl rfl trivial ?_
  clear S; intro aa S
  refine ol_alloc S H ti34 rfl rfl trivial ?_
  clear S H aa; intro p1 aa ww h3 H S
  refine ol_stoA S H rfl rfl ti34 trivial ?_
  clear S H aa; intro aa ww h4 H S
  refine OL.nil ?_
  refine W.seq ?_
  replace S := S.sub [(1, Value.pointer (some p1))] ⟨rfl, trivial⟩
  refine W.region ?_
  obtain ⟨y7, y7_1, y7_2, y7_3, y7_4, y7_5, c_1, c_2, c_3, c_4, c_5, c_6, H⟩ := H
  refine OL.pure S (Lf.run_ldA (cs := [Value.int .i64 y7, Value.string y7_1, Value.bool y7_2, Value.int .i64 y7_3, Value.slice y7_4.a y7_4.n y7_4.c, Value.slice y7_5.a y7_5.n y7_5.c]) (S.ev rfl) ag34 ti34 (by rw [S.heap]; exact RowL.toRow ⟨c_1, c_2, c_3, c_4, c_5, c_6, trivial⟩)) rfl rfl trivial ?_
  clear S; intro aa S
  refine ol_newS S H Try.underlying32 ti34 (by decide) (parts_map S rfl) (by kernel_rfl) (by decide) rfl trivial ?_
  clear S H aa; intro s8 aa ww h5 H S
  refine OL.pure S (Lf.run_build (cs := #[Value.string (⟨#[83]⟩ : ByteArray), Value.int .i64 2, Value.slice (⟨none, 0, 0⟩ : Sv).a (⟨none, 0, 0⟩ : Sv).n (⟨none, 0, 0⟩ : Sv).c, Value.slice s8.a s8.n s8.c]) pl39 ti39 (parts_map S rfl) (by kernel_rfl)) rfl rfl trivial ?_
  clear S; intro aa S
  refine ol_newS S H Try.underlying31 ti39 (by decide) (parts_map S rfl) (by kernel_rfl) (by decide) rfl trivial ?_
  clear S H aa; intro s10 aa ww h6 H S
  refine ol_cal S H isfn12 rfl rfl trivial ?_
  clear S H aa; intro u aa ww h7 H S
  obtain ⟨x11, rfl, H⟩ := H
  refine ol_lkS S H Try.underlying28 Try.underlying9 ti26 rfl rfl rfl trivial ?_
  clear S H aa; intro u_1 aa H S
  obtain ⟨x12, rfl, H⟩ := H
  refine ol_newS S H Try.underlying26 ti3 (by decide) (parts_map S rfl) (by kernel_rfl) (by decide) rfl trivial ?_
  clear S H aa; intro s13 aa ww h8 H S
  refine ol_cal S H isfn13 rfl rfl trivial ?_
  clear S H aa; intro u_2 aa ww h9 H S
  obtain ⟨x14, rfl, H⟩ := H
  refine OL.pure S (Lf.run_assign (S.ev rfl)) rfl rfl trivial ?_
  clear S; intro aa S
  refine OL.nil ?_
  refine W.ret ?_
  exact Ret.one S rfl rfl H

/-- chattel vary.Through -/
def L7 (outer0 : Int) (inner1 : Int) (h : Heap) (R : Value → Heap → Prop) : Prop :=
  ifb ((outer0 == 0) || (inner1 == 0)) (
    R (Value.int .i64 0) h) (
    ifb (outer0 == 1) (
      R (Value.int .i64 (bitsI .and .i64 inner1 3)) h) (
      ifb ((outer0 == 3) || (inner1 == 3)) (
        R (Value.int .i64 3) h) (
        ifb (outer0 == inner1) (
          R (Value.int .i64 1) h) (
          R (Value.int .i64 2) h))))

set_option maxRecDepth 100000 in

theorem F7 {outer0 inner1 h : _} {R : Value → Heap → Prop} (H : L7 outer0 inner1 h R) : CallsH Try.prog 7 #[Value.int .i64 outer0, Value.int .i64 inner1] h R := by
  refine CallsH.enter (n := 28) Try.func7 rfl rfl rfl rfl ?_
  intro w0 aa ww S
  unfold L7 at H
  refine W.seq ?_
  replace S := S.sub [(0, Value.int .i64 outer0), (1, Value.int .i64 inner1)] ⟨rfl, rfl, trivial⟩
  refine W.region ?_
  refine OL.pure S (Lf.run_assign (S.ev rfl)) rfl rfl trivial ?_
  clear S; intro aa S
  refine OL.nil ?_
  refine W.seq ?_
  refine W.block ?_
  refine W.seq ?_
  replace S := S.sub [(0, Value.int .i64 outer0), (1, Value.int .i64 inner1)] ⟨rfl, rfl, trivial⟩
  refine W.region ?_
  refine OL.pure S (Lf.run_move (S.ev rfl)) rfl rfl trivial ?_
  clear S; intro aa S
  refine OL.pure S (Lf.run_eql (S.ev rfl) (S.ev rfl)) rfl rfl trivial ?_
  clear S; intro aa S
  refine OL.pure S (Lf.run_move (S.ev rfl)) rfl rfl trivial ?_
  clear S; intro aa S
  refine OL.cutN 3 (fun aa ww => St 28 ((11, Value.bool ((outer0 == 0) || (inner1 == 0))) :: [(0, Value.int .i64 outer0), (1, Value.int .i64 inner1), (6, Value.int .i64 outer0), (7, Value.bool (outer0 == 0)), (8, Value.bool (outer0 == 0))]) h w0 aa ww) ?_ ?_
  · rcases Bool.eq_false_or_eq_true (outer0 == 0) with hb | hb
    · refine OL.not S rfl rfl (GNo.mk rfl rfl hb) ?_
      clear S; intro aa S
      refine OL.not S rfl rfl (GNo.mk rfl rfl hb) ?_
      clear S; intro aa S
      refine OL.pure S (Lf.run_pickT (S.ev rfl) hb (S.ev rfl)) rfl rfl trivial ?_
      clear S; intro aa S
      refine OL.nil ?_
      exact (S.hd (by rw [hb, Bool.true_or])).sub _ ⟨rfl, rfl, rfl, rfl, rfl, rfl, trivial⟩
    · refine OL.pure S (Lf.run_move (S.ev rfl)) rfl rfl (GOk.mk rfl rfl hb) ?_
      clear S; intro aa S
      refine OL.pure S (Lf.run_eql (S.ev rfl) (S.ev rfl)) rfl rfl (GOk.mk rfl rfl hb) ?_
      clear S; intro aa S
      refine OL.pure S (Lf.run_pickF (S.ev rfl) hb (S.ev rfl)) rfl rfl trivial ?_
      clear S; intro aa S
      refine OL.nil ?_
      exact (S.hd (by rw [hb, Bool.false_or])).sub _ ⟨rfl, rfl, rfl, rfl, rfl, rfl, trivial⟩
  · clear S aa
    intro aa ww S
    refine OL.pure S (Lf.run_assign (S.ev rfl)) rfl rfl trivial ?_
    clear S; intro aa S
    refine OL.nil ?_
    refine W.cond S (b := ((outer0 == 0) || (inner1 == 0))) rfl (fun hb_1 => ?_) (fun hb_1 => ?_)
    · replace H := H.1 hb_1
      refine W.seq ?_
      replace S := S.sub [] trivial
      refine W.region ?_
      refine OL.pure S (Lf.run_assign (S.ev rfl)) rfl rfl trivial ?_
      clear S; intro aa S
      refine OL.nil ?_
      refine W.ret ?_
      exact Ret.one S rfl rfl H
    · replace H := H.2 hb_1
      refine W.seq ?_
      replace S := S.sub [(0, Value.int .i64 outer0), (1, Value.int .i64 inner1)] ⟨rfl, rfl, trivial⟩
      refine W.region ?_
      refine OL.pure S (Lf.run_move (S.ev rfl)) rfl rfl trivial ?_
      clear S; intro aa S
      refine OL.pure S (Lf.run_eql (S.ev rfl) (S.ev rfl)) rfl rfl trivial ?_
      clear S; intro aa S
      refine OL.pure S (Lf.run_assign (S.ev rfl)) rfl rfl trivial ?_
      clear S; intro aa S
      refine OL.nil ?_
      refine W.cond S (b := (outer0 == 1)) rfl (fun hb_2 => ?_) (fun hb_2 => ?_)
      · replace H := H.1 hb_2
        refine W.seq ?_
        replace S := S.sub [(1, Value.int .i64 inner1)] ⟨rfl, trivial⟩
        refine W.region ?_
        refine OL.pure S (Lf.run_move (S.ev rfl)) rfl rfl trivial ?_
        clear S; intro aa S
        refine OL.pure S (Lf.run_bits (op := .and) (by simp) (S.ev rfl) (S.ev rfl)) rfl rfl trivial ?_
        clear S; intro aa S
        refine OL.pure S (Lf.run_assign (S.ev rfl)) rfl rfl trivial ?_
        clear S; intro aa S
        refine OL.nil ?_
        refine W.ret ?_
        exact Ret.one S rfl rfl H
      · replace H := H.2 hb_2
        refine W.seq ?_
        replace S := S.sub [(0, Value.int .i64 outer0), (1, Value.int .i64 inner1)] ⟨rfl, rfl, trivial⟩
        refine W.region ?_
        refine OL.pure S (Lf.run_move (S.ev rfl)) rfl rfl trivial ?_
        clear S; intro aa S
        refine OL.pure S (Lf.run_eql (S.ev rfl) (S.ev rfl)) rfl rfl trivial ?_
        clear S; intro aa S
        refine OL.pure S (Lf.run_move (S.ev rfl)) rfl rfl trivial ?_
        clear S; intro aa S
        refine OL.cutN 3 (fun aa ww => St 28 ((23, Value.bool ((outer0 == 3) || (inner1 == 3))) :: [(0, Value.int .i64 outer0), (1, Value.int .i64 inner1), (18, Value.int .i64 outer0), (19, Value.bool (outer0 == 3)), (20, Value.bool (outer0 == 3))]) h w0 aa ww) ?_ ?_
        · rcases Bool.eq_false_or_eq_true (outer0 == 3) with hb_3 | hb_3
          · refine OL.not S rfl rfl (GNo.mk rfl rfl hb_3) ?_
            clear S; intro aa S
            refine OL.not S rfl rfl (GNo.mk rfl rfl hb_3) ?_
            clear S; intro aa S
            refine OL.pure S (Lf.run_pickT (S.ev rfl) hb_3 (S.ev rfl)) rfl rfl trivial ?_
            clear S; intro aa S
            refine OL.nil ?_
            exact (S.hd (by rw [hb_3, Bool.true_or])).sub _ ⟨rfl, rfl, rfl, rfl, rfl, rfl, trivial⟩
          · refine OL.pure S (Lf.run_move (S.ev rfl)) rfl rfl (GOk.mk rfl rfl hb_3) ?_
            clear S; intro aa S
            refine OL.pure S (Lf.run_eql (S.ev rfl) (S.ev rfl)) rfl rfl (GOk.mk rfl rfl hb_3) ?_
            clear S; intro aa S
            refine OL.pure S (Lf.run_pickF (S.ev rfl) hb_3 (S.ev rfl)) rfl rfl trivial ?_
            clear S; intro aa S
            refine OL.nil ?_
            exact (S.hd (by rw [hb_3, Bool.false_or])).sub _ ⟨rfl, rfl, rfl, rfl, rfl, rfl, trivial⟩
        · clear S aa
          intro aa ww S
          refine OL.pure S (Lf.run_assign (S.ev rfl)) rfl rfl trivial ?_
          clear S; intro aa S
          refine OL.nil ?_
          refine W.cond S (b := ((outer0 == 3) || (inner1 == 3))) rfl (fun hb_4 => ?_) (fun hb_4 => ?_)
          · replace H := H.1 hb_4
            refine W.seq ?_
            replace S := S.sub [] trivial
            refine W.region ?_
            refine OL.pure S (Lf.run_assign (S.ev rfl)) rfl rfl trivial ?_
            clear S; intro aa S
            refine OL.nil ?_
            refine W.ret ?_
            exact Ret.one S rfl rfl H
          · replace H := H.2 hb_4
            refine W.seq ?_
            replace S := S.sub [(0, Value.int .i64 outer0), (1, Value.int .i64 inner1)] ⟨rfl, rfl, trivial⟩
            refine W.region ?_
            refine OL.pure S (Lf.run_move (S.ev rfl)) rfl rfl trivial ?_
            clear S; intro aa S
            refine OL.pure S (Lf.run_move (S.ev rfl)) rfl rfl trivial ?_
            clear S; intro aa S
            refine OL.pure S (Lf.run_eql (S.ev rfl) (S.ev rfl)) rfl rfl trivial ?_
            clear S; intro aa S
            refine OL.pure S (Lf.run_assign (S.ev rfl)) rfl rfl trivial ?_
            clear S; intro aa S
            refine OL.nil ?_
            refine W.cond S (b := (outer0 == inner1)) rfl (fun hb_5 => ?_) (fun hb_5 => ?_)
            · replace H := H.1 hb_5
              refine W.seq ?_
              replace S := S.sub [] trivial
              refine W.region ?_
              refine OL.pure S (Lf.run_assign (S.ev rfl)) rfl rfl trivial ?_
              clear S; intro aa S
              refine OL.nil ?_
              refine W.ret ?_
              exact Ret.one S rfl rfl H
            · replace H := H.2 hb_5
              refine W.skip ?_
              refine W.seq ?_
              replace S := S.sub [] trivial
              refine W.region ?_
              refine OL.pure S (Lf.run_assign (S.ev rfl)) rfl rfl trivial ?_
              clear S; intro aa S
              refine OL.nil ?_
              refine W.ret ?_
              exact Ret.one S rfl rfl H

/-- chattel chattelref08.Through -/
def L8 (a0 : Int) (b1 : Int) (h : Heap) (R : Value → Heap → Prop) : Prop :=
  ifb ((a0 == 0) || (b1 == 0)) (
    R (Value.int .i64 0) h) (
    ifb (a0 == 1) (
      R (Value.int .i64 b1) h) (
      ifb ((a0 == 3) || (b1 == 3)) (
        R (Value.int .i64 3) h) (
        ifb (a0 == b1) (
          R (Value.int .i64 1) h) (
          R (Value.int .i64 2) h))))

set_option maxRecDepth 100000 in

theorem F8 {a0 b1 h : _} {R : Value → Heap → Prop} (H : L8 a0 b1 h R) : CallsH Try.prog 8 #[Value.int .i64 a0, Value.int .i64 b1] h R := by
  refine CallsH.enter (n := 23) Try.func8 rfl rfl rfl rfl ?_
  intro w0 aa ww S
  unfold L8 at H
  refine W.seq ?_
  replace S := S.sub [(0, Value.int .i64 a0), (1, Value.int .i64 b1)] ⟨rfl, rfl, trivial⟩
  refine W.region ?_
  refine OL.pure S (Lf.run_assign (S.ev rfl)) rfl rfl trivial ?_
  clear S; intro aa S
  refine OL.nil ?_
  refine W.seq ?_
  refine W.seq ?_
  replace S := S.sub [(0, Value.int .i64 a0), (1, Value.int .i64 b1)] ⟨rfl, rfl, trivial⟩
  refine W.region ?_
  refine OL.pure S (Lf.run_move (S.ev rfl)) rfl rfl trivial ?_
  clear S; intro aa S
  refine OL.pure S (Lf.run_eql (S.ev rfl) (S.ev rfl)) rfl rfl trivial ?_
  clear S; intro aa S
  refine OL.pure S (Lf.run_move (S.ev rfl)) rfl rfl trivial ?_
  clear S; intro aa S
  refine OL.cutN 3 (fun aa ww => St 23 ((10, Value.bool ((a0 == 0) || (b1 == 0))) :: [(0, Value.int .i64 a0), (1, Value.int .i64 b1), (5, Value.int .i64 a0), (6, Value.bool (a0 == 0)), (7, Value.bool (a0 == 0))]) h w0 aa ww) ?_ ?_
  · rcases Bool.eq_false_or_eq_true (a0 == 0) with hb | hb
    · refine OL.not S rfl rfl (GNo.mk rfl rfl hb) ?_
      clear S; intro aa S
      refine OL.not S rfl rfl (GNo.mk rfl rfl hb) ?_
      clear S; intro aa S
      refine OL.pure S (Lf.run_pickT (S.ev rfl) hb (S.ev rfl)) rfl rfl trivial ?_
      clear S; intro aa S
      refine OL.nil ?_
      exact (S.hd (by rw [hb, Bool.true_or])).sub _ ⟨rfl, rfl, rfl, rfl, rfl, rfl, trivial⟩
    · refine OL.pure S (Lf.run_move (S.ev rfl)) rfl rfl (GOk.mk rfl rfl hb) ?_
      clear S; intro aa S
      refine OL.pure S (Lf.run_eql (S.ev rfl) (S.ev rfl)) rfl rfl (GOk.mk rfl rfl hb) ?_
      clear S; intro aa S
      refine OL.pure S (Lf.run_pickF (S.ev rfl) hb (S.ev rfl)) rfl rfl trivial ?_
      clear S; intro aa S
      refine OL.nil ?_
      exact (S.hd (by rw [hb, Bool.false_or])).sub _ ⟨rfl, rfl, rfl, rfl, rfl, rfl, trivial⟩
  · clear S aa
    intro aa ww S
    refine OL.nil ?_
    refine W.cond S (b := ((a0 == 0) || (b1 == 0))) rfl (fun hb_1 => ?_) (fun hb_1 => ?_)
    · replace H := H.1 hb_1
      refine W.seq ?_
      replace S := S.sub [] trivial
      refine W.region ?_
      refine OL.pure S (Lf.run_assign (S.ev rfl)) rfl rfl trivial ?_
      clear S; intro aa S
      refine OL.nil ?_
      refine W.ret ?_
      exact Ret.one S rfl rfl H
    · replace H := H.2 hb_1
      refine W.skip ?_
      refine W.seq ?_
      refine W.seq ?_
      replace S := S.sub [(0, Value.int .i64 a0), (1, Value.int .i64 b1)] ⟨rfl, rfl, trivial⟩
      refine W.region ?_
      refine OL.pure S (Lf.run_move (S.ev rfl)) rfl rfl trivial ?_
      clear S; intro aa S
      refine OL.pure S (Lf.run_eql (S.ev rfl) (S.ev rfl)) rfl rfl trivial ?_
      clear S; intro aa S
      refine OL.nil ?_
      refine W.cond S (b := (a0 == 1)) rfl (fun hb_2 => ?_) (fun hb_2 => ?_)
      · replace H := H.1 hb_2
        refine W.seq ?_
        replace S := S.sub [(1, Value.int .i64 b1)] ⟨rfl, trivial⟩
        refine W.region ?_
        refine OL.pure S (Lf.run_move (S.ev rfl)) rfl rfl trivial ?_
        clear S; intro aa S
        refine OL.pure S (Lf.run_assign (S.ev rfl)) rfl rfl trivial ?_
        clear S; intro aa S
        refine OL.nil ?_
        refine W.ret ?_
        exact Ret.one S rfl rfl H
      · replace H := H.2 hb_2
        refine W.skip ?_
        refine W.seq ?_
        refine W.seq ?_
        replace S := S.sub [(0, Value.int .i64 a0), (1, Value.int .i64 b1)] ⟨rfl, rfl, trivial⟩
        refine W.region ?_
        refine OL.pure S (Lf.run_move (S.ev rfl)) rfl rfl trivial ?_
        clear S; intro aa S
        refine OL.pure S (Lf.run_eql (S.ev rfl) (S.ev rfl)) rfl rfl trivial ?_
        clear S; intro aa S
        refine OL.pure S (Lf.run_move (S.ev rfl)) rfl rfl trivial ?_
        clear S; intro aa S
        refine OL.cutN 3 (fun aa ww => St 23 ((19, Value.bool ((a0 == 3) || (b1 == 3))) :: [(0, Value.int .i64 a0), (1, Value.int .i64 b1), (14, Value.int .i64 a0), (15, Value.bool (a0 == 3)), (16, Value.bool (a0 == 3))]) h w0 aa ww) ?_ ?_
        · rcases Bool.eq_false_or_eq_true (a0 == 3) with hb_3 | hb_3
          · refine OL.not S rfl rfl (GNo.mk rfl rfl hb_3) ?_
            clear S; intro aa S
            refine OL.not S rfl rfl (GNo.mk rfl rfl hb_3) ?_
            clear S; intro aa S
            refine OL.pure S (Lf.run_pickT (S.ev rfl) hb_3 (S.ev rfl)) rfl rfl trivial ?_
            clear S; intro aa S
            refine OL.nil ?_
            exact (S.hd (by rw [hb_3, Bool.true_or])).sub _ ⟨rfl, rfl, rfl, rfl, rfl, rfl, trivial⟩
          · refine OL.pure S (Lf.run_move (S.ev rfl)) rfl rfl (GOk.mk rfl rfl hb_3) ?_
            clear S; intro aa S
            refine OL.pure S (Lf.run_eql (S.ev rfl) (S.ev rfl)) rfl rfl (GOk.mk rfl rfl hb_3) ?_
            clear S; intro aa S
            refine OL.pure S (Lf.run_pickF (S.ev rfl) hb_3 (S.ev rfl)) rfl rfl trivial ?_
            clear S; intro aa S
            refine OL.nil ?_
            exact (S.hd (by rw [hb_3, Bool.false_or])).sub _ ⟨rfl, rfl, rfl, rfl, rfl, rfl, trivial⟩
        · clear S aa
          intro aa ww S
          refine OL.nil ?_
          refine W.cond S (b := ((a0 == 3) || (b1 == 3))) rfl (fun hb_4 => ?_) (fun hb_4 => ?_)
          · replace H := H.1 hb_4
            refine W.seq ?_
            replace S := S.sub [] trivial
            refine W.region ?_
            refine OL.pure S (Lf.run_assign (S.ev rfl)) rfl rfl trivial ?_
            clear S; intro aa S
            refine OL.nil ?_
            refine W.ret ?_
            exact Ret.one S rfl rfl H
          · replace H := H.2 hb_4
            refine W.skip ?_
            refine W.seq ?_
            refine W.seq ?_
            replace S := S.sub [(0, Value.int .i64 a0), (1, Value.int .i64 b1)] ⟨rfl, rfl, trivial⟩
            refine W.region ?_
            refine OL.pure S (Lf.run_move (S.ev rfl)) rfl rfl trivial ?_
            clear S; intro aa S
            refine OL.pure S (Lf.run_move (S.ev rfl)) rfl rfl trivial ?_
            clear S; intro aa S
            refine OL.pure S (Lf.run_eql (S.ev rfl) (S.ev rfl)) rfl rfl trivial ?_
            clear S; intro aa S
            refine OL.nil ?_
            refine W.cond S (b := (a0 == b1)) rfl (fun hb_5 => ?_) (fun hb_5 => ?_)
            · replace H := H.1 hb_5
              refine W.seq ?_
              replace S := S.sub [] trivial
              refine W.region ?_
              refine OL.pure S (Lf.run_assign (S.ev rfl)) rfl rfl trivial ?_
              clear S; intro aa S
              refine OL.nil ?_
              refine W.ret ?_
              exact Ret.one S rfl rfl H
            · replace H := H.2 hb_5
              refine W.skip ?_
              refine W.seq ?_
              replace S := S.sub [] trivial
              refine W.region ?_
              refine OL.pure S (Lf.run_assign (S.ev rfl)) rfl rfl trivial ?_
              clear S; intro aa S
              refine OL.nil ?_
              refine W.ret ?_
              exact Ret.one S rfl rfl H

/-- chattel vary.Of -/
def L9 (vw0 : Option Nat) (name1 : ByteArray) (slot2 : Int) (h : Heap) (R : Value → Heap → Prop) : Prop :=
  lkS h (Value.map vw0) name1 (Value.slice (⟨none, 0, 0⟩ : Sv).a (⟨none, 0, 0⟩ : Sv).n (⟨none, 0, 0⟩ : Sv).c) fun u => asS u fun x10 =>
  ifb ((decide (slot2 < 0)) || (decide (((x10.n : Nat) : Int) ≤ slot2))) (
    R (Value.int .i64 3) h) (
    ixS x10 slot2 fun q21 =>
    ldI .i64 h (q21.add ((slot2 : Int).toNat * 1)) fun x22 =>
    R (Value.int .i64 x22) h)

set_option maxRecDepth 100000 in

theorem F9 {vw0 name1 slot2 h : _} {R : Value → Heap → Prop} (H : L9 vw0 name1 slot2 h R) : CallsH Try.prog 9 #[Value.map vw0, Value.string name1, Value.int .i64 slot2] h R := by
  refine CallsH.enter (n := 23) Try.func9 rfl rfl rfl rfl ?_
  intro w0 aa ww S
  unfold L9 at H
  refine W.seq ?_
  replace S := S.sub [(0, Value.map vw0), (1, Value.string name1), (2, Value.int .i64 slot2)] ⟨rfl, rfl, rfl, trivial⟩
  refine W.region ?_
  refine OL.pure S (Lf.run_assign (S.ev rfl)) rfl rfl trivial ?_
  clear S; intro aa S
  refine OL.nil ?_
  refine W.seq ?_
  replace S := S.sub [(0, Value.map vw0), (1, Value.string name1), (2, Value.int .i64 slot2)] ⟨rfl, rfl, rfl, trivial⟩
  refine W.region ?_
  refine OL.pure S (Lf.run_move (S.ev rfl)) rfl rfl trivial ?_
  clear S; intro aa S
  refine OL.pure S (Lf.run_move (S.ev rfl)) rfl rfl trivial ?_
  clear S; intro aa S
  refine ol_lkS S H Try.underlying28 Try.underlying9 ti26 rfl rfl rfl trivial ?_
  clear S H aa; intro u aa H S
  obtain ⟨x10, rfl, H⟩ := H
  refine OL.pure S (Lf.run_assign (S.ev rfl)) rfl rfl trivial ?_
  clear S; intro aa S
  refine OL.nil ?_
  refine W.seq ?_
  refine W.seq ?_
  replace S := S.sub [(2, Value.int .i64 slot2), (7, Value.slice x10.a x10.n x10.c)] ⟨rfl, rfl, trivial⟩
  refine W.region ?_
  refine OL.pure S (Lf.run_move (S.ev rfl)) rfl rfl trivial ?_
  clear S; intro aa S
  refine OL.pure S (Lf.run_lss (S.ev rfl) (S.ev rfl)) rfl rfl trivial ?_
  clear S; intro aa S
  refine OL.pure S (Lf.run_move (S.ev rfl)) rfl rfl trivial ?_
  clear S; intro aa S
  refine OL.cutN 5 (fun aa ww => St 23 ((18, Value.bool ((decide (slot2 < 0)) || (decide (((x10.n : Nat) : Int) ≤ slot2)))) :: [(2, Value.int .i64 slot2), (7, Value.slice x10.a x10.n x10.c), (11, Value.int .i64 slot2), (12, Value.bool (decide (slot2 < 0))), (13, Value.bool (decide (slot2 < 0)))]) h w0 aa ww) ?_ ?_
  · rcases Bool.eq_false_or_eq_true (decide (slot2 < 0)) with hb | hb
    · refine OL.not S rfl rfl (GNo.mk rfl rfl hb) ?_
      clear S; intro aa S
      refine OL.not S rfl rfl (GNo.mk rfl rfl hb) ?_
      clear S; intro aa S
      refine OL.not S rfl rfl (GNo.mk rfl rfl hb) ?_
      clear S; intro aa S
      refine OL.not S rfl rfl (GNo.mk rfl rfl hb) ?_
      clear S; intro aa S
      refine OL.pure S (Lf.run_pickT (S.ev rfl) hb (S.ev rfl)) rfl rfl trivial ?_
      clear S; intro aa S
      refine OL.nil ?_
      exact (S.hd (by rw [hb, Bool.true_or])).sub _ ⟨rfl, rfl, rfl, rfl, rfl, rfl, trivial⟩
    · refine OL.pure S (Lf.run_move (S.ev rfl)) rfl rfl (GOk.mk rfl rfl hb) ?_
      clear S; intro aa S
      refine OL.pure S (Lf.run_move (S.ev rfl)) rfl rfl (GOk.mk rfl rfl hb) ?_
      clear S; intro aa S
      refine OL.pure S (Lf.run_lens (S.ev rfl) rfl Try.underlying26) rfl rfl (GOk.mk rfl rfl hb) ?_
      clear S; intro aa S
      refine OL.pure S (Lf.run_geq (S.ev rfl) (S.ev rfl)) rfl rfl (GOk.mk rfl rfl hb) ?_
      clear S; intro aa S
      refine OL.pure S (Lf.run_pickF (S.ev rfl) hb (S.ev rfl)) rfl rfl trivial ?_
      clear S; intro aa S
      refine OL.nil ?_
      exact (S.hd (by rw [hb, Bool.false_or])).sub _ ⟨rfl, rfl, rfl, rfl, rfl, rfl, trivial⟩
  · clear S aa
    intro aa ww S
    refine OL.nil ?_
    refine W.cond S (b := ((decide (slot2 < 0)) || (decide (((x10.n : Nat) : Int) ≤ slot2)))) rfl (fun hb_1 => ?_) (fun hb_1 => ?_)
    · replace H := H.1 hb_1
      refine W.seq ?_
      replace S := S.sub [] trivial
      refine W.region ?_
      refine OL.pure S (Lf.run_assign (S.ev rfl)) rfl rfl trivial ?_
      clear S; intro aa S
      refine OL.nil ?_
      refine W.ret ?_
      exact Ret.one S rfl rfl H
    · replace H := H.2 hb_1
      refine W.skip ?_
      refine W.seq ?_
      replace S := S.sub [(2, Value.int .i64 slot2), (7, Value.slice x10.a x10.n x10.c)] ⟨rfl, rfl, trivial⟩
      refine W.region ?_
      refine OL.pure S (Lf.run_move (S.ev rfl)) rfl rfl trivial ?_
      clear S; intro aa S
      refine OL.pure S (Lf.run_move (S.ev rfl)) rfl rfl trivial ?_
      clear S; intro aa S
      obtain ⟨q21, e, e_1, e_2, H⟩ := H
      refine OL.pure S (Lf.run_ixs (S.ev rfl) (S.ev rfl) Try.underlying26 ti3 e e_1 e_2) rfl rfl trivial ?_
      clear S; intro aa S
      obtain ⟨x22, c, H⟩ := H
      refine OL.pure S (Lf.run_ld (S.ev rfl) fl3 (S.cl c)) rfl rfl trivial ?_
      clear S; intro aa S
      refine OL.pure S (Lf.run_assign (S.ev rfl)) rfl rfl trivial ?_
      clear S; intro aa S
      refine OL.nil ?_
      refine W.ret ?_
      exact Ret.one S rfl rfl H

/-- chattel chattellaw08.small -/
def L10 (l0 : Sv) (h : Heap) (R : Value → Heap → Prop) : Prop :=
  ifb (decide (6 < ((l0.n : Nat) : Int))) (
    R (Value.bool false) h) (
    ∃ (I : Int → Heap → Prop) (m : Int → Heap → Nat), I 0 h ∧ ∀ i3 h1, I i3 h1 →
    ifb (decide (i3 < ((l0.n : Nat) : Int))) (
      ixS l0 i3 fun q17 =>
      ldI .i64 h1 ((q17.add ((i3 : Int).toNat * 4)).add 1) fun x19 =>
      ∃ J : Bool → Prop, (orr (decide (x19 < 0)) (fun k =>
        ixS l0 i3 fun q24 =>
        ldI .i64 h1 ((q24.add ((i3 : Int).toNat * 4)).add 1) fun x26 =>
        k (decide (5 < x26))) J) ∧ ∀ x28, J x28 →
      ∃ J_1 : Bool → Prop, (orr x28 (fun k_1 =>
        ixS l0 i3 fun q32 =>
        ldS h1 ((q32.add ((i3 : Int).toNat * 4)).add 2) fun x34 =>
        k_1 (decide (4 < ((x34.n : Nat) : Int)))) J_1) ∧ ∀ x37, J_1 x37 →
      ∃ J_2 : Bool → Prop, (orr x37 (fun k_2 =>
        ixS l0 i3 fun q41 =>
        ldS h1 ((q41.add ((i3 : Int).toNat * 4)).add 3) fun x43 =>
        k_2 (decide (5 < ((x43.n : Nat) : Int)))) J_2) ∧ ∀ x46, J_2 x46 →
      ifb x46 (
        R (Value.bool false) h1) (
        ∃ (I_1 : Int → Prop) (m_1 : Int → Nat), I_1 0 ∧ ∀ k4, I_1 k4 →
        ifb (decide (k4 < i3)) (
          ixS l0 k4 fun q54 =>
          ldT h1 (q54.add ((k4 : Int).toNat * 4)) fun x56 =>
          ixS l0 i3 fun q59 =>
          ldT h1 (q59.add ((i3 : Int).toNat * 4)) fun x61 =>
          ifb (x56.toList == x61.toList) (
            R (Value.bool false) h1) (
            I_1 (IntKind.i64.wrap (k4 + 1)) ∧ m_1 (IntKind.i64.wrap (k4 + 1)) < m_1 k4)) (
          ∃ (I_2 : Int → Heap → Prop) (m_2 : Int → Heap → Nat), I_2 0 h1 ∧ ∀ k5 h2, I_2 k5 h2 →
          ixS l0 i3 fun q66 =>
          ldS h2 ((q66.add ((i3 : Int).toNat * 4)).add 3) fun x68 =>
          ifb (decide (k5 < ((x68.n : Nat) : Int))) (
            ixS l0 i3 fun q75 =>
            ldS h2 ((q75.add ((i3 : Int).toNat * 4)).add 3) fun x77 =>
            ixS x77 k5 fun q79 =>
            ∃ (y80 : Int) (y80_1 : ByteArray) (y80_2 : Bool) (y80_3 : Int) (y80_4 : Sv) (y80_5 : Sv), cl h2 (q79.add ((k5 : Int).toNat * 6)) = some (Value.int .i64 y80) ∧ cl h2 ((q79.add ((k5 : Int).toNat * 6)).add 1) = some (Value.string y80_1) ∧ cl h2 ((q79.add ((k5 : Int).toNat * 6)).add 2) = some (Value.bool y80_2) ∧ cl h2 ((q79.add ((k5 : Int).toNat * 6)).add 3) = some (Value.int .i64 y80_3) ∧ cl h2 ((q79.add ((k5 : Int).toNat * 6)).add 4) = some (Value.slice y80_4.a y80_4.n y80_4.c) ∧ cl h2 ((q79.add ((k5 : Int).toNat * 6)).add 5) = some (Value.slice y80_5.a y80_5.n y80_5.c) ∧
            cal Try.prog 11 #[Value.agg #[Value.int .i64 y80, Value.string y80_1, Value.bool y80_2, Value.int .i64 y80_3, Value.slice y80_4.a y80_4.n y80_4.c, Value.slice y80_5.a y80_5.n y80_5.c], Value.int .i64 6] h2 fun u h3 => asB u fun x81 =>
            ifb (!x81) (
              R (Value.bool false) h3) (
              I_2 (IntKind.i64.wrap (k5 + 1)) h3 ∧ m_2 (IntKind.i64.wrap (k5 + 1)) h3 < m_2 k5 h2)) (
            I (IntKind.i64.wrap (i3 + 1)) h2 ∧ m (IntKind.i64.wrap (i3 + 1)) h2 < m i3 h1)))) (
      R (Value.bool true) h1))

set_option maxRecDepth 100000 in

theorem F10 {l0 h : _} {R : Value → Heap → Prop} (H : L10 l0 h R) : CallsH Try.prog 10 #[Value.slice l0.a l0.n l0.c] h R := by
  refine CallsH.enter (n := 83) Try.func10 rfl rfl rfl rfl ?_
  intro w0 aa ww S
  unfold L10 at H
  refine W.seq ?_
  replace S := S.sub [(0, Value.slice l0.a l0.n l0.c)] ⟨rfl, trivial⟩
  refine W.region ?_
  refine OL.pure S (Lf.run_assign (S.ev rfl)) rfl rfl trivial ?_
  clear S; intro aa S
  refine OL.nil ?_
  refine W.seq ?_
  refine W.seq ?_
  replace S := S.sub [(0, Value.slice l0.a l0.n l0.c)] ⟨rfl, trivial⟩
  refine W.region ?_
  refine OL.pure S (Lf.run_move (S.ev rfl)) rfl rfl trivial ?_
  clear S; intro aa S
  refine OL.pure S (Lf.run_lens (S.ev rfl) rfl Try.underlying31) rfl rfl trivial ?_
  clear S; intro aa S
  refine OL.pure S (Lf.run_gtr (S.ev rfl) (S.ev rfl)) rfl rfl trivial ?_
  clear S; intro aa S
  refine OL.nil ?_
  refine W.cond S (b := (decide (6 < ((l0.n : Nat) : Int)))) rfl (fun hb => ?_) (fun hb => ?_)
  · replace H := H.1 hb
    refine W.seq ?_
    replace S := S.sub [] trivial
    refine W.region ?_
    refine OL.pure S (Lf.run_assign (S.ev rfl)) rfl rfl trivial ?_
    clear S; intro aa S
    refine OL.nil ?_
    refine W.ret ?_
    exact Ret.one S rfl rfl H
  · replace H := H.2 hb
    refine W.skip ?_
    refine W.seq ?_
    refine W.seq ?_
    replace S := S.sub [(0, Value.slice l0.a l0.n l0.c)] ⟨rfl, trivial⟩
    refine W.region ?_
    refine OL.pure S (Lf.run_assign (S.ev rfl)) rfl rfl trivial ?_
    clear S; intro aa S
    refine OL.nil ?_
    refine W.block ?_
    obtain ⟨I, m, H, HB_2⟩ := H
    refine W.loopS (σ := Int × Heap) (fun s aa ww => St 83 [(0, Value.slice l0.a l0.n l0.c), (3, Value.int .i64 s.1)] s.2 w0 aa ww ∧ I s.1 s.2) (fun s => m s.1 s.2) (0, h) ⟨S.sub _ ⟨rfl, rfl, trivial⟩, H⟩ ?_
    clear H S aa
    rintro ⟨i3, h1⟩ aa ww ⟨S, HI⟩
    replace S : St 83 [(0, Value.slice l0.a l0.n l0.c), (3, Value.int .i64 i3)] h1 w0 aa ww := S
    have H := HB_2 i3 h1 HI
    clear HI
    refine W.seq ?_
    refine W.seq ?_
    replace S := S.sub [(0, Value.slice l0.a l0.n l0.c), (3, Value.int .i64 i3)] ⟨rfl, rfl, trivial⟩
    refine W.region ?_
    refine OL.pure S (Lf.run_move (S.ev rfl)) rfl rfl trivial ?_
    clear S; intro aa S
    refine OL.pure S (Lf.run_move (S.ev rfl)) rfl rfl trivial ?_
    clear S; intro aa S
    refine OL.pure S (Lf.run_lens (S.ev rfl) rfl Try.underlying31) rfl rfl trivial ?_
    clear S; intro aa S
    refine OL.pure S (Lf.run_lss (S.ev rfl) (S.ev rfl)) rfl rfl trivial ?_
    clear S; intro aa S
    refine OL.nil ?_
    refine W.cond S (b := (decide (i3 < ((l0.n : Nat) : Int)))) rfl (fun hb_1 => ?_) (fun hb_1 => ?_)
    · replace H := H.1 hb_1
      refine W.skip ?_
      refine W.seq ?_
      refine W.block ?_
      refine W.seq ?_
      refine W.seq ?_
      replace S := S.sub [(0, Value.slice l0.a l0.n l0.c), (3, Value.int .i64 i3)] ⟨rfl, rfl, trivial⟩
      refine W.region ?_
      refine OL.pure S (Lf.run_move (S.ev rfl)) rfl rfl trivial ?_
      clear S; intro aa S
      refine OL.pure S (Lf.run_move (S.ev rfl)) rfl rfl trivial ?_
      clear S; intro aa S
      obtain ⟨q17, e, e_1, e_2, H⟩ := H
      refine OL.pure S (Lf.run_ixs (S.ev rfl) (S.ev rfl) Try.underlying31 ti39 e e_1 e_2) rfl rfl trivial ?_
      clear S; intro aa S
      refine OL.pure S (Lf.run_fa (S.ev rfl) fa39_1) rfl rfl trivial ?_
      clear S; intro aa S
      obtain ⟨x19, c, H⟩ := H
      refine OL.pure S (Lf.run_ld (S.ev rfl) fl3 (S.cl c)) rfl rfl trivial ?_
      clear S; intro aa S
      refine OL.pure S (Lf.run_lss (S.ev rfl) (S.ev rfl)) rfl rfl trivial ?_
      clear S; intro aa S
      refine OL.pure S (Lf.run_move (S.ev rfl)) rfl rfl trivial ?_
      clear S; intro aa S
      obtain ⟨J, H, HK⟩ := H
      refine OL.cutN 7 (fun aa ww => ∃ x28, St 83 ((28, Value.bool x28) :: [(0, Value.slice l0.a l0.n l0.c), (3, Value.int .i64 i3), (15, Value.slice l0.a l0.n l0.c), (16, Value.int .i64 i3), (17, Value.pointer (some (q17.add ((i3 : Int).toNat * 4)))), (18, Value.pointer (some ((q17.add ((i3 : Int).toNat * 4)).add 1))), (19, Value.int .i64 x19), (20, Value.bool (decide (x19 < 0))), (21, Value.bool (decide (x19 < 0)))]) h1 w0 aa ww ∧ J x28) ?_ ?_
      · rcases Bool.eq_false_or_eq_true (decide (x19 < 0)) with hb_2 | hb_2
        · replace H := H.1 hb_2
          refine OL.not S rfl rfl (GNo.mk rfl rfl hb_2) ?_
          clear S; intro aa S
          refine OL.not S rfl rfl (GNo.mk rfl rfl hb_2) ?_
          clear S; intro aa S
          refine OL.not S rfl rfl (GNo.mk rfl rfl hb_2) ?_
          clear S; intro aa S
          refine OL.not S rfl rfl (GNo.mk rfl rfl hb_2) ?_
          clear S; intro aa S
          refine OL.not S rfl rfl (GNo.mk rfl rfl hb_2) ?_
          clear S; intro aa S
          refine OL.not S rfl rfl (GNo.mk rfl rfl hb_2) ?_
          clear S; intro aa S
          refine OL.pure S (Lf.run_pickT (S.ev rfl) hb_2 (S.ev rfl)) rfl rfl trivial ?_
          clear S; intro aa S
          refine OL.nil ?_
          exact ⟨_, S.sub _ ⟨rfl, rfl, rfl, rfl, rfl, rfl, rfl, rfl, rfl, rfl, trivial⟩, H⟩
        · replace H := H.2 hb_2
          refine OL.pure S (Lf.run_move (S.ev rfl)) rfl rfl (GOk.mk rfl rfl hb_2) ?_
          clear S; intro aa S
          refine OL.pure S (Lf.run_move (S.ev rfl)) rfl rfl (GOk.mk rfl rfl hb_2) ?_
          clear S; intro aa S
          obtain ⟨q24, e_3, e_4, e_5, H⟩ := H
          refine OL.pure S (Lf.run_ixs (S.ev rfl) (S.ev rfl) Try.underlying31 ti39 e_3 e_4 e_5) rfl rfl (GOk.mk rfl rfl hb_2) ?_
          clear S; intro aa S
          refine OL.pure S (Lf.run_fa (S.ev rfl) fa39_1) rfl rfl (GOk.mk rfl rfl hb_2) ?_
          clear S; intro aa S
          obtain ⟨x26, c_1, H⟩ := H
          refine OL.pure S (Lf.run_ld (S.ev rfl) fl3 (S.cl c_1)) rfl rfl (GOk.mk rfl rfl hb_2) ?_
          clear S; intro aa S
          refine OL.pure S (Lf.run_gtr (S.ev rfl) (S.ev rfl)) rfl rfl (GOk.mk rfl rfl hb_2) ?_
          clear S; intro aa S
          refine OL.pure S (Lf.run_pickF (S.ev rfl) hb_2 (S.ev rfl)) rfl rfl trivial ?_
          clear S; intro aa S
          refine OL.nil ?_
          exact ⟨_, S.sub _ ⟨rfl, rfl, rfl, rfl, rfl, rfl, rfl, rfl, rfl, rfl, trivial⟩, H⟩
      · clear S aa
        rintro aa ww ⟨x28, S, HJ⟩
        replace H := HK _ HJ
        clear HK HJ
        refine OL.pure S (Lf.run_move (S.ev rfl)) rfl rfl trivial ?_
        clear S; intro aa S
        obtain ⟨J_1, H, HK_1⟩ := H
        refine OL.cutN 8 (fun aa ww => ∃ x37, St 83 ((37, Value.bool x37) :: [(0, Value.slice l0.a l0.n l0.c), (3, Value.int .i64 i3), (15, Value.slice l0.a l0.n l0.c), (16, Value.int .i64 i3), (17, Value.pointer (some (q17.add ((i3 : Int).toNat * 4)))), (18, Value.pointer (some ((q17.add ((i3 : Int).toNat * 4)).add 1))), (19, Value.int .i64 x19), (20, Value.bool (decide (x19 < 0))), (21, Value.bool (decide (x19 < 0))), (28, Value.bool x28), (29, Value.bool x28)]) h1 w0 aa ww ∧ J_1 x37) ?_ ?_
        · rcases Bool.eq_false_or_eq_true x28 with hb_3 | hb_3
          · replace H := H.1 hb_3
            refine OL.not S rfl rfl (GNo.mk rfl rfl hb_3) ?_
            clear S; intro aa S
            refine OL.not S rfl rfl (GNo.mk rfl rfl hb_3) ?_
            clear S; intro aa S
            refine OL.not S rfl rfl (GNo.mk rfl rfl hb_3) ?_
            clear S; intro aa S
            refine OL.not S rfl rfl (GNo.mk rfl rfl hb_3) ?_
            clear S; intro aa S
            refine OL.not S rfl rfl (GNo.mk rfl rfl hb_3) ?_
            clear S; intro aa S
            refine OL.not S rfl rfl (GNo.mk rfl rfl hb_3) ?_
            clear S; intro aa S
            refine OL.not S rfl rfl (GNo.mk rfl rfl hb_3) ?_
            clear S; intro aa S
            refine OL.pure S (Lf.run_pickT (S.ev rfl) hb_3 (S.ev rfl)) rfl rfl trivial ?_
            clear S; intro aa S
            refine OL.nil ?_
            exact ⟨_, S.sub _ ⟨rfl, rfl, rfl, rfl, rfl, rfl, rfl, rfl, rfl, rfl, rfl, rfl, trivial⟩, H⟩
          · replace H := H.2 hb_3
            refine OL.pure S (Lf.run_move (S.ev rfl)) rfl rfl (GOk.mk rfl rfl hb_3) ?_
            clear S; intro aa S
            refine OL.pure S (Lf.run_move (S.ev rfl)) rfl rfl (GOk.mk rfl rfl hb_3) ?_
            clear S; intro aa S
            obtain ⟨q32, e_6, e_7, e_8, H⟩ := H
            refine OL.pure S (Lf.run_ixs (S.ev rfl) (S.ev rfl) Try.underlying31 ti39 e_6 e_7 e_8) rfl rfl (GOk.mk rfl rfl hb_3) ?_
            clear S; intro aa S
            refine OL.pure S (Lf.run_fa (S.ev rfl) fa39_2) rfl rfl (GOk.mk rfl rfl hb_3) ?_
            clear S; intro aa S
            obtain ⟨x34, c_2, H⟩ := H
            refine OL.pure S (Lf.run_ld (S.ev rfl) fl37 (S.cl c_2)) rfl rfl (GOk.mk rfl rfl hb_3) ?_
            clear S; intro aa S
            refine OL.pure S (Lf.run_lens (S.ev rfl) rfl Try.underlying37) rfl rfl (GOk.mk rfl rfl hb_3) ?_
            clear S; intro aa S
            refine OL.pure S (Lf.run_gtr (S.ev rfl) (S.ev rfl)) rfl rfl (GOk.mk rfl rfl hb_3) ?_
            clear S; intro aa S
            refine OL.pure S (Lf.run_pickF (S.ev rfl) hb_3 (S.ev rfl)) rfl rfl trivial ?_
            clear S; intro aa S
            refine OL.nil ?_
            exact ⟨_, S.sub _ ⟨rfl, rfl, rfl, rfl, rfl, rfl, rfl, rfl, rfl, rfl, rfl, rfl, trivial⟩, H⟩
        · clear S aa
          rintro aa ww ⟨x37, S, HJ⟩
          replace H := HK_1 _ HJ
          clear HK_1 HJ
          refine OL.pure S (Lf.run_move (S.ev rfl)) rfl rfl trivial ?_
          clear S; intro aa S
          obtain ⟨J_2, H, HK_2⟩ := H
          refine OL.cutN 8 (fun aa ww => ∃ x46, St 83 ((46, Value.bool x46) :: [(0, Value.slice l0.a l0.n l0.c), (3, Value.int .i64 i3), (15, Value.slice l0.a l0.n l0.c), (16, Value.int .i64 i3), (17, Value.pointer (some (q17.add ((i3 : Int).toNat * 4)))), (18, Value.pointer (some ((q17.add ((i3 : Int).toNat * 4)).add 1))), (19, Value.int .i64 x19), (20, Value.bool (decide (x19 < 0))), (21, Value.bool (decide (x19 < 0))), (28, Value.bool x28), (29, Value.bool x28), (37, Value.bool x37), (38, Value.bool x37)]) h1 w0 aa ww ∧ J_2 x46) ?_ ?_
          · rcases Bool.eq_false_or_eq_true x37 with hb_4 | hb_4
            · replace H := H.1 hb_4
              refine OL.not S rfl rfl (GNo.mk rfl rfl hb_4) ?_
              clear S; intro aa S
              refine OL.not S rfl rfl (GNo.mk rfl rfl hb_4) ?_
              clear S; intro aa S
              refine OL.not S rfl rfl (GNo.mk rfl rfl hb_4) ?_
              clear S; intro aa S
              refine OL.not S rfl rfl (GNo.mk rfl rfl hb_4) ?_
              clear S; intro aa S
              refine OL.not S rfl rfl (GNo.mk rfl rfl hb_4) ?_
              clear S; intro aa S
              refine OL.not S rfl rfl (GNo.mk rfl rfl hb_4) ?_
              clear S; intro aa S
              refine OL.not S rfl rfl (GNo.mk rfl rfl hb_4) ?_
              clear S; intro aa S
              refine OL.pure S (Lf.run_pickT (S.ev rfl) hb_4 (S.ev rfl)) rfl rfl trivial ?_
              clear S; intro aa S
              refine OL.nil ?_
              exact ⟨_, S.sub _ ⟨rfl, rfl, rfl, rfl, rfl, rfl, rfl, rfl, rfl, rfl, rfl, rfl, rfl, rfl, trivial⟩, H⟩
            · replace H := H.2 hb_4
              refine OL.pure S (Lf.run_move (S.ev rfl)) rfl rfl (GOk.mk rfl rfl hb_4) ?_
              clear S; intro aa S
              refine OL.pure S (Lf.run_move (S.ev rfl)) rfl rfl (GOk.mk rfl rfl hb_4) ?_
              clear S; intro aa S
              obtain ⟨q41, e_9, e_10, e_11, H⟩ := H
              refine OL.pure S (Lf.run_ixs (S.ev rfl) (S.ev rfl) Try.underlying31 ti39 e_9 e_10 e_11) rfl rfl (GOk.mk rfl rfl hb_4) ?_
              clear S; intro aa S
              refine OL.pure S (Lf.run_fa (S.ev rfl) fa39_3) rfl rfl (GOk.mk rfl rfl hb_4) ?_
              clear S; intro aa S
              obtain ⟨x43, c_3, H⟩ := H
              refine OL.pure S (Lf.run_ld (S.ev rfl) fl32 (S.cl c_3)) rfl rfl (GOk.mk rfl rfl hb_4) ?_
              clear S; intro aa S
              refine OL.pure S (Lf.run_lens (S.ev rfl) rfl Try.underlying32) rfl rfl (GOk.mk rfl rfl hb_4) ?_
              clear S; intro aa S
              refine OL.pure S (Lf.run_gtr (S.ev rfl) (S.ev rfl)) rfl rfl (GOk.mk rfl rfl hb_4) ?_
              clear S; intro aa S
              refine OL.pure S (Lf.run_pickF (S.ev rfl) hb_4 (S.ev rfl)) rfl rfl trivial ?_
              clear S; intro aa S
              refine OL.nil ?_
              exact ⟨_, S.sub _ ⟨rfl, rfl, rfl, rfl, rfl, rfl, rfl, rfl, rfl, rfl, rfl, rfl, rfl, rfl, trivial⟩, H⟩
          · clear S aa
            rintro aa ww ⟨x46, S, HJ⟩
            replace H := HK_2 _ HJ
            clear HK_2 HJ
            refine OL.nil ?_
            refine W.cond S (b := x46) rfl (fun hb_5 => ?_) (fun hb_5 => ?_)
            · replace H := H.1 hb_5
              refine W.seq ?_
              replace S := S.sub [] trivial
              refine W.region ?_
              refine OL.pure S (Lf.run_assign (S.ev rfl)) rfl rfl trivial ?_
              clear S; intro aa S
              refine OL.nil ?_
              refine W.ret ?_
              exact Ret.one S rfl rfl H
            · replace H := H.2 hb_5
              refine W.skip ?_
              refine W.seq ?_
              refine W.seq ?_
              replace S := S.sub [(0, Value.slice l0.a l0.n l0.c), (3, Value.int .i64 i3)] ⟨rfl, rfl, trivial⟩
              refine W.region ?_
              refine OL.pure S (Lf.run_assign (S.ev rfl)) rfl rfl trivial ?_
              clear S; intro aa S
              refine OL.nil ?_
              refine W.block ?_
              obtain ⟨I_1, m_1, H, HB_1⟩ := H
              refine W.loopS (σ := Int) (fun s aa ww => St 83 [(0, Value.slice l0.a l0.n l0.c), (3, Value.int .i64 i3), (4, Value.int .i64 s)] h1 w0 aa ww ∧ I_1 s) (fun s => m_1 s) (0) ⟨S.sub _ ⟨rfl, rfl, rfl, trivial⟩, H⟩ ?_
              clear H S aa
              rintro k4 aa ww ⟨S, HI⟩
              replace S : St 83 [(0, Value.slice l0.a l0.n l0.c), (3, Value.int .i64 i3), (4, Value.int .i64 k4)] h1 w0 aa ww := S
              have H := HB_1 k4 HI
              clear HI
              refine W.seq ?_
              refine W.seq ?_
              replace S := S.sub [(0, Value.slice l0.a l0.n l0.c), (3, Value.int .i64 i3), (4, Value.int .i64 k4)] ⟨rfl, rfl, rfl, trivial⟩
              refine W.region ?_
              refine OL.pure S (Lf.run_move (S.ev rfl)) rfl rfl trivial ?_
              clear S; intro aa S
              refine OL.pure S (Lf.run_move (S.ev rfl)) rfl rfl trivial ?_
              clear S; intro aa S
              refine OL.pure S (Lf.run_lss (S.ev rfl) (S.ev rfl)) rfl rfl trivial ?_
              clear S; intro aa S
              refine OL.nil ?_
              refine W.cond S (b := (decide (k4 < i3))) rfl (fun hb_6 => ?_) (fun hb_6 => ?_)
              · replace H := H.1 hb_6
                refine W.skip ?_
                refine W.seq ?_
                refine W.block ?_
                refine W.seq ?_
                replace S := S.sub [(0, Value.slice l0.a l0.n l0.c), (3, Value.int .i64 i3), (4, Value.int .i64 k4)] ⟨rfl, rfl, rfl, trivial⟩
                refine W.regionD S (by kernel_rfl) ?_
                clear S; intro ww S
                refine AN.pure 0 S rfl (by kernel_rfl) (fun _ => Lf.run_move (S.ev rfl)) rfl rfl trivial ?_
                clear S; intro aa S
                refine AN.pure 1 S rfl (by kernel_rfl) (fun _ => Lf.run_move (S.ev rfl)) rfl rfl trivial ?_
                clear S; intro aa S
                obtain ⟨q54, e_12, e_13, e_14, H⟩ := H
                refine AN.pure 2 S rfl (by kernel_rfl) (fun _ => Lf.run_ixs (S.ev rfl) (S.ev rfl) Try.underlying31 ti39 e_12 e_13 e_14) rfl rfl trivial ?_
                clear S; intro aa S
                refine AN.pure 3 S rfl (by kernel_rfl) (fun _ => Lf.run_fa (S.ev rfl) fa39_0) rfl rfl trivial ?_
                clear S; intro aa S
                obtain ⟨x56, c_4, H⟩ := H
                refine AN.load 4 S rfl (by kernel_rfl) (fun _ hx => Lf.run_ld (S.ev rfl) fl9 (hx.cell _ _ (S.cl c_4))) rfl rfl trivial ?_
                clear S; intro aa S
                refine AN.pure 5 S rfl (by kernel_rfl) (fun _ => Lf.run_move (S.ev rfl)) rfl rfl trivial ?_
                clear S; intro aa S
                refine AN.pure 6 S rfl (by kernel_rfl) (fun _ => Lf.run_move (S.ev rfl)) rfl rfl trivial ?_
                clear S; intro aa S
                obtain ⟨q59, e_15, e_16, e_17, H⟩ := H
                refine AN.pure 7 S rfl (by kernel_rfl) (fun _ => Lf.run_ixs (S.ev rfl) (S.ev rfl) Try.underlying31 ti39 e_15 e_16 e_17) rfl rfl trivial ?_
                clear S; intro aa S
                refine AN.pure 8 S rfl (by kernel_rfl) (fun _ => Lf.run_fa (S.ev rfl) fa39_0) rfl rfl trivial ?_
                clear S; intro aa S
                obtain ⟨x61, c_5, H⟩ := H
                refine AN.load 9 S rfl (by kernel_rfl) (fun _ hx => Lf.run_ld (S.ev rfl) fl9 (hx.cell _ _ (S.cl c_5))) rfl rfl trivial ?_
                clear S; intro aa S
                refine AN.pure 10 S rfl (by kernel_rfl) (fun _ => Lf.run_eqlt (S.ev rfl) (S.ev rfl)) rfl rfl trivial ?_
                clear S; intro aa S
                refine AN.done (by kernel_rfl) ?_
                refine W.cond S (b := (x56.toList == x61.toList)) rfl (fun hb_7 => ?_) (fun hb_7 => ?_)
                · replace H := H.1 hb_7
                  refine W.seq ?_
                  replace S := S.sub [] trivial
                  refine W.region ?_
                  refine OL.pure S (Lf.run_assign (S.ev rfl)) rfl rfl trivial ?_
                  clear S; intro aa S
                  refine OL.nil ?_
                  refine W.ret ?_
                  exact Ret.one S rfl rfl H
                · replace H := H.2 hb_7
                  refine W.skip ?_
                  replace S := S.sub [(0, Value.slice l0.a l0.n l0.c), (3, Value.int .i64 i3), (4, Value.int .i64 k4)] ⟨rfl, rfl, rfl, trivial⟩
                  refine W.region ?_
                  refine OL.pure S (Lf.run_move (S.ev rfl)) rfl rfl trivial ?_
                  clear S; intro aa S
                  refine OL.pure S (Lf.run_add (S.ev rfl) (S.ev rfl)) rfl rfl trivial ?_
                  clear S; intro aa S
                  refine OL.pure S (Lf.run_assign (S.ev rfl)) rfl rfl trivial ?_
                  clear S; intro aa S
                  refine OL.nil ?_
                  exact ⟨((IntKind.i64.wrap (k4 + 1))), ⟨S.sub _ ⟨rfl, rfl, rfl, trivial⟩, H.1⟩, H.2⟩
              · replace H := H.2 hb_6
                refine W.exit_ ?_
                refine xhit ?_
                refine W.seq ?_
                replace S := S.sub [(0, Value.slice l0.a l0.n l0.c), (3, Value.int .i64 i3)] ⟨rfl, rfl, trivial⟩
                refine W.region ?_
                refine OL.pure S (Lf.run_assign (S.ev rfl)) rfl rfl trivial ?_
                clear S; intro aa S
                refine OL.nil ?_
                refine W.block ?_
                obtain ⟨I_2, m_2, H, HB⟩ := H
                refine W.loopS (σ := Int × Heap) (fun s aa ww => St 83 [(0, Value.slice l0.a l0.n l0.c), (3, Value.int .i64 i3), (5, Value.int .i64 s.1)] s.2 w0 aa ww ∧ I_2 s.1 s.2) (fun s => m_2 s.1 s.2) (0, h1) ⟨S.sub _ ⟨rfl, rfl, rfl, trivial⟩, H⟩ ?_
                clear H S aa
                rintro ⟨k5, h2⟩ aa ww ⟨S, HI⟩
                replace S : St 83 [(0, Value.slice l0.a l0.n l0.c), (3, Value.int .i64 i3), (5, Value.int .i64 k5)] h2 w0 aa ww := S
                have H := HB k5 h2 HI
                clear HI
                refine W.seq ?_
                refine W.seq ?_
                replace S := S.sub [(0, Value.slice l0.a l0.n l0.c), (3, Value.int .i64 i3), (5, Value.int .i64 k5)] ⟨rfl, rfl, rfl, trivial⟩
                refine W.region ?_
                refine OL.pure S (Lf.run_move (S.ev rfl)) rfl rfl trivial ?_
                clear S; intro aa S
                refine OL.pure S (Lf.run_move (S.ev rfl)) rfl rfl trivial ?_
                clear S; intro aa S
                refine OL.pure S (Lf.run_move (S.ev rfl)) rfl rfl trivial ?_
                clear S; intro aa S
                obtain ⟨q66, e_18, e_19, e_20, H⟩ := H
                refine OL.pure S (Lf.run_ixs (S.ev rfl) (S.ev rfl) Try.underlying31 ti39 e_18 e_19 e_20) rfl rfl trivial ?_
                clear S; intro aa S
                refine OL.pure S (Lf.run_fa (S.ev rfl) fa39_3) rfl rfl trivial ?_
                clear S; intro aa S
                obtain ⟨x68, c_6, H⟩ := H
                refine OL.pure S (Lf.run_ld (S.ev rfl) fl32 (S.cl c_6)) rfl rfl trivial ?_
                clear S; intro aa S
                refine OL.pure S (Lf.run_lens (S.ev rfl) rfl Try.underlying32) rfl rfl trivial ?_
                clear S; intro aa S
                refine OL.pure S (Lf.run_lss (S.ev rfl) (S.ev rfl)) rfl rfl trivial ?_
                clear S; intro aa S
                refine OL.nil ?_
                refine W.cond S (b := (decide (k5 < ((x68.n : Nat) : Int)))) rfl (fun hb_8 => ?_) (fun hb_8 => ?_)
                · replace H := H.1 hb_8
                  refine W.skip ?_
                  refine W.seq ?_
                  refine W.block ?_
                  refine W.seq ?_
                  replace S := S.sub [(0, Value.slice l0.a l0.n l0.c), (3, Value.int .i64 i3), (5, Value.int .i64 k5)] ⟨rfl, rfl, rfl, trivial⟩
                  refine W.region ?_
                  refine OL.pure S (Lf.run_move (S.ev rfl)) rfl rfl trivial ?_
                  clear S; intro aa S
                  refine OL.pure S (Lf.run_move (S.ev rfl)) rfl rfl trivial ?_
                  clear S; intro aa S
                  obtain ⟨q75, e_21, e_22, e_23, H⟩ := H
                  refine OL.pure S (Lf.run_ixs (S.ev rfl) (S.ev rfl) Try.underlying31 ti39 e_21 e_22 e_23) rfl rfl trivial ?_
                  clear S; intro aa S
                  refine OL.pure S (Lf.run_fa (S.ev rfl) fa39_3) rfl rfl trivial ?_
                  clear S; intro aa S
                  obtain ⟨x77, c_7, H⟩ := H
                  refine OL.pure S (Lf.run_ld (S.ev rfl) fl32 (S.cl c_7)) rfl rfl trivial ?_
                  clear S; intro aa S
                  refine OL.pure S (Lf.run_move (S.ev rfl)) rfl rfl trivial ?_
                  clear S; intro aa S
                  obtain ⟨q79, e_24, e_25, e_26, H⟩ := H
                  refine OL.pure S (Lf.run_ixs (S.ev rfl) (S.ev rfl) Try.underlying32 ti34 e_24 e_25 e_26) rfl rfl trivial ?_
                  clear S; intro aa S
                  obtain ⟨y80, y80_1, y80_2, y80_3, y80_4, y80_5, c_9, c_10, c_11, c_12, c_13, c_14, H⟩ := H
                  refine OL.pure S (Lf.run_ldA (cs := [Value.int .i64 y80, Value.string y80_1, Value.bool y80_2, Value.int .i64 y80_3, Value.slice y80_4.a y80_4.n y80_4.c, Value.slice y80_5.a y80_5.n y80_5.c]) (S.ev rfl) ag34 ti34 (by rw [S.heap]; exact RowL.toRow ⟨c_9, c_10, c_11, c_12, c_13, c_14, trivial⟩)) rfl rfl trivial ?_
                  clear S; intro aa S
                  refine ol_cal S H isfn11 rfl rfl trivial ?_
                  clear S H aa; intro u aa ww h3 H S
                  obtain ⟨x81, rfl, H⟩ := H
                  refine OL.pure S (Lf.run_not (S.ev rfl)) rfl rfl trivial ?_
                  clear S; intro aa S
                  refine OL.nil ?_
                  refine W.cond S (b := (!x81)) rfl (fun hb_9 => ?_) (fun hb_9 => ?_)
                  · replace H := H.1 hb_9
                    refine W.seq ?_
                    replace S := S.sub [] trivial
                    refine W.region ?_
                    refine OL.pure S (Lf.run_assign (S.ev rfl)) rfl rfl trivial ?_
                    clear S; intro aa S
                    refine OL.nil ?_
                    refine W.ret ?_
                    exact Ret.one S rfl rfl H
                  · replace H := H.2 hb_9
                    refine W.skip ?_
                    replace S := S.sub [(0, Value.slice l0.a l0.n l0.c), (3, Value.int .i64 i3), (5, Value.int .i64 k5)] ⟨rfl, rfl, rfl, trivial⟩
                    refine W.region ?_
                    refine OL.pure S (Lf.run_move (S.ev rfl)) rfl rfl trivial ?_
                    clear S; intro aa S
                    refine OL.pure S (Lf.run_add (S.ev rfl) (S.ev rfl)) rfl rfl trivial ?_
                    clear S; intro aa S
                    refine OL.pure S (Lf.run_assign (S.ev rfl)) rfl rfl trivial ?_
                    clear S; intro aa S
                    refine OL.nil ?_
                    exact ⟨((IntKind.i64.wrap (k5 + 1)), h3), ⟨S.sub _ ⟨rfl, rfl, rfl, trivial⟩, H.1⟩, H.2⟩
                · replace H := H.2 hb_8
                  refine W.exit_ ?_
                  refine xhit ?_
                  replace S := S.sub [(0, Value.slice l0.a l0.n l0.c), (3, Value.int .i64 i3)] ⟨rfl, rfl, trivial⟩
                  refine W.region ?_
                  refine OL.pure S (Lf.run_move (S.ev rfl)) rfl rfl trivial ?_
                  clear S; intro aa S
                  refine OL.pure S (Lf.run_add (S.ev rfl) (S.ev rfl)) rfl rfl trivial ?_
                  clear S; intro aa S
                  refine OL.pure S (Lf.run_assign (S.ev rfl)) rfl rfl trivial ?_
                  clear S; intro aa S
                  refine OL.nil ?_
                  exact ⟨((IntKind.i64.wrap (i3 + 1)), h2), ⟨S.sub _ ⟨rfl, rfl, trivial⟩, H.1⟩, H.2⟩
    · replace H := H.2 hb_1
      refine W.exit_ ?_
      refine xhit ?_
      refine W.seq ?_
      replace S := S.sub [] trivial
      refine W.region ?_
      refine OL.pure S (Lf.run_assign (S.ev rfl)) rfl rfl trivial ?_
      clear S; intro aa S
      refine OL.nil ?_
      refine W.ret ?_
      exact Ret.one S rfl rfl H

/-- chattel chattelref07.Small -/
def L11 (x0 : Int) (x0_1 : ByteArray) (x0_2 : Bool) (x0_3 : Int) (x0_4 : Sv) (x0_5 : Sv) (deep1 : Int) (h : Heap) (R : Value → Heap → Prop) : Prop :=
  new 34 #[Value.int .i64 x0, Value.string x0_1, Value.bool x0_2, Value.int .i64 x0_3, Value.slice x0_4.a x0_4.n x0_4.c, Value.slice x0_5.a x0_5.n x0_5.c] h fun p2 h1 =>
  ∃ J : Bool → Prop, (orr (deep1 == 0) (fun k =>
    ldS h1 (p2.add 5) fun x10 =>
    k (decide (4 < ((x10.n : Nat) : Int)))) J) ∧ ∀ x13, J x13 →
  ∃ J_1 : Bool → Prop, (orr x13 (fun k_1 =>
    ldS h1 (p2.add 4) fun x16 =>
    k_1 (decide (6 < ((x16.n : Nat) : Int)))) J_1) ∧ ∀ x19, J_1 x19 →
  ∃ J_2 : Bool → Prop, (orr x19 (fun k_2 =>
    ldT h1 (p2.add 1) fun x22 =>
    k_2 (decide (60 < ((x22.size : Nat) : Int)))) J_2) ∧ ∀ x25, J_2 x25 →
  ifb x25 (
    R (Value.bool false) h1) (
    ∃ (I : Int → Heap → Prop) (m : Int → Heap → Nat), I 0 h1 ∧ ∀ i5 h2, I i5 h2 →
    ldS h2 (p2.add 5) fun x28 =>
    ifb (decide (i5 < ((x28.n : Nat) : Int))) (
      ldS h2 (p2.add 5) fun x34 =>
      ixS x34 i5 fun q36 =>
      ∃ (y37 : Int) (y37_1 : ByteArray) (y37_2 : Bool) (y37_3 : Int) (y37_4 : Sv) (y37_5 : Sv), cl h2 (q36.add ((i5 : Int).toNat * 6)) = some (Value.int .i64 y37) ∧ cl h2 ((q36.add ((i5 : Int).toNat * 6)).add 1) = some (Value.string y37_1) ∧ cl h2 ((q36.add ((i5 : Int).toNat * 6)).add 2) = some (Value.bool y37_2) ∧ cl h2 ((q36.add ((i5 : Int).toNat * 6)).add 3) = some (Value.int .i64 y37_3) ∧ cl h2 ((q36.add ((i5 : Int).toNat * 6)).add 4) = some (Value.slice y37_4.a y37_4.n y37_4.c) ∧ cl h2 ((q36.add ((i5 : Int).toNat * 6)).add 5) = some (Value.slice y37_5.a y37_5.n y37_5.c) ∧
      cal Try.prog 11 #[Value.agg #[Value.int .i64 y37, Value.string y37_1, Value.bool y37_2, Value.int .i64 y37_3, Value.slice y37_4.a y37_4.n y37_4.c, Value.slice y37_5.a y37_5.n y37_5.c], Value.int .i64 (IntKind.i64.wrap (deep1 - 1))] h2 fun u h3 => asB u fun x40 =>
      ifb (!x40) (
        R (Value.bool false) h3) (
        I (IntKind.i64.wrap (i5 + 1)) h3 ∧ m (IntKind.i64.wrap (i5 + 1)) h3 < m i5 h2)) (
      R (Value.bool true) h2))

set_option maxRecDepth 100000 in

theorem F11 {x0 x0_1 x0_2 x0_3 x0_4 x0_5 deep1 h : _} {R : Value → Heap → Prop} (H : L11 x0 x0_1 x0_2 x0_3 x0_4 x0_5 deep1 h R) : CallsH Try.prog 11 #[Value.agg #[Value.int .i64 x0, Value.string x0_1, Value.bool x0_2, Value.int .i64 x0_3, Value.slice x0_4.a x0_4.n x0_4.c, Value.slice x0_5.a x0_5.n x0_5.c], Value.int .i64 deep1] h R := by
  refine CallsH.enter (n := 42) Try.func11 rfl rfl rfl rfl ?_
  intro w0 aa ww S
  unfold L11 at H
  refine W.seq ?_
  replace S := S.sub [(0, Value.agg #[Value.int .i64 x0, Value.string x0_1, Value.bool x0_2, Value.int .i64 x0_3, Value.slice x0_4.a x0_4.n x0_4.c, Value.slice x0_5.a x0_5.n x0_5.c]), (1, Value.int .i64 deep1)] ⟨rfl, rfl, trivial⟩
  refine W.region ?_
  refine ol_box S H rfl rfl rfl trivial ?_
  clear S H aa; intro p2 aa ww h1 H S
  refine OL.pure S (Lf.run_assign (S.ev rfl)) rfl rfl trivial ?_
  clear S; intro aa S
  refine OL.nil ?_
  refine W.seq ?_
  refine W.seq ?_
  replace S := S.sub [(1, Value.int .i64 deep1), (2, Value.pointer (some p2))] ⟨rfl, rfl, trivial⟩
  refine W.region ?_
  refine OL.pure S (Lf.run_move (S.ev rfl)) rfl rfl trivial ?_
  clear S; intro aa S
  refine OL.pure S (Lf.run_eql (S.ev rfl) (S.ev rfl)) rfl rfl trivial ?_
  clear S; intro aa S
  refine OL.pure S (Lf.run_move (S.ev rfl)) rfl rfl trivial ?_
  clear S; intro aa S
  obtain ⟨J, H, HK⟩ := H
  refine OL.cutN 5 (fun aa ww => ∃ x13, St 42 ((13, Value.bool x13) :: [(1, Value.int .i64 deep1), (2, Value.pointer (some p2)), (6, Value.int .i64 deep1), (7, Value.bool (deep1 == 0)), (8, Value.bool (deep1 == 0))]) h1 w0 aa ww ∧ J x13) ?_ ?_
  · rcases Bool.eq_false_or_eq_true (deep1 == 0) with hb | hb
    · replace H := H.1 hb
      refine OL.not S rfl rfl (GNo.mk rfl rfl hb) ?_
      clear S; intro aa S
      refine OL.not S rfl rfl (GNo.mk rfl rfl hb) ?_
      clear S; intro aa S
      refine OL.not S rfl rfl (GNo.mk rfl rfl hb) ?_
      clear S; intro aa S
      refine OL.not S rfl rfl (GNo.mk rfl rfl hb) ?_
      clear S; intro aa S
      refine OL.pure S (Lf.run_pickT (S.ev rfl) hb (S.ev rfl)) rfl rfl trivial ?_
      clear S; intro aa S
      refine OL.nil ?_
      exact ⟨_, S.sub _ ⟨rfl, rfl, rfl, rfl, rfl, rfl, trivial⟩, H⟩
    · replace H := H.2 hb
      refine OL.pure S (Lf.run_fa (S.ev rfl) fa34_5) rfl rfl (GOk.mk rfl rfl hb) ?_
      clear S; intro aa S
      obtain ⟨x10, c, H⟩ := H
      refine OL.pure S (Lf.run_ld (S.ev rfl) fl32 (S.cl c)) rfl rfl (GOk.mk rfl rfl hb) ?_
      clear S; intro aa S
      refine OL.pure S (Lf.run_lens (S.ev rfl) rfl Try.underlying32) rfl rfl (GOk.mk rfl rfl hb) ?_
      clear S; intro aa S
      refine OL.pure S (Lf.run_gtr (S.ev rfl) (S.ev rfl)) rfl rfl (GOk.mk rfl rfl hb) ?_
      clear S; intro aa S
      refine OL.pure S (Lf.run_pickF (S.ev rfl) hb (S.ev rfl)) rfl rfl trivial ?_
      clear S; intro aa S
      refine OL.nil ?_
      exact ⟨_, S.sub _ ⟨rfl, rfl, rfl, rfl, rfl, rfl, trivial⟩, H⟩
  · clear S aa
    rintro aa ww ⟨x13, S, HJ⟩
    replace H := HK _ HJ
    clear HK HJ
    refine OL.pure S (Lf.run_move (S.ev rfl)) rfl rfl trivial ?_
    clear S; intro aa S
    obtain ⟨J_1, H, HK_1⟩ := H
    refine OL.cutN 5 (fun aa ww => ∃ x19, St 42 ((19, Value.bool x19) :: [(1, Value.int .i64 deep1), (2, Value.pointer (some p2)), (6, Value.int .i64 deep1), (7, Value.bool (deep1 == 0)), (8, Value.bool (deep1 == 0)), (13, Value.bool x13), (14, Value.bool x13)]) h1 w0 aa ww ∧ J_1 x19) ?_ ?_
    · rcases Bool.eq_false_or_eq_true x13 with hb_1 | hb_1
      · replace H := H.1 hb_1
        refine OL.not S rfl rfl (GNo.mk rfl rfl hb_1) ?_
        clear S; intro aa S
        refine OL.not S rfl rfl (GNo.mk rfl rfl hb_1) ?_
        clear S; intro aa S
        refine OL.not S rfl rfl (GNo.mk rfl rfl hb_1) ?_
        clear S; intro aa S
        refine OL.not S rfl rfl (GNo.mk rfl rfl hb_1) ?_
        clear S; intro aa S
        refine OL.pure S (Lf.run_pickT (S.ev rfl) hb_1 (S.ev rfl)) rfl rfl trivial ?_
        clear S; intro aa S
        refine OL.nil ?_
        exact ⟨_, S.sub _ ⟨rfl, rfl, rfl, rfl, rfl, rfl, rfl, rfl, trivial⟩, H⟩
      · replace H := H.2 hb_1
        refine OL.pure S (Lf.run_fa (S.ev rfl) fa34_4) rfl rfl (GOk.mk rfl rfl hb_1) ?_
        clear S; intro aa S
        obtain ⟨x16, c_1, H⟩ := H
        refine OL.pure S (Lf.run_ld (S.ev rfl) fl26 (S.cl c_1)) rfl rfl (GOk.mk rfl rfl hb_1) ?_
        clear S; intro aa S
        refine OL.pure S (Lf.run_lens (S.ev rfl) rfl Try.underlying26) rfl rfl (GOk.mk rfl rfl hb_1) ?_
        clear S; intro aa S
        refine OL.pure S (Lf.run_gtr (S.ev rfl) (S.ev rfl)) rfl rfl (GOk.mk rfl rfl hb_1) ?_
        clear S; intro aa S
        refine OL.pure S (Lf.run_pickF (S.ev rfl) hb_1 (S.ev rfl)) rfl rfl trivial ?_
        clear S; intro aa S
        refine OL.nil ?_
        exact ⟨_, S.sub _ ⟨rfl, rfl, rfl, rfl, rfl, rfl, rfl, rfl, trivial⟩, H⟩
    · clear S aa
      rintro aa ww ⟨x19, S, HJ⟩
      replace H := HK_1 _ HJ
      clear HK_1 HJ
      refine OL.pure S (Lf.run_move (S.ev rfl)) rfl rfl trivial ?_
      clear S; intro aa S
      obtain ⟨J_2, H, HK_2⟩ := H
      refine OL.cutN 5 (fun aa ww => ∃ x25, St 42 ((25, Value.bool x25) :: [(1, Value.int .i64 deep1), (2, Value.pointer (some p2)), (6, Value.int .i64 deep1), (7, Value.bool (deep1 == 0)), (8, Value.bool (deep1 == 0)), (13, Value.bool x13), (14, Value.bool x13), (19, Value.bool x19), (20, Value.bool x19)]) h1 w0 aa ww ∧ J_2 x25) ?_ ?_
      · rcases Bool.eq_false_or_eq_true x19 with hb_2 | hb_2
        · replace H := H.1 hb_2
          refine OL.not S rfl rfl (GNo.mk rfl rfl hb_2) ?_
          clear S; intro aa S
          refine OL.not S rfl rfl (GNo.mk rfl rfl hb_2) ?_
          clear S; intro aa S
          refine OL.not S rfl rfl (GNo.mk rfl rfl hb_2) ?_
          clear S; intro aa S
          refine OL.not S rfl rfl (GNo.mk rfl rfl hb_2) ?_
          clear S; intro aa S
          refine OL.pure S (Lf.run_pickT (S.ev rfl) hb_2 (S.ev rfl)) rfl rfl trivial ?_
          clear S; intro aa S
          refine OL.nil ?_
          exact ⟨_, S.sub _ ⟨rfl, rfl, rfl, rfl, rfl, rfl, rfl, rfl, rfl, rfl, trivial⟩, H⟩
        · replace H := H.2 hb_2
          refine OL.pure S (Lf.run_fa (S.ev rfl) fa34_1) rfl rfl (GOk.mk rfl rfl hb_2) ?_
          clear S; intro aa S
          obtain ⟨x22, c_2, H⟩ := H
          refine OL.pure S (Lf.run_ld (S.ev rfl) fl9 (S.cl c_2)) rfl rfl (GOk.mk rfl rfl hb_2) ?_
          clear S; intro aa S
          refine OL.pure S (Lf.run_lent (S.ev rfl) rfl Try.underlying9) rfl rfl (GOk.mk rfl rfl hb_2) ?_
          clear S; intro aa S
          refine OL.pure S (Lf.run_gtr (S.ev rfl) (S.ev rfl)) rfl rfl (GOk.mk rfl rfl hb_2) ?_
          clear S; intro aa S
          refine OL.pure S (Lf.run_pickF (S.ev rfl) hb_2 (S.ev rfl)) rfl rfl trivial ?_
          clear S; intro aa S
          refine OL.nil ?_
          exact ⟨_, S.sub _ ⟨rfl, rfl, rfl, rfl, rfl, rfl, rfl, rfl, rfl, rfl, trivial⟩, H⟩
      · clear S aa
        rintro aa ww ⟨x25, S, HJ⟩
        replace H := HK_2 _ HJ
        clear HK_2 HJ
        refine OL.nil ?_
        refine W.cond S (b := x25) rfl (fun hb_3 => ?_) (fun hb_3 => ?_)
        · replace H := H.1 hb_3
          refine W.seq ?_
          replace S := S.sub [] trivial
          refine W.region ?_
          refine OL.pure S (Lf.run_assign (S.ev rfl)) rfl rfl trivial ?_
          clear S; intro aa S
          refine OL.nil ?_
          refine W.ret ?_
          exact Ret.one S rfl rfl H
        · replace H := H.2 hb_3
          refine W.skip ?_
          refine W.seq ?_
          refine W.seq ?_
          replace S := S.sub [(1, Value.int .i64 deep1), (2, Value.pointer (some p2))] ⟨rfl, rfl, trivial⟩
          refine W.region ?_
          refine OL.pure S (Lf.run_assign (S.ev rfl)) rfl rfl trivial ?_
          clear S; intro aa S
          refine OL.nil ?_
          refine W.block ?_
          obtain ⟨I, m, H, HB⟩ := H
          refine W.loopS (σ := Int × Heap) (fun s aa ww => St 42 [(1, Value.int .i64 deep1), (2, Value.pointer (some p2)), (5, Value.int .i64 s.1)] s.2 w0 aa ww ∧ I s.1 s.2) (fun s => m s.1 s.2) (0, h1) ⟨S.sub _ ⟨rfl, rfl, rfl, trivial⟩, H⟩ ?_
          clear H S aa
          rintro ⟨i5, h2⟩ aa ww ⟨S, HI⟩
          replace S : St 42 [(1, Value.int .i64 deep1), (2, Value.pointer (some p2)), (5, Value.int .i64 i5)] h2 w0 aa ww := S
          have H := HB i5 h2 HI
          clear HI
          refine W.seq ?_
          refine W.seq ?_
          replace S := S.sub [(1, Value.int .i64 deep1), (2, Value.pointer (some p2)), (5, Value.int .i64 i5)] ⟨rfl, rfl, rfl, trivial⟩
          refine W.region ?_
          refine OL.pure S (Lf.run_move (S.ev rfl)) rfl rfl trivial ?_
          clear S; intro aa S
          refine OL.pure S (Lf.run_fa (S.ev rfl) fa34_5) rfl rfl trivial ?_
          clear S; intro aa S
          obtain ⟨x28, c_3, H⟩ := H
          refine OL.pure S (Lf.run_ld (S.ev rfl) fl32 (S.cl c_3)) rfl rfl trivial ?_
          clear S; intro aa S
          refine OL.pure S (Lf.run_lens (S.ev rfl) rfl Try.underlying32) rfl rfl trivial ?_
          clear S; intro aa S
          refine OL.pure S (Lf.run_lss (S.ev rfl) (S.ev rfl)) rfl rfl trivial ?_
          clear S; intro aa S
          refine OL.nil ?_
          refine W.cond S (b := (decide (i5 < ((x28.n : Nat) : Int)))) rfl (fun hb_4 => ?_) (fun hb_4 => ?_)
          · replace H := H.1 hb_4
            refine W.skip ?_
            refine W.seq ?_
            refine W.block ?_
            refine W.seq ?_
            replace S := S.sub [(1, Value.int .i64 deep1), (2, Value.pointer (some p2)), (5, Value.int .i64 i5)] ⟨rfl, rfl, rfl, trivial⟩
            refine W.region ?_
            refine OL.pure S (Lf.run_fa (S.ev rfl) fa34_5) rfl rfl trivial ?_
            clear S; intro aa S
            obtain ⟨x34, c_4, H⟩ := H
            refine OL.pure S (Lf.run_ld (S.ev rfl) fl32 (S.cl c_4)) rfl rfl trivial ?_
            clear S; intro aa S
            refine OL.pure S (Lf.run_move (S.ev rfl)) rfl rfl trivial ?_
            clear S; intro aa S
            obtain ⟨q36, e, e_1, e_2, H⟩ := H
            refine OL.pure S (Lf.run_ixs (S.ev rfl) (S.ev rfl) Try.underlying32 ti34 e e_1 e_2) rfl rfl trivial ?_
            clear S; intro aa S
            obtain ⟨y37, y37_1, y37_2, y37_3, y37_4, y37_5, c_6, c_7, c_8, c_9, c_10, c_11, H⟩ := H
            refine OL.pure S (Lf.run_ldA (cs := [Value.int .i64 y37, Value.string y37_1, Value.bool y37_2, Value.int .i64 y37_3, Value.slice y37_4.a y37_4.n y37_4.c, Value.slice y37_5.a y37_5.n y37_5.c]) (S.ev rfl) ag34 ti34 (by rw [S.heap]; exact RowL.toRow ⟨c_6, c_7, c_8, c_9, c_10, c_11, trivial⟩)) rfl rfl trivial ?_
            clear S; intro aa S
            refine OL.pure S (Lf.run_move (S.ev rfl)) rfl rfl trivial ?_
            clear S; intro aa S
            refine OL.pure S (Lf.run_sub (S.ev rfl) (S.ev rfl)) rfl rfl trivial ?_
            clear S; intro aa S
            refine ol_cal S H isfn11 rfl rfl trivial ?_
            clear S H aa; intro u aa ww h3 H S
            obtain ⟨x40, rfl, H⟩ := H
            refine OL.pure S (Lf.run_not (S.ev rfl)) rfl rfl trivial ?_
            clear S; intro aa S
            refine OL.nil ?_
            refine W.cond S (b := (!x40)) rfl (fun hb_5 => ?_) (fun hb_5 => ?_)
            · replace H := H.1 hb_5
              refine W.seq ?_
              replace S := S.sub [] trivial
              refine W.region ?_
              refine OL.pure S (Lf.run_assign (S.ev rfl)) rfl rfl trivial ?_
              clear S; intro aa S
              refine OL.nil ?_
              refine W.ret ?_
              exact Ret.one S rfl rfl H
            · replace H := H.2 hb_5
              refine W.skip ?_
              replace S := S.sub [(1, Value.int .i64 deep1), (2, Value.pointer (some p2)), (5, Value.int .i64 i5)] ⟨rfl, rfl, rfl, trivial⟩
              refine W.region ?_
              refine OL.pure S (Lf.run_move (S.ev rfl)) rfl rfl trivial ?_
              clear S; intro aa S
              refine OL.pure S (Lf.run_add (S.ev rfl) (S.ev rfl)) rfl rfl trivial ?_
              clear S; intro aa S
              refine OL.pure S (Lf.run_assign (S.ev rfl)) rfl rfl trivial ?_
              clear S; intro aa S
              refine OL.nil ?_
              exact ⟨((IntKind.i64.wrap (i5 + 1)), h3), ⟨S.sub _ ⟨rfl, rfl, rfl, trivial⟩, H.1⟩, H.2⟩
          · replace H := H.2 hb_4
            refine W.exit_ ?_
            refine xhit ?_
            refine W.seq ?_
            replace S := S.sub [] trivial
            refine W.region ?_
            refine OL.pure S (Lf.run_assign (S.ev rfl)) rfl rfl trivial ?_
            clear S; intro aa S
            refine OL.nil ?_
            refine W.ret ?_
            exact Ret.one S rfl rfl H

/-- chattel vary.Find -/
def L12 (l0 : Sv) (h : Heap) (R : Value → Heap → Prop) : Prop :=
  newM h fun m7 h1 =>
  ∃ (I : Int → Heap → Prop) (m : Int → Heap → Nat), I 0 h1 ∧ ∀ x10 h2, I x10 h2 →
  ifb (decide (x10 < ((l0.n : Nat) : Int))) (
    ixS l0 x10 fun q12 =>
    ∃ (y13 : ByteArray) (y13_1 : Int) (y13_2 : Sv) (y13_3 : Sv), cl h2 (q12.add ((x10 : Int).toNat * 4)) = some (Value.string y13) ∧ cl h2 ((q12.add ((x10 : Int).toNat * 4)).add 1) = some (Value.int .i64 y13_1) ∧ cl h2 ((q12.add ((x10 : Int).toNat * 4)).add 2) = some (Value.slice y13_2.a y13_2.n y13_2.c) ∧ cl h2 ((q12.add ((x10 : Int).toNat * 4)).add 3) = some (Value.slice y13_3.a y13_3.n y13_3.c) ∧
    new 39 #[Value.string (⟨#[]⟩ : ByteArray), Value.int .i64 0, Value.slice (⟨none, 0, 0⟩ : Sv).a (⟨none, 0, 0⟩ : Sv).n (⟨none, 0, 0⟩ : Sv).c, Value.slice (⟨none, 0, 0⟩ : Sv).a (⟨none, 0, 0⟩ : Sv).n (⟨none, 0, 0⟩ : Sv).c] h2 fun p5 h3 =>
    stoA h3 p5 [Value.string y13, Value.int .i64 y13_1, Value.slice y13_2.a y13_2.n y13_2.c, Value.slice y13_3.a y13_3.n y13_3.c] fun h4 =>
    ∃ Sq : Heap → Prop, Sq h4 ∧ (
      hlT Sq p5 fun x16 =>
      hlI .i64 Sq (p5.add 1) fun x18 =>
      ldS h4 (p5.add 2) fun x22 =>
      mkS 3 (Value.int .i64 0).cells 1 8 (IntKind.i64.wrap ((if (if 100 < x18 then 100 else x18) > 0 then (if 100 < x18 then 100 else x18) else 0) + ((x22.n : Nat) : Int))) (IntKind.i64.wrap ((if (if 100 < x18 then 100 else x18) > 0 then (if 100 < x18 then 100 else x18) else 0) + ((x22.n : Nat) : Int))) h4 fun s25 h5 =>
      Sq h5 ∧
      updS h5 (Value.map (some m7)) x16 (Value.slice s25.a s25.n s25.c) fun h6 =>
      I (IntKind.i64.wrap (x10 + 1)) h6 ∧ m (IntKind.i64.wrap (x10 + 1)) h6 < m x10 h2)) (
    ∃ (I_1 : Option Nat → Heap → Prop) (m_1 : Option Nat → Heap → Nat), I_1 (some m7) h2 ∧ ∀ ways3 h7, I_1 ways3 h7 →
    cal Try.prog 14 #[Value.slice l0.a l0.n l0.c, Value.map ways3] h7 fun u h8 => asM u fun x29 =>
    cal Try.prog 15 #[Value.map x29, Value.map ways3, (Value.func (.func 16) #[] #[])] h8 fun u_1 h9 => asB u_1 fun x32 =>
    ifb x32 (
      R (Value.map ways3) h9) (
      I_1 x29 h9 ∧ m_1 x29 h9 < m_1 ways3 h7))

set_option maxRecDepth 100000 in

theorem F12 {l0 h : _} {R : Value → Heap → Prop} (H : L12 l0 h R) : CallsH Try.prog 12 #[Value.slice l0.a l0.n l0.c] h R := by
  refine CallsH.enter (n := 35) Try.func12 rfl rfl rfl rfl ?_
  intro w0 aa ww S
  unfold L12 at H
  refine W.seq ?_
  replace S := S.sub [(0, Value.slice l0.a l0.n l0.c)] ⟨rfl, trivial⟩
  refine W.region ?_
  refine OL.pure S (Lf.run_assign (S.ev rfl)) rfl rfl trivial ?_
  clear S; intro aa S
  refine OL.nil ?_
  refine W.seq ?_
  replace S := S.sub [(0, Value.slice l0.a l0.n l0.c)] ⟨rfl, trivial⟩
  refine W.region ?_
  refine ol_newM S H rfl trivial ?_
  clear S H aa; intro m7 aa ww h1 H S
  refine OL.pure S (Lf.run_assign (S.ev rfl)) rfl rfl trivial ?_
  clear S; intro aa S
  refine OL.nil ?_
  refine W.seq ?_
  refine W.seq ?_
  replace S := S.sub [(0, Value.slice l0.a l0.n l0.c), (3, Value.map (some m7))] ⟨rfl, rfl, trivial⟩
  refine W.region ?_
  refine OL.pure S (Lf.run_move (S.ev rfl)) rfl rfl trivial ?_
  clear S; intro aa S
  refine OL.pure S (Lf.run_lens (S.ev rfl) rfl Try.underlying31) rfl rfl trivial ?_
  clear S; intro aa S
  refine OL.pure S (Lf.run_move (S.ev rfl)) rfl rfl trivial ?_
  clear S; intro aa S
  refine OL.nil ?_
  refine W.block ?_
  obtain ⟨I, m, H, HB_1⟩ := H
  refine W.loopS (σ := Int × Heap) (fun s aa ww => St 35 [(0, Value.slice l0.a l0.n l0.c), (3, Value.map (some m7)), (8, Value.slice l0.a l0.n l0.c), (9, Value.int .i64 ((l0.n : Nat) : Int)), (10, Value.int .i64 s.1)] s.2 w0 aa ww ∧ I s.1 s.2) (fun s => m s.1 s.2) (0, h1) ⟨S.sub _ ⟨rfl, rfl, rfl, rfl, rfl, trivial⟩, H⟩ ?_
  clear H S aa
  rintro ⟨x10, h2⟩ aa ww ⟨S, HI⟩
  replace S : St 35 [(0, Value.slice l0.a l0.n l0.c), (3, Value.map (some m7)), (8, Value.slice l0.a l0.n l0.c), (9, Value.int .i64 ((l0.n : Nat) : Int)), (10, Value.int .i64 x10)] h2 w0 aa ww := S
  have H := HB_1 x10 h2 HI
  clear HI
  refine W.seq ?_
  replace S := S.sub [(0, Value.slice l0.a l0.n l0.c), (3, Value.map (some m7)), (8, Value.slice l0.a l0.n l0.c), (9, Value.int .i64 ((l0.n : Nat) : Int)), (10, Value.int .i64 x10)] ⟨rfl, rfl, rfl, rfl, rfl, trivial⟩
  refine W.region ?_
  refine OL.pure S (Lf.run_lss (S.ev rfl) (S.ev rfl)) rfl rfl trivial ?_
  clear S; intro aa S
  refine OL.nil ?_
  refine W.seq ?_
  refine W.cond S (b := (decide (x10 < ((l0.n : Nat) : Int)))) rfl (fun hb => ?_) (fun hb => ?_)
  · replace H := H.1 hb
    refine W.skip ?_
    refine W.seq ?_
    refine W.block ?_
    refine W.seq ?_
    replace S := S.sub [(0, Value.slice l0.a l0.n l0.c), (3, Value.map (some m7)), (8, Value.slice l0.a l0.n l0.c), (9, Value.int .i64 ((l0.n : Nat) : Int)), (10, Value.int .i64 x10)] ⟨rfl, rfl, rfl, rfl, rfl, trivial⟩
    refine W.region ?_
    obtain ⟨q12, e, e_1, e_2, H⟩ := H
    refine OL.pure S (Lf.run_ixs (S.ev rfl) (S.ev rfl) Try.underlying31 ti39 e e_1 e_2) rfl rfl trivial ?_
    clear S; intro aa S
    obtain ⟨y13, y13_1, y13_2, y13_3, c_4, c_5, c_6, c_7, H⟩ := H
    refine OL.pure S (Lf.run_ldA (cs := [Value.string y13, Value.int .i64 y13_1, Value.slice y13_2.a y13_2.n y13_2.c, Value.slice y13_3.a y13_3.n y13_3.c]) (S.ev rfl) ag39 ti39 (by rw [S.heap]; exact RowL.toRow ⟨c_4, c_5, c_6, c_7, trivial⟩)) rfl rfl trivial ?_
    clear S; intro aa S
    refine ol_alloc S H ti39 rfl rfl trivial ?_
    clear S H aa; intro p5 aa ww h3 H S
    refine ol_stoA S H rfl rfl ti39 trivial ?_
    clear S H aa; intro aa ww h4 H S
    refine OL.nil ?_
    replace S := S.sub [(0, Value.slice l0.a l0.n l0.c), (3, Value.map (some m7)), (5, Value.pointer (some p5)), (8, Value.slice l0.a l0.n l0.c), (9, Value.int .i64 ((l0.n : Nat) : Int)), (10, Value.int .i64 x10)] ⟨rfl, rfl, rfl, rfl, rfl, rfl, trivial⟩
    obtain ⟨Sq, HS, H⟩ := H
    refine W.regionN [2, 4] [11, 12] Sq S (by kernel_rfl) ?_
    clear S; intro ww S
    refine BN.pure 0 S (fun _ => HS) rfl (by kernel_rfl) (by kernel_rfl) (fun _ => Lf.run_move (S.ev rfl)) rfl rfl trivial ?_
    clear S; intro aa S
    refine BN.pure 1 S (fun _ => HS) rfl (by kernel_rfl) (by kernel_rfl) (fun _ => Lf.run_fa (S.ev rfl) fa39_0) rfl rfl trivial ?_
    clear S; intro aa S
    refine BN.pure 3 S (fun _ => HS) rfl (by kernel_rfl) (by kernel_rfl) (fun _ => Lf.run_fa (S.ev rfl) fa39_1) rfl rfl trivial ?_
    clear S; intro aa S
    refine BN.pure 7 S (fun _ => HS) rfl (by kernel_rfl) (by kernel_rfl) (fun _ => Lf.run_fa (S.ev rfl) fa39_2) rfl rfl trivial ?_
    clear S; intro aa S
    obtain ⟨x16, c_1, H⟩ := H
    refine BN.held 2 S HS rfl (by kernel_rfl) (fun _ hq => Lf.run_ld (S.ev rfl) fl9 (c_1 _ hq)) rfl rfl trivial ?_
    clear S; intro aa S
    obtain ⟨x18, c_2, H⟩ := H
    refine BN.held 4 S HS rfl (by kernel_rfl) (fun _ hq => Lf.run_ld (S.ev rfl) fl3 (c_2 _ hq)) rfl rfl trivial ?_
    clear S; intro aa S
    refine BN.pure 5 S (fun _ => HS) rfl (by kernel_rfl) (by kernel_rfl) (fun _ => Lf.run_min (S.ev rfl) (S.ev rfl)) rfl rfl trivial ?_
    clear S; intro aa S
    refine BN.pure 6 S (fun _ => HS) rfl (by kernel_rfl) (by kernel_rfl) (fun _ => Lf.run_max (S.ev rfl) (S.ev rfl)) rfl rfl trivial ?_
    clear S; intro aa S
    obtain ⟨x22, c_3, H⟩ := H
    refine BN.load 8 S (fun _ => HS) rfl (by kernel_rfl) (by kernel_rfl) (fun _ hx => Lf.run_ld (S.ev rfl) fl37 (hx.cell _ _ (S.cl c_3))) rfl rfl trivial ?_
    clear S; intro aa S
    refine BN.pure 9 S (fun _ => HS) rfl (by kernel_rfl) (by kernel_rfl) (fun _ => Lf.run_lens (S.ev rfl) rfl Try.underlying37) rfl rfl trivial ?_
    clear S; intro aa S
    refine BN.pure 10 S (fun _ => HS) rfl (by kernel_rfl) (by kernel_rfl) (fun _ => Lf.run_add (S.ev rfl) (S.ev rfl)) rfl rfl trivial ?_
    clear S; intro aa S
    refine BN.eff 11 rfl (by kernel_rfl) ?_
    refine ol_mkS S H Try.underlying26 ti3 rfl rfl rfl trivial ?_
    clear S H aa; intro s25 aa ww h5 H S
    refine OL.nil ?_
    clear HS; obtain ⟨HS, H⟩ := H
    refine ⟨fun _ => by rw [S.heap]; exact HS, ?_⟩
    refine BN.eff 12 rfl (by kernel_rfl) ?_
    refine ol_updS S H Try.underlying28 Try.underlying9 rfl rfl rfl trivial ?_
    clear S H aa; intro aa ww h6 H S
    refine OL.nil ?_
    refine ⟨noNeed (by kernel_rfl), ?_⟩
    refine BN.done (by kernel_rfl) ?_
    replace S := S.sub [(0, Value.slice l0.a l0.n l0.c), (3, Value.map (some m7)), (8, Value.slice l0.a l0.n l0.c), (9, Value.int .i64 ((l0.n : Nat) : Int)), (10, Value.int .i64 x10)] ⟨rfl, rfl, rfl, rfl, rfl, trivial⟩
    refine W.region ?_
    refine OL.pure S (Lf.run_add (S.ev rfl) (S.ev rfl)) rfl rfl trivial ?_
    clear S; intro aa S
    refine OL.pure S (Lf.run_move (S.ev rfl)) rfl rfl trivial ?_
    clear S; intro aa S
    refine OL.nil ?_
    exact ⟨((IntKind.i64.wrap (x10 + 1)), h6), ⟨S.sub _ ⟨rfl, rfl, rfl, rfl, rfl, trivial⟩, H.1⟩, H.2⟩
  · replace H := H.2 hb
    refine W.exit_ ?_
    refine xhit ?_
    refine W.block ?_
    obtain ⟨I_1, m_1, H, HB⟩ := H
    refine W.loopS (σ := (Option Nat) × Heap) (fun s aa ww => St 35 [(0, Value.slice l0.a l0.n l0.c), (3, Value.map s.1)] s.2 w0 aa ww ∧ I_1 s.1 s.2) (fun s => m_1 s.1 s.2) ((some m7), h2) ⟨S.sub _ ⟨rfl, rfl, trivial⟩, H⟩ ?_
    clear H S aa
    rintro ⟨ways3, h7⟩ aa ww ⟨S, HI⟩
    replace S : St 35 [(0, Value.slice l0.a l0.n l0.c), (3, Value.map ways3)] h7 w0 aa ww := S
    have H := HB ways3 h7 HI
    clear HI
    refine W.block ?_
    refine W.seq ?_
    replace S := S.sub [(0, Value.slice l0.a l0.n l0.c), (3, Value.map ways3)] ⟨rfl, rfl, trivial⟩
    refine W.region ?_
    refine OL.pure S (Lf.run_move (S.ev rfl)) rfl rfl trivial ?_
    clear S; intro aa S
    refine OL.pure S (Lf.run_move (S.ev rfl)) rfl rfl trivial ?_
    clear S; intro aa S
    refine ol_cal S H isfn14 rfl rfl trivial ?_
    clear S H aa; intro u aa ww h8 H S
    obtain ⟨x29, rfl, H⟩ := H
    refine OL.pure S (Lf.run_assign (S.ev rfl)) rfl rfl trivial ?_
    clear S; intro aa S
    refine OL.nil ?_
    refine W.seq ?_
    refine W.seq ?_
    replace S := S.sub [(0, Value.slice l0.a l0.n l0.c), (3, Value.map ways3), (6, Value.map x29)] ⟨rfl, rfl, rfl, trivial⟩
    refine W.region ?_
    refine OL.pure S (Lf.run_move (S.ev rfl)) rfl rfl trivial ?_
    clear S; intro aa S
    refine OL.pure S (Lf.run_move (S.ev rfl)) rfl rfl trivial ?_
    clear S; intro aa S
    refine ol_cal S H isfn15 rfl rfl trivial ?_
    clear S H aa; intro u_1 aa ww h9 H S
    obtain ⟨x32, rfl, H⟩ := H
    refine OL.nil ?_
    refine W.cond S (b := x32) rfl (fun hb_1 => ?_) (fun hb_1 => ?_)
    · replace H := H.1 hb_1
      refine W.seq ?_
      replace S := S.sub [(3, Value.map ways3)] ⟨rfl, trivial⟩
      refine W.region ?_
      refine OL.pure S (Lf.run_move (S.ev rfl)) rfl rfl trivial ?_
      clear S; intro aa S
      refine OL.pure S (Lf.run_assign (S.ev rfl)) rfl rfl trivial ?_
      clear S; intro aa S
      refine OL.nil ?_
      refine W.ret ?_
      exact Ret.one S rfl rfl H
    · replace H := H.2 hb_1
      refine W.skip ?_
      replace S := S.sub [(0, Value.slice l0.a l0.n l0.c), (6, Value.map x29)] ⟨rfl, rfl, trivial⟩
      refine W.region ?_
      refine OL.pure S (Lf.run_move (S.ev rfl)) rfl rfl trivial ?_
      clear S; intro aa S
      refine OL.pure S (Lf.run_assign (S.ev rfl)) rfl rfl trivial ?_
      clear S; intro aa S
      refine OL.nil ?_
      exact ⟨(x29, h9), ⟨S.sub _ ⟨rfl, rfl, trivial⟩, H.1⟩, H.2⟩

/-- chattel chattelref01.Ints -/
def L13 (a0 : Sv) (b1 : Sv) (h : Heap) (R : Value → Heap → Prop) : Prop :=
  ifb (((a0.n : Nat) : Int) != ((b1.n : Nat) : Int)) (
    R (Value.bool false) h) (
    ∃ (I : Int → Prop) (m : Int → Nat), I 0 ∧ ∀ i5, I i5 →
    ifb (decide (i5 < ((a0.n : Nat) : Int))) (
      ixS a0 i5 fun q19 =>
      ldI .i64 h (q19.add ((i5 : Int).toNat * 1)) fun x20 =>
      ixS b1 i5 fun q23 =>
      ldI .i64 h (q23.add ((i5 : Int).toNat * 1)) fun x24 =>
      ifb (x20 != x24) (
        R (Value.bool false) h) (
        I (IntKind.i64.wrap (i5 + 1)) ∧ m (IntKind.i64.wrap (i5 + 1)) < m i5)) (
      R (Value.bool true) h))

set_option maxRecDepth 100000 in

theorem F13 {a0 b1 h : _} {R : Value → Heap → Prop} (H : L13 a0 b1 h R) : CallsH Try.prog 13 #[Value.slice a0.a a0.n a0.c, Value.slice b1.a b1.n b1.c] h R := by
  refine CallsH.enter (n := 26) Try.func13 rfl rfl rfl rfl ?_
  intro w0 aa ww S
  unfold L13 at H
  refine W.seq ?_
  replace S := S.sub [(0, Value.slice a0.a a0.n a0.c), (1, Value.slice b1.a b1.n b1.c)] ⟨rfl, rfl, trivial⟩
  refine W.region ?_
  refine OL.pure S (Lf.run_assign (S.ev rfl)) rfl rfl trivial ?_
  clear S; intro aa S
  refine OL.nil ?_
  refine W.seq ?_
  refine W.seq ?_
  replace S := S.sub [(0, Value.slice a0.a a0.n a0.c), (1, Value.slice b1.a b1.n b1.c)] ⟨rfl, rfl, trivial⟩
  refine W.region ?_
  refine OL.pure S (Lf.run_move (S.ev rfl)) rfl rfl trivial ?_
  clear S; intro aa S
  refine OL.pure S (Lf.run_lens (S.ev rfl) rfl Try.underlying26) rfl rfl trivial ?_
  clear S; intro aa S
  refine OL.pure S (Lf.run_move (S.ev rfl)) rfl rfl trivial ?_
  clear S; intro aa S
  refine OL.pure S (Lf.run_lens (S.ev rfl) rfl Try.underlying26) rfl rfl trivial ?_
  clear S; intro aa S
  refine OL.pure S (Lf.run_neq (S.ev rfl) (S.ev rfl)) rfl rfl trivial ?_
  clear S; intro aa S
  refine OL.nil ?_
  refine W.cond S (b := (((a0.n : Nat) : Int) != ((b1.n : Nat) : Int))) rfl (fun hb => ?_) (fun hb => ?_)
  · replace H := H.1 hb
    refine W.seq ?_
    replace S := S.sub [] trivial
    refine W.region ?_
    refine OL.pure S (Lf.run_assign (S.ev rfl)) rfl rfl trivial ?_
    clear S; intro aa S
    refine OL.nil ?_
    refine W.ret ?_
    exact Ret.one S rfl rfl H
  · replace H := H.2 hb
    refine W.skip ?_
    refine W.seq ?_
    refine W.seq ?_
    replace S := S.sub [(0, Value.slice a0.a a0.n a0.c), (1, Value.slice b1.a b1.n b1.c)] ⟨rfl, rfl, trivial⟩
    refine W.region ?_
    refine OL.pure S (Lf.run_assign (S.ev rfl)) rfl rfl trivial ?_
    clear S; intro aa S
    refine OL.nil ?_
    refine W.block ?_
    obtain ⟨I, m, H, HB⟩ := H
    refine W.loopS (σ := Int) (fun s aa ww => St 26 [(0, Value.slice a0.a a0.n a0.c), (1, Value.slice b1.a b1.n b1.c), (5, Value.int .i64 s)] h w0 aa ww ∧ I s) (fun s => m s) (0) ⟨S.sub _ ⟨rfl, rfl, rfl, trivial⟩, H⟩ ?_
    clear H S aa
    rintro i5 aa ww ⟨S, HI⟩
    replace S : St 26 [(0, Value.slice a0.a a0.n a0.c), (1, Value.slice b1.a b1.n b1.c), (5, Value.int .i64 i5)] h w0 aa ww := S
    have H := HB i5 HI
    clear HI
    refine W.seq ?_
    refine W.seq ?_
    replace S := S.sub [(0, Value.slice a0.a a0.n a0.c), (1, Value.slice b1.a b1.n b1.c), (5, Value.int .i64 i5)] ⟨rfl, rfl, rfl, trivial⟩
    refine W.region ?_
    refine OL.pure S (Lf.run_move (S.ev rfl)) rfl rfl trivial ?_
    clear S; intro aa S
    refine OL.pure S (Lf.run_move (S.ev rfl)) rfl rfl trivial ?_
    clear S; intro aa S
    refine OL.pure S (Lf.run_lens (S.ev rfl) rfl Try.underlying26) rfl rfl trivial ?_
    clear S; intro aa S
    refine OL.pure S (Lf.run_lss (S.ev rfl) (S.ev rfl)) rfl rfl trivial ?_
    clear S; intro aa S
    refine OL.nil ?_
    refine W.cond S (b := (decide (i5 < ((a0.n : Nat) : Int)))) rfl (fun hb_1 => ?_) (fun hb_1 => ?_)
    · replace H := H.1 hb_1
      refine W.skip ?_
      refine W.seq ?_
      refine W.block ?_
      refine W.seq ?_
      replace S := S.sub [(0, Value.slice a0.a a0.n a0.c), (1, Value.slice b1.a b1.n b1.c), (5, Value.int .i64 i5)] ⟨rfl, rfl, rfl, trivial⟩
      refine W.regionD S (by kernel_rfl) ?_
      clear S; intro ww S
      refine AN.pure 0 S rfl (by kernel_rfl) (fun _ => Lf.run_move (S.ev rfl)) rfl rfl trivial ?_
      clear S; intro aa S
      refine AN.pure 1 S rfl (by kernel_rfl) (fun _ => Lf.run_move (S.ev rfl)) rfl rfl trivial ?_
      clear S; intro aa S
      obtain ⟨q19, e, e_1, e_2, H⟩ := H
      refine AN.pure 2 S rfl (by kernel_rfl) (fun _ => Lf.run_ixs (S.ev rfl) (S.ev rfl) Try.underlying26 ti3 e e_1 e_2) rfl rfl trivial ?_
      clear S; intro aa S
      obtain ⟨x20, c, H⟩ := H
      refine AN.load 3 S rfl (by kernel_rfl) (fun _ hx => Lf.run_ld (S.ev rfl) fl3 (hx.cell _ _ (S.cl c))) rfl rfl trivial ?_
      clear S; intro aa S
      refine AN.pure 4 S rfl (by kernel_rfl) (fun _ => Lf.run_move (S.ev rfl)) rfl rfl trivial ?_
      clear S; intro aa S
      refine AN.pure 5 S rfl (by kernel_rfl) (fun _ => Lf.run_move (S.ev rfl)) rfl rfl trivial ?_
      clear S; intro aa S
      obtain ⟨q23, e_3, e_4, e_5, H⟩ := H
      refine AN.pure 6 S rfl (by kernel_rfl) (fun _ => Lf.run_ixs (S.ev rfl) (S.ev rfl) Try.underlying26 ti3 e_3 e_4 e_5) rfl rfl trivial ?_
      clear S; intro aa S
      obtain ⟨x24, c_1, H⟩ := H
      refine AN.load 7 S rfl (by kernel_rfl) (fun _ hx => Lf.run_ld (S.ev rfl) fl3 (hx.cell _ _ (S.cl c_1))) rfl rfl trivial ?_
      clear S; intro aa S
      refine AN.pure 8 S rfl (by kernel_rfl) (fun _ => Lf.run_neq (S.ev rfl) (S.ev rfl)) rfl rfl trivial ?_
      clear S; intro aa S
      refine AN.done (by kernel_rfl) ?_
      refine W.cond S (b := (x20 != x24)) rfl (fun hb_2 => ?_) (fun hb_2 => ?_)
      · replace H := H.1 hb_2
        refine W.seq ?_
        replace S := S.sub [] trivial
        refine W.region ?_
        refine OL.pure S (Lf.run_assign (S.ev rfl)) rfl rfl trivial ?_
        clear S; intro aa S
        refine OL.nil ?_
        refine W.ret ?_
        exact Ret.one S rfl rfl H
      · replace H := H.2 hb_2
        refine W.skip ?_
        replace S := S.sub [(0, Value.slice a0.a a0.n a0.c), (1, Value.slice b1.a b1.n b1.c), (5, Value.int .i64 i5)] ⟨rfl, rfl, rfl, trivial⟩
        refine W.region ?_
        refine OL.pure S (Lf.run_move (S.ev rfl)) rfl rfl trivial ?_
        clear S; intro aa S
        refine OL.pure S (Lf.run_add (S.ev rfl) (S.ev rfl)) rfl rfl trivial ?_
        clear S; intro aa S
        refine OL.pure S (Lf.run_assign (S.ev rfl)) rfl rfl trivial ?_
        clear S; intro aa S
        refine OL.nil ?_
        exact ⟨((IntKind.i64.wrap (i5 + 1))), ⟨S.sub _ ⟨rfl, rfl, rfl, trivial⟩, H.1⟩, H.2⟩
    · replace H := H.2 hb_1
      refine W.exit_ ?_
      refine xhit ?_
      refine W.seq ?_
      replace S := S.sub [] trivial
      refine W.region ?_
      refine OL.pure S (Lf.run_assign (S.ev rfl)) rfl rfl trivial ?_
      clear S; intro aa S
      refine OL.nil ?_
      refine W.ret ?_
      exact Ret.one S rfl rfl H

/-- chattel vary.Once -/
def L14 (l0 : Sv) (ways1 : Option Nat) (h : Heap) (R : Value → Heap → Prop) : Prop :=
  newM h fun m11 h1 =>
  ∃ (I : Int → Heap → Prop) (m : Int → Heap → Nat), I 0 h1 ∧ ∀ x14 h2, I x14 h2 →
  ifb (decide (x14 < ((l0.n : Nat) : Int))) (
    ixS l0 x14 fun q16 =>
    ∃ (y17 : ByteArray) (y17_1 : Int) (y17_2 : Sv) (y17_3 : Sv), cl h2 (q16.add ((x14 : Int).toNat * 4)) = some (Value.string y17) ∧ cl h2 ((q16.add ((x14 : Int).toNat * 4)).add 1) = some (Value.int .i64 y17_1) ∧ cl h2 ((q16.add ((x14 : Int).toNat * 4)).add 2) = some (Value.slice y17_2.a y17_2.n y17_2.c) ∧ cl h2 ((q16.add ((x14 : Int).toNat * 4)).add 3) = some (Value.slice y17_3.a y17_3.n y17_3.c) ∧
    new 39 #[Value.string (⟨#[]⟩ : ByteArray), Value.int .i64 0, Value.slice (⟨none, 0, 0⟩ : Sv).a (⟨none, 0, 0⟩ : Sv).n (⟨none, 0, 0⟩ : Sv).c, Value.slice (⟨none, 0, 0⟩ : Sv).a (⟨none, 0, 0⟩ : Sv).n (⟨none, 0, 0⟩ : Sv).c] h2 fun p7 h3 =>
    stoA h3 p7 [Value.string y17, Value.int .i64 y17_1, Value.slice y17_2.a y17_2.n y17_2.c, Value.slice y17_3.a y17_3.n y17_3.c] fun h4 =>
    ∃ Sq : Heap → Prop, Sq h4 ∧ (
      ∃ (y18 : ByteArray) (y18_1 : Int) (y18_2 : Sv) (y18_3 : Sv), hld Sq p7 (Value.string y18) ∧ hld Sq (p7.add 1) (Value.int .i64 y18_1) ∧ hld Sq (p7.add 2) (Value.slice y18_2.a y18_2.n y18_2.c) ∧ hld Sq (p7.add 3) (Value.slice y18_3.a y18_3.n y18_3.c) ∧
      hlI .i64 Sq (p7.add 1) fun x21 =>
      ldS h4 (p7.add 2) fun x25 =>
      mkS 3 (Value.int .i64 0).cells 1 8 (IntKind.i64.wrap ((if (if 100 < x21 then 100 else x21) > 0 then (if 100 < x21 then 100 else x21) else 0) + ((x25.n : Nat) : Int))) (IntKind.i64.wrap ((if (if 100 < x21 then 100 else x21) > 0 then (if 100 < x21 then 100 else x21) else 0) + ((x25.n : Nat) : Int))) h4 fun s28 h5 =>
      Sq h5 ∧
      new 47 #[Value.string y18, Value.int .i64 y18_1, Value.slice y18_2.a y18_2.n y18_2.c, Value.slice y18_3.a y18_3.n y18_3.c, Value.map ways1, Value.slice s28.a s28.n s28.c] h5 fun p30 h6 =>
      ldI .i64 h6 (p7.add 1) fun x33 =>
      sto h6 (p30.add 1) (Value.int .i64 (if (if 100 < x33 then 100 else x33) > 0 then (if 100 < x33 then 100 else x33) else 0)) fun h7 =>
      ldS h7 (p7.add 3) fun x40 =>
      ∃ (I_1 : Int → Heap → Prop) (m_1 : Int → Heap → Nat), I_1 0 h7 ∧ ∀ x42 h8, I_1 x42 h8 →
      ifb (decide (x42 < ((x40.n : Nat) : Int))) (
        ixS x40 x42 fun q44 =>
        ∃ (y45 : Int) (y45_1 : ByteArray) (y45_2 : Bool) (y45_3 : Int) (y45_4 : Sv) (y45_5 : Sv), cl h8 (q44.add ((x42 : Int).toNat * 6)) = some (Value.int .i64 y45) ∧ cl h8 ((q44.add ((x42 : Int).toNat * 6)).add 1) = some (Value.string y45_1) ∧ cl h8 ((q44.add ((x42 : Int).toNat * 6)).add 2) = some (Value.bool y45_2) ∧ cl h8 ((q44.add ((x42 : Int).toNat * 6)).add 3) = some (Value.int .i64 y45_3) ∧ cl h8 ((q44.add ((x42 : Int).toNat * 6)).add 4) = some (Value.slice y45_4.a y45_4.n y45_4.c) ∧ cl h8 ((q44.add ((x42 : Int).toNat * 6)).add 5) = some (Value.slice y45_5.a y45_5.n y45_5.c) ∧
        new 34 #[Value.int .i64 0, Value.string (⟨#[]⟩ : ByteArray), Value.bool false, Value.int .i64 0, Value.slice (⟨none, 0, 0⟩ : Sv).a (⟨none, 0, 0⟩ : Sv).n (⟨none, 0, 0⟩ : Sv).c, Value.slice (⟨none, 0, 0⟩ : Sv).a (⟨none, 0, 0⟩ : Sv).n (⟨none, 0, 0⟩ : Sv).c] h8 fun p10 h9 =>
        stoA h9 p10 [Value.int .i64 y45, Value.string y45_1, Value.bool y45_2, Value.int .i64 y45_3, Value.slice y45_4.a y45_4.n y45_4.c, Value.slice y45_5.a y45_5.n y45_5.c] fun h10 =>
        ∃ (y47 : Int) (y47_1 : ByteArray) (y47_2 : Bool) (y47_3 : Int) (y47_4 : Sv) (y47_5 : Sv), cl h10 p10 = some (Value.int .i64 y47) ∧ cl h10 (p10.add 1) = some (Value.string y47_1) ∧ cl h10 (p10.add 2) = some (Value.bool y47_2) ∧ cl h10 (p10.add 3) = some (Value.int .i64 y47_3) ∧ cl h10 (p10.add 4) = some (Value.slice y47_4.a y47_4.n y47_4.c) ∧ cl h10 (p10.add 5) = some (Value.slice y47_5.a y47_5.n y47_5.c) ∧
        cal Try.prog 17 #[Value.pointer (some p30), Value.agg #[Value.int .i64 y47, Value.string y47_1, Value.bool y47_2, Value.int .i64 y47_3, Value.slice y47_4.a y47_4.n y47_4.c, Value.slice y47_5.a y47_5.n y47_5.c], Value.int .i64 1] h10 fun u h11 =>
        I_1 (IntKind.i64.wrap (x42 + 1)) h11 ∧ m_1 (IntKind.i64.wrap (x42 + 1)) h11 < m_1 x42 h8) (
        ldT h8 p7 fun x52 =>
        ldS h8 (p30.add 5) fun x56 =>
        updS h8 (Value.map (some m11)) x52 (Value.slice x56.a x56.n x56.c) fun h12 =>
        I (IntKind.i64.wrap (x14 + 1)) h12 ∧ m (IntKind.i64.wrap (x14 + 1)) h12 < m x14 h2))) (
    R (Value.map (some m11)) h2)

set_option maxRecDepth 100000 in

theorem F14 {l0 ways1 h : _} {R : Value → Heap → Prop} (H : L14 l0 ways1 h R) : CallsH Try.prog 14 #[Value.slice l0.a l0.n l0.c, Value.map ways1] h R := by
  refine CallsH.enter (n := 59) Try.func14 rfl rfl rfl rfl ?_
  intro w0 aa ww S
  unfold L14 at H
  refine W.seq ?_
  replace S := S.sub [(0, Value.slice l0.a l0.n l0.c), (1, Value.map ways1)] ⟨rfl, rfl, trivial⟩
  refine W.region ?_
  refine OL.pure S (Lf.run_assign (S.ev rfl)) rfl rfl trivial ?_
  clear S; intro aa S
  refine OL.nil ?_
  refine W.seq ?_
  replace S := S.sub [(0, Value.slice l0.a l0.n l0.c), (1, Value.map ways1)] ⟨rfl, rfl, trivial⟩
  refine W.region ?_
  refine ol_newM S H rfl trivial ?_
  clear S H aa; intro m11 aa ww h1 H S
  refine OL.pure S (Lf.run_assign (S.ev rfl)) rfl rfl trivial ?_
  clear S; intro aa S
  refine OL.nil ?_
  refine W.seq ?_
  refine W.seq ?_
  replace S := S.sub [(0, Value.slice l0.a l0.n l0.c), (1, Value.map ways1), (5, Value.map (some m11))] ⟨rfl, rfl, rfl, trivial⟩
  refine W.region ?_
  refine OL.pure S (Lf.run_move (S.ev rfl)) rfl rfl trivial ?_
  clear S; intro aa S
  refine OL.pure S (Lf.run_lens (S.ev rfl) rfl Try.underlying31) rfl rfl trivial ?_
  clear S; intro aa S
  refine OL.pure S (Lf.run_move (S.ev rfl)) rfl rfl trivial ?_
  clear S; intro aa S
  refine OL.nil ?_
  refine W.block ?_
  obtain ⟨I, m, H, HB_1⟩ := H
  refine W.loopS (σ := Int × Heap) (fun s aa ww => St 59 [(1, Value.map ways1), (5, Value.map (some m11)), (12, Value.slice l0.a l0.n l0.c), (13, Value.int .i64 ((l0.n : Nat) : Int)), (14, Value.int .i64 s.1)] s.2 w0 aa ww ∧ I s.1 s.2) (fun s => m s.1 s.2) (0, h1) ⟨S.sub _ ⟨rfl, rfl, rfl, rfl, rfl, trivial⟩, H⟩ ?_
  clear H S aa
  rintro ⟨x14, h2⟩ aa ww ⟨S, HI⟩
  replace S : St 59 [(1, Value.map ways1), (5, Value.map (some m11)), (12, Value.slice l0.a l0.n l0.c), (13, Value.int .i64 ((l0.n : Nat) : Int)), (14, Value.int .i64 x14)] h2 w0 aa ww := S
  have H := HB_1 x14 h2 HI
  clear HI
  refine W.seq ?_
  replace S := S.sub [(1, Value.map ways1), (5, Value.map (some m11)), (12, Value.slice l0.a l0.n l0.c), (13, Value.int .i64 ((l0.n : Nat) : Int)), (14, Value.int .i64 x14)] ⟨rfl, rfl, rfl, rfl, rfl, trivial⟩
  refine W.region ?_
  refine OL.pure S (Lf.run_lss (S.ev rfl) (S.ev rfl)) rfl rfl trivial ?_
  clear S; intro aa S
  refine OL.nil ?_
  refine W.seq ?_
  refine W.cond S (b := (decide (x14 < ((l0.n : Nat) : Int)))) rfl (fun hb => ?_) (fun hb => ?_)
  · replace H := H.1 hb
    refine W.skip ?_
    refine W.seq ?_
    refine W.block ?_
    refine W.seq ?_
    replace S := S.sub [(1, Value.map ways1), (5, Value.map (some m11)), (12, Value.slice l0.a l0.n l0.c), (13, Value.int .i64 ((l0.n : Nat) : Int)), (14, Value.int .i64 x14)] ⟨rfl, rfl, rfl, rfl, rfl, trivial⟩
    refine W.region ?_
    obtain ⟨q16, e, e_1, e_2, H⟩ := H
    refine OL.pure S (Lf.run_ixs (S.ev rfl) (S.ev rfl) Try.underlying31 ti39 e e_1 e_2) rfl rfl trivial ?_
    clear S; intro aa S
    obtain ⟨y17, y17_1, y17_2, y17_3, c_26, c_27, c_28, c_29, H⟩ := H
    refine OL.pure S (Lf.run_ldA (cs := [Value.string y17, Value.int .i64 y17_1, Value.slice y17_2.a y17_2.n y17_2.c, Value.slice y17_3.a y17_3.n y17_3.c]) (S.ev rfl) ag39 ti39 (by rw [S.heap]; exact RowL.toRow ⟨c_26, c_27, c_28, c_29, trivial⟩)) rfl rfl trivial ?_
    clear S; intro aa S
    refine ol_alloc S H ti39 rfl rfl trivial ?_
    clear S H aa; intro p7 aa ww h3 H S
    refine ol_stoA S H rfl rfl ti39 trivial ?_
    clear S H aa; intro aa ww h4 H S
    refine OL.nil ?_
    refine W.seq ?_
    replace S := S.sub [(1, Value.map ways1), (5, Value.map (some m11)), (7, Value.pointer (some p7)), (12, Value.slice l0.a l0.n l0.c), (13, Value.int .i64 ((l0.n : Nat) : Int)), (14, Value.int .i64 x14)] ⟨rfl, rfl, rfl, rfl, rfl, rfl, trivial⟩
    obtain ⟨Sq, HS, H⟩ := H
    refine W.regionN [0, 3] [10, 12] Sq S (by kernel_rfl) ?_
    clear S; intro ww S
    refine BN.pure 1 S (fun _ => HS) rfl (by kernel_rfl) (by kernel_rfl) (fun _ => Lf.run_move (S.ev rfl)) rfl rfl trivial ?_
    clear S; intro aa S
    refine BN.pure 2 S (fun _ => HS) rfl (by kernel_rfl) (by kernel_rfl) (fun _ => Lf.run_fa (S.ev rfl) fa39_1) rfl rfl trivial ?_
    clear S; intro aa S
    refine BN.pure 6 S (fun _ => HS) rfl (by kernel_rfl) (by kernel_rfl) (fun _ => Lf.run_fa (S.ev rfl) fa39_2) rfl rfl trivial ?_
    clear S; intro aa S
    obtain ⟨y18, y18_1, y18_2, y18_3, c_22, c_23, c_24, c_25, H⟩ := H
    refine BN.held 0 S HS rfl (by kernel_rfl) (fun _ hq => Lf.run_ldA (cs := [Value.string y18, Value.int .i64 y18_1, Value.slice y18_2.a y18_2.n y18_2.c, Value.slice y18_3.a y18_3.n y18_3.c]) (S.ev rfl) ag39 ti39 (hlRow hq fun h_ hs_ => ⟨c_22 h_ hs_, c_23 h_ hs_, c_24 h_ hs_, c_25 h_ hs_, trivial⟩)) rfl rfl trivial ?_
    clear S; intro aa S
    obtain ⟨x21, c_2, H⟩ := H
    refine BN.held 3 S HS rfl (by kernel_rfl) (fun _ hq => Lf.run_ld (S.ev rfl) fl3 (c_2 _ hq)) rfl rfl trivial ?_
    clear S; intro aa S
    refine BN.pure 4 S (fun _ => HS) rfl (by kernel_rfl) (by kernel_rfl) (fun _ => Lf.run_min (S.ev rfl) (S.ev rfl)) rfl rfl trivial ?_
    clear S; intro aa S
    refine BN.pure 5 S (fun _ => HS) rfl (by kernel_rfl) (by kernel_rfl) (fun _ => Lf.run_max (S.ev rfl) (S.ev rfl)) rfl rfl trivial ?_
    clear S; intro aa S
    obtain ⟨x25, c_3, H⟩ := H
    refine BN.load 7 S (fun _ => HS) rfl (by kernel_rfl) (by kernel_rfl) (fun _ hx => Lf.run_ld (S.ev rfl) fl37 (hx.cell _ _ (S.cl c_3))) rfl rfl trivial ?_
    clear S; intro aa S
    refine BN.pure 8 S (fun _ => HS) rfl (by kernel_rfl) (by kernel_rfl) (fun _ => Lf.run_lens (S.ev rfl) rfl Try.underlying37) rfl rfl trivial ?_
    clear S; intro aa S
    refine BN.pure 9 S (fun _ => HS) rfl (by kernel_rfl) (by kernel_rfl) (fun _ => Lf.run_add (S.ev rfl) (S.ev rfl)) rfl rfl trivial ?_
    clear S; intro aa S
    refine BN.eff 10 rfl (by kernel_rfl) ?_
    refine ol_mkS S H Try.underlying26 ti3 rfl rfl rfl trivial ?_
    clear S H aa; intro s28 aa ww h5 H S
    refine OL.nil ?_
    clear HS; obtain ⟨HS, H⟩ := H
    refine ⟨fun _ => by rw [S.heap]; exact HS, ?_⟩
    refine BN.pure 11 S (fun _ => HS) rfl (by kernel_rfl) (by kernel_rfl) (fun _ => Lf.run_build (cs := #[Value.string y18, Value.int .i64 y18_1, Value.slice y18_2.a y18_2.n y18_2.c, Value.slice y18_3.a y18_3.n y18_3.c, Value.map ways1, Value.slice s28.a s28.n s28.c]) pl47 ti47 (parts_map S rfl) (by kernel_rfl)) rfl rfl trivial ?_
    clear S; intro aa S
    refine BN.eff 12 rfl (by kernel_rfl) ?_
    refine ol_box S H rfl rfl rfl trivial ?_
    clear S H aa; intro p30 aa ww h6 H S
    refine OL.nil ?_
    refine ⟨noNeed (by kernel_rfl), ?_⟩
    refine BN.pure 13 S (noNeed (by kernel_rfl)) rfl (by kernel_rfl) (by kernel_rfl) (fun _ => Lf.run_assign (S.ev rfl)) rfl rfl trivial ?_
    clear S; intro aa S
    refine BN.done (by kernel_rfl) ?_
    refine W.seq ?_
    replace S := S.sub [(1, Value.map ways1), (5, Value.map (some m11)), (7, Value.pointer (some p7)), (8, Value.pointer (some p30)), (12, Value.slice l0.a l0.n l0.c), (13, Value.int .i64 ((l0.n : Nat) : Int)), (14, Value.int .i64 x14)] ⟨rfl, rfl, rfl, rfl, rfl, rfl, rfl, trivial⟩
    refine W.region ?_
    refine OL.pure S (Lf.run_move (S.ev rfl)) rfl rfl trivial ?_
    clear S; intro aa S
    refine OL.pure S (Lf.run_fa (S.ev rfl) fa39_1) rfl rfl trivial ?_
    clear S; intro aa S
    obtain ⟨x33, c_4, H⟩ := H
    refine OL.pure S (Lf.run_ld (S.ev rfl) fl3 (S.cl c_4)) rfl rfl trivial ?_
    clear S; intro aa S
    refine OL.pure S (Lf.run_min (S.ev rfl) (S.ev rfl)) rfl rfl trivial ?_
    clear S; intro aa S
    refine OL.pure S (Lf.run_max (S.ev rfl) (S.ev rfl)) rfl rfl trivial ?_
    clear S; intro aa S
    refine OL.pure S (Lf.run_nc (S.ev rfl)) rfl rfl trivial ?_
    clear S; intro aa S
    refine OL.pure S (Lf.run_fa (S.ev rfl) fa47_0) rfl rfl trivial ?_
    clear S; intro aa S
    refine OL.pure S (Lf.run_fa (S.ev rfl) fa39_1) rfl rfl trivial ?_
    clear S; intro aa S
    refine ol_sto S H rfl rfl rfl ti3 trivial ?_
    clear S H aa; intro aa ww h7 H S
    refine OL.nil ?_
    refine W.seq ?_
    refine W.seq ?_
    replace S := S.sub [(1, Value.map ways1), (5, Value.map (some m11)), (7, Value.pointer (some p7)), (8, Value.pointer (some p30)), (12, Value.slice l0.a l0.n l0.c), (13, Value.int .i64 ((l0.n : Nat) : Int)), (14, Value.int .i64 x14)] ⟨rfl, rfl, rfl, rfl, rfl, rfl, rfl, trivial⟩
    refine W.region ?_
    refine OL.pure S (Lf.run_fa (S.ev rfl) fa39_3) rfl rfl trivial ?_
    clear S; intro aa S
    obtain ⟨x40, c_5, H⟩ := H
    refine OL.pure S (Lf.run_ld (S.ev rfl) fl32 (S.cl c_5)) rfl rfl trivial ?_
    clear S; intro aa S
    refine OL.pure S (Lf.run_lens (S.ev rfl) rfl Try.underlying32) rfl rfl trivial ?_
    clear S; intro aa S
    refine OL.pure S (Lf.run_move (S.ev rfl)) rfl rfl trivial ?_
    clear S; intro aa S
    refine OL.nil ?_
    refine W.block ?_
    obtain ⟨I_1, m_1, H, HB⟩ := H
    refine W.loopS (σ := Int × Heap) (fun s aa ww => St 59 [(1, Value.map ways1), (5, Value.map (some m11)), (7, Value.pointer (some p7)), (8, Value.pointer (some p30)), (12, Value.slice l0.a l0.n l0.c), (13, Value.int .i64 ((l0.n : Nat) : Int)), (14, Value.int .i64 x14), (40, Value.slice x40.a x40.n x40.c), (41, Value.int .i64 ((x40.n : Nat) : Int)), (42, Value.int .i64 s.1)] s.2 w0 aa ww ∧ I_1 s.1 s.2) (fun s => m_1 s.1 s.2) (0, h7) ⟨S.sub _ ⟨rfl, rfl, rfl, rfl, rfl, rfl, rfl, rfl, rfl, rfl, trivial⟩, H⟩ ?_
    clear H S aa
    rintro ⟨x42, h8⟩ aa ww ⟨S, HI⟩
    replace S : St 59 [(1, Value.map ways1), (5, Value.map (some m11)), (7, Value.pointer (some p7)), (8, Value.pointer (some p30)), (12, Value.slice l0.a l0.n l0.c), (13, Value.int .i64 ((l0.n : Nat) : Int)), (14, Value.int .i64 x14), (40, Value.slice x40.a x40.n x40.c), (41, Value.int .i64 ((x40.n : Nat) : Int)), (42, Value.int .i64 x42)] h8 w0 aa ww := S
    have H := HB x42 h8 HI
    clear HI
    refine W.seq ?_
    replace S := S.sub [(1, Value.map ways1), (5, Value.map (some m11)), (7, Value.pointer (some p7)), (8, Value.pointer (some p30)), (12, Value.slice l0.a l0.n l0.c), (13, Value.int .i64 ((l0.n : Nat) : Int)), (14, Value.int .i64 x14), (40, Value.slice x40.a x40.n x40.c), (41, Value.int .i64 ((x40.n : Nat) : Int)), (42, Value.int .i64 x42)] ⟨rfl, rfl, rfl, rfl, rfl, rfl, rfl, rfl, rfl, rfl, trivial⟩
    refine W.region ?_
    refine OL.pure S (Lf.run_lss (S.ev rfl) (S.ev rfl)) rfl rfl trivial ?_
    clear S; intro aa S
    refine OL.nil ?_
    refine W.seq ?_
    refine W.cond S (b := (decide (x42 < ((x40.n : Nat) : Int)))) rfl (fun hb_1 => ?_) (fun hb_1 => ?_)
    · replace H := H.1 hb_1
      refine W.skip ?_
      refine W.seq ?_
      refine W.block ?_
      refine W.seq ?_
      replace S := S.sub [(1, Value.map ways1), (5, Value.map (some m11)), (7, Value.pointer (some p7)), (8, Value.pointer (some p30)), (12, Value.slice l0.a l0.n l0.c), (13, Value.int .i64 ((l0.n : Nat) : Int)), (14, Value.int .i64 x14), (40, Value.slice x40.a x40.n x40.c), (41, Value.int .i64 ((x40.n : Nat) : Int)), (42, Value.int .i64 x42)] ⟨rfl, rfl, rfl, rfl, rfl, rfl, rfl, rfl, rfl, rfl, trivial⟩
      refine W.region ?_
      obtain ⟨q44, e_3, e_4, e_5, H⟩ := H
      refine OL.pure S (Lf.run_ixs (S.ev rfl) (S.ev rfl) Try.underlying32 ti34 e_3 e_4 e_5) rfl rfl trivial ?_
      clear S; intro aa S
      obtain ⟨y45, y45_1, y45_2, y45_3, y45_4, y45_5, c_14, c_15, c_16, c_17, c_18, c_19, H⟩ := H
      refine OL.pure S (Lf.run_ldA (cs := [Value.int .i64 y45, Value.string y45_1, Value.bool y45_2, Value.int .i64 y45_3, Value.slice y45_4.a y45_4.n y45_4.c, Value.slice y45_5.a y45_5.n y45_5.c]) (S.ev rfl) ag34 ti34 (by rw [S.heap]; exact RowL.toRow ⟨c_14, c_15, c_16, c_17, c_18, c_19, trivial⟩)) rfl rfl trivial ?_
      clear S; intro aa S
      refine ol_alloc S H ti34 rfl rfl trivial ?_
      clear S H aa; intro p10 aa ww h9 H S
      refine ol_stoA S H rfl rfl ti34 trivial ?_
      clear S H aa; intro aa ww h10 H S
      refine OL.nil ?_
      replace S := S.sub [(1, Value.map ways1), (5, Value.map (some m11)), (7, Value.pointer (some p7)), (8, Value.pointer (some p30)), (10, Value.pointer (some p10)), (12, Value.slice l0.a l0.n l0.c), (13, Value.int .i64 ((l0.n : Nat) : Int)), (14, Value.int .i64 x14), (40, Value.slice x40.a x40.n x40.c), (41, Value.int .i64 ((x40.n : Nat) : Int)), (42, Value.int .i64 x42)] ⟨rfl, rfl, rfl, rfl, rfl, rfl, rfl, rfl, rfl, rfl, rfl, trivial⟩
      refine W.region ?_
      refine OL.pure S (Lf.run_move (S.ev rfl)) rfl rfl trivial ?_
      clear S; intro aa S
      obtain ⟨y47, y47_1, y47_2, y47_3, y47_4, y47_5, c_8, c_9, c_10, c_11, c_12, c_13, H⟩ := H
      refine OL.pure S (Lf.run_ldA (cs := [Value.int .i64 y47, Value.string y47_1, Value.bool y47_2, Value.int .i64 y47_3, Value.slice y47_4.a y47_4.n y47_4.c, Value.slice y47_5.a y47_5.n y47_5.c]) (S.ev rfl) ag34 ti34 (by rw [S.heap]; exact RowL.toRow ⟨c_8, c_9, c_10, c_11, c_12, c_13, trivial⟩)) rfl rfl trivial ?_
      clear S; intro aa S
      refine ol_cal S H isfn17 rfl rfl trivial ?_
      clear S H aa; intro u aa ww h11 H S
      refine OL.nil ?_
      replace S := S.sub [(1, Value.map ways1), (5, Value.map (some m11)), (7, Value.pointer (some p7)), (8, Value.pointer (some p30)), (12, Value.slice l0.a l0.n l0.c), (13, Value.int .i64 ((l0.n : Nat) : Int)), (14, Value.int .i64 x14), (40, Value.slice x40.a x40.n x40.c), (41, Value.int .i64 ((x40.n : Nat) : Int)), (42, Value.int .i64 x42)] ⟨rfl, rfl, rfl, rfl, rfl, rfl, rfl, rfl, rfl, rfl, trivial⟩
      refine W.region ?_
      refine OL.pure S (Lf.run_add (S.ev rfl) (S.ev rfl)) rfl rfl trivial ?_
      clear S; intro aa S
      refine OL.pure S (Lf.run_move (S.ev rfl)) rfl rfl trivial ?_
      clear S; intro aa S
      refine OL.nil ?_
      exact ⟨((IntKind.i64.wrap (x42 + 1)), h11), ⟨S.sub _ ⟨rfl, rfl, rfl, rfl, rfl, rfl, rfl, rfl, rfl, rfl, trivial⟩, H.1⟩, H.2⟩
    · replace H := H.2 hb_1
      refine W.exit_ ?_
      refine xhit ?_
      replace S := S.sub [(1, Value.map ways1), (5, Value.map (some m11)), (7, Value.pointer (some p7)), (8, Value.pointer (some p30)), (12, Value.slice l0.a l0.n l0.c), (13, Value.int .i64 ((l0.n : Nat) : Int)), (14, Value.int .i64 x14)] ⟨rfl, rfl, rfl, rfl, rfl, rfl, rfl, trivial⟩
      refine W.regionD S (by kernel_rfl) ?_
      clear S; intro ww S
      refine AN.pure 0 S rfl (by kernel_rfl) (fun _ => Lf.run_move (S.ev rfl)) rfl rfl trivial ?_
      clear S; intro aa S
      refine AN.pure 1 S rfl (by kernel_rfl) (fun _ => Lf.run_fa (S.ev rfl) fa39_0) rfl rfl trivial ?_
      clear S; intro aa S
      obtain ⟨x52, c_20, H⟩ := H
      refine AN.load 2 S rfl (by kernel_rfl) (fun _ hx => Lf.run_ld (S.ev rfl) fl9 (hx.cell _ _ (S.cl c_20))) rfl rfl trivial ?_
      clear S; intro aa S
      refine AN.pure 3 S rfl (by kernel_rfl) (fun _ => Lf.run_move (S.ev rfl)) rfl rfl trivial ?_
      clear S; intro aa S
      refine AN.pure 4 S rfl (by kernel_rfl) (fun _ => Lf.run_nc (S.ev rfl)) rfl rfl trivial ?_
      clear S; intro aa S
      refine AN.pure 5 S rfl (by kernel_rfl) (fun _ => Lf.run_fa (S.ev rfl) fa47_2) rfl rfl trivial ?_
      clear S; intro aa S
      obtain ⟨x56, c_21, H⟩ := H
      refine AN.load 6 S rfl (by kernel_rfl) (fun _ hx => Lf.run_ld (S.ev rfl) fl26 (hx.cell _ _ (S.cl c_21))) rfl rfl trivial ?_
      clear S; intro aa S
      refine AN.eff 7 rfl (by kernel_rfl) ?_
      refine ol_updS S H Try.underlying28 Try.underlying9 rfl rfl rfl trivial ?_
      clear S H aa; intro aa ww h12 H S
      refine OL.nil ?_
      refine AN.done (by kernel_rfl) ?_
      replace S := S.sub [(1, Value.map ways1), (5, Value.map (some m11)), (12, Value.slice l0.a l0.n l0.c), (13, Value.int .i64 ((l0.n : Nat) : Int)), (14, Value.int .i64 x14)] ⟨rfl, rfl, rfl, rfl, rfl, trivial⟩
      refine W.region ?_
      refine OL.pure S (Lf.run_add (S.ev rfl) (S.ev rfl)) rfl rfl trivial ?_
      clear S; intro aa S
      refine OL.pure S (Lf.run_move (S.ev rfl)) rfl rfl trivial ?_
      clear S; intro aa S
      refine OL.nil ?_
      exact ⟨((IntKind.i64.wrap (x14 + 1)), h12), ⟨S.sub _ ⟨rfl, rfl, rfl, rfl, rfl, trivial⟩, H.1⟩, H.2⟩
  · replace H := H.2 hb
    refine W.exit_ ?_
    refine xhit ?_
    refine W.seq ?_
    replace S := S.sub [(5, Value.map (some m11))] ⟨rfl, trivial⟩
    refine W.region ?_
    refine OL.pure S (Lf.run_move (S.ev rfl)) rfl rfl trivial ?_
    clear S; intro aa S
    refine OL.pure S (Lf.run_assign (S.ev rfl)) rfl rfl trivial ?_
    clear S; intro aa S
    refine OL.nil ?_
    refine W.ret ?_
    exact Ret.one S rfl rfl H

/-- maps.EqualFunc[chattel api.Ways,chattel api.Ways,string,[]int,[]int] -/
def L15 (m10 : Option Nat) (m21 : Option Nat) (eq2 : Value) (h : Heap) (R : Value → Heap → Prop) : Prop :=
  lenM h (Value.map m10) fun n12 =>
  lenM h (Value.map m21) fun n14 =>
  ifb (n12 != n14) (
    R (Value.bool false) h) (
    rngM h (Value.map m10) fun vit h1 =>
    ∃ (I : Heap → Prop) (m : Heap → Nat), I h1 ∧ ∀ h2, I h2 →
    nxtM h2 vit fun V18 h3 =>
    elt V18 0 fun u => asB u fun x19 =>
    ifb x19 (
      entM h3 vit fun u_1 u_2 => asT u_1 fun x20 => asS u_2 fun x20_1 =>
      lkO h3 (Value.map m21) x20 (Value.slice (⟨none, 0, 0⟩ : Sv).a (⟨none, 0, 0⟩ : Sv).n (⟨none, 0, 0⟩ : Sv).c) fun u_3 ok => asS u_3 fun x26 =>
      ∃ J : Bool → Heap → Prop, (orj (!ok) (fun k =>
        calV Try.prog eq2 #[Value.slice x20_1.a x20_1.n x20_1.c, Value.slice x26.a x26.n x26.c] h3 fun u_4 h5 => asB u_4 fun x35 =>
        k (!x35) h5) h3 J) ∧ ∀ x37 h4, J x37 h4 →
      ifb x37 (
        R (Value.bool false) h4) (
        I h4 ∧ m h4 < m h2)) (
      R (Value.bool true) h3))

set_option maxRecDepth 100000 in

theorem F15 {m10 m21 eq2 h : _} {R : Value → Heap → Prop} (H : L15 m10 m21 eq2 h R) : CallsH Try.prog 15 #[Value.map m10, Value.map m21, eq2] h R := by
  refine CallsH.enter (n := 38) Try.func15 rfl rfl rfl rfl ?_
  intro w0 aa ww S
  unfold L15 at H
  refine W.seq ?_
  replace S := S.sub [(0, Value.map m10), (1, Value.map m21), (2, eq2)] ⟨rfl, rfl, rfl, trivial⟩
  refine W.region ?_
  refine OL.pure S (Lf.run_assign (S.ev rfl)) rfl rfl trivial ?_
  clear S; intro aa S
  refine OL.nil ?_
  refine W.seq ?_
  refine W.seq ?_
  replace S := S.sub [(0, Value.map m10), (1, Value.map m21), (2, eq2)] ⟨rfl, rfl, rfl, trivial⟩
  refine W.region ?_
  refine OL.pure S (Lf.run_move (S.ev rfl)) rfl rfl trivial ?_
  clear S; intro aa S
  refine ol_lenM S H Try.underlying28 rfl rfl trivial ?_
  clear S H aa; intro n12 aa H S
  refine OL.pure S (Lf.run_move (S.ev rfl)) rfl rfl trivial ?_
  clear S; intro aa S
  refine ol_lenM S H Try.underlying28 rfl rfl trivial ?_
  clear S H aa; intro n14 aa H S
  refine OL.pure S (Lf.run_neq (S.ev rfl) (S.ev rfl)) rfl rfl trivial ?_
  clear S; intro aa S
  refine OL.nil ?_
  refine W.cond S (b := (n12 != n14)) rfl (fun hb => ?_) (fun hb => ?_)
  · replace H := H.1 hb
    refine W.seq ?_
    replace S := S.sub [] trivial
    refine W.region ?_
    refine OL.pure S (Lf.run_assign (S.ev rfl)) rfl rfl trivial ?_
    clear S; intro aa S
    refine OL.nil ?_
    refine W.ret ?_
    exact Ret.one S rfl rfl H
  · replace H := H.2 hb
    refine W.skip ?_
    refine W.seq ?_
    refine W.seq ?_
    replace S := S.sub [(0, Value.map m10), (1, Value.map m21), (2, eq2)] ⟨rfl, rfl, rfl, trivial⟩
    refine W.region ?_
    refine OL.pure S (Lf.run_move (S.ev rfl)) rfl rfl trivial ?_
    clear S; intro aa S
    refine ol_rngM S H Try.underlying28 rfl rfl trivial ?_
    clear S H aa; intro vit aa ww h1 H S
    refine OL.nil ?_
    refine W.block ?_
    obtain ⟨I, m, H, HB⟩ := H
    refine W.loopS (σ := Heap) (fun s aa ww => St 38 [(1, Value.map m21), (2, eq2), (17, Value.pointer (some (⟨vit, 0, none⟩ : Addr)))] s w0 aa ww ∧ I s) (fun s => m s) (h1) ⟨S.sub _ ⟨rfl, rfl, rfl, trivial⟩, H⟩ ?_
    clear H S aa
    rintro h2 aa ww ⟨S, HI⟩
    replace S : St 38 [(1, Value.map m21), (2, eq2), (17, Value.pointer (some (⟨vit, 0, none⟩ : Addr)))] h2 w0 aa ww := S
    have H := HB h2 HI
    clear HI
    refine W.seq ?_
    replace S := S.sub [(1, Value.map m21), (2, eq2), (17, Value.pointer (some (⟨vit, 0, none⟩ : Addr)))] ⟨rfl, rfl, rfl, trivial⟩
    refine W.region ?_
    refine ol_nxtM S H rfl rfl trivial ?_
    clear S H aa; intro V18 aa ww h3 H S
    obtain ⟨u, e, x19, rfl, H⟩ := H
    refine OL.pure S (Lf.run_ex (S.ev rfl) e) rfl rfl trivial ?_
    clear S; intro aa S
    refine OL.nil ?_
    refine W.seq ?_
    refine W.cond S (b := x19) rfl (fun hb_1 => ?_) (fun hb_1 => ?_)
    · replace H := H.1 hb_1
      refine W.skip ?_
      refine W.block ?_
      refine W.seq ?_
      replace S := S.sub [(1, Value.map m21), (2, eq2), (17, Value.pointer (some (⟨vit, 0, none⟩ : Addr)))] ⟨rfl, rfl, rfl, trivial⟩
      refine W.region ?_
      refine ol_entM S H rfl rfl trivial ?_
      clear S H aa; intro u_1 u_2 aa H S
      obtain ⟨x20, rfl, H⟩ := H
      obtain ⟨x20_1, rfl, H⟩ := H
      refine OL.pure S (Lf.run_ex (S.ev rfl) rfl) rfl rfl trivial ?_
      clear S; intro aa S
      refine OL.pure S (Lf.run_ex (S.ev rfl) rfl) rfl rfl trivial ?_
      clear S; intro aa S
      refine OL.pure S (Lf.run_assign (S.ev rfl)) rfl rfl trivial ?_
      clear S; intro aa S
      refine OL.pure S (Lf.run_assign (S.ev rfl)) rfl rfl trivial ?_
      clear S; intro aa S
      refine OL.nil ?_
      refine W.seq ?_
      replace S := S.sub [(1, Value.map m21), (2, eq2), (7, Value.string x20), (8, Value.slice x20_1.a x20_1.n x20_1.c), (17, Value.pointer (some (⟨vit, 0, none⟩ : Addr)))] ⟨rfl, rfl, rfl, rfl, rfl, trivial⟩
      refine W.region ?_
      refine OL.pure S (Lf.run_move (S.ev rfl)) rfl rfl trivial ?_
      clear S; intro aa S
      refine OL.pure S (Lf.run_move (S.ev rfl)) rfl rfl trivial ?_
      clear S; intro aa S
      refine ol_lkO S H Try.underlying28 Try.underlying9 ti26 rfl rfl rfl trivial ?_
      clear S H aa; intro u_3 ok aa H S
      obtain ⟨x26, rfl, H⟩ := H
      refine OL.pure S (Lf.run_move (S.ev rfl)) rfl rfl trivial ?_
      clear S; intro aa S
      refine OL.pure S (Lf.run_ex (S.ev rfl) rfl) rfl rfl trivial ?_
      clear S; intro aa S
      refine OL.pure S (Lf.run_ex (S.ev rfl) rfl) rfl rfl trivial ?_
      clear S; intro aa S
      refine OL.pure S (Lf.run_assign (S.ev rfl)) rfl rfl trivial ?_
      clear S; intro aa S
      refine OL.pure S (Lf.run_assign (S.ev rfl)) rfl rfl trivial ?_
      clear S; intro aa S
      refine OL.nil ?_
      refine W.seq ?_
      replace S := S.sub [(1, Value.map m21), (2, eq2), (8, Value.slice x20_1.a x20_1.n x20_1.c), (9, Value.slice x26.a x26.n x26.c), (10, Value.bool ok), (17, Value.pointer (some (⟨vit, 0, none⟩ : Addr)))] ⟨rfl, rfl, rfl, rfl, rfl, rfl, trivial⟩
      refine W.region ?_
      refine OL.pure S (Lf.run_move (S.ev rfl)) rfl rfl trivial ?_
      clear S; intro aa S
      refine OL.pure S (Lf.run_not (S.ev rfl)) rfl rfl trivial ?_
      clear S; intro aa S
      refine OL.pure S (Lf.run_move (S.ev rfl)) rfl rfl trivial ?_
      clear S; intro aa S
      obtain ⟨J, H, HK⟩ := H
      refine OL.cutN 6 (fun aa ww => ∃ x37 h4, St 38 ((37, Value.bool x37) :: [(1, Value.map m21), (2, eq2), (8, Value.slice x20_1.a x20_1.n x20_1.c), (9, Value.slice x26.a x26.n x26.c), (10, Value.bool ok), (17, Value.pointer (some (⟨vit, 0, none⟩ : Addr))), (29, Value.bool ok), (30, Value.bool (!ok)), (31, Value.bool (!ok))]) h4 w0 aa ww ∧ J x37 h4) ?_ ?_
      · rcases Bool.eq_false_or_eq_true (!ok) with hb_2 | hb_2
        · replace H := H.1 hb_2
          refine OL.not S rfl rfl (GNo.mk rfl rfl hb_2) ?_
          clear S; intro aa S
          refine OL.not S rfl rfl (GNo.mk rfl rfl hb_2) ?_
          clear S; intro aa S
          refine OL.not S rfl rfl (GNo.mk rfl rfl hb_2) ?_
          clear S; intro aa S
          refine OL.not S rfl rfl (GNo.mk rfl rfl hb_2) ?_
          clear S; intro aa S
          refine OL.not S rfl rfl (GNo.mk rfl rfl hb_2) ?_
          clear S; intro aa S
          refine OL.pure S (Lf.run_pickT (S.ev rfl) hb_2 (S.ev rfl)) rfl rfl trivial ?_
          clear S; intro aa S
          refine OL.nil ?_
          exact ⟨_, _, S.sub _ ⟨rfl, rfl, rfl, rfl, rfl, rfl, rfl, rfl, rfl, rfl, trivial⟩, H⟩
        · replace H := H.2 hb_2
          refine OL.pure S (Lf.run_move (S.ev rfl)) rfl rfl (GOk.mk rfl rfl hb_2) ?_
          clear S; intro aa S
          refine OL.pure S (Lf.run_move (S.ev rfl)) rfl rfl (GOk.mk rfl rfl hb_2) ?_
          clear S; intro aa S
          refine OL.pure S (Lf.run_move (S.ev rfl)) rfl rfl (GOk.mk rfl rfl hb_2) ?_
          clear S; intro aa S
          refine ol_calV S H rfl rfl rfl (GOk.mk rfl rfl hb_2) ?_
          clear S H aa; intro u_4 aa ww h5 H S
          obtain ⟨x35, rfl, H⟩ := H
          refine OL.pure S (Lf.run_not (S.ev rfl)) rfl rfl (GOk.mk rfl rfl hb_2) ?_
          clear S; intro aa S
          refine OL.pure S (Lf.run_pickF (S.ev rfl) hb_2 (S.ev rfl)) rfl rfl trivial ?_
          clear S; intro aa S
          refine OL.nil ?_
          exact ⟨_, _, S.sub _ ⟨rfl, rfl, rfl, rfl, rfl, rfl, rfl, rfl, rfl, rfl, trivial⟩, H⟩
      · clear S aa
        rintro aa ww ⟨x37, h4, S, HJ⟩
        replace H := HK _ _ HJ
        clear HK HJ
        refine OL.nil ?_
        refine W.cond S (b := x37) rfl (fun hb_3 => ?_) (fun hb_3 => ?_)
        · replace H := H.1 hb_3
          refine W.seq ?_
          replace S := S.sub [] trivial
          refine W.region ?_
          refine OL.pure S (Lf.run_assign (S.ev rfl)) rfl rfl trivial ?_
          clear S; intro aa S
          refine OL.nil ?_
          refine W.ret ?_
          exact Ret.one S rfl rfl H
        · replace H := H.2 hb_3
          refine W.skip ?_
          exact ⟨(h4), ⟨S.sub _ ⟨rfl, rfl, rfl, trivial⟩, H.1⟩, H.2⟩
    · replace H := H.2 hb_1
      refine W.exit_ ?_
      refine xhit ?_
      refine W.seq ?_
      replace S := S.sub [] trivial
      refine W.region ?_
      refine OL.pure S (Lf.run_assign (S.ev rfl)) rfl rfl trivial ?_
      clear S; intro aa S
      refine OL.nil ?_
      refine W.ret ?_
      exact Ret.one S rfl rfl H

end Go.Proofs.Ytomafdhiflbgcaa

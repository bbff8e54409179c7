/- Lifted by program off the elaborated code: each Go function, read as a proposition over typed variables and the heap. -/
import Derived.Test.YtfafhadklhnemaaG0
namespace Go.Proofs.Ytfafhadklhnemaa
open Go Go.Lf
set_option linter.unusedVariables false

/-- chattel chattelref02.FMul -/
def L28 (a0 : Int) (b1 : Int) (h : Heap) (R : Value → Heap → Prop) : Prop :=
  cal Try.prog 16 #[Value.int .u64 a0] h fun u h1 => asI .i64 u fun x12 =>
  ∃ J : Bool → Heap → Prop, (orj (x12 == 0) (fun k =>
    cal Try.prog 16 #[Value.int .u64 b1] h1 fun u_1 h3 => asI .i64 u_1 fun x16 =>
    k (x16 == 0) h3) h1 J) ∧ ∀ x18 h2, J x18 h2 →
  ∃ J_1 : Bool → Heap → Prop, (orj x18 (fun k_1 =>
    cal Try.prog 51 #[Value.int .u64 a0] h2 fun u_2 h5 => asB u_2 fun x21 =>
    ∃ J_2 : Bool → Heap → Prop, (andj (!x21) (fun k_2 =>
      cal Try.prog 52 #[Value.int .u64 b1] h5 fun u_3 h7 => asB u_3 fun x25 =>
      k_2 x25 h7) h5 J_2) ∧ ∀ x26 h6, J_2 x26 h6 →
    k_1 x26 h6) h2 J_1) ∧ ∀ x27 h4, J_1 x27 h4 →
  ∃ J_3 : Bool → Heap → Prop, (orj x27 (fun k_3 =>
    cal Try.prog 52 #[Value.int .u64 a0] h4 fun u_4 h9 => asB u_4 fun x30 =>
    ∃ J_4 : Bool → Heap → Prop, (andj x30 (fun k_4 =>
      cal Try.prog 51 #[Value.int .u64 b1] h9 fun u_5 h11 => asB u_5 fun x33 =>
      k_4 (!x33) h11) h9 J_4) ∧ ∀ x35 h10, J_4 x35 h10 →
    k_3 x35 h10) h4 J_3) ∧ ∀ x36 h8, J_3 x36 h8 →
  ifb x36 (
    R (Value.int .u64 9221120237041090561) h8) (
    cal Try.prog 51 #[Value.int .u64 a0] h8 fun u_6 h12 => asB u_6 fun x38 =>
    ∃ J_5 : Bool → Heap → Prop, (orj (!x38) (fun k_5 =>
      cal Try.prog 51 #[Value.int .u64 b1] h12 fun u_7 h14 => asB u_7 fun x42 =>
      k_5 (!x42) h14) h12 J_5) ∧ ∀ x44 h13, J_5 x44 h13 →
    ifb x44 (
      cal Try.prog 54 #[Value.int .u64 (bitsI .xor .u64 ((a0 : Int).fdiv (2 ^ (min (63 : Int).toNat IntKind.u64.bits))) ((b1 : Int).fdiv (2 ^ (min (63 : Int).toNat IntKind.u64.bits))))] h13 fun u_8 h15 => asI .u64 u_8 fun x46 =>
      R (Value.int .u64 x46) h15) (
      cal Try.prog 52 #[Value.int .u64 a0] h13 fun u_9 h16 => asB u_9 fun x48 =>
      ∃ J_6 : Bool → Heap → Prop, (orj x48 (fun k_6 =>
        cal Try.prog 52 #[Value.int .u64 b1] h16 fun u_10 h18 => asB u_10 fun x51 =>
        k_6 x51 h18) h16 J_6) ∧ ∀ x52 h17, J_6 x52 h17 →
      ifb x52 (
        cal Try.prog 55 #[Value.int .u64 (bitsI .xor .u64 ((a0 : Int).fdiv (2 ^ (min (63 : Int).toNat IntKind.u64.bits))) ((b1 : Int).fdiv (2 ^ (min (63 : Int).toNat IntKind.u64.bits))))] h17 fun u_11 h19 => asI .u64 u_11 fun x54 =>
        R (Value.int .u64 x54) h19) (
        flA .mul (((a0 : Int)).toNat) (((b1 : Int)).toNat) fun r59 =>
        cal Try.prog 53 #[Value.float .f64 r59] h17 fun u_12 h20 => asI .u64 u_12 fun x60 =>
        R (Value.int .u64 x60) h20)))

set_option maxRecDepth 100000 in

theorem F28 {a0 b1 h : _} {R : Value → Heap → Prop} (H : L28 a0 b1 h R) : CallsH Try.prog 28 #[Value.int .u64 a0, Value.int .u64 b1] h R := by
  refine CallsH.enter (n := 61) Try.func28 rfl rfl rfl rfl ?_
  intro w0 aa ww S
  unfold L28 at H
  refine W.seq ?_
  replace S := S.sub [(0, Value.int .u64 a0), (1, Value.int .u64 b1)] ⟨rfl, rfl, trivial⟩
  refine W.region ?_
  refine OL.pure S (Lf.run_assign (S.ev rfl)) rfl rfl trivial ?_
  clear S; intro aa S
  refine OL.nil ?_
  refine W.seq ?_
  replace S := S.sub [(0, Value.int .u64 a0), (1, Value.int .u64 b1)] ⟨rfl, rfl, trivial⟩
  refine W.region ?_
  refine OL.pure S (Lf.run_move (S.ev rfl)) rfl rfl trivial ?_
  clear S; intro aa S
  refine OL.pure S (Lf.run_shr (S.ev rfl) (S.ev rfl) (by decide)) rfl rfl trivial ?_
  clear S; intro aa S
  refine OL.pure S (Lf.run_move (S.ev rfl)) rfl rfl trivial ?_
  clear S; intro aa S
  refine OL.pure S (Lf.run_shr (S.ev rfl) (S.ev rfl) (by decide)) rfl rfl trivial ?_
  clear S; intro aa S
  refine OL.pure S (Lf.run_bits (op := .xor) (by simp) (S.ev rfl) (S.ev rfl)) rfl rfl trivial ?_
  clear S; intro aa S
  refine OL.pure S (Lf.run_assign (S.ev rfl)) rfl rfl trivial ?_
  clear S; intro aa S
  refine OL.nil ?_
  refine W.seq ?_
  refine W.seq ?_
  replace S := S.sub [(0, Value.int .u64 a0), (1, Value.int .u64 b1), (5, Value.int .u64 (bitsI .xor .u64 ((a0 : Int).fdiv (2 ^ (min (63 : Int).toNat IntKind.u64.bits))) ((b1 : Int).fdiv (2 ^ (min (63 : Int).toNat IntKind.u64.bits)))))] ⟨rfl, rfl, rfl, trivial⟩
  refine W.region ?_
  refine OL.pure S (Lf.run_move (S.ev rfl)) rfl rfl trivial ?_
  clear S; intro aa S
  refine ol_cal S H isfn16 rfl rfl trivial ?_
  clear S H aa; intro u aa ww h1 H S
  obtain ⟨x12, rfl, H⟩ := H
  refine OL.pure S (Lf.run_eql (S.ev rfl) (S.ev rfl)) rfl rfl trivial ?_
  clear S; intro aa S
  refine OL.pure S (Lf.run_move (S.ev rfl)) rfl rfl trivial ?_
  clear S; intro aa S
  obtain ⟨J, H, HK⟩ := H
  refine OL.cutN 4 (fun aa ww => ∃ x18 h2, St 61 ((18, Value.bool x18) :: [(0, Value.int .u64 a0), (1, Value.int .u64 b1), (5, Value.int .u64 (bitsI .xor .u64 ((a0 : Int).fdiv (2 ^ (min (63 : Int).toNat IntKind.u64.bits))) ((b1 : Int).fdiv (2 ^ (min (63 : Int).toNat IntKind.u64.bits))))), (11, Value.int .u64 a0), (12, Value.int .i64 x12), (13, Value.bool (x12 == 0)), (14, Value.bool (x12 == 0))]) h2 w0 aa ww ∧ J x18 h2) ?_ ?_
  · rcases Bool.eq_false_or_eq_true (x12 == 0) with hb | hb
    · replace H := H.1 hb
      refine OL.not S rfl rfl (GNo.mk rfl rfl hb) ?_
      clear S; intro aa S
      refine OL.not S rfl rfl (GNo.mk rfl rfl hb) ?_
      clear S; intro aa S
      refine OL.not S rfl rfl (GNo.mk rfl rfl hb) ?_
      clear S; intro aa S
      refine OL.pure S (Lf.run_pickT (S.ev rfl) hb (S.ev rfl)) rfl rfl trivial ?_
      clear S; intro aa S
      refine OL.nil ?_
      exact ⟨_, _, S.sub _ ⟨rfl, rfl, rfl, rfl, rfl, rfl, rfl, rfl, trivial⟩, H⟩
    · replace H := H.2 hb
      refine OL.pure S (Lf.run_move (S.ev rfl)) rfl rfl (GOk.mk rfl rfl hb) ?_
      clear S; intro aa S
      refine ol_cal S H isfn16 rfl rfl (GOk.mk rfl rfl hb) ?_
      clear S H aa; intro u_1 aa ww h3 H S
      obtain ⟨x16, rfl, H⟩ := H
      refine OL.pure S (Lf.run_eql (S.ev rfl) (S.ev rfl)) rfl rfl (GOk.mk rfl rfl hb) ?_
      clear S; intro aa S
      refine OL.pure S (Lf.run_pickF (S.ev rfl) hb (S.ev rfl)) rfl rfl trivial ?_
      clear S; intro aa S
      refine OL.nil ?_
      exact ⟨_, _, S.sub _ ⟨rfl, rfl, rfl, rfl, rfl, rfl, rfl, rfl, trivial⟩, H⟩
  · clear S aa
    rintro aa ww ⟨x18, h2, S, HJ⟩
    replace H := HK _ _ HJ
    clear HK HJ
    refine OL.pure S (Lf.run_move (S.ev rfl)) rfl rfl trivial ?_
    clear S; intro aa S
    obtain ⟨J_1, H, HK_1⟩ := H
    refine OL.cutN 8 (fun aa ww => ∃ x27 h4, St 61 ((27, Value.bool x27) :: [(0, Value.int .u64 a0), (1, Value.int .u64 b1), (5, Value.int .u64 (bitsI .xor .u64 ((a0 : Int).fdiv (2 ^ (min (63 : Int).toNat IntKind.u64.bits))) ((b1 : Int).fdiv (2 ^ (min (63 : Int).toNat IntKind.u64.bits))))), (11, Value.int .u64 a0), (12, Value.int .i64 x12), (13, Value.bool (x12 == 0)), (14, Value.bool (x12 == 0)), (18, Value.bool x18), (19, Value.bool x18)]) h4 w0 aa ww ∧ J_1 x27 h4) ?_ ?_
    · rcases Bool.eq_false_or_eq_true x18 with hb_1 | hb_1
      · replace H := H.1 hb_1
        refine OL.not S rfl rfl (GNo.mk rfl rfl hb_1) ?_
        clear S; intro aa S
        refine OL.not S rfl rfl (GNo.mk rfl rfl hb_1) ?_
        clear S; intro aa S
        refine OL.not S rfl rfl (GNo.mk rfl rfl hb_1) ?_
        clear S; intro aa S
        refine OL.not S rfl rfl (GNo.mk rfl rfl hb_1) ?_
        clear S; intro aa S
        refine OL.not S rfl rfl (GNo.un rfl rfl) ?_
        clear S; intro aa S
        refine OL.not S rfl rfl (GNo.un rfl rfl) ?_
        clear S; intro aa S
        refine OL.not S rfl rfl (GNo.mk rfl rfl hb_1) ?_
        clear S; intro aa S
        refine OL.pure S (Lf.run_pickT (S.ev rfl) hb_1 (S.ev rfl)) rfl rfl trivial ?_
        clear S; intro aa S
        refine OL.nil ?_
        exact ⟨_, _, S.sub _ ⟨rfl, rfl, rfl, rfl, rfl, rfl, rfl, rfl, rfl, rfl, trivial⟩, H⟩
      · replace H := H.2 hb_1
        refine OL.pure S (Lf.run_move (S.ev rfl)) rfl rfl (GOk.mk rfl rfl hb_1) ?_
        clear S; intro aa S
        refine ol_cal S H isfn51 rfl rfl (GOk.mk rfl rfl hb_1) ?_
        clear S H aa; intro u_2 aa ww h5 H S
        obtain ⟨x21, rfl, H⟩ := H
        refine OL.pure S (Lf.run_not (S.ev rfl)) rfl rfl (GOk.mk rfl rfl hb_1) ?_
        clear S; intro aa S
        refine OL.pure S (Lf.run_move (S.ev rfl)) rfl rfl (GOk.mk rfl rfl hb_1) ?_
        clear S; intro aa S
        obtain ⟨J_2, H, HK_2⟩ := H
        refine OL.cutN 3 (fun aa ww => ∃ x26 h6, St 61 ((26, Value.bool x26) :: [(0, Value.int .u64 a0), (1, Value.int .u64 b1), (5, Value.int .u64 (bitsI .xor .u64 ((a0 : Int).fdiv (2 ^ (min (63 : Int).toNat IntKind.u64.bits))) ((b1 : Int).fdiv (2 ^ (min (63 : Int).toNat IntKind.u64.bits))))), (11, Value.int .u64 a0), (12, Value.int .i64 x12), (13, Value.bool (x12 == 0)), (14, Value.bool (x12 == 0)), (18, Value.bool x18), (19, Value.bool x18), (20, Value.int .u64 a0), (21, Value.bool x21), (22, Value.bool (!x21)), (23, Value.bool (!x21))]) h6 w0 aa ww ∧ J_2 x26 h6) ?_ ?_
        · rcases Bool.eq_false_or_eq_true (!x21) with hb_2 | hb_2
          · replace H := H.1 hb_2
            refine OL.pure S (Lf.run_move (S.ev rfl)) rfl rfl (GOk.mk rfl rfl hb_2) ?_
            clear S; intro aa S
            refine ol_cal S H isfn52 rfl rfl (GOk.mk rfl rfl hb_2) ?_
            clear S H aa; intro u_3 aa ww h7 H S
            obtain ⟨x25, rfl, H⟩ := H
            refine OL.pure S (Lf.run_pickT (S.ev rfl) hb_2 (S.ev rfl)) rfl rfl (GOk.mk rfl rfl hb_1) ?_
            clear S; intro aa S
            refine OL.nil ?_
            exact ⟨_, _, S.sub _ ⟨rfl, rfl, rfl, rfl, rfl, rfl, rfl, rfl, rfl, rfl, rfl, rfl, rfl, rfl, trivial⟩, H⟩
          · replace H := H.2 hb_2
            refine OL.not S rfl rfl (GNo.mk rfl rfl hb_2) ?_
            clear S; intro aa S
            refine OL.not S rfl rfl (GNo.mk rfl rfl hb_2) ?_
            clear S; intro aa S
            refine OL.pure S (Lf.run_pickF (S.ev rfl) hb_2 (S.ev rfl)) rfl rfl (GOk.mk rfl rfl hb_1) ?_
            clear S; intro aa S
            refine OL.nil ?_
            exact ⟨_, _, S.sub _ ⟨rfl, rfl, rfl, rfl, rfl, rfl, rfl, rfl, rfl, rfl, rfl, rfl, rfl, rfl, trivial⟩, H⟩
        · clear S aa
          rintro aa ww ⟨x26, h6, S, HJ⟩
          replace H := HK_2 _ _ HJ
          clear HK_2 HJ
          refine OL.pure S (Lf.run_pickF (S.ev rfl) hb_1 (S.ev rfl)) rfl rfl trivial ?_
          clear S; intro aa S
          refine OL.nil ?_
          exact ⟨_, _, S.sub _ ⟨rfl, rfl, rfl, rfl, rfl, rfl, rfl, rfl, rfl, rfl, trivial⟩, H⟩
    · clear S aa
      rintro aa ww ⟨x27, h4, S, HJ⟩
      replace H := HK_1 _ _ HJ
      clear HK_1 HJ
      refine OL.pure S (Lf.run_move (S.ev rfl)) rfl rfl trivial ?_
      clear S; intro aa S
      obtain ⟨J_3, H, HK_3⟩ := H
      refine OL.cutN 8 (fun aa ww => ∃ x36 h8, St 61 ((36, Value.bool x36) :: [(0, Value.int .u64 a0), (1, Value.int .u64 b1), (5, Value.int .u64 (bitsI .xor .u64 ((a0 : Int).fdiv (2 ^ (min (63 : Int).toNat IntKind.u64.bits))) ((b1 : Int).fdiv (2 ^ (min (63 : Int).toNat IntKind.u64.bits))))), (11, Value.int .u64 a0), (12, Value.int .i64 x12), (13, Value.bool (x12 == 0)), (14, Value.bool (x12 == 0)), (18, Value.bool x18), (19, Value.bool x18), (27, Value.bool x27), (28, Value.bool x27)]) h8 w0 aa ww ∧ J_3 x36 h8) ?_ ?_
      · rcases Bool.eq_false_or_eq_true x27 with hb_3 | hb_3
        · replace H := H.1 hb_3
          refine OL.not S rfl rfl (GNo.mk rfl rfl hb_3) ?_
          clear S; intro aa S
          refine OL.not S rfl rfl (GNo.mk rfl rfl hb_3) ?_
          clear S; intro aa S
          refine OL.not S rfl rfl (GNo.mk rfl rfl hb_3) ?_
          clear S; intro aa S
          refine OL.not S rfl rfl (GNo.un rfl rfl) ?_
          clear S; intro aa S
          refine OL.not S rfl rfl (GNo.un rfl rfl) ?_
          clear S; intro aa S
          refine OL.not S rfl rfl (GNo.un rfl rfl) ?_
          clear S; intro aa S
          refine OL.not S rfl rfl (GNo.mk rfl rfl hb_3) ?_
          clear S; intro aa S
          refine OL.pure S (Lf.run_pickT (S.ev rfl) hb_3 (S.ev rfl)) rfl rfl trivial ?_
          clear S; intro aa S
          refine OL.nil ?_
          exact ⟨_, _, S.sub _ ⟨rfl, rfl, rfl, rfl, rfl, rfl, rfl, rfl, rfl, rfl, rfl, rfl, trivial⟩, H⟩
        · replace H := H.2 hb_3
          refine OL.pure S (Lf.run_move (S.ev rfl)) rfl rfl (GOk.mk rfl rfl hb_3) ?_
          clear S; intro aa S
          refine ol_cal S H isfn52 rfl rfl (GOk.mk rfl rfl hb_3) ?_
          clear S H aa; intro u_4 aa ww h9 H S
          obtain ⟨x30, rfl, H⟩ := H
          refine OL.pure S (Lf.run_move (S.ev rfl)) rfl rfl (GOk.mk rfl rfl hb_3) ?_
          clear S; intro aa S
          obtain ⟨J_4, H, HK_4⟩ := H
          refine OL.cutN 4 (fun aa ww => ∃ x35 h10, St 61 ((35, Value.bool x35) :: [(0, Value.int .u64 a0), (1, Value.int .u64 b1), (5, Value.int .u64 (bitsI .xor .u64 ((a0 : Int).fdiv (2 ^ (min (63 : Int).toNat IntKind.u64.bits))) ((b1 : Int).fdiv (2 ^ (min (63 : Int).toNat IntKind.u64.bits))))), (11, Value.int .u64 a0), (12, Value.int .i64 x12), (13, Value.bool (x12 == 0)), (14, Value.bool (x12 == 0)), (18, Value.bool x18), (19, Value.bool x18), (27, Value.bool x27), (28, Value.bool x27), (29, Value.int .u64 a0), (30, Value.bool x30), (31, Value.bool x30)]) h10 w0 aa ww ∧ J_4 x35 h10) ?_ ?_
          · rcases Bool.eq_false_or_eq_true x30 with hb_4 | hb_4
            · replace H := H.1 hb_4
              refine OL.pure S (Lf.run_move (S.ev rfl)) rfl rfl (GOk.mk rfl rfl hb_4) ?_
              clear S; intro aa S
              refine ol_cal S H isfn51 rfl rfl (GOk.mk rfl rfl hb_4) ?_
              clear S H aa; intro u_5 aa ww h11 H S
              obtain ⟨x33, rfl, H⟩ := H
              refine OL.pure S (Lf.run_not (S.ev rfl)) rfl rfl (GOk.mk rfl rfl hb_4) ?_
              clear S; intro aa S
              refine OL.pure S (Lf.run_pickT (S.ev rfl) hb_4 (S.ev rfl)) rfl rfl (GOk.mk rfl rfl hb_3) ?_
              clear S; intro aa S
              refine OL.nil ?_
              exact ⟨_, _, S.sub _ ⟨rfl, rfl, rfl, rfl, rfl, rfl, rfl, rfl, rfl, rfl, rfl, rfl, rfl, rfl, rfl, trivial⟩, H⟩
            · replace H := H.2 hb_4
              refine OL.not S rfl rfl (GNo.mk rfl rfl hb_4) ?_
              clear S; intro aa S
              refine OL.not S rfl rfl (GNo.mk rfl rfl hb_4) ?_
              clear S; intro aa S
              refine OL.not S rfl rfl (GNo.mk rfl rfl hb_4) ?_
              clear S; intro aa S
              refine OL.pure S (Lf.run_pickF (S.ev rfl) hb_4 (S.ev rfl)) rfl rfl (GOk.mk rfl rfl hb_3) ?_
              clear S; intro aa S
              refine OL.nil ?_
              exact ⟨_, _, S.sub _ ⟨rfl, rfl, rfl, rfl, rfl, rfl, rfl, rfl, rfl, rfl, rfl, rfl, rfl, rfl, rfl, trivial⟩, H⟩
          · clear S aa
            rintro aa ww ⟨x35, h10, S, HJ⟩
            replace H := HK_4 _ _ HJ
            clear HK_4 HJ
            refine OL.pure S (Lf.run_pickF (S.ev rfl) hb_3 (S.ev rfl)) rfl rfl trivial ?_
            clear S; intro aa S
            refine OL.nil ?_
            exact ⟨_, _, S.sub _ ⟨rfl, rfl, rfl, rfl, rfl, rfl, rfl, rfl, rfl, rfl, rfl, rfl, trivial⟩, H⟩
      · clear S aa
        rintro aa ww ⟨x36, h8, S, HJ⟩
        replace H := HK_3 _ _ HJ
        clear HK_3 HJ
        refine OL.nil ?_
        refine W.cond S (b := x36) rfl (fun hb_5 => ?_) (fun hb_5 => ?_)
        · replace H := H.1 hb_5
          refine W.seq ?_
          replace S := S.sub [] trivial
          refine W.region ?_
          refine OL.pure S (Lf.run_assign (S.ev rfl)) rfl rfl trivial ?_
          clear S; intro aa S
          refine OL.nil ?_
          refine W.ret ?_
          exact Ret.one S rfl rfl H
        · replace H := H.2 hb_5
          refine W.skip ?_
          refine W.seq ?_
          refine W.seq ?_
          replace S := S.sub [(0, Value.int .u64 a0), (1, Value.int .u64 b1), (5, Value.int .u64 (bitsI .xor .u64 ((a0 : Int).fdiv (2 ^ (min (63 : Int).toNat IntKind.u64.bits))) ((b1 : Int).fdiv (2 ^ (min (63 : Int).toNat IntKind.u64.bits)))))] ⟨rfl, rfl, rfl, trivial⟩
          refine W.region ?_
          refine OL.pure S (Lf.run_move (S.ev rfl)) rfl rfl trivial ?_
          clear S; intro aa S
          refine ol_cal S H isfn51 rfl rfl trivial ?_
          clear S H aa; intro u_6 aa ww h12 H S
          obtain ⟨x38, rfl, H⟩ := H
          refine OL.pure S (Lf.run_not (S.ev rfl)) rfl rfl trivial ?_
          clear S; intro aa S
          refine OL.pure S (Lf.run_move (S.ev rfl)) rfl rfl trivial ?_
          clear S; intro aa S
          obtain ⟨J_5, H, HK_5⟩ := H
          refine OL.cutN 4 (fun aa ww => ∃ x44 h13, St 61 ((44, Value.bool x44) :: [(0, Value.int .u64 a0), (1, Value.int .u64 b1), (5, Value.int .u64 (bitsI .xor .u64 ((a0 : Int).fdiv (2 ^ (min (63 : Int).toNat IntKind.u64.bits))) ((b1 : Int).fdiv (2 ^ (min (63 : Int).toNat IntKind.u64.bits))))), (37, Value.int .u64 a0), (38, Value.bool x38), (39, Value.bool (!x38)), (40, Value.bool (!x38))]) h13 w0 aa ww ∧ J_5 x44 h13) ?_ ?_
          · rcases Bool.eq_false_or_eq_true (!x38) with hb_6 | hb_6
            · replace H := H.1 hb_6
              refine OL.not S rfl rfl (GNo.mk rfl rfl hb_6) ?_
              clear S; intro aa S
              refine OL.not S rfl rfl (GNo.mk rfl rfl hb_6) ?_
              clear S; intro aa S
              refine OL.not S rfl rfl (GNo.mk rfl rfl hb_6) ?_
              clear S; intro aa S
              refine OL.pure S (Lf.run_pickT (S.ev rfl) hb_6 (S.ev rfl)) rfl rfl trivial ?_
              clear S; intro aa S
              refine OL.nil ?_
              exact ⟨_, _, S.sub _ ⟨rfl, rfl, rfl, rfl, rfl, rfl, rfl, rfl, trivial⟩, H⟩
            · replace H := H.2 hb_6
              refine OL.pure S (Lf.run_move (S.ev rfl)) rfl rfl (GOk.mk rfl rfl hb_6) ?_
              clear S; intro aa S
              refine ol_cal S H isfn51 rfl rfl (GOk.mk rfl rfl hb_6) ?_
              clear S H aa; intro u_7 aa ww h14 H S
              obtain ⟨x42, rfl, H⟩ := H
              refine OL.pure S (Lf.run_not (S.ev rfl)) rfl rfl (GOk.mk rfl rfl hb_6) ?_
              clear S; intro aa S
              refine OL.pure S (Lf.run_pickF (S.ev rfl) hb_6 (S.ev rfl)) rfl rfl trivial ?_
              clear S; intro aa S
              refine OL.nil ?_
              exact ⟨_, _, S.sub _ ⟨rfl, rfl, rfl, rfl, rfl, rfl, rfl, rfl, trivial⟩, H⟩
          · clear S aa
            rintro aa ww ⟨x44, h13, S, HJ⟩
            replace H := HK_5 _ _ HJ
            clear HK_5 HJ
            refine OL.nil ?_
            refine W.cond S (b := x44) rfl (fun hb_7 => ?_) (fun hb_7 => ?_)
            · replace H := H.1 hb_7
              refine W.seq ?_
              replace S := S.sub [(5, Value.int .u64 (bitsI .xor .u64 ((a0 : Int).fdiv (2 ^ (min (63 : Int).toNat IntKind.u64.bits))) ((b1 : Int).fdiv (2 ^ (min (63 : Int).toNat IntKind.u64.bits)))))] ⟨rfl, trivial⟩
              refine W.region ?_
              refine OL.pure S (Lf.run_move (S.ev rfl)) rfl rfl trivial ?_
              clear S; intro aa S
              refine ol_cal S H isfn54 rfl rfl trivial ?_
              clear S H aa; intro u_8 aa ww h15 H S
              obtain ⟨x46, rfl, H⟩ := H
              refine OL.pure S (Lf.run_assign (S.ev rfl)) rfl rfl trivial ?_
              clear S; intro aa S
              refine OL.nil ?_
              refine W.ret ?_
              exact Ret.one S rfl rfl H
            · replace H := H.2 hb_7
              refine W.skip ?_
              refine W.seq ?_
              refine W.seq ?_
              replace S := S.sub [(0, Value.int .u64 a0), (1, Value.int .u64 b1), (5, Value.int .u64 (bitsI .xor .u64 ((a0 : Int).fdiv (2 ^ (min (63 : Int).toNat IntKind.u64.bits))) ((b1 : Int).fdiv (2 ^ (min (63 : Int).toNat IntKind.u64.bits)))))] ⟨rfl, rfl, rfl, trivial⟩
              refine W.region ?_
              refine OL.pure S (Lf.run_move (S.ev rfl)) rfl rfl trivial ?_
              clear S; intro aa S
              refine ol_cal S H isfn52 rfl rfl trivial ?_
              clear S H aa; intro u_9 aa ww h16 H S
              obtain ⟨x48, rfl, H⟩ := H
              refine OL.pure S (Lf.run_move (S.ev rfl)) rfl rfl trivial ?_
              clear S; intro aa S
              obtain ⟨J_6, H, HK_6⟩ := H
              refine OL.cutN 3 (fun aa ww => ∃ x52 h17, St 61 ((52, Value.bool x52) :: [(0, Value.int .u64 a0), (1, Value.int .u64 b1), (5, Value.int .u64 (bitsI .xor .u64 ((a0 : Int).fdiv (2 ^ (min (63 : Int).toNat IntKind.u64.bits))) ((b1 : Int).fdiv (2 ^ (min (63 : Int).toNat IntKind.u64.bits))))), (47, Value.int .u64 a0), (48, Value.bool x48), (49, Value.bool x48)]) h17 w0 aa ww ∧ J_6 x52 h17) ?_ ?_
              · rcases Bool.eq_false_or_eq_true x48 with hb_8 | hb_8
                · replace H := H.1 hb_8
                  refine OL.not S rfl rfl (GNo.mk rfl rfl hb_8) ?_
                  clear S; intro aa S
                  refine OL.not S rfl rfl (GNo.mk rfl rfl hb_8) ?_
                  clear S; intro aa S
                  refine OL.pure S (Lf.run_pickT (S.ev rfl) hb_8 (S.ev rfl)) rfl rfl trivial ?_
                  clear S; intro aa S
                  refine OL.nil ?_
                  exact ⟨_, _, S.sub _ ⟨rfl, rfl, rfl, rfl, rfl, rfl, rfl, trivial⟩, H⟩
                · replace H := H.2 hb_8
                  refine OL.pure S (Lf.run_move (S.ev rfl)) rfl rfl (GOk.mk rfl rfl hb_8) ?_
                  clear S; intro aa S
                  refine ol_cal S H isfn52 rfl rfl (GOk.mk rfl rfl hb_8) ?_
                  clear S H aa; intro u_10 aa ww h18 H S
                  obtain ⟨x51, rfl, H⟩ := H
                  refine OL.pure S (Lf.run_pickF (S.ev rfl) hb_8 (S.ev rfl)) rfl rfl trivial ?_
                  clear S; intro aa S
                  refine OL.nil ?_
                  exact ⟨_, _, S.sub _ ⟨rfl, rfl, rfl, rfl, rfl, rfl, rfl, trivial⟩, H⟩
              · clear S aa
                rintro aa ww ⟨x52, h17, S, HJ⟩
                replace H := HK_6 _ _ HJ
                clear HK_6 HJ
                refine OL.nil ?_
                refine W.cond S (b := x52) rfl (fun hb_9 => ?_) (fun hb_9 => ?_)
                · replace H := H.1 hb_9
                  refine W.seq ?_
                  replace S := S.sub [(5, Value.int .u64 (bitsI .xor .u64 ((a0 : Int).fdiv (2 ^ (min (63 : Int).toNat IntKind.u64.bits))) ((b1 : Int).fdiv (2 ^ (min (63 : Int).toNat IntKind.u64.bits)))))] ⟨rfl, trivial⟩
                  refine W.region ?_
                  refine OL.pure S (Lf.run_move (S.ev rfl)) rfl rfl trivial ?_
                  clear S; intro aa S
                  refine ol_cal S H isfn55 rfl rfl trivial ?_
                  clear S H aa; intro u_11 aa ww h19 H S
                  obtain ⟨x54, rfl, H⟩ := H
                  refine OL.pure S (Lf.run_assign (S.ev rfl)) rfl rfl trivial ?_
                  clear S; intro aa S
                  refine OL.nil ?_
                  refine W.ret ?_
                  exact Ret.one S rfl rfl H
                · replace H := H.2 hb_9
                  refine W.skip ?_
                  refine W.seq ?_
                  replace S := S.sub [(0, Value.int .u64 a0), (1, Value.int .u64 b1)] ⟨rfl, rfl, trivial⟩
                  refine W.region ?_
                  refine OL.pure S (Lf.run_move (S.ev rfl)) rfl rfl trivial ?_
                  clear S; intro aa S
                  refine OL.pure S (Lf.run_fromB isext43 (evs_map S rfl)) rfl rfl trivial ?_
                  clear S; intro aa S
                  refine OL.pure S (Lf.run_move (S.ev rfl)) rfl rfl trivial ?_
                  clear S; intro aa S
                  refine OL.pure S (Lf.run_fromB isext43 (evs_map S rfl)) rfl rfl trivial ?_
                  clear S; intro aa S
                  refine ol_flA S H (by simp) rfl rfl rfl trivial ?_
                  clear S H aa; intro r59 aa ww H S
                  refine ol_cal S H isfn53 rfl rfl trivial ?_
                  clear S H aa; intro u_12 aa ww h20 H S
                  obtain ⟨x60, rfl, H⟩ := H
                  refine OL.pure S (Lf.run_assign (S.ev rfl)) rfl rfl trivial ?_
                  clear S; intro aa S
                  refine OL.nil ?_
                  refine W.ret ?_
                  exact Ret.one S rfl rfl H

/-- chattel num.FDiv -/
def L29 (a0 : Int) (b1 : Int) (h : Heap) (R : Value → Heap → Prop) : Prop :=
  flA .quo (((a0 : Int)).toNat) (((b1 : Int)).toNat) fun r9 =>
  cal Try.prog 50 #[Value.float .f64 r9] h fun u h1 => asI .u64 u fun x10 =>
  R (Value.int .u64 x10) h1

set_option maxRecDepth 100000 in

theorem F29 {a0 b1 h : _} {R : Value → Heap → Prop} (H : L29 a0 b1 h R) : CallsH Try.prog 29 #[Value.int .u64 a0, Value.int .u64 b1] h R := by
  refine CallsH.enter (n := 11) Try.func29 rfl rfl rfl rfl ?_
  intro w0 aa ww S
  unfold L29 at H
  refine W.seq ?_
  replace S := S.sub [(0, Value.int .u64 a0), (1, Value.int .u64 b1)] ⟨rfl, rfl, trivial⟩
  refine W.region ?_
  refine OL.pure S (Lf.run_assign (S.ev rfl)) rfl rfl trivial ?_
  clear S; intro aa S
  refine OL.nil ?_
  refine W.seq ?_
  replace S := S.sub [(0, Value.int .u64 a0), (1, Value.int .u64 b1)] ⟨rfl, rfl, trivial⟩
  refine W.region ?_
  refine OL.pure S (Lf.run_move (S.ev rfl)) rfl rfl trivial ?_
  clear S; intro aa S
  refine OL.pure S (Lf.run_fromB isext43 (evs_map S rfl)) rfl rfl trivial ?_
  clear S; intro aa S
  refine OL.pure S (Lf.run_move (S.ev rfl)) rfl rfl trivial ?_
  clear S; intro aa S
  refine OL.pure S (Lf.run_fromB isext43 (evs_map S rfl)) rfl rfl trivial ?_
  clear S; intro aa S
  refine ol_flA S H (by simp) rfl rfl rfl trivial ?_
  clear S H aa; intro r9 aa ww H S
  refine ol_cal S H isfn50 rfl rfl trivial ?_
  clear S H aa; intro u aa ww h1 H S
  obtain ⟨x10, rfl, H⟩ := H
  refine OL.pure S (Lf.run_assign (S.ev rfl)) rfl rfl trivial ?_
  clear S; intro aa S
  refine OL.nil ?_
  refine W.ret ?_
  exact Ret.one S rfl rfl H

/-- chattel chattelref02.FDiv -/
def L30 (a0 : Int) (b1 : Int) (h : Heap) (R : Value → Heap → Prop) : Prop :=
  cal Try.prog 16 #[Value.int .u64 a0] h fun u h1 => asI .i64 u fun x12 =>
  ∃ J : Bool → Heap → Prop, (orj (x12 == 0) (fun k =>
    cal Try.prog 16 #[Value.int .u64 b1] h1 fun u_1 h3 => asI .i64 u_1 fun x16 =>
    k (x16 == 0) h3) h1 J) ∧ ∀ x18 h2, J x18 h2 →
  ∃ J_1 : Bool → Heap → Prop, (orj x18 (fun k_1 =>
    cal Try.prog 51 #[Value.int .u64 a0] h2 fun u_2 h5 => asB u_2 fun x21 =>
    ∃ J_2 : Bool → Heap → Prop, (andj (!x21) (fun k_2 =>
      cal Try.prog 51 #[Value.int .u64 b1] h5 fun u_3 h7 => asB u_3 fun x25 =>
      k_2 (!x25) h7) h5 J_2) ∧ ∀ x27 h6, J_2 x27 h6 →
    k_1 x27 h6) h2 J_1) ∧ ∀ x28 h4, J_1 x28 h4 →
  ∃ J_3 : Bool → Heap → Prop, (orj x28 (fun k_3 =>
    cal Try.prog 52 #[Value.int .u64 a0] h4 fun u_4 h9 => asB u_4 fun x31 =>
    ∃ J_4 : Bool → Heap → Prop, (andj x31 (fun k_4 =>
      cal Try.prog 52 #[Value.int .u64 b1] h9 fun u_5 h11 => asB u_5 fun x34 =>
      k_4 x34 h11) h9 J_4) ∧ ∀ x35 h10, J_4 x35 h10 →
    k_3 x35 h10) h4 J_3) ∧ ∀ x36 h8, J_3 x36 h8 →
  ifb x36 (
    R (Value.int .u64 9221120237041090561) h8) (
    cal Try.prog 51 #[Value.int .u64 a0] h8 fun u_6 h12 => asB u_6 fun x38 =>
    ∃ J_5 : Bool → Heap → Prop, (orj (!x38) (fun k_5 =>
      cal Try.prog 52 #[Value.int .u64 b1] h12 fun u_7 h14 => asB u_7 fun x42 =>
      k_5 x42 h14) h12 J_5) ∧ ∀ x43 h13, J_5 x43 h13 →
    ifb x43 (
      cal Try.prog 54 #[Value.int .u64 (bitsI .xor .u64 ((a0 : Int).fdiv (2 ^ (min (63 : Int).toNat IntKind.u64.bits))) ((b1 : Int).fdiv (2 ^ (min (63 : Int).toNat IntKind.u64.bits))))] h13 fun u_8 h15 => asI .u64 u_8 fun x45 =>
      R (Value.int .u64 x45) h15) (
      cal Try.prog 52 #[Value.int .u64 a0] h13 fun u_9 h16 => asB u_9 fun x47 =>
      ∃ J_6 : Bool → Heap → Prop, (orj x47 (fun k_6 =>
        cal Try.prog 51 #[Value.int .u64 b1] h16 fun u_10 h18 => asB u_10 fun x50 =>
        k_6 (!x50) h18) h16 J_6) ∧ ∀ x52 h17, J_6 x52 h17 →
      ifb x52 (
        cal Try.prog 55 #[Value.int .u64 (bitsI .xor .u64 ((a0 : Int).fdiv (2 ^ (min (63 : Int).toNat IntKind.u64.bits))) ((b1 : Int).fdiv (2 ^ (min (63 : Int).toNat IntKind.u64.bits))))] h17 fun u_11 h19 => asI .u64 u_11 fun x54 =>
        R (Value.int .u64 x54) h19) (
        flA .quo (((a0 : Int)).toNat) (((b1 : Int)).toNat) fun r59 =>
        cal Try.prog 53 #[Value.float .f64 r59] h17 fun u_12 h20 => asI .u64 u_12 fun x60 =>
        R (Value.int .u64 x60) h20)))

set_option maxRecDepth 100000 in

theorem F30 {a0 b1 h : _} {R : Value → Heap → Prop} (H : L30 a0 b1 h R) : CallsH Try.prog 30 #[Value.int .u64 a0, Value.int .u64 b1] h R := by
  refine CallsH.enter (n := 61) Try.func30 rfl rfl rfl rfl ?_
  intro w0 aa ww S
  unfold L30 at H
  refine W.seq ?_
  replace S := S.sub [(0, Value.int .u64 a0), (1, Value.int .u64 b1)] ⟨rfl, rfl, trivial⟩
  refine W.region ?_
  refine OL.pure S (Lf.run_assign (S.ev rfl)) rfl rfl trivial ?_
  clear S; intro aa S
  refine OL.nil ?_
  refine W.seq ?_
  replace S := S.sub [(0, Value.int .u64 a0), (1, Value.int .u64 b1)] ⟨rfl, rfl, trivial⟩
  refine W.region ?_
  refine OL.pure S (Lf.run_move (S.ev rfl)) rfl rfl trivial ?_
  clear S; intro aa S
  refine OL.pure S (Lf.run_shr (S.ev rfl) (S.ev rfl) (by decide)) rfl rfl trivial ?_
  clear S; intro aa S
  refine OL.pure S (Lf.run_move (S.ev rfl)) rfl rfl trivial ?_
  clear S; intro aa S
  refine OL.pure S (Lf.run_shr (S.ev rfl) (S.ev rfl) (by decide)) rfl rfl trivial ?_
  clear S; intro aa S
  refine OL.pure S (Lf.run_bits (op := .xor) (by simp) (S.ev rfl) (S.ev rfl)) rfl rfl trivial ?_
  clear S; intro aa S
  refine OL.pure S (Lf.run_assign (S.ev rfl)) rfl rfl trivial ?_
  clear S; intro aa S
  refine OL.nil ?_
  refine W.seq ?_
  refine W.seq ?_
  replace S := S.sub [(0, Value.int .u64 a0), (1, Value.int .u64 b1), (5, Value.int .u64 (bitsI .xor .u64 ((a0 : Int).fdiv (2 ^ (min (63 : Int).toNat IntKind.u64.bits))) ((b1 : Int).fdiv (2 ^ (min (63 : Int).toNat IntKind.u64.bits)))))] ⟨rfl, rfl, rfl, trivial⟩
  refine W.region ?_
  refine OL.pure S (Lf.run_move (S.ev rfl)) rfl rfl trivial ?_
  clear S; intro aa S
  refine ol_cal S H isfn16 rfl rfl trivial ?_
  clear S H aa; intro u aa ww h1 H S
  obtain ⟨x12, rfl, H⟩ := H
  refine OL.pure S (Lf.run_eql (S.ev rfl) (S.ev rfl)) rfl rfl trivial ?_
  clear S; intro aa S
  refine OL.pure S (Lf.run_move (S.ev rfl)) rfl rfl trivial ?_
  clear S; intro aa S
  obtain ⟨J, H, HK⟩ := H
  refine OL.cutN 4 (fun aa ww => ∃ x18 h2, St 61 ((18, Value.bool x18) :: [(0, Value.int .u64 a0), (1, Value.int .u64 b1), (5, Value.int .u64 (bitsI .xor .u64 ((a0 : Int).fdiv (2 ^ (min (63 : Int).toNat IntKind.u64.bits))) ((b1 : Int).fdiv (2 ^ (min (63 : Int).toNat IntKind.u64.bits))))), (11, Value.int .u64 a0), (12, Value.int .i64 x12), (13, Value.bool (x12 == 0)), (14, Value.bool (x12 == 0))]) h2 w0 aa ww ∧ J x18 h2) ?_ ?_
  · rcases Bool.eq_false_or_eq_true (x12 == 0) with hb | hb
    · replace H := H.1 hb
      refine OL.not S rfl rfl (GNo.mk rfl rfl hb) ?_
      clear S; intro aa S
      refine OL.not S rfl rfl (GNo.mk rfl rfl hb) ?_
      clear S; intro aa S
      refine OL.not S rfl rfl (GNo.mk rfl rfl hb) ?_
      clear S; intro aa S
      refine OL.pure S (Lf.run_pickT (S.ev rfl) hb (S.ev rfl)) rfl rfl trivial ?_
      clear S; intro aa S
      refine OL.nil ?_
      exact ⟨_, _, S.sub _ ⟨rfl, rfl, rfl, rfl, rfl, rfl, rfl, rfl, trivial⟩, H⟩
    · replace H := H.2 hb
      refine OL.pure S (Lf.run_move (S.ev rfl)) rfl rfl (GOk.mk rfl rfl hb) ?_
      clear S; intro aa S
      refine ol_cal S H isfn16 rfl rfl (GOk.mk rfl rfl hb) ?_
      clear S H aa; intro u_1 aa ww h3 H S
      obtain ⟨x16, rfl, H⟩ := H
      refine OL.pure S (Lf.run_eql (S.ev rfl) (S.ev rfl)) rfl rfl (GOk.mk rfl rfl hb) ?_
      clear S; intro aa S
      refine OL.pure S (Lf.run_pickF (S.ev rfl) hb (S.ev rfl)) rfl rfl trivial ?_
      clear S; intro aa S
      refine OL.nil ?_
      exact ⟨_, _, S.sub _ ⟨rfl, rfl, rfl, rfl, rfl, rfl, rfl, rfl, trivial⟩, H⟩
  · clear S aa
    rintro aa ww ⟨x18, h2, S, HJ⟩
    replace H := HK _ _ HJ
    clear HK HJ
    refine OL.pure S (Lf.run_move (S.ev rfl)) rfl rfl trivial ?_
    clear S; intro aa S
    obtain ⟨J_1, H, HK_1⟩ := H
    refine OL.cutN 9 (fun aa ww => ∃ x28 h4, St 61 ((28, Value.bool x28) :: [(0, Value.int .u64 a0), (1, Value.int .u64 b1), (5, Value.int .u64 (bitsI .xor .u64 ((a0 : Int).fdiv (2 ^ (min (63 : Int).toNat IntKind.u64.bits))) ((b1 : Int).fdiv (2 ^ (min (63 : Int).toNat IntKind.u64.bits))))), (11, Value.int .u64 a0), (12, Value.int .i64 x12), (13, Value.bool (x12 == 0)), (14, Value.bool (x12 == 0)), (18, Value.bool x18), (19, Value.bool x18)]) h4 w0 aa ww ∧ J_1 x28 h4) ?_ ?_
    · rcases Bool.eq_false_or_eq_true x18 with hb_1 | hb_1
      · replace H := H.1 hb_1
        refine OL.not S rfl rfl (GNo.mk rfl rfl hb_1) ?_
        clear S; intro aa S
        refine OL.not S rfl rfl (GNo.mk rfl rfl hb_1) ?_
        clear S; intro aa S
        refine OL.not S rfl rfl (GNo.mk rfl rfl hb_1) ?_
        clear S; intro aa S
        refine OL.not S rfl rfl (GNo.mk rfl rfl hb_1) ?_
        clear S; intro aa S
        refine OL.not S rfl rfl (GNo.un rfl rfl) ?_
        clear S; intro aa S
        refine OL.not S rfl rfl (GNo.un rfl rfl) ?_
        clear S; intro aa S
        refine OL.not S rfl rfl (GNo.un rfl rfl) ?_
        clear S; intro aa S
        refine OL.not S rfl rfl (GNo.mk rfl rfl hb_1) ?_
        clear S; intro aa S
        refine OL.pure S (Lf.run_pickT (S.ev rfl) hb_1 (S.ev rfl)) rfl rfl trivial ?_
        clear S; intro aa S
        refine OL.nil ?_
        exact ⟨_, _, S.sub _ ⟨rfl, rfl, rfl, rfl, rfl, rfl, rfl, rfl, rfl, rfl, trivial⟩, H⟩
      · replace H := H.2 hb_1
        refine OL.pure S (Lf.run_move (S.ev rfl)) rfl rfl (GOk.mk rfl rfl hb_1) ?_
        clear S; intro aa S
        refine ol_cal S H isfn51 rfl rfl (GOk.mk rfl rfl hb_1) ?_
        clear S H aa; intro u_2 aa ww h5 H S
        obtain ⟨x21, rfl, H⟩ := H
        refine OL.pure S (Lf.run_not (S.ev rfl)) rfl rfl (GOk.mk rfl rfl hb_1) ?_
        clear S; intro aa S
        refine OL.pure S (Lf.run_move (S.ev rfl)) rfl rfl (GOk.mk rfl rfl hb_1) ?_
        clear S; intro aa S
        obtain ⟨J_2, H, HK_2⟩ := H
        refine OL.cutN 4 (fun aa ww => ∃ x27 h6, St 61 ((27, Value.bool x27) :: [(0, Value.int .u64 a0), (1, Value.int .u64 b1), (5, Value.int .u64 (bitsI .xor .u64 ((a0 : Int).fdiv (2 ^ (min (63 : Int).toNat IntKind.u64.bits))) ((b1 : Int).fdiv (2 ^ (min (63 : Int).toNat IntKind.u64.bits))))), (11, Value.int .u64 a0), (12, Value.int .i64 x12), (13, Value.bool (x12 == 0)), (14, Value.bool (x12 == 0)), (18, Value.bool x18), (19, Value.bool x18), (20, Value.int .u64 a0), (21, Value.bool x21), (22, Value.bool (!x21)), (23, Value.bool (!x21))]) h6 w0 aa ww ∧ J_2 x27 h6) ?_ ?_
        · rcases Bool.eq_false_or_eq_true (!x21) with hb_2 | hb_2
          · replace H := H.1 hb_2
            refine OL.pure S (Lf.run_move (S.ev rfl)) rfl rfl (GOk.mk rfl rfl hb_2) ?_
            clear S; intro aa S
            refine ol_cal S H isfn51 rfl rfl (GOk.mk rfl rfl hb_2) ?_
            clear S H aa; intro u_3 aa ww h7 H S
            obtain ⟨x25, rfl, H⟩ := H
            refine OL.pure S (Lf.run_not (S.ev rfl)) rfl rfl (GOk.mk rfl rfl hb_2) ?_
            clear S; intro aa S
            refine OL.pure S (Lf.run_pickT (S.ev rfl) hb_2 (S.ev rfl)) rfl rfl (GOk.mk rfl rfl hb_1) ?_
            clear S; intro aa S
            refine OL.nil ?_
            exact ⟨_, _, S.sub _ ⟨rfl, rfl, rfl, rfl, rfl, rfl, rfl, rfl, rfl, rfl, rfl, rfl, rfl, rfl, trivial⟩, H⟩
          · replace H := H.2 hb_2
            refine OL.not S rfl rfl (GNo.mk rfl rfl hb_2) ?_
            clear S; intro aa S
            refine OL.not S rfl rfl (GNo.mk rfl rfl hb_2) ?_
            clear S; intro aa S
            refine OL.not S rfl rfl (GNo.mk rfl rfl hb_2) ?_
            clear S; intro aa S
            refine OL.pure S (Lf.run_pickF (S.ev rfl) hb_2 (S.ev rfl)) rfl rfl (GOk.mk rfl rfl hb_1) ?_
            clear S; intro aa S
            refine OL.nil ?_
            exact ⟨_, _, S.sub _ ⟨rfl, rfl, rfl, rfl, rfl, rfl, rfl, rfl, rfl, rfl, rfl, rfl, rfl, rfl, trivial⟩, H⟩
        · clear S aa
          rintro aa ww ⟨x27, h6, S, HJ⟩
          replace H := HK_2 _ _ HJ
          clear HK_2 HJ
          refine OL.pure S (Lf.run_pickF (S.ev rfl) hb_1 (S.ev rfl)) rfl rfl trivial ?_
          clear S; intro aa S
          refine OL.nil ?_
          exact ⟨_, _, S.sub _ ⟨rfl, rfl, rfl, rfl, rfl, rfl, rfl, rfl, rfl, rfl, trivial⟩, H⟩
    · clear S aa
      rintro aa ww ⟨x28, h4, S, HJ⟩
      replace H := HK_1 _ _ HJ
      clear HK_1 HJ
      refine OL.pure S (Lf.run_move (S.ev rfl)) rfl rfl trivial ?_
      clear S; intro aa S
      obtain ⟨J_3, H, HK_3⟩ := H
      refine OL.cutN 7 (fun aa ww => ∃ x36 h8, St 61 ((36, Value.bool x36) :: [(0, Value.int .u64 a0), (1, Value.int .u64 b1), (5, Value.int .u64 (bitsI .xor .u64 ((a0 : Int).fdiv (2 ^ (min (63 : Int).toNat IntKind.u64.bits))) ((b1 : Int).fdiv (2 ^ (min (63 : Int).toNat IntKind.u64.bits))))), (11, Value.int .u64 a0), (12, Value.int .i64 x12), (13, Value.bool (x12 == 0)), (14, Value.bool (x12 == 0)), (18, Value.bool x18), (19, Value.bool x18), (28, Value.bool x28), (29, Value.bool x28)]) h8 w0 aa ww ∧ J_3 x36 h8) ?_ ?_
      · rcases Bool.eq_false_or_eq_true x28 with hb_3 | hb_3
        · replace H := H.1 hb_3
          refine OL.not S rfl rfl (GNo.mk rfl rfl hb_3) ?_
          clear S; intro aa S
          refine OL.not S rfl rfl (GNo.mk rfl rfl hb_3) ?_
          clear S; intro aa S
          refine OL.not S rfl rfl (GNo.mk rfl rfl hb_3) ?_
          clear S; intro aa S
          refine OL.not S rfl rfl (GNo.un rfl rfl) ?_
          clear S; intro aa S
          refine OL.not S rfl rfl (GNo.un rfl rfl) ?_
          clear S; intro aa S
          refine OL.not S rfl rfl (GNo.mk rfl rfl hb_3) ?_
          clear S; intro aa S
          refine OL.pure S (Lf.run_pickT (S.ev rfl) hb_3 (S.ev rfl)) rfl rfl trivial ?_
          clear S; intro aa S
          refine OL.nil ?_
          exact ⟨_, _, S.sub _ ⟨rfl, rfl, rfl, rfl, rfl, rfl, rfl, rfl, rfl, rfl, rfl, rfl, trivial⟩, H⟩
        · replace H := H.2 hb_3
          refine OL.pure S (Lf.run_move (S.ev rfl)) rfl rfl (GOk.mk rfl rfl hb_3) ?_
          clear S; intro aa S
          refine ol_cal S H isfn52 rfl rfl (GOk.mk rfl rfl hb_3) ?_
          clear S H aa; intro u_4 aa ww h9 H S
          obtain ⟨x31, rfl, H⟩ := H
          refine OL.pure S (Lf.run_move (S.ev rfl)) rfl rfl (GOk.mk rfl rfl hb_3) ?_
          clear S; intro aa S
          obtain ⟨J_4, H, HK_4⟩ := H
          refine OL.cutN 3 (fun aa ww => ∃ x35 h10, St 61 ((35, Value.bool x35) :: [(0, Value.int .u64 a0), (1, Value.int .u64 b1), (5, Value.int .u64 (bitsI .xor .u64 ((a0 : Int).fdiv (2 ^ (min (63 : Int).toNat IntKind.u64.bits))) ((b1 : Int).fdiv (2 ^ (min (63 : Int).toNat IntKind.u64.bits))))), (11, Value.int .u64 a0), (12, Value.int .i64 x12), (13, Value.bool (x12 == 0)), (14, Value.bool (x12 == 0)), (18, Value.bool x18), (19, Value.bool x18), (28, Value.bool x28), (29, Value.bool x28), (30, Value.int .u64 a0), (31, Value.bool x31), (32, Value.bool x31)]) h10 w0 aa ww ∧ J_4 x35 h10) ?_ ?_
          · rcases Bool.eq_false_or_eq_true x31 with hb_4 | hb_4
            · replace H := H.1 hb_4
              refine OL.pure S (Lf.run_move (S.ev rfl)) rfl rfl (GOk.mk rfl rfl hb_4) ?_
              clear S; intro aa S
              refine ol_cal S H isfn52 rfl rfl (GOk.mk rfl rfl hb_4) ?_
              clear S H aa; intro u_5 aa ww h11 H S
              obtain ⟨x34, rfl, H⟩ := H
              refine OL.pure S (Lf.run_pickT (S.ev rfl) hb_4 (S.ev rfl)) rfl rfl (GOk.mk rfl rfl hb_3) ?_
              clear S; intro aa S
              refine OL.nil ?_
              exact ⟨_, _, S.sub _ ⟨rfl, rfl, rfl, rfl, rfl, rfl, rfl, rfl, rfl, rfl, rfl, rfl, rfl, rfl, rfl, trivial⟩, H⟩
            · replace H := H.2 hb_4
              refine OL.not S rfl rfl (GNo.mk rfl rfl hb_4) ?_
              clear S; intro aa S
              refine OL.not S rfl rfl (GNo.mk rfl rfl hb_4) ?_
              clear S; intro aa S
              refine OL.pure S (Lf.run_pickF (S.ev rfl) hb_4 (S.ev rfl)) rfl rfl (GOk.mk rfl rfl hb_3) ?_
              clear S; intro aa S
              refine OL.nil ?_
              exact ⟨_, _, S.sub _ ⟨rfl, rfl, rfl, rfl, rfl, rfl, rfl, rfl, rfl, rfl, rfl, rfl, rfl, rfl, rfl, trivial⟩, H⟩
          · clear S aa
            rintro aa ww ⟨x35, h10, S, HJ⟩
            replace H := HK_4 _ _ HJ
            clear HK_4 HJ
            refine OL.pure S (Lf.run_pickF (S.ev rfl) hb_3 (S.ev rfl)) rfl rfl trivial ?_
            clear S; intro aa S
            refine OL.nil ?_
            exact ⟨_, _, S.sub _ ⟨rfl, rfl, rfl, rfl, rfl, rfl, rfl, rfl, rfl, rfl, rfl, rfl, trivial⟩, H⟩
      · clear S aa
        rintro aa ww ⟨x36, h8, S, HJ⟩
        replace H := HK_3 _ _ HJ
        clear HK_3 HJ
        refine OL.nil ?_
        refine W.cond S (b := x36) rfl (fun hb_5 => ?_) (fun hb_5 => ?_)
        · replace H := H.1 hb_5
          refine W.seq ?_
          replace S := S.sub [] trivial
          refine W.region ?_
          refine OL.pure S (Lf.run_assign (S.ev rfl)) rfl rfl trivial ?_
          clear S; intro aa S
          refine OL.nil ?_
          refine W.ret ?_
          exact Ret.one S rfl rfl H
        · replace H := H.2 hb_5
          refine W.skip ?_
          refine W.seq ?_
          refine W.seq ?_
          replace S := S.sub [(0, Value.int .u64 a0), (1, Value.int .u64 b1), (5, Value.int .u64 (bitsI .xor .u64 ((a0 : Int).fdiv (2 ^ (min (63 : Int).toNat IntKind.u64.bits))) ((b1 : Int).fdiv (2 ^ (min (63 : Int).toNat IntKind.u64.bits)))))] ⟨rfl, rfl, rfl, trivial⟩
          refine W.region ?_
          refine OL.pure S (Lf.run_move (S.ev rfl)) rfl rfl trivial ?_
          clear S; intro aa S
          refine ol_cal S H isfn51 rfl rfl trivial ?_
          clear S H aa; intro u_6 aa ww h12 H S
          obtain ⟨x38, rfl, H⟩ := H
          refine OL.pure S (Lf.run_not (S.ev rfl)) rfl rfl trivial ?_
          clear S; intro aa S
          refine OL.pure S (Lf.run_move (S.ev rfl)) rfl rfl trivial ?_
          clear S; intro aa S
          obtain ⟨J_5, H, HK_5⟩ := H
          refine OL.cutN 3 (fun aa ww => ∃ x43 h13, St 61 ((43, Value.bool x43) :: [(0, Value.int .u64 a0), (1, Value.int .u64 b1), (5, Value.int .u64 (bitsI .xor .u64 ((a0 : Int).fdiv (2 ^ (min (63 : Int).toNat IntKind.u64.bits))) ((b1 : Int).fdiv (2 ^ (min (63 : Int).toNat IntKind.u64.bits))))), (37, Value.int .u64 a0), (38, Value.bool x38), (39, Value.bool (!x38)), (40, Value.bool (!x38))]) h13 w0 aa ww ∧ J_5 x43 h13) ?_ ?_
          · rcases Bool.eq_false_or_eq_true (!x38) with hb_6 | hb_6
            · replace H := H.1 hb_6
              refine OL.not S rfl rfl (GNo.mk rfl rfl hb_6) ?_
              clear S; intro aa S
              refine OL.not S rfl rfl (GNo.mk rfl rfl hb_6) ?_
              clear S; intro aa S
              refine OL.pure S (Lf.run_pickT (S.ev rfl) hb_6 (S.ev rfl)) rfl rfl trivial ?_
              clear S; intro aa S
              refine OL.nil ?_
              exact ⟨_, _, S.sub _ ⟨rfl, rfl, rfl, rfl, rfl, rfl, rfl, rfl, trivial⟩, H⟩
            · replace H := H.2 hb_6
              refine OL.pure S (Lf.run_move (S.ev rfl)) rfl rfl (GOk.mk rfl rfl hb_6) ?_
              clear S; intro aa S
              refine ol_cal S H isfn52 rfl rfl (GOk.mk rfl rfl hb_6) ?_
              clear S H aa; intro u_7 aa ww h14 H S
              obtain ⟨x42, rfl, H⟩ := H
              refine OL.pure S (Lf.run_pickF (S.ev rfl) hb_6 (S.ev rfl)) rfl rfl trivial ?_
              clear S; intro aa S
              refine OL.nil ?_
              exact ⟨_, _, S.sub _ ⟨rfl, rfl, rfl, rfl, rfl, rfl, rfl, rfl, trivial⟩, H⟩
          · clear S aa
            rintro aa ww ⟨x43, h13, S, HJ⟩
            replace H := HK_5 _ _ HJ
            clear HK_5 HJ
            refine OL.nil ?_
            refine W.cond S (b := x43) rfl (fun hb_7 => ?_) (fun hb_7 => ?_)
            · replace H := H.1 hb_7
              refine W.seq ?_
              replace S := S.sub [(5, Value.int .u64 (bitsI .xor .u64 ((a0 : Int).fdiv (2 ^ (min (63 : Int).toNat IntKind.u64.bits))) ((b1 : Int).fdiv (2 ^ (min (63 : Int).toNat IntKind.u64.bits)))))] ⟨rfl, trivial⟩
              refine W.region ?_
              refine OL.pure S (Lf.run_move (S.ev rfl)) rfl rfl trivial ?_
              clear S; intro aa S
              refine ol_cal S H isfn54 rfl rfl trivial ?_
              clear S H aa; intro u_8 aa ww h15 H S
              obtain ⟨x45, rfl, H⟩ := H
              refine OL.pure S (Lf.run_assign (S.ev rfl)) rfl rfl trivial ?_
              clear S; intro aa S
              refine OL.nil ?_
              refine W.ret ?_
              exact Ret.one S rfl rfl H
            · replace H := H.2 hb_7
              refine W.skip ?_
              refine W.seq ?_
              refine W.seq ?_
              replace S := S.sub [(0, Value.int .u64 a0), (1, Value.int .u64 b1), (5, Value.int .u64 (bitsI .xor .u64 ((a0 : Int).fdiv (2 ^ (min (63 : Int).toNat IntKind.u64.bits))) ((b1 : Int).fdiv (2 ^ (min (63 : Int).toNat IntKind.u64.bits)))))] ⟨rfl, rfl, rfl, trivial⟩
              refine W.region ?_
              refine OL.pure S (Lf.run_move (S.ev rfl)) rfl rfl trivial ?_
              clear S; intro aa S
              refine ol_cal S H isfn52 rfl rfl trivial ?_
              clear S H aa; intro u_9 aa ww h16 H S
              obtain ⟨x47, rfl, H⟩ := H
              refine OL.pure S (Lf.run_move (S.ev rfl)) rfl rfl trivial ?_
              clear S; intro aa S
              obtain ⟨J_6, H, HK_6⟩ := H
              refine OL.cutN 4 (fun aa ww => ∃ x52 h17, St 61 ((52, Value.bool x52) :: [(0, Value.int .u64 a0), (1, Value.int .u64 b1), (5, Value.int .u64 (bitsI .xor .u64 ((a0 : Int).fdiv (2 ^ (min (63 : Int).toNat IntKind.u64.bits))) ((b1 : Int).fdiv (2 ^ (min (63 : Int).toNat IntKind.u64.bits))))), (46, Value.int .u64 a0), (47, Value.bool x47), (48, Value.bool x47)]) h17 w0 aa ww ∧ J_6 x52 h17) ?_ ?_
              · rcases Bool.eq_false_or_eq_true x47 with hb_8 | hb_8
                · replace H := H.1 hb_8
                  refine OL.not S rfl rfl (GNo.mk rfl rfl hb_8) ?_
                  clear S; intro aa S
                  refine OL.not S rfl rfl (GNo.mk rfl rfl hb_8) ?_
                  clear S; intro aa S
                  refine OL.not S rfl rfl (GNo.mk rfl rfl hb_8) ?_
                  clear S; intro aa S
                  refine OL.pure S (Lf.run_pickT (S.ev rfl) hb_8 (S.ev rfl)) rfl rfl trivial ?_
                  clear S; intro aa S
                  refine OL.nil ?_
                  exact ⟨_, _, S.sub _ ⟨rfl, rfl, rfl, rfl, rfl, rfl, rfl, trivial⟩, H⟩
                · replace H := H.2 hb_8
                  refine OL.pure S (Lf.run_move (S.ev rfl)) rfl rfl (GOk.mk rfl rfl hb_8) ?_
                  clear S; intro aa S
                  refine ol_cal S H isfn51 rfl rfl (GOk.mk rfl rfl hb_8) ?_
                  clear S H aa; intro u_10 aa ww h18 H S
                  obtain ⟨x50, rfl, H⟩ := H
                  refine OL.pure S (Lf.run_not (S.ev rfl)) rfl rfl (GOk.mk rfl rfl hb_8) ?_
                  clear S; intro aa S
                  refine OL.pure S (Lf.run_pickF (S.ev rfl) hb_8 (S.ev rfl)) rfl rfl trivial ?_
                  clear S; intro aa S
                  refine OL.nil ?_
                  exact ⟨_, _, S.sub _ ⟨rfl, rfl, rfl, rfl, rfl, rfl, rfl, trivial⟩, H⟩
              · clear S aa
                rintro aa ww ⟨x52, h17, S, HJ⟩
                replace H := HK_6 _ _ HJ
                clear HK_6 HJ
                refine OL.nil ?_
                refine W.cond S (b := x52) rfl (fun hb_9 => ?_) (fun hb_9 => ?_)
                · replace H := H.1 hb_9
                  refine W.seq ?_
                  replace S := S.sub [(5, Value.int .u64 (bitsI .xor .u64 ((a0 : Int).fdiv (2 ^ (min (63 : Int).toNat IntKind.u64.bits))) ((b1 : Int).fdiv (2 ^ (min (63 : Int).toNat IntKind.u64.bits)))))] ⟨rfl, trivial⟩
                  refine W.region ?_
                  refine OL.pure S (Lf.run_move (S.ev rfl)) rfl rfl trivial ?_
                  clear S; intro aa S
                  refine ol_cal S H isfn55 rfl rfl trivial ?_
                  clear S H aa; intro u_11 aa ww h19 H S
                  obtain ⟨x54, rfl, H⟩ := H
                  refine OL.pure S (Lf.run_assign (S.ev rfl)) rfl rfl trivial ?_
                  clear S; intro aa S
                  refine OL.nil ?_
                  refine W.ret ?_
                  exact Ret.one S rfl rfl H
                · replace H := H.2 hb_9
                  refine W.skip ?_
                  refine W.seq ?_
                  replace S := S.sub [(0, Value.int .u64 a0), (1, Value.int .u64 b1)] ⟨rfl, rfl, trivial⟩
                  refine W.region ?_
                  refine OL.pure S (Lf.run_move (S.ev rfl)) rfl rfl trivial ?_
                  clear S; intro aa S
                  refine OL.pure S (Lf.run_fromB isext43 (evs_map S rfl)) rfl rfl trivial ?_
                  clear S; intro aa S
                  refine OL.pure S (Lf.run_move (S.ev rfl)) rfl rfl trivial ?_
                  clear S; intro aa S
                  refine OL.pure S (Lf.run_fromB isext43 (evs_map S rfl)) rfl rfl trivial ?_
                  clear S; intro aa S
                  refine ol_flA S H (by simp) rfl rfl rfl trivial ?_
                  clear S H aa; intro r59 aa ww H S
                  refine ol_cal S H isfn53 rfl rfl trivial ?_
                  clear S H aa; intro u_12 aa ww h20 H S
                  obtain ⟨x60, rfl, H⟩ := H
                  refine OL.pure S (Lf.run_assign (S.ev rfl)) rfl rfl trivial ?_
                  clear S; intro aa S
                  refine OL.nil ?_
                  refine W.ret ?_
                  exact Ret.one S rfl rfl H

/-- chattel num.FNeg -/
def L31 (a0 : Int) (h : Heap) (R : Value → Heap → Prop) : Prop :=
  cal Try.prog 50 #[Value.float .f64 (Op.negFloat .f64 (((a0 : Int)).toNat))] h fun u h1 => asI .u64 u fun x6 =>
  R (Value.int .u64 x6) h1

set_option maxRecDepth 100000 in

theorem F31 {a0 h : _} {R : Value → Heap → Prop} (H : L31 a0 h R) : CallsH Try.prog 31 #[Value.int .u64 a0] h R := by
  refine CallsH.enter (n := 7) Try.func31 rfl rfl rfl rfl ?_
  intro w0 aa ww S
  unfold L31 at H
  refine W.seq ?_
  replace S := S.sub [(0, Value.int .u64 a0)] ⟨rfl, trivial⟩
  refine W.region ?_
  refine OL.pure S (Lf.run_assign (S.ev rfl)) rfl rfl trivial ?_
  clear S; intro aa S
  refine OL.nil ?_
  refine W.seq ?_
  replace S := S.sub [(0, Value.int .u64 a0)] ⟨rfl, trivial⟩
  refine W.region ?_
  refine OL.pure S (Lf.run_move (S.ev rfl)) rfl rfl trivial ?_
  clear S; intro aa S
  refine OL.pure S (Lf.run_fromB isext43 (evs_map S rfl)) rfl rfl trivial ?_
  clear S; intro aa S
  refine OL.pure S (Lf.run_fneg (S.ev rfl)) rfl rfl trivial ?_
  clear S; intro aa S
  refine ol_cal S H isfn50 rfl rfl trivial ?_
  clear S H aa; intro u aa ww h1 H S
  obtain ⟨x6, rfl, H⟩ := H
  refine OL.pure S (Lf.run_assign (S.ev rfl)) rfl rfl trivial ?_
  clear S; intro aa S
  refine OL.nil ?_
  refine W.ret ?_
  exact Ret.one S rfl rfl H

/-- chattel chattelref02.FNeg -/
def L32 (a0 : Int) (h : Heap) (R : Value → Heap → Prop) : Prop :=
  cal Try.prog 56 #[Value.int .u64 (bitsI .xor .u64 a0 9223372036854775808)] h fun u h1 => asI .u64 u fun x5 =>
  R (Value.int .u64 x5) h1

set_option maxRecDepth 100000 in

theorem F32 {a0 h : _} {R : Value → Heap → Prop} (H : L32 a0 h R) : CallsH Try.prog 32 #[Value.int .u64 a0] h R := by
  refine CallsH.enter (n := 6) Try.func32 rfl rfl rfl rfl ?_
  intro w0 aa ww S
  unfold L32 at H
  refine W.seq ?_
  replace S := S.sub [(0, Value.int .u64 a0)] ⟨rfl, trivial⟩
  refine W.region ?_
  refine OL.pure S (Lf.run_assign (S.ev rfl)) rfl rfl trivial ?_
  clear S; intro aa S
  refine OL.nil ?_
  refine W.seq ?_
  replace S := S.sub [(0, Value.int .u64 a0)] ⟨rfl, trivial⟩
  refine W.region ?_
  refine OL.pure S (Lf.run_move (S.ev rfl)) rfl rfl trivial ?_
  clear S; intro aa S
  refine OL.pure S (Lf.run_bits (op := .xor) (by simp) (S.ev rfl) (S.ev rfl)) rfl rfl trivial ?_
  clear S; intro aa S
  refine ol_cal S H isfn56 rfl rfl trivial ?_
  clear S H aa; intro u aa ww h1 H S
  obtain ⟨x5, rfl, H⟩ := H
  refine OL.pure S (Lf.run_assign (S.ev rfl)) rfl rfl trivial ?_
  clear S; intro aa S
  refine OL.nil ?_
  refine W.ret ?_
  exact Ret.one S rfl rfl H

/-- chattel num.Plain -/
def L33 (a0 : Int) (h : Heap) (R : Value → Heap → Prop) : Prop :=
  cal Try.prog 50 #[Value.float .f64 (((a0 : Int)).toNat)] h fun u h1 => asI .u64 u fun x5 =>
  R (Value.int .u64 x5) h1

set_option maxRecDepth 100000 in

theorem F33 {a0 h : _} {R : Value → Heap → Prop} (H : L33 a0 h R) : CallsH Try.prog 33 #[Value.int .u64 a0] h R := by
  refine CallsH.enter (n := 6) Try.func33 rfl rfl rfl rfl ?_
  intro w0 aa ww S
  unfold L33 at H
  refine W.seq ?_
  replace S := S.sub [(0, Value.int .u64 a0)] ⟨rfl, trivial⟩
  refine W.region ?_
  refine OL.pure S (Lf.run_assign (S.ev rfl)) rfl rfl trivial ?_
  clear S; intro aa S
  refine OL.nil ?_
  refine W.seq ?_
  replace S := S.sub [(0, Value.int .u64 a0)] ⟨rfl, trivial⟩
  refine W.region ?_
  refine OL.pure S (Lf.run_move (S.ev rfl)) rfl rfl trivial ?_
  clear S; intro aa S
  refine OL.pure S (Lf.run_fromB isext43 (evs_map S rfl)) rfl rfl trivial ?_
  clear S; intro aa S
  refine ol_cal S H isfn50 rfl rfl trivial ?_
  clear S H aa; intro u aa ww h1 H S
  obtain ⟨x5, rfl, H⟩ := H
  refine OL.pure S (Lf.run_assign (S.ev rfl)) rfl rfl trivial ?_
  clear S; intro aa S
  refine OL.nil ?_
  refine W.ret ?_
  exact Ret.one S rfl rfl H

/-- chattel chattelref02.Plain -/
def L34 (a0 : Int) (h : Heap) (R : Value → Heap → Prop) : Prop :=
  cal Try.prog 56 #[Value.int .u64 a0] h fun u h1 => asI .u64 u fun x4 =>
  R (Value.int .u64 x4) h1

set_option maxRecDepth 100000 in

theorem F34 {a0 h : _} {R : Value → Heap → Prop} (H : L34 a0 h R) : CallsH Try.prog 34 #[Value.int .u64 a0] h R := by
  refine CallsH.enter (n := 5) Try.func34 rfl rfl rfl rfl ?_
  intro w0 aa ww S
  unfold L34 at H
  refine W.seq ?_
  replace S := S.sub [(0, Value.int .u64 a0)] ⟨rfl, trivial⟩
  refine W.region ?_
  refine OL.pure S (Lf.run_assign (S.ev rfl)) rfl rfl trivial ?_
  clear S; intro aa S
  refine OL.nil ?_
  refine W.seq ?_
  replace S := S.sub [(0, Value.int .u64 a0)] ⟨rfl, trivial⟩
  refine W.region ?_
  refine OL.pure S (Lf.run_move (S.ev rfl)) rfl rfl trivial ?_
  clear S; intro aa S
  refine ol_cal S H isfn56 rfl rfl trivial ?_
  clear S H aa; intro u aa ww h1 H S
  obtain ⟨x4, rfl, H⟩ := H
  refine OL.pure S (Lf.run_assign (S.ev rfl)) rfl rfl trivial ?_
  clear S; intro aa S
  refine OL.nil ?_
  refine W.ret ?_
  exact Ret.one S rfl rfl H

/-- chattel num.Div -/
def L35 (a0 : Int) (b1 : Int) (h : Heap) (R : Value → Heap → Prop) : Prop :=
  ifb (b1 == 0) (
    R (.tuple #[Value.int .i64 0, Value.bool false]) h) (
    ifb (b1 == (-1)) (
      cal Try.prog 37 #[Value.int .i64 a0] h fun u h1 => asTup u fun r12 =>
      elt r12 0 fun u_1 => asI .i64 u_1 fun x13 =>
      elt r12 1 fun u_2 => asB u_2 fun x14 =>
      R (.tuple #[Value.int .i64 x13, Value.bool x14]) h1) (
      (b1 ≠ 0) ∧
      R (.tuple #[Value.int .i64 (IntKind.i64.wrap ((a0 : Int).tdiv b1)), Value.bool true]) h))

set_option maxRecDepth 100000 in

theorem F35 {a0 b1 h : _} {R : Value → Heap → Prop} (H : L35 a0 b1 h R) : CallsH Try.prog 35 #[Value.int .i64 a0, Value.int .i64 b1] h R := by
  refine CallsH.enter (n := 18) Try.func35 rfl rfl rfl rfl ?_
  intro w0 aa ww S
  unfold L35 at H
  refine W.seq ?_
  replace S := S.sub [(0, Value.int .i64 a0), (1, Value.int .i64 b1)] ⟨rfl, rfl, trivial⟩
  refine W.region ?_
  refine OL.pure S (Lf.run_assign (S.ev rfl)) rfl rfl trivial ?_
  clear S; intro aa S
  refine OL.pure S (Lf.run_assign (S.ev rfl)) rfl rfl trivial ?_
  clear S; intro aa S
  refine OL.nil ?_
  refine W.seq ?_
  refine W.seq ?_
  replace S := S.sub [(0, Value.int .i64 a0), (1, Value.int .i64 b1)] ⟨rfl, rfl, trivial⟩
  refine W.region ?_
  refine OL.pure S (Lf.run_move (S.ev rfl)) rfl rfl trivial ?_
  clear S; intro aa S
  refine OL.nil ?_
  refine W.block ?_
  refine W.seq ?_
  replace S := S.sub [(0, Value.int .i64 a0), (1, Value.int .i64 b1), (6, Value.int .i64 b1)] ⟨rfl, rfl, rfl, trivial⟩
  refine W.region ?_
  refine OL.pure S (Lf.run_eql (S.ev rfl) (S.ev rfl)) rfl rfl trivial ?_
  clear S; intro aa S
  refine OL.pure S (Lf.run_assign (S.ev rfl)) rfl rfl trivial ?_
  clear S; intro aa S
  refine OL.nil ?_
  refine W.cond S (b := (b1 == 0)) rfl (fun hb => ?_) (fun hb => ?_)
  · replace H := H.1 hb
    refine W.seq ?_
    replace S := S.sub [] trivial
    refine W.region ?_
    refine OL.pure S (Lf.run_assign (S.ev rfl)) rfl rfl trivial ?_
    clear S; intro aa S
    refine OL.pure S (Lf.run_assign (S.ev rfl)) rfl rfl trivial ?_
    clear S; intro aa S
    refine OL.nil ?_
    refine W.ret ?_
    exact Ret.two S rfl rfl rfl H
  · replace H := H.2 hb
    refine W.seq ?_
    replace S := S.sub [(0, Value.int .i64 a0), (1, Value.int .i64 b1), (6, Value.int .i64 b1)] ⟨rfl, rfl, rfl, trivial⟩
    refine W.region ?_
    refine OL.pure S (Lf.run_eql (S.ev rfl) (S.ev rfl)) rfl rfl trivial ?_
    clear S; intro aa S
    refine OL.pure S (Lf.run_assign (S.ev rfl)) rfl rfl trivial ?_
    clear S; intro aa S
    refine OL.nil ?_
    refine W.cond S (b := (b1 == (-1))) rfl (fun hb_1 => ?_) (fun hb_1 => ?_)
    · replace H := H.1 hb_1
      refine W.seq ?_
      replace S := S.sub [(0, Value.int .i64 a0)] ⟨rfl, trivial⟩
      refine W.region ?_
      refine OL.pure S (Lf.run_move (S.ev rfl)) rfl rfl trivial ?_
      clear S; intro aa S
      refine ol_cal S H isfn37 rfl rfl trivial ?_
      clear S H aa; intro u aa ww h1 H S
      obtain ⟨r12, rfl, H⟩ := H
      obtain ⟨u_1, e, x13, rfl, H⟩ := H
      refine OL.pure S (Lf.run_ex (S.ev rfl) e) rfl rfl trivial ?_
      clear S; intro aa S
      obtain ⟨u_2, e_1, x14, rfl, H⟩ := H
      refine OL.pure S (Lf.run_ex (S.ev rfl) e_1) rfl rfl trivial ?_
      clear S; intro aa S
      refine OL.pure S (Lf.run_assign (S.ev rfl)) rfl rfl trivial ?_
      clear S; intro aa S
      refine OL.pure S (Lf.run_assign (S.ev rfl)) rfl rfl trivial ?_
      clear S; intro aa S
      refine OL.nil ?_
      refine W.ret ?_
      exact Ret.two S rfl rfl rfl H
    · replace H := H.2 hb_1
      refine W.skip ?_
      refine W.seq ?_
      replace S := S.sub [(0, Value.int .i64 a0), (1, Value.int .i64 b1)] ⟨rfl, rfl, trivial⟩
      refine W.region ?_
      refine OL.pure S (Lf.run_move (S.ev rfl)) rfl rfl trivial ?_
      clear S; intro aa S
      refine OL.pure S (Lf.run_move (S.ev rfl)) rfl rfl trivial ?_
      clear S; intro aa S
      obtain ⟨c, H⟩ := H
      refine OL.pure S (Lf.run_quo (S.ev rfl) (S.ev rfl) c) rfl rfl trivial ?_
      clear S; intro aa S
      refine OL.pure S (Lf.run_assign (S.ev rfl)) rfl rfl trivial ?_
      clear S; intro aa S
      refine OL.pure S (Lf.run_assign (S.ev rfl)) rfl rfl trivial ?_
      clear S; intro aa S
      refine OL.nil ?_
      refine W.ret ?_
      exact Ret.two S rfl rfl rfl H

/-- chattel chattelref02.Div -/
def L36 (a0 : Int) (b1 : Int) (h : Heap) (R : Value → Heap → Prop) : Prop :=
  cal Try.prog 48 #[Value.int .i64 a0] h fun u h1 => asTup u fun r12 =>
  elt r12 0 fun u_1 => asB u_1 fun x13 =>
  elt r12 1 fun u_2 => asI .u64 u_2 fun x14 =>
  cal Try.prog 48 #[Value.int .i64 b1] h1 fun u_3 h2 => asTup u_3 fun r17 =>
  elt r17 0 fun u_4 => asB u_4 fun x18 =>
  elt r17 1 fun u_5 => asI .u64 u_5 fun x19 =>
  ifb (x19 == 0) (
    R (.tuple #[Value.int .i64 0, Value.bool false]) h2) (
    (x19 ≠ 0) ∧
    cal Try.prog 49 #[Value.bool (x13 != x18), Value.int .u64 (IntKind.u64.wrap ((x14 : Int).tdiv x19))] h2 fun u_6 h3 => asTup u_6 fun r28 =>
    elt r28 0 fun u_7 => asI .i64 u_7 fun x29 =>
    elt r28 1 fun u_8 => asB u_8 fun x30 =>
    R (.tuple #[Value.int .i64 x29, Value.bool x30]) h3)

set_option maxRecDepth 100000 in

theorem F36 {a0 b1 h : _} {R : Value → Heap → Prop} (H : L36 a0 b1 h R) : CallsH Try.prog 36 #[Value.int .i64 a0, Value.int .i64 b1] h R := by
  refine CallsH.enter (n := 31) Try.func36 rfl rfl rfl rfl ?_
  intro w0 aa ww S
  unfold L36 at H
  refine W.seq ?_
  replace S := S.sub [(0, Value.int .i64 a0), (1, Value.int .i64 b1)] ⟨rfl, rfl, trivial⟩
  refine W.region ?_
  refine OL.pure S (Lf.run_assign (S.ev rfl)) rfl rfl trivial ?_
  clear S; intro aa S
  refine OL.pure S (Lf.run_assign (S.ev rfl)) rfl rfl trivial ?_
  clear S; intro aa S
  refine OL.nil ?_
  refine W.seq ?_
  replace S := S.sub [(0, Value.int .i64 a0), (1, Value.int .i64 b1)] ⟨rfl, rfl, trivial⟩
  refine W.region ?_
  refine OL.pure S (Lf.run_move (S.ev rfl)) rfl rfl trivial ?_
  clear S; intro aa S
  refine ol_cal S H isfn48 rfl rfl trivial ?_
  clear S H aa; intro u aa ww h1 H S
  obtain ⟨r12, rfl, H⟩ := H
  refine OL.pure S (Lf.run_move (S.ev rfl)) rfl rfl trivial ?_
  clear S; intro aa S
  obtain ⟨u_1, e, x13, rfl, H⟩ := H
  refine OL.pure S (Lf.run_ex (S.ev rfl) e) rfl rfl trivial ?_
  clear S; intro aa S
  obtain ⟨u_2, e_1, x14, rfl, H⟩ := H
  refine OL.pure S (Lf.run_ex (S.ev rfl) e_1) rfl rfl trivial ?_
  clear S; intro aa S
  refine OL.pure S (Lf.run_assign (S.ev rfl)) rfl rfl trivial ?_
  clear S; intro aa S
  refine OL.pure S (Lf.run_assign (S.ev rfl)) rfl rfl trivial ?_
  clear S; intro aa S
  refine OL.nil ?_
  refine W.seq ?_
  replace S := S.sub [(1, Value.int .i64 b1), (6, Value.bool x13), (7, Value.int .u64 x14)] ⟨rfl, rfl, rfl, trivial⟩
  refine W.region ?_
  refine OL.pure S (Lf.run_move (S.ev rfl)) rfl rfl trivial ?_
  clear S; intro aa S
  refine ol_cal S H isfn48 rfl rfl trivial ?_
  clear S H aa; intro u_3 aa ww h2 H S
  obtain ⟨r17, rfl, H⟩ := H
  refine OL.pure S (Lf.run_move (S.ev rfl)) rfl rfl trivial ?_
  clear S; intro aa S
  obtain ⟨u_4, e_2, x18, rfl, H⟩ := H
  refine OL.pure S (Lf.run_ex (S.ev rfl) e_2) rfl rfl trivial ?_
  clear S; intro aa S
  obtain ⟨u_5, e_3, x19, rfl, H⟩ := H
  refine OL.pure S (Lf.run_ex (S.ev rfl) e_3) rfl rfl trivial ?_
  clear S; intro aa S
  refine OL.pure S (Lf.run_assign (S.ev rfl)) rfl rfl trivial ?_
  clear S; intro aa S
  refine OL.pure S (Lf.run_assign (S.ev rfl)) rfl rfl trivial ?_
  clear S; intro aa S
  refine OL.nil ?_
  refine W.seq ?_
  refine W.seq ?_
  replace S := S.sub [(6, Value.bool x13), (7, Value.int .u64 x14), (8, Value.bool x18), (9, Value.int .u64 x19)] ⟨rfl, rfl, rfl, rfl, trivial⟩
  refine W.region ?_
  refine OL.pure S (Lf.run_move (S.ev rfl)) rfl rfl trivial ?_
  clear S; intro aa S
  refine OL.pure S (Lf.run_eql (S.ev rfl) (S.ev rfl)) rfl rfl trivial ?_
  clear S; intro aa S
  refine OL.nil ?_
  refine W.cond S (b := (x19 == 0)) rfl (fun hb => ?_) (fun hb => ?_)
  · replace H := H.1 hb
    refine W.seq ?_
    replace S := S.sub [] trivial
    refine W.region ?_
    refine OL.pure S (Lf.run_assign (S.ev rfl)) rfl rfl trivial ?_
    clear S; intro aa S
    refine OL.pure S (Lf.run_assign (S.ev rfl)) rfl rfl trivial ?_
    clear S; intro aa S
    refine OL.nil ?_
    refine W.ret ?_
    exact Ret.two S rfl rfl rfl H
  · replace H := H.2 hb
    refine W.skip ?_
    refine W.seq ?_
    replace S := S.sub [(6, Value.bool x13), (7, Value.int .u64 x14), (8, Value.bool x18), (9, Value.int .u64 x19)] ⟨rfl, rfl, rfl, rfl, trivial⟩
    refine W.region ?_
    refine OL.pure S (Lf.run_move (S.ev rfl)) rfl rfl trivial ?_
    clear S; intro aa S
    refine OL.pure S (Lf.run_move (S.ev rfl)) rfl rfl trivial ?_
    clear S; intro aa S
    refine OL.pure S (Lf.run_neqb Try.underlying4 (S.ev rfl) (S.ev rfl)) rfl rfl trivial ?_
    clear S; intro aa S
    refine OL.pure S (Lf.run_move (S.ev rfl)) rfl rfl trivial ?_
    clear S; intro aa S
    refine OL.pure S (Lf.run_move (S.ev rfl)) rfl rfl trivial ?_
    clear S; intro aa S
    obtain ⟨c, H⟩ := H
    refine OL.pure S (Lf.run_quo (S.ev rfl) (S.ev rfl) c) rfl rfl trivial ?_
    clear S; intro aa S
    refine ol_cal S H isfn49 rfl rfl trivial ?_
    clear S H aa; intro u_6 aa ww h3 H S
    obtain ⟨r28, rfl, H⟩ := H
    obtain ⟨u_7, e_4, x29, rfl, H⟩ := H
    refine OL.pure S (Lf.run_ex (S.ev rfl) e_4) rfl rfl trivial ?_
    clear S; intro aa S
    obtain ⟨u_8, e_5, x30, rfl, H⟩ := H
    refine OL.pure S (Lf.run_ex (S.ev rfl) e_5) rfl rfl trivial ?_
    clear S; intro aa S
    refine OL.pure S (Lf.run_assign (S.ev rfl)) rfl rfl trivial ?_
    clear S; intro aa S
    refine OL.pure S (Lf.run_assign (S.ev rfl)) rfl rfl trivial ?_
    clear S; intro aa S
    refine OL.nil ?_
    refine W.ret ?_
    exact Ret.two S rfl rfl rfl H

/-- chattel num.Neg -/
def L37 (a0 : Int) (h : Heap) (R : Value → Heap → Prop) : Prop :=
  ifb (a0 == (-9223372036854775808)) (
    R (.tuple #[Value.int .i64 0, Value.bool false]) h) (
    R (.tuple #[Value.int .i64 (IntKind.i64.wrap (0 - a0)), Value.bool true]) h)

set_option maxRecDepth 100000 in

theorem F37 {a0 h : _} {R : Value → Heap → Prop} (H : L37 a0 h R) : CallsH Try.prog 37 #[Value.int .i64 a0] h R := by
  refine CallsH.enter (n := 8) Try.func37 rfl rfl rfl rfl ?_
  intro w0 aa ww S
  unfold L37 at H
  refine W.seq ?_
  replace S := S.sub [(0, Value.int .i64 a0)] ⟨rfl, trivial⟩
  refine W.region ?_
  refine OL.pure S (Lf.run_assign (S.ev rfl)) rfl rfl trivial ?_
  clear S; intro aa S
  refine OL.pure S (Lf.run_assign (S.ev rfl)) rfl rfl trivial ?_
  clear S; intro aa S
  refine OL.nil ?_
  refine W.seq ?_
  refine W.seq ?_
  replace S := S.sub [(0, Value.int .i64 a0)] ⟨rfl, trivial⟩
  refine W.region ?_
  refine OL.pure S (Lf.run_move (S.ev rfl)) rfl rfl trivial ?_
  clear S; intro aa S
  refine OL.pure S (Lf.run_eql (S.ev rfl) (S.ev rfl)) rfl rfl trivial ?_
  clear S; intro aa S
  refine OL.nil ?_
  refine W.cond S (b := (a0 == (-9223372036854775808))) rfl (fun hb => ?_) (fun hb => ?_)
  · replace H := H.1 hb
    refine W.seq ?_
    replace S := S.sub [] trivial
    refine W.region ?_
    refine OL.pure S (Lf.run_assign (S.ev rfl)) rfl rfl trivial ?_
    clear S; intro aa S
    refine OL.pure S (Lf.run_assign (S.ev rfl)) rfl rfl trivial ?_
    clear S; intro aa S
    refine OL.nil ?_
    refine W.ret ?_
    exact Ret.two S rfl rfl rfl H
  · replace H := H.2 hb
    refine W.skip ?_
    refine W.seq ?_
    replace S := S.sub [(0, Value.int .i64 a0)] ⟨rfl, trivial⟩
    refine W.region ?_
    refine OL.pure S (Lf.run_move (S.ev rfl)) rfl rfl trivial ?_
    clear S; intro aa S
    refine OL.pure S (Lf.run_neg (S.ev rfl)) rfl rfl trivial ?_
    clear S; intro aa S
    refine OL.pure S (Lf.run_assign (S.ev rfl)) rfl rfl trivial ?_
    clear S; intro aa S
    refine OL.pure S (Lf.run_assign (S.ev rfl)) rfl rfl trivial ?_
    clear S; intro aa S
    refine OL.nil ?_
    refine W.ret ?_
    exact Ret.two S rfl rfl rfl H

/-- chattel chattelref02.Neg -/
def L38 (a0 : Int) (h : Heap) (R : Value → Heap → Prop) : Prop :=
  cal Try.prog 48 #[Value.int .i64 a0] h fun u h1 => asTup u fun r8 =>
  elt r8 0 fun u_1 => asB u_1 fun x9 =>
  elt r8 1 fun u_2 => asI .u64 u_2 fun x10 =>
  cal Try.prog 49 #[Value.bool (!x9), Value.int .u64 x10] h1 fun u_3 h2 => asTup u_3 fun r14 =>
  elt r14 0 fun u_4 => asI .i64 u_4 fun x15 =>
  elt r14 1 fun u_5 => asB u_5 fun x16 =>
  R (.tuple #[Value.int .i64 x15, Value.bool x16]) h2

set_option maxRecDepth 100000 in

theorem F38 {a0 h : _} {R : Value → Heap → Prop} (H : L38 a0 h R) : CallsH Try.prog 38 #[Value.int .i64 a0] h R := by
  refine CallsH.enter (n := 17) Try.func38 rfl rfl rfl rfl ?_
  intro w0 aa ww S
  unfold L38 at H
  refine W.seq ?_
  replace S := S.sub [(0, Value.int .i64 a0)] ⟨rfl, trivial⟩
  refine W.region ?_
  refine OL.pure S (Lf.run_assign (S.ev rfl)) rfl rfl trivial ?_
  clear S; intro aa S
  refine OL.pure S (Lf.run_assign (S.ev rfl)) rfl rfl trivial ?_
  clear S; intro aa S
  refine OL.nil ?_
  refine W.seq ?_
  replace S := S.sub [(0, Value.int .i64 a0)] ⟨rfl, trivial⟩
  refine W.region ?_
  refine OL.pure S (Lf.run_move (S.ev rfl)) rfl rfl trivial ?_
  clear S; intro aa S
  refine ol_cal S H isfn48 rfl rfl trivial ?_
  clear S H aa; intro u aa ww h1 H S
  obtain ⟨r8, rfl, H⟩ := H
  refine OL.pure S (Lf.run_move (S.ev rfl)) rfl rfl trivial ?_
  clear S; intro aa S
  obtain ⟨u_1, e, x9, rfl, H⟩ := H
  refine OL.pure S (Lf.run_ex (S.ev rfl) e) rfl rfl trivial ?_
  clear S; intro aa S
  obtain ⟨u_2, e_1, x10, rfl, H⟩ := H
  refine OL.pure S (Lf.run_ex (S.ev rfl) e_1) rfl rfl trivial ?_
  clear S; intro aa S
  refine OL.pure S (Lf.run_assign (S.ev rfl)) rfl rfl trivial ?_
  clear S; intro aa S
  refine OL.pure S (Lf.run_assign (S.ev rfl)) rfl rfl trivial ?_
  clear S; intro aa S
  refine OL.nil ?_
  refine W.seq ?_
  replace S := S.sub [(4, Value.bool x9), (5, Value.int .u64 x10)] ⟨rfl, rfl, trivial⟩
  refine W.region ?_
  refine OL.pure S (Lf.run_move (S.ev rfl)) rfl rfl trivial ?_
  clear S; intro aa S
  refine OL.pure S (Lf.run_not (S.ev rfl)) rfl rfl trivial ?_
  clear S; intro aa S
  refine OL.pure S (Lf.run_move (S.ev rfl)) rfl rfl trivial ?_
  clear S; intro aa S
  refine ol_cal S H isfn49 rfl rfl trivial ?_
  clear S H aa; intro u_3 aa ww h2 H S
  obtain ⟨r14, rfl, H⟩ := H
  obtain ⟨u_4, e_2, x15, rfl, H⟩ := H
  refine OL.pure S (Lf.run_ex (S.ev rfl) e_2) rfl rfl trivial ?_
  clear S; intro aa S
  obtain ⟨u_5, e_3, x16, rfl, H⟩ := H
  refine OL.pure S (Lf.run_ex (S.ev rfl) e_3) rfl rfl trivial ?_
  clear S; intro aa S
  refine OL.pure S (Lf.run_assign (S.ev rfl)) rfl rfl trivial ?_
  clear S; intro aa S
  refine OL.pure S (Lf.run_assign (S.ev rfl)) rfl rfl trivial ?_
  clear S; intro aa S
  refine OL.nil ?_
  refine W.ret ?_
  exact Ret.two S rfl rfl rfl H

/-- chattel num.Dec -/
def L39 (n0 : Int) (h : Heap) (R : Value → Heap → Prop) : Prop :=
  ifb (decide (n0 < 0)) (
    cal Try.prog 57 #[Value.int .u64 (IntKind.u64.wrap (0 - (IntKind.u64.wrap n0)))] h fun u h1 => asT u fun x8 =>
    (((⟨#[45]⟩ : ByteArray).size : Nat) : Int) + ((x8.size : Nat) : Int) ≤ 9223372036854775807 ∧
    R (Value.string ((⟨#[45]⟩ : ByteArray) ++ x8)) h1) (
    cal Try.prog 57 #[Value.int .u64 (IntKind.u64.wrap n0)] h fun u_1 h2 => asT u_1 fun x12 =>
    R (Value.string x12) h2)

set_option maxRecDepth 100000 in

theorem F39 {n0 h : _} {R : Value → Heap → Prop} (H : L39 n0 h R) : CallsH Try.prog 39 #[Value.int .i64 n0] h R := by
  refine CallsH.enter (n := 13) Try.func39 rfl rfl rfl rfl ?_
  intro w0 aa ww S
  unfold L39 at H
  refine W.seq ?_
  replace S := S.sub [(0, Value.int .i64 n0)] ⟨rfl, trivial⟩
  refine W.region ?_
  refine OL.pure S (Lf.run_assign (S.ev rfl)) rfl rfl trivial ?_
  clear S; intro aa S
  refine OL.nil ?_
  refine W.seq ?_
  refine W.seq ?_
  replace S := S.sub [(0, Value.int .i64 n0)] ⟨rfl, trivial⟩
  refine W.region ?_
  refine OL.pure S (Lf.run_move (S.ev rfl)) rfl rfl trivial ?_
  clear S; intro aa S
  refine OL.pure S (Lf.run_lss (S.ev rfl) (S.ev rfl)) rfl rfl trivial ?_
  clear S; intro aa S
  refine OL.nil ?_
  refine W.cond S (b := (decide (n0 < 0))) rfl (fun hb => ?_) (fun hb => ?_)
  · replace H := H.1 hb
    refine W.seq ?_
    replace S := S.sub [(0, Value.int .i64 n0)] ⟨rfl, trivial⟩
    refine W.region ?_
    refine OL.pure S (Lf.run_move (S.ev rfl)) rfl rfl trivial ?_
    clear S; intro aa S
    refine OL.pure S (Lf.run_cvi Try.underlying2 Try.underlying22 (S.ev rfl)) rfl rfl trivial ?_
    clear S; intro aa S
    refine OL.pure S (Lf.run_neg (S.ev rfl)) rfl rfl trivial ?_
    clear S; intro aa S
    refine ol_cal S H isfn57 rfl rfl trivial ?_
    clear S H aa; intro u aa ww h1 H S
    obtain ⟨x8, rfl, H⟩ := H
    obtain ⟨c, H⟩ := H
    refine OL.pure S (Lf.run_addt (S.ev rfl) (S.ev rfl) c) rfl rfl trivial ?_
    clear S; intro aa S
    refine OL.pure S (Lf.run_assign (S.ev rfl)) rfl rfl trivial ?_
    clear S; intro aa S
    refine OL.nil ?_
    refine W.ret ?_
    exact Ret.one S rfl rfl H
  · replace H := H.2 hb
    refine W.skip ?_
    refine W.seq ?_
    replace S := S.sub [(0, Value.int .i64 n0)] ⟨rfl, trivial⟩
    refine W.region ?_
    refine OL.pure S (Lf.run_move (S.ev rfl)) rfl rfl trivial ?_
    clear S; intro aa S
    refine OL.pure S (Lf.run_cvi Try.underlying2 Try.underlying22 (S.ev rfl)) rfl rfl trivial ?_
    clear S; intro aa S
    refine ol_cal S H isfn57 rfl rfl trivial ?_
    clear S H aa; intro u_1 aa ww h2 H S
    obtain ⟨x12, rfl, H⟩ := H
    refine OL.pure S (Lf.run_assign (S.ev rfl)) rfl rfl trivial ?_
    clear S; intro aa S
    refine OL.nil ?_
    refine W.ret ?_
    exact Ret.one S rfl rfl H

/-- chattel chattelref02.Dec -/
def L40 (n0 : Int) (h : Heap) (R : Value → Heap → Prop) : Prop :=
  cal Try.prog 48 #[Value.int .i64 n0] h fun u h1 => asTup u fun r8 =>
  elt r8 0 fun u_1 => asB u_1 fun x9 =>
  elt r8 1 fun u_2 => asI .u64 u_2 fun x10 =>
  ∃ (I : Int → ByteArray → Heap → Prop) (m : Int → ByteArray → Heap → Nat), I x10 (⟨#[]⟩ : ByteArray) h1 ∧ ∀ far4 s5 h2, I far4 s5 h2 →
  ifb (decide (10 ≤ far4)) (
    newS 5 #[Value.int .u8 (IntKind.u8.wrap ((IntKind.u8.wrap ((far4 : Int).tmod 10)) + 48))] 1 h2 fun s17 h3 =>
    cvT h3 s17 fun s18 =>
    ((s18.size : Nat) : Int) + ((s5.size : Nat) : Int) ≤ 9223372036854775807 ∧
    I (IntKind.u64.wrap ((far4 : Int).tdiv 10)) (s18 ++ s5) h3 ∧ m (IntKind.u64.wrap ((far4 : Int).tdiv 10)) (s18 ++ s5) h3 < m far4 s5 h2) (
    newS 5 #[Value.int .u8 (IntKind.u8.wrap ((IntKind.u8.wrap far4) + 48))] 1 h2 fun s26 h4 =>
    cvT h4 s26 fun s27 =>
    ((s27.size : Nat) : Int) + ((s5.size : Nat) : Int) ≤ 9223372036854775807 ∧
    ifb x9 (
      (((⟨#[45]⟩ : ByteArray).size : Nat) : Int) + (((s27 ++ s5).size : Nat) : Int) ≤ 9223372036854775807 ∧
      R (Value.string ((⟨#[45]⟩ : ByteArray) ++ (s27 ++ s5))) h4) (
      R (Value.string (s27 ++ s5)) h4))

set_option maxRecDepth 100000 in

theorem F40 {n0 h : _} {R : Value → Heap → Prop} (H : L40 n0 h R) : CallsH Try.prog 40 #[Value.int .i64 n0] h R := by
  refine CallsH.enter (n := 34) Try.func40 rfl rfl rfl rfl ?_
  intro w0 aa ww S
  unfold L40 at H
  refine W.seq ?_
  replace S := S.sub [(0, Value.int .i64 n0)] ⟨rfl, trivial⟩
  refine W.region ?_
  refine OL.pure S (Lf.run_assign (S.ev rfl)) rfl rfl trivial ?_
  clear S; intro aa S
  refine OL.nil ?_
  refine W.seq ?_
  replace S := S.sub [(0, Value.int .i64 n0)] ⟨rfl, trivial⟩
  refine W.region ?_
  refine OL.pure S (Lf.run_move (S.ev rfl)) rfl rfl trivial ?_
  clear S; intro aa S
  refine ol_cal S H isfn48 rfl rfl trivial ?_
  clear S H aa; intro u aa ww h1 H S
  obtain ⟨r8, rfl, H⟩ := H
  refine OL.pure S (Lf.run_move (S.ev rfl)) rfl rfl trivial ?_
  clear S; intro aa S
  obtain ⟨u_1, e, x9, rfl, H⟩ := H
  refine OL.pure S (Lf.run_ex (S.ev rfl) e) rfl rfl trivial ?_
  clear S; intro aa S
  obtain ⟨u_2, e_1, x10, rfl, H⟩ := H
  refine OL.pure S (Lf.run_ex (S.ev rfl) e_1) rfl rfl trivial ?_
  clear S; intro aa S
  refine OL.pure S (Lf.run_assign (S.ev rfl)) rfl rfl trivial ?_
  clear S; intro aa S
  refine OL.pure S (Lf.run_assign (S.ev rfl)) rfl rfl trivial ?_
  clear S; intro aa S
  refine OL.nil ?_
  refine W.seq ?_
  replace S := S.sub [(3, Value.bool x9), (4, Value.int .u64 x10)] ⟨rfl, rfl, trivial⟩
  refine W.region ?_
  refine OL.pure S (Lf.run_assign (S.ev rfl)) rfl rfl trivial ?_
  clear S; intro aa S
  refine OL.nil ?_
  refine W.seq ?_
  refine W.block ?_
  obtain ⟨I, m, H, HB⟩ := H
  refine W.loopS (σ := Int × ByteArray × Heap) (fun s aa ww => St 34 [(3, Value.bool x9), (4, Value.int .u64 s.1), (5, Value.string s.2.1)] s.2.2 w0 aa ww ∧ I s.1 s.2.1 s.2.2) (fun s => m s.1 s.2.1 s.2.2) (x10, (⟨#[]⟩ : ByteArray), h1) ⟨S.sub _ ⟨rfl, rfl, rfl, trivial⟩, H⟩ ?_
  clear H S aa
  rintro ⟨far4, s5, h2⟩ aa ww ⟨S, HI⟩
  replace S : St 34 [(3, Value.bool x9), (4, Value.int .u64 far4), (5, Value.string s5)] h2 w0 aa ww := S
  have H := HB far4 s5 h2 HI
  clear HI
  refine W.seq ?_
  refine W.seq ?_
  replace S := S.sub [(3, Value.bool x9), (4, Value.int .u64 far4), (5, Value.string s5)] ⟨rfl, rfl, rfl, trivial⟩
  refine W.region ?_
  refine OL.pure S (Lf.run_move (S.ev rfl)) rfl rfl trivial ?_
  clear S; intro aa S
  refine OL.pure S (Lf.run_geq (S.ev rfl) (S.ev rfl)) rfl rfl trivial ?_
  clear S; intro aa S
  refine OL.nil ?_
  refine W.cond S (b := (decide (10 ≤ far4))) rfl (fun hb => ?_) (fun hb => ?_)
  · replace H := H.1 hb
    refine W.skip ?_
    refine W.block ?_
    refine W.seq ?_
    replace S := S.sub [(3, Value.bool x9), (4, Value.int .u64 far4), (5, Value.string s5)] ⟨rfl, rfl, rfl, trivial⟩
    refine W.region ?_
    refine OL.pure S (Lf.run_move (S.ev rfl)) rfl rfl trivial ?_
    clear S; intro aa S
    refine OL.pure S (Lf.run_rem (S.ev rfl) (S.ev rfl) (by decide)) rfl rfl trivial ?_
    clear S; intro aa S
    refine OL.pure S (Lf.run_cvi Try.underlying22 Try.underlying5 (S.ev rfl)) rfl rfl trivial ?_
    clear S; intro aa S
    refine OL.pure S (Lf.run_add (S.ev rfl) (S.ev rfl)) rfl rfl trivial ?_
    clear S; intro aa S
    refine ol_newS S H Try.underlying48 ti5 (by decide) (parts_map S rfl) (by kernel_rfl) (by decide) rfl trivial ?_
    clear S H aa; intro s17 aa ww h3 H S
    obtain ⟨bs, c, c_1, H⟩ := H
    refine OL.pure S (Lf.run_cvT Try.underlying48 Try.underlying9 Try.underlying5 (S.ev rfl) c (by rw [S.heap]; exact c_1)) rfl rfl trivial ?_
    clear S; intro aa S
    generalize (⟨bs.toArray⟩ : ByteArray) = s18 at H S
    refine OL.pure S (Lf.run_move (S.ev rfl)) rfl rfl trivial ?_
    clear S; intro aa S
    obtain ⟨c_2, H⟩ := H
    refine OL.pure S (Lf.run_addt (S.ev rfl) (S.ev rfl) c_2) rfl rfl trivial ?_
    clear S; intro aa S
    refine OL.pure S (Lf.run_assign (S.ev rfl)) rfl rfl trivial ?_
    clear S; intro aa S
    refine OL.nil ?_
    replace S := S.sub [(3, Value.bool x9), (4, Value.int .u64 far4), (5, Value.string (s18 ++ s5))] ⟨rfl, rfl, rfl, trivial⟩
    refine W.region ?_
    refine OL.pure S (Lf.run_move (S.ev rfl)) rfl rfl trivial ?_
    clear S; intro aa S
    refine OL.pure S (Lf.run_quo (S.ev rfl) (S.ev rfl) (by decide)) rfl rfl trivial ?_
    clear S; intro aa S
    refine OL.pure S (Lf.run_assign (S.ev rfl)) rfl rfl trivial ?_
    clear S; intro aa S
    refine OL.nil ?_
    exact ⟨((IntKind.u64.wrap ((far4 : Int).tdiv 10)), (s18 ++ s5), h3), ⟨S.sub _ ⟨rfl, rfl, rfl, trivial⟩, H.1⟩, H.2⟩
  · replace H := H.2 hb
    refine W.exit_ ?_
    refine xhit ?_
    refine W.seq ?_
    replace S := S.sub [(3, Value.bool x9), (4, Value.int .u64 far4), (5, Value.string s5)] ⟨rfl, rfl, rfl, trivial⟩
    refine W.region ?_
    refine OL.pure S (Lf.run_move (S.ev rfl)) rfl rfl trivial ?_
    clear S; intro aa S
    refine OL.pure S (Lf.run_cvi Try.underlying22 Try.underlying5 (S.ev rfl)) rfl rfl trivial ?_
    clear S; intro aa S
    refine OL.pure S (Lf.run_add (S.ev rfl) (S.ev rfl)) rfl rfl trivial ?_
    clear S; intro aa S
    refine ol_newS S H Try.underlying48 ti5 (by decide) (parts_map S rfl) (by kernel_rfl) (by decide) rfl trivial ?_
    clear S H aa; intro s26 aa ww h4 H S
    obtain ⟨bs_1, c_5, c_6, H⟩ := H
    refine OL.pure S (Lf.run_cvT Try.underlying48 Try.underlying9 Try.underlying5 (S.ev rfl) c_5 (by rw [S.heap]; exact c_6)) rfl rfl trivial ?_
    clear S; intro aa S
    generalize (⟨bs_1.toArray⟩ : ByteArray) = s27 at H S
    refine OL.pure S (Lf.run_move (S.ev rfl)) rfl rfl trivial ?_
    clear S; intro aa S
    obtain ⟨c_7, H⟩ := H
    refine OL.pure S (Lf.run_addt (S.ev rfl) (S.ev rfl) c_7) rfl rfl trivial ?_
    clear S; intro aa S
    refine OL.pure S (Lf.run_assign (S.ev rfl)) rfl rfl trivial ?_
    clear S; intro aa S
    refine OL.nil ?_
    refine W.seq ?_
    refine W.seq ?_
    replace S := S.sub [(3, Value.bool x9), (5, Value.string (s27 ++ s5))] ⟨rfl, rfl, trivial⟩
    refine W.region ?_
    refine OL.pure S (Lf.run_move (S.ev rfl)) rfl rfl trivial ?_
    clear S; intro aa S
    refine OL.nil ?_
    refine W.cond S (b := x9) rfl (fun hb_1 => ?_) (fun hb_1 => ?_)
    · replace H := H.1 hb_1
      refine W.seq ?_
      replace S := S.sub [(5, Value.string (s27 ++ s5))] ⟨rfl, trivial⟩
      refine W.region ?_
      refine OL.pure S (Lf.run_move (S.ev rfl)) rfl rfl trivial ?_
      clear S; intro aa S
      obtain ⟨c_8, H⟩ := H
      refine OL.pure S (Lf.run_addt (S.ev rfl) (S.ev rfl) c_8) rfl rfl trivial ?_
      clear S; intro aa S
      refine OL.pure S (Lf.run_assign (S.ev rfl)) rfl rfl trivial ?_
      clear S; intro aa S
      refine OL.nil ?_
      refine W.ret ?_
      exact Ret.one S rfl rfl H
    · replace H := H.2 hb_1
      refine W.skip ?_
      refine W.seq ?_
      replace S := S.sub [(5, Value.string (s27 ++ s5))] ⟨rfl, trivial⟩
      refine W.region ?_
      refine OL.pure S (Lf.run_move (S.ev rfl)) rfl rfl trivial ?_
      clear S; intro aa S
      refine OL.pure S (Lf.run_assign (S.ev rfl)) rfl rfl trivial ?_
      clear S; intro aa S
      refine OL.nil ?_
      refine W.ret ?_
      exact Ret.one S rfl rfl H

/-- chattel num.Hex -/
def L41 (a0 : Int) (h : Heap) (R : Value → Heap → Prop) : Prop :=
  mkS 5 (Value.int .u8 0).cells 1 1 16 16 h fun s5 h1 =>
  ∃ (I : Int → Heap → Prop) (m : Int → Heap → Nat), I 0 h1 ∧ ∀ x8 h2, I x8 h2 →
  ifb (decide (x8 < ((s5.n : Nat) : Int))) (
    (0 ≤ (IntKind.i64.wrap (60 - (IntKind.i64.wrap (4 * x8))))) ∧
    cal Try.prog 58 #[Value.int .u8 (IntKind.u8.wrap (bitsI .and .u64 ((a0 : Int).fdiv (2 ^ (min ((IntKind.i64.wrap (60 - (IntKind.i64.wrap (4 * x8)))) : Int).toNat IntKind.u64.bits))) 15))] h2 fun u h3 => asI .u8 u fun x20 =>
    ixS s5 x8 fun q21 =>
    sto h3 (q21.add ((x8 : Int).toNat * 1)) (Value.int .u8 x20) fun h4 =>
    I (IntKind.i64.wrap (x8 + 1)) h4 ∧ m (IntKind.i64.wrap (x8 + 1)) h4 < m x8 h2) (
    cvT h2 s5 fun s24 =>
    R (Value.string s24) h2)

set_option maxRecDepth 100000 in

theorem F41 {a0 h : _} {R : Value → Heap → Prop} (H : L41 a0 h R) : CallsH Try.prog 41 #[Value.int .u64 a0] h R := by
  refine CallsH.enter (n := 25) Try.func41 rfl rfl rfl rfl ?_
  intro w0 aa ww S
  unfold L41 at H
  refine W.seq ?_
  replace S := S.sub [(0, Value.int .u64 a0)] ⟨rfl, trivial⟩
  refine W.region ?_
  refine OL.pure S (Lf.run_assign (S.ev rfl)) rfl rfl trivial ?_
  clear S; intro aa S
  refine OL.nil ?_
  refine W.seq ?_
  replace S := S.sub [(0, Value.int .u64 a0)] ⟨rfl, trivial⟩
  refine W.region ?_
  refine ol_mkS S H Try.underlying48 ti5 rfl rfl rfl trivial ?_
  clear S H aa; intro s5 aa ww h1 H S
  refine OL.pure S (Lf.run_assign (S.ev rfl)) rfl rfl trivial ?_
  clear S; intro aa S
  refine OL.nil ?_
  refine W.seq ?_
  refine W.seq ?_
  replace S := S.sub [(0, Value.int .u64 a0), (3, Value.slice s5.a s5.n s5.c)] ⟨rfl, rfl, trivial⟩
  refine W.region ?_
  refine OL.pure S (Lf.run_move (S.ev rfl)) rfl rfl trivial ?_
  clear S; intro aa S
  refine OL.pure S (Lf.run_lens (S.ev rfl) rfl Try.underlying48) rfl rfl trivial ?_
  clear S; intro aa S
  refine OL.pure S (Lf.run_move (S.ev rfl)) rfl rfl trivial ?_
  clear S; intro aa S
  refine OL.nil ?_
  refine W.block ?_
  obtain ⟨I, m, H, HB⟩ := H
  refine W.loopS (σ := Int × Heap) (fun s aa ww => St 25 [(0, Value.int .u64 a0), (3, Value.slice s5.a s5.n s5.c), (7, Value.int .i64 ((s5.n : Nat) : Int)), (8, Value.int .i64 s.1)] s.2 w0 aa ww ∧ I s.1 s.2) (fun s => m s.1 s.2) (0, h1) ⟨S.sub _ ⟨rfl, rfl, rfl, rfl, trivial⟩, H⟩ ?_
  clear H S aa
  rintro ⟨x8, h2⟩ aa ww ⟨S, HI⟩
  replace S : St 25 [(0, Value.int .u64 a0), (3, Value.slice s5.a s5.n s5.c), (7, Value.int .i64 ((s5.n : Nat) : Int)), (8, Value.int .i64 x8)] h2 w0 aa ww := S
  have H := HB x8 h2 HI
  clear HI
  refine W.seq ?_
  replace S := S.sub [(0, Value.int .u64 a0), (3, Value.slice s5.a s5.n s5.c), (7, Value.int .i64 ((s5.n : Nat) : Int)), (8, Value.int .i64 x8)] ⟨rfl, rfl, rfl, rfl, trivial⟩
  refine W.region ?_
  refine OL.pure S (Lf.run_lss (S.ev rfl) (S.ev rfl)) rfl rfl trivial ?_
  clear S; intro aa S
  refine OL.nil ?_
  refine W.seq ?_
  refine W.cond S (b := (decide (x8 < ((s5.n : Nat) : Int)))) rfl (fun hb => ?_) (fun hb => ?_)
  · replace H := H.1 hb
    refine W.skip ?_
    refine W.seq ?_
    refine W.block ?_
    refine W.seq ?_
    replace S := S.sub [(0, Value.int .u64 a0), (3, Value.slice s5.a s5.n s5.c), (7, Value.int .i64 ((s5.n : Nat) : Int)), (8, Value.int .i64 x8)] ⟨rfl, rfl, rfl, rfl, trivial⟩
    refine W.region ?_
    refine OL.pure S (Lf.run_move (S.ev rfl)) rfl rfl trivial ?_
    clear S; intro aa S
    refine OL.pure S (Lf.run_assign (S.ev rfl)) rfl rfl trivial ?_
    clear S; intro aa S
    refine OL.nil ?_
    replace S := S.sub [(0, Value.int .u64 a0), (3, Value.slice s5.a s5.n s5.c), (4, Value.int .i64 x8), (7, Value.int .i64 ((s5.n : Nat) : Int)), (8, Value.int .i64 x8)] ⟨rfl, rfl, rfl, rfl, rfl, trivial⟩
    refine W.region ?_
    refine OL.pure S (Lf.run_move (S.ev rfl)) rfl rfl trivial ?_
    clear S; intro aa S
    refine OL.pure S (Lf.run_move (S.ev rfl)) rfl rfl trivial ?_
    clear S; intro aa S
    refine OL.pure S (Lf.run_move (S.ev rfl)) rfl rfl trivial ?_
    clear S; intro aa S
    refine OL.pure S (Lf.run_move (S.ev rfl)) rfl rfl trivial ?_
    clear S; intro aa S
    refine OL.pure S (Lf.run_mul (S.ev rfl) (S.ev rfl)) rfl rfl trivial ?_
    clear S; intro aa S
    refine OL.pure S (Lf.run_sub (S.ev rfl) (S.ev rfl)) rfl rfl trivial ?_
    clear S; intro aa S
    obtain ⟨c, H⟩ := H
    refine OL.pure S (Lf.run_shr (S.ev rfl) (S.ev rfl) c) rfl rfl trivial ?_
    clear S; intro aa S
    refine OL.pure S (Lf.run_bits (op := .and) (by simp) (S.ev rfl) (S.ev rfl)) rfl rfl trivial ?_
    clear S; intro aa S
    refine OL.pure S (Lf.run_cvi Try.underlying22 Try.underlying5 (S.ev rfl)) rfl rfl trivial ?_
    clear S; intro aa S
    refine ol_cal S H isfn58 rfl rfl trivial ?_
    clear S H aa; intro u aa ww h3 H S
    obtain ⟨x20, rfl, H⟩ := H
    obtain ⟨q21, e, e_1, e_2, H⟩ := H
    refine OL.pure S (Lf.run_ixs (S.ev rfl) (S.ev rfl) Try.underlying48 ti5 e e_1 e_2) rfl rfl trivial ?_
    clear S; intro aa S
    refine ol_sto S H rfl rfl rfl ti5 trivial ?_
    clear S H aa; intro aa ww h4 H S
    refine OL.nil ?_
    replace S := S.sub [(0, Value.int .u64 a0), (3, Value.slice s5.a s5.n s5.c), (7, Value.int .i64 ((s5.n : Nat) : Int)), (8, Value.int .i64 x8)] ⟨rfl, rfl, rfl, rfl, trivial⟩
    refine W.region ?_
    refine OL.pure S (Lf.run_add (S.ev rfl) (S.ev rfl)) rfl rfl trivial ?_
    clear S; intro aa S
    refine OL.pure S (Lf.run_move (S.ev rfl)) rfl rfl trivial ?_
    clear S; intro aa S
    refine OL.nil ?_
    exact ⟨((IntKind.i64.wrap (x8 + 1)), h4), ⟨S.sub _ ⟨rfl, rfl, rfl, rfl, trivial⟩, H.1⟩, H.2⟩
  · replace H := H.2 hb
    refine W.exit_ ?_
    refine xhit ?_
    refine W.seq ?_
    replace S := S.sub [(3, Value.slice s5.a s5.n s5.c)] ⟨rfl, trivial⟩
    refine W.region ?_
    refine OL.pure S (Lf.run_move (S.ev rfl)) rfl rfl trivial ?_
    clear S; intro aa S
    obtain ⟨bs, c_1, c_2, H⟩ := H
    refine OL.pure S (Lf.run_cvT Try.underlying48 Try.underlying9 Try.underlying5 (S.ev rfl) c_1 (by rw [S.heap]; exact c_2)) rfl rfl trivial ?_
    clear S; intro aa S
    generalize (⟨bs.toArray⟩ : ByteArray) = s24 at H S
    refine OL.pure S (Lf.run_assign (S.ev rfl)) rfl rfl trivial ?_
    clear S; intro aa S
    refine OL.nil ?_
    refine W.ret ?_
    exact Ret.one S rfl rfl H

/-- chattel chattelref02.Hex -/
def L42 (a0 : Int) (h : Heap) (R : Value → Heap → Prop) : Prop :=
  ∃ (I : Int → ByteArray → Int → Heap → Prop) (m : Int → ByteArray → Int → Heap → Nat), I a0 (⟨#[]⟩ : ByteArray) 0 h ∧ ∀ a0_1 s3 i4 h1, I a0_1 s3 i4 h1 →
  ifb (decide (i4 < 16)) (
    ∃ J : Int → Prop, (
      ifb (decide ((IntKind.u8.wrap ((a0_1 : Int).tmod 16)) < 10)) (
        J (IntKind.u8.wrap ((IntKind.u8.wrap ((a0_1 : Int).tmod 16)) + 48))) (
        J (IntKind.u8.wrap ((IntKind.u8.wrap ((a0_1 : Int).tmod 16)) + 87)))) ∧ (∀ d5, J d5 →
    newS 5 #[Value.int .u8 d5] 1 h1 fun s20 h2 =>
    cvT h2 s20 fun s21 =>
    ((s21.size : Nat) : Int) + ((s3.size : Nat) : Int) ≤ 9223372036854775807 ∧
    I (IntKind.u64.wrap ((a0_1 : Int).tdiv 16)) (s21 ++ s3) (IntKind.i64.wrap (i4 + 1)) h2 ∧ m (IntKind.u64.wrap ((a0_1 : Int).tdiv 16)) (s21 ++ s3) (IntKind.i64.wrap (i4 + 1)) h2 < m a0_1 s3 i4 h1)) (
    R (Value.string s3) h1)

set_option maxRecDepth 100000 in

theorem F42 {a0 h : _} {R : Value → Heap → Prop} (H : L42 a0 h R) : CallsH Try.prog 42 #[Value.int .u64 a0] h R := by
  refine CallsH.enter (n := 27) Try.func42 rfl rfl rfl rfl ?_
  intro w0 aa ww S
  unfold L42 at H
  refine W.seq ?_
  replace S := S.sub [(0, Value.int .u64 a0)] ⟨rfl, trivial⟩
  refine W.region ?_
  refine OL.pure S (Lf.run_assign (S.ev rfl)) rfl rfl trivial ?_
  clear S; intro aa S
  refine OL.nil ?_
  refine W.seq ?_
  replace S := S.sub [(0, Value.int .u64 a0)] ⟨rfl, trivial⟩
  refine W.region ?_
  refine OL.pure S (Lf.run_assign (S.ev rfl)) rfl rfl trivial ?_
  clear S; intro aa S
  refine OL.nil ?_
  refine W.seq ?_
  refine W.seq ?_
  replace S := S.sub [(0, Value.int .u64 a0), (3, Value.string (⟨#[]⟩ : ByteArray))] ⟨rfl, rfl, trivial⟩
  refine W.region ?_
  refine OL.pure S (Lf.run_assign (S.ev rfl)) rfl rfl trivial ?_
  clear S; intro aa S
  refine OL.nil ?_
  refine W.block ?_
  obtain ⟨I, m, H, HB⟩ := H
  refine W.loopS (σ := Int × ByteArray × Int × Heap) (fun s aa ww => St 27 [(0, Value.int .u64 s.1), (3, Value.string s.2.1), (4, Value.int .i64 s.2.2.1)] s.2.2.2 w0 aa ww ∧ I s.1 s.2.1 s.2.2.1 s.2.2.2) (fun s => m s.1 s.2.1 s.2.2.1 s.2.2.2) (a0, (⟨#[]⟩ : ByteArray), 0, h) ⟨S.sub _ ⟨rfl, rfl, rfl, trivial⟩, H⟩ ?_
  clear H S aa
  rintro ⟨a0_1, s3, i4, h1⟩ aa ww ⟨S, HI⟩
  replace S : St 27 [(0, Value.int .u64 a0_1), (3, Value.string s3), (4, Value.int .i64 i4)] h1 w0 aa ww := S
  have H := HB a0_1 s3 i4 h1 HI
  clear HI
  refine W.seq ?_
  refine W.seq ?_
  replace S := S.sub [(0, Value.int .u64 a0_1), (3, Value.string s3), (4, Value.int .i64 i4)] ⟨rfl, rfl, rfl, trivial⟩
  refine W.region ?_
  refine OL.pure S (Lf.run_move (S.ev rfl)) rfl rfl trivial ?_
  clear S; intro aa S
  refine OL.pure S (Lf.run_lss (S.ev rfl) (S.ev rfl)) rfl rfl trivial ?_
  clear S; intro aa S
  refine OL.nil ?_
  refine W.cond S (b := (decide (i4 < 16))) rfl (fun hb => ?_) (fun hb => ?_)
  · replace H := H.1 hb
    refine W.skip ?_
    refine W.seq ?_
    refine W.block ?_
    refine W.seq ?_
    replace S := S.sub [(0, Value.int .u64 a0_1), (3, Value.string s3), (4, Value.int .i64 i4)] ⟨rfl, rfl, rfl, trivial⟩
    refine W.region ?_
    refine OL.pure S (Lf.run_move (S.ev rfl)) rfl rfl trivial ?_
    clear S; intro aa S
    refine OL.pure S (Lf.run_rem (S.ev rfl) (S.ev rfl) (by decide)) rfl rfl trivial ?_
    clear S; intro aa S
    refine OL.pure S (Lf.run_cvi Try.underlying22 Try.underlying5 (S.ev rfl)) rfl rfl trivial ?_
    clear S; intro aa S
    refine OL.pure S (Lf.run_assign (S.ev rfl)) rfl rfl trivial ?_
    clear S; intro aa S
    refine OL.nil ?_
    obtain ⟨J, H, HK⟩ := H
    refine W.seqJ (fun aa ww => ∃ d5, St 27 [(0, Value.int .u64 a0_1), (3, Value.string s3), (4, Value.int .i64 i4), (5, Value.int .u8 d5)] h1 w0 aa ww ∧ J d5) ?_ ?_
    · clear HK
      refine W.seq ?_
      replace S := S.sub [(0, Value.int .u64 a0_1), (3, Value.string s3), (4, Value.int .i64 i4), (5, Value.int .u8 (IntKind.u8.wrap ((a0_1 : Int).tmod 16)))] ⟨rfl, rfl, rfl, rfl, trivial⟩
      refine W.region ?_
      refine OL.pure S (Lf.run_move (S.ev rfl)) rfl rfl trivial ?_
      clear S; intro aa S
      refine OL.pure S (Lf.run_lss (S.ev rfl) (S.ev rfl)) rfl rfl trivial ?_
      clear S; intro aa S
      refine OL.nil ?_
      refine W.cond S (b := (decide ((IntKind.u8.wrap ((a0_1 : Int).tmod 16)) < 10))) rfl (fun hb_1 => ?_) (fun hb_1 => ?_)
      · replace H := H.1 hb_1
        replace S := S.sub [(0, Value.int .u64 a0_1), (3, Value.string s3), (4, Value.int .i64 i4), (5, Value.int .u8 (IntKind.u8.wrap ((a0_1 : Int).tmod 16)))] ⟨rfl, rfl, rfl, rfl, trivial⟩
        refine W.region ?_
        refine OL.pure S (Lf.run_move (S.ev rfl)) rfl rfl trivial ?_
        clear S; intro aa S
        refine OL.pure S (Lf.run_add (S.ev rfl) (S.ev rfl)) rfl rfl trivial ?_
        clear S; intro aa S
        refine OL.pure S (Lf.run_assign (S.ev rfl)) rfl rfl trivial ?_
        clear S; intro aa S
        refine OL.nil ?_
        exact ⟨(IntKind.u8.wrap ((IntKind.u8.wrap ((a0_1 : Int).tmod 16)) + 48)), S.sub _ ⟨rfl, rfl, rfl, rfl, trivial⟩, H⟩
      · replace H := H.2 hb_1
        replace S := S.sub [(0, Value.int .u64 a0_1), (3, Value.string s3), (4, Value.int .i64 i4), (5, Value.int .u8 (IntKind.u8.wrap ((a0_1 : Int).tmod 16)))] ⟨rfl, rfl, rfl, rfl, trivial⟩
        refine W.region ?_
        refine OL.pure S (Lf.run_move (S.ev rfl)) rfl rfl trivial ?_
        clear S; intro aa S
        refine OL.pure S (Lf.run_add (S.ev rfl) (S.ev rfl)) rfl rfl trivial ?_
        clear S; intro aa S
        refine OL.pure S (Lf.run_assign (S.ev rfl)) rfl rfl trivial ?_
        clear S; intro aa S
        refine OL.nil ?_
        exact ⟨(IntKind.u8.wrap ((IntKind.u8.wrap ((a0_1 : Int).tmod 16)) + 87)), S.sub _ ⟨rfl, rfl, rfl, rfl, trivial⟩, H⟩
    · clear H S aa
      rintro aa ww ⟨d5, S, HJ⟩
      have H := HK _ HJ
      clear HK HJ
      refine W.seq ?_
      replace S := S.sub [(0, Value.int .u64 a0_1), (3, Value.string s3), (4, Value.int .i64 i4), (5, Value.int .u8 d5)] ⟨rfl, rfl, rfl, rfl, trivial⟩
      refine W.region ?_
      refine OL.pure S (Lf.run_move (S.ev rfl)) rfl rfl trivial ?_
      clear S; intro aa S
      refine ol_newS S H Try.underlying48 ti5 (by decide) (parts_map S rfl) (by kernel_rfl) (by decide) rfl trivial ?_
      clear S H aa; intro s20 aa ww h2 H S
      obtain ⟨bs, c, c_1, H⟩ := H
      refine OL.pure S (Lf.run_cvT Try.underlying48 Try.underlying9 Try.underlying5 (S.ev rfl) c (by rw [S.heap]; exact c_1)) rfl rfl trivial ?_
      clear S; intro aa S
      generalize (⟨bs.toArray⟩ : ByteArray) = s21 at H S
      refine OL.pure S (Lf.run_move (S.ev rfl)) rfl rfl trivial ?_
      clear S; intro aa S
      obtain ⟨c_2, H⟩ := H
      refine OL.pure S (Lf.run_addt (S.ev rfl) (S.ev rfl) c_2) rfl rfl trivial ?_
      clear S; intro aa S
      refine OL.pure S (Lf.run_assign (S.ev rfl)) rfl rfl trivial ?_
      clear S; intro aa S
      refine OL.nil ?_
      replace S := S.sub [(0, Value.int .u64 a0_1), (3, Value.string (s21 ++ s3)), (4, Value.int .i64 i4)] ⟨rfl, rfl, rfl, trivial⟩
      refine W.region ?_
      refine OL.pure S (Lf.run_move (S.ev rfl)) rfl rfl trivial ?_
      clear S; intro aa S
      refine OL.pure S (Lf.run_quo (S.ev rfl) (S.ev rfl) (by decide)) rfl rfl trivial ?_
      clear S; intro aa S
      refine OL.pure S (Lf.run_assign (S.ev rfl)) rfl rfl trivial ?_
      clear S; intro aa S
      refine OL.nil ?_
      replace S := S.sub [(0, Value.int .u64 (IntKind.u64.wrap ((a0_1 : Int).tdiv 16))), (3, Value.string (s21 ++ s3)), (4, Value.int .i64 i4)] ⟨rfl, rfl, rfl, trivial⟩
      refine W.region ?_
      refine OL.pure S (Lf.run_move (S.ev rfl)) rfl rfl trivial ?_
      clear S; intro aa S
      refine OL.pure S (Lf.run_add (S.ev rfl) (S.ev rfl)) rfl rfl trivial ?_
      clear S; intro aa S
      refine OL.pure S (Lf.run_assign (S.ev rfl)) rfl rfl trivial ?_
      clear S; intro aa S
      refine OL.nil ?_
      exact ⟨((IntKind.u64.wrap ((a0_1 : Int).tdiv 16)), (s21 ++ s3), (IntKind.i64.wrap (i4 + 1)), h2), ⟨S.sub _ ⟨rfl, rfl, rfl, trivial⟩, H.1⟩, H.2⟩
  · replace H := H.2 hb
    refine W.exit_ ?_
    refine xhit ?_
    refine W.seq ?_
    replace S := S.sub [(3, Value.string s3)] ⟨rfl, trivial⟩
    refine W.region ?_
    refine OL.pure S (Lf.run_move (S.ev rfl)) rfl rfl trivial ?_
    clear S; intro aa S
    refine OL.pure S (Lf.run_assign (S.ev rfl)) rfl rfl trivial ?_
    clear S; intro aa S
    refine OL.nil ?_
    refine W.ret ?_
    exact Ret.one S rfl rfl H

/-- chattel chattelref02.row -/
def L44 (a0 : Int) (h : Heap) (R : Value → Heap → Prop) : Prop :=
  cal Try.prog 52 #[Value.int .u64 a0] h fun u h1 => asB u fun x4 =>
  ifb x4 (
    R (Value.int .i64 0) h1) (
    ifb (decide (0 < ((a0 : Int).fdiv (2 ^ (min (63 : Int).toNat IntKind.u64.bits))))) (
      R (Value.int .i64 (IntKind.i64.wrap (0 - (IntKind.i64.wrap (bitsI .and .u64 a0 9223372036854775807))))) h1) (
      R (Value.int .i64 (IntKind.i64.wrap a0)) h1))

set_option maxRecDepth 100000 in

theorem F44 {a0 h : _} {R : Value → Heap → Prop} (H : L44 a0 h R) : CallsH Try.prog 44 #[Value.int .u64 a0] h R := by
  refine CallsH.enter (n := 14) Try.func44 rfl rfl rfl rfl ?_
  intro w0 aa ww S
  unfold L44 at H
  refine W.seq ?_
  replace S := S.sub [(0, Value.int .u64 a0)] ⟨rfl, trivial⟩
  refine W.region ?_
  refine OL.pure S (Lf.run_assign (S.ev rfl)) rfl rfl trivial ?_
  clear S; intro aa S
  refine OL.nil ?_
  refine W.seq ?_
  refine W.seq ?_
  replace S := S.sub [(0, Value.int .u64 a0)] ⟨rfl, trivial⟩
  refine W.region ?_
  refine OL.pure S (Lf.run_move (S.ev rfl)) rfl rfl trivial ?_
  clear S; intro aa S
  refine ol_cal S H isfn52 rfl rfl trivial ?_
  clear S H aa; intro u aa ww h1 H S
  obtain ⟨x4, rfl, H⟩ := H
  refine OL.nil ?_
  refine W.cond S (b := x4) rfl (fun hb => ?_) (fun hb => ?_)
  · replace H := H.1 hb
    refine W.seq ?_
    replace S := S.sub [] trivial
    refine W.region ?_
    refine OL.pure S (Lf.run_assign (S.ev rfl)) rfl rfl trivial ?_
    clear S; intro aa S
    refine OL.nil ?_
    refine W.ret ?_
    exact Ret.one S rfl rfl H
  · replace H := H.2 hb
    refine W.skip ?_
    refine W.seq ?_
    refine W.seq ?_
    replace S := S.sub [(0, Value.int .u64 a0)] ⟨rfl, trivial⟩
    refine W.region ?_
    refine OL.pure S (Lf.run_move (S.ev rfl)) rfl rfl trivial ?_
    clear S; intro aa S
    refine OL.pure S (Lf.run_shr (S.ev rfl) (S.ev rfl) (by decide)) rfl rfl trivial ?_
    clear S; intro aa S
    refine OL.pure S (Lf.run_gtr (S.ev rfl) (S.ev rfl)) rfl rfl trivial ?_
    clear S; intro aa S
    refine OL.nil ?_
    refine W.cond S (b := (decide (0 < ((a0 : Int).fdiv (2 ^ (min (63 : Int).toNat IntKind.u64.bits)))))) rfl (fun hb_1 => ?_) (fun hb_1 => ?_)
    · replace H := H.1 hb_1
      refine W.seq ?_
      replace S := S.sub [(0, Value.int .u64 a0)] ⟨rfl, trivial⟩
      refine W.region ?_
      refine OL.pure S (Lf.run_move (S.ev rfl)) rfl rfl trivial ?_
      clear S; intro aa S
      refine OL.pure S (Lf.run_bits (op := .and) (by simp) (S.ev rfl) (S.ev rfl)) rfl rfl trivial ?_
      clear S; intro aa S
      refine OL.pure S (Lf.run_cvi Try.underlying22 Try.underlying2 (S.ev rfl)) rfl rfl trivial ?_
      clear S; intro aa S
      refine OL.pure S (Lf.run_neg (S.ev rfl)) rfl rfl trivial ?_
      clear S; intro aa S
      refine OL.pure S (Lf.run_assign (S.ev rfl)) rfl rfl trivial ?_
      clear S; intro aa S
      refine OL.nil ?_
      refine W.ret ?_
      exact Ret.one S rfl rfl H
    · replace H := H.2 hb_1
      refine W.skip ?_
      refine W.seq ?_
      replace S := S.sub [(0, Value.int .u64 a0)] ⟨rfl, trivial⟩
      refine W.region ?_
      refine OL.pure S (Lf.run_move (S.ev rfl)) rfl rfl trivial ?_
      clear S; intro aa S
      refine OL.pure S (Lf.run_cvi Try.underlying22 Try.underlying2 (S.ev rfl)) rfl rfl trivial ?_
      clear S; intro aa S
      refine OL.pure S (Lf.run_assign (S.ev rfl)) rfl rfl trivial ?_
      clear S; intro aa S
      refine OL.nil ?_
      refine W.ret ?_
      exact Ret.one S rfl rfl H

/-- math.IsInf -/
def L45 (f0 : Nat) (sign1 : Int) (h : Heap) (R : Value → Heap → Prop) : Prop :=
  ∃ J : Nat → Heap → Prop, (
    ifb (sign1 == 0) (
      cal Try.prog 59 #[Value.float .f64 f0] h fun u h1 => asF .f64 u fun x8 =>
      J x8 h1) (
      ifb (decide (sign1 < 0)) (
        J (Op.negFloat .f64 f0) h) (
        J f0 h))) ∧ (∀ f0_1 h2, J f0_1 h2 →
  R (Value.bool (fO f0_1 9218868437227405311 == some .gt)) h2)

set_option maxRecDepth 100000 in

theorem F45 {f0 sign1 h : _} {R : Value → Heap → Prop} (H : L45 f0 sign1 h R) : CallsH Try.prog 45 #[Value.float .f64 f0, Value.int .i64 sign1] h R := by
  refine CallsH.enter (n := 15) Try.func45 rfl rfl rfl rfl ?_
  intro w0 aa ww S
  unfold L45 at H
  refine W.seq ?_
  replace S := S.sub [(0, Value.float .f64 f0), (1, Value.int .i64 sign1)] ⟨rfl, rfl, trivial⟩
  refine W.region ?_
  refine OL.pure S (Lf.run_assign (S.ev rfl)) rfl rfl trivial ?_
  clear S; intro aa S
  refine OL.nil ?_
  obtain ⟨J, H, HK⟩ := H
  refine W.seqJ (fun aa ww => ∃ f0_1 h2, St 15 [(0, Value.float .f64 f0_1)] h2 w0 aa ww ∧ J f0_1 h2) ?_ ?_
  · clear HK
    refine W.seq ?_
    replace S := S.sub [(0, Value.float .f64 f0), (1, Value.int .i64 sign1)] ⟨rfl, rfl, trivial⟩
    refine W.region ?_
    refine OL.pure S (Lf.run_move (S.ev rfl)) rfl rfl trivial ?_
    clear S; intro aa S
    refine OL.pure S (Lf.run_eql (S.ev rfl) (S.ev rfl)) rfl rfl trivial ?_
    clear S; intro aa S
    refine OL.nil ?_
    refine W.cond S (b := (sign1 == 0)) rfl (fun hb => ?_) (fun hb => ?_)
    · replace H := H.1 hb
      replace S := S.sub [(0, Value.float .f64 f0)] ⟨rfl, trivial⟩
      refine W.region ?_
      refine OL.pure S (Lf.run_move (S.ev rfl)) rfl rfl trivial ?_
      clear S; intro aa S
      refine ol_cal S H isfn59 rfl rfl trivial ?_
      clear S H aa; intro u aa ww h1 H S
      obtain ⟨x8, rfl, H⟩ := H
      refine OL.pure S (Lf.run_assign (S.ev rfl)) rfl rfl trivial ?_
      clear S; intro aa S
      refine OL.nil ?_
      exact ⟨x8, h1, S.sub _ ⟨rfl, trivial⟩, H⟩
    · replace H := H.2 hb
      refine W.seq ?_
      replace S := S.sub [(0, Value.float .f64 f0), (1, Value.int .i64 sign1)] ⟨rfl, rfl, trivial⟩
      refine W.region ?_
      refine OL.pure S (Lf.run_move (S.ev rfl)) rfl rfl trivial ?_
      clear S; intro aa S
      refine OL.pure S (Lf.run_lss (S.ev rfl) (S.ev rfl)) rfl rfl trivial ?_
      clear S; intro aa S
      refine OL.nil ?_
      refine W.cond S (b := (decide (sign1 < 0))) rfl (fun hb_1 => ?_) (fun hb_1 => ?_)
      · replace H := H.1 hb_1
        replace S := S.sub [(0, Value.float .f64 f0)] ⟨rfl, trivial⟩
        refine W.region ?_
        refine OL.pure S (Lf.run_move (S.ev rfl)) rfl rfl trivial ?_
        clear S; intro aa S
        refine OL.pure S (Lf.run_fneg (S.ev rfl)) rfl rfl trivial ?_
        clear S; intro aa S
        refine OL.pure S (Lf.run_assign (S.ev rfl)) rfl rfl trivial ?_
        clear S; intro aa S
        refine OL.nil ?_
        exact ⟨(Op.negFloat .f64 f0), h, S.sub _ ⟨rfl, trivial⟩, H⟩
      · replace H := H.2 hb_1
        refine W.skip ?_
        exact ⟨f0, h, S.sub _ ⟨rfl, trivial⟩, H⟩
  · clear H S aa
    rintro aa ww ⟨f0_1, h2, S, HJ⟩
    have H := HK _ _ HJ
    clear HK HJ
    refine W.seq ?_
    replace S := S.sub [(0, Value.float .f64 f0_1)] ⟨rfl, trivial⟩
    refine W.region ?_
    refine OL.pure S (Lf.run_move (S.ev rfl)) rfl rfl trivial ?_
    clear S; intro aa S
    refine OL.pure S (Lf.run_fgtr (S.ev rfl) (S.ev rfl)) rfl rfl trivial ?_
    clear S; intro aa S
    refine OL.pure S (Lf.run_assign (S.ev rfl)) rfl rfl trivial ?_
    clear S; intro aa S
    refine OL.nil ?_
    refine W.ret ?_
    exact Ret.one S rfl rfl H

/-- math.Signbit -/
def L46 (x0 : Nat) (h : Heap) (R : Value → Heap → Prop) : Prop :=
  R (Value.bool (decide ((IntKind.i64.wrap ((x0 : Nat) : Int)) < 0))) h

set_option maxRecDepth 100000 in

theorem F46 {x0 h : _} {R : Value → Heap → Prop} (H : L46 x0 h R) : CallsH Try.prog 46 #[Value.float .f64 x0] h R := by
  refine CallsH.enter (n := 7) Try.func46 rfl rfl rfl rfl ?_
  intro w0 aa ww S
  unfold L46 at H
  refine W.seq ?_
  replace S := S.sub [(0, Value.float .f64 x0)] ⟨rfl, trivial⟩
  refine W.region ?_
  refine OL.pure S (Lf.run_assign (S.ev rfl)) rfl rfl trivial ?_
  clear S; intro aa S
  refine OL.nil ?_
  refine W.seq ?_
  replace S := S.sub [(0, Value.float .f64 x0)] ⟨rfl, trivial⟩
  refine W.region ?_
  refine OL.pure S (Lf.run_move (S.ev rfl)) rfl rfl trivial ?_
  clear S; intro aa S
  refine OL.pure S (Lf.run_bitsF isext60 (evs_map S rfl)) rfl rfl trivial ?_
  clear S; intro aa S
  refine OL.pure S (Lf.run_cvi Try.underlying22 Try.underlying2 (S.ev rfl)) rfl rfl trivial ?_
  clear S; intro aa S
  refine OL.pure S (Lf.run_lss (S.ev rfl) (S.ev rfl)) rfl rfl trivial ?_
  clear S; intro aa S
  refine OL.pure S (Lf.run_assign (S.ev rfl)) rfl rfl trivial ?_
  clear S; intro aa S
  refine OL.nil ?_
  refine W.ret ?_
  exact Ret.one S rfl rfl H

/-- chattel chattelref02.Parts -/
def L47 (a0 : Int) (h : Heap) (R : Value → Heap → Prop) : Prop :=
  R (.tuple #[Value.int .u64 ((a0 : Int).fdiv (2 ^ (min (63 : Int).toNat IntKind.u64.bits))), Value.int .u64 (bitsI .and .u64 ((a0 : Int).fdiv (2 ^ (min (52 : Int).toNat IntKind.u64.bits))) 2047), Value.int .u64 (bitsI .and .u64 a0 4503599627370495)]) h

set_option maxRecDepth 100000 in

theorem F47 {a0 h : _} {R : Value → Heap → Prop} (H : L47 a0 h R) : CallsH Try.prog 47 #[Value.int .u64 a0] h R := by
  refine CallsH.enter (n := 12) Try.func47 rfl rfl rfl rfl ?_
  intro w0 aa ww S
  unfold L47 at H
  refine W.seq ?_
  replace S := S.sub [(0, Value.int .u64 a0)] ⟨rfl, trivial⟩
  refine W.region ?_
  refine OL.pure S (Lf.run_assign (S.ev rfl)) rfl rfl trivial ?_
  clear S; intro aa S
  refine OL.pure S (Lf.run_assign (S.ev rfl)) rfl rfl trivial ?_
  clear S; intro aa S
  refine OL.pure S (Lf.run_assign (S.ev rfl)) rfl rfl trivial ?_
  clear S; intro aa S
  refine OL.nil ?_
  refine W.seq ?_
  replace S := S.sub [(0, Value.int .u64 a0)] ⟨rfl, trivial⟩
  refine W.region ?_
  refine OL.pure S (Lf.run_move (S.ev rfl)) rfl rfl trivial ?_
  clear S; intro aa S
  refine OL.pure S (Lf.run_shr (S.ev rfl) (S.ev rfl) (by decide)) rfl rfl trivial ?_
  clear S; intro aa S
  refine OL.pure S (Lf.run_move (S.ev rfl)) rfl rfl trivial ?_
  clear S; intro aa S
  refine OL.pure S (Lf.run_shr (S.ev rfl) (S.ev rfl) (by decide)) rfl rfl trivial ?_
  clear S; intro aa S
  refine OL.pure S (Lf.run_bits (op := .and) (by simp) (S.ev rfl) (S.ev rfl)) rfl rfl trivial ?_
  clear S; intro aa S
  refine OL.pure S (Lf.run_move (S.ev rfl)) rfl rfl trivial ?_
  clear S; intro aa S
  refine OL.pure S (Lf.run_bits (op := .and) (by simp) (S.ev rfl) (S.ev rfl)) rfl rfl trivial ?_
  clear S; intro aa S
  refine OL.pure S (Lf.run_assign (S.ev rfl)) rfl rfl trivial ?_
  clear S; intro aa S
  refine OL.pure S (Lf.run_assign (S.ev rfl)) rfl rfl trivial ?_
  clear S; intro aa S
  refine OL.pure S (Lf.run_assign (S.ev rfl)) rfl rfl trivial ?_
  clear S; intro aa S
  refine OL.nil ?_
  refine W.ret ?_
  exact Ret.three S rfl rfl rfl rfl H

/-- chattel chattelref02.half -/
def L48 (n0 : Int) (h : Heap) (R : Value → Heap → Prop) : Prop :=
  ifb (decide (0 ≤ n0)) (
    R (.tuple #[Value.bool false, Value.int .u64 (IntKind.u64.wrap n0)]) h) (
    R (.tuple #[Value.bool true, Value.int .u64 (IntKind.u64.wrap ((IntKind.u64.wrap (IntKind.i64.wrap (0 - (IntKind.i64.wrap (n0 + 1))))) + 1))]) h)

set_option maxRecDepth 100000 in

theorem F48 {n0 h : _} {R : Value → Heap → Prop} (H : L48 n0 h R) : CallsH Try.prog 48 #[Value.int .i64 n0] h R := by
  refine CallsH.enter (n := 13) Try.func48 rfl rfl rfl rfl ?_
  intro w0 aa ww S
  unfold L48 at H
  refine W.seq ?_
  replace S := S.sub [(0, Value.int .i64 n0)] ⟨rfl, trivial⟩
  refine W.region ?_
  refine OL.pure S (Lf.run_assign (S.ev rfl)) rfl rfl trivial ?_
  clear S; intro aa S
  refine OL.pure S (Lf.run_assign (S.ev rfl)) rfl rfl trivial ?_
  clear S; intro aa S
  refine OL.nil ?_
  refine W.seq ?_
  refine W.seq ?_
  replace S := S.sub [(0, Value.int .i64 n0)] ⟨rfl, trivial⟩
  refine W.region ?_
  refine OL.pure S (Lf.run_move (S.ev rfl)) rfl rfl trivial ?_
  clear S; intro aa S
  refine OL.pure S (Lf.run_geq (S.ev rfl) (S.ev rfl)) rfl rfl trivial ?_
  clear S; intro aa S
  refine OL.nil ?_
  refine W.cond S (b := (decide (0 ≤ n0))) rfl (fun hb => ?_) (fun hb => ?_)
  · replace H := H.1 hb
    refine W.seq ?_
    replace S := S.sub [(0, Value.int .i64 n0)] ⟨rfl, trivial⟩
    refine W.region ?_
    refine OL.pure S (Lf.run_move (S.ev rfl)) rfl rfl trivial ?_
    clear S; intro aa S
    refine OL.pure S (Lf.run_cvi Try.underlying2 Try.underlying22 (S.ev rfl)) rfl rfl trivial ?_
    clear S; intro aa S
    refine OL.pure S (Lf.run_assign (S.ev rfl)) rfl rfl trivial ?_
    clear S; intro aa S
    refine OL.pure S (Lf.run_assign (S.ev rfl)) rfl rfl trivial ?_
    clear S; intro aa S
    refine OL.nil ?_
    refine W.ret ?_
    exact Ret.two S rfl rfl rfl H
  · replace H := H.2 hb
    refine W.skip ?_
    refine W.seq ?_
    replace S := S.sub [(0, Value.int .i64 n0)] ⟨rfl, trivial⟩
    refine W.region ?_
    refine OL.pure S (Lf.run_move (S.ev rfl)) rfl rfl trivial ?_
    clear S; intro aa S
    refine OL.pure S (Lf.run_add (S.ev rfl) (S.ev rfl)) rfl rfl trivial ?_
    clear S; intro aa S
    refine OL.pure S (Lf.run_neg (S.ev rfl)) rfl rfl trivial ?_
    clear S; intro aa S
    refine OL.pure S (Lf.run_cvi Try.underlying2 Try.underlying22 (S.ev rfl)) rfl rfl trivial ?_
    clear S; intro aa S
    refine OL.pure S (Lf.run_add (S.ev rfl) (S.ev rfl)) rfl rfl trivial ?_
    clear S; intro aa S
    refine OL.pure S (Lf.run_assign (S.ev rfl)) rfl rfl trivial ?_
    clear S; intro aa S
    refine OL.pure S (Lf.run_assign (S.ev rfl)) rfl rfl trivial ?_
    clear S; intro aa S
    refine OL.nil ?_
    refine W.ret ?_
    exact Ret.two S rfl rfl rfl H

/-- chattel chattelref02.made -/
def L49 (minus0 : Bool) (far1 : Int) (h : Heap) (R : Value → Heap → Prop) : Prop :=
  ifb (!minus0) (
    ifb (decide (9223372036854775807 < far1)) (
      R (.tuple #[Value.int .i64 0, Value.bool false]) h) (
      R (.tuple #[Value.int .i64 (IntKind.i64.wrap far1), Value.bool true]) h)) (
    ifb (decide (9223372036854775808 < far1)) (
      R (.tuple #[Value.int .i64 0, Value.bool false]) h) (
      ifb (far1 == 0) (
        R (.tuple #[Value.int .i64 0, Value.bool true]) h) (
        R (.tuple #[Value.int .i64 (IntKind.i64.wrap ((IntKind.i64.wrap (0 - (IntKind.i64.wrap (IntKind.u64.wrap (far1 - 1))))) - 1)), Value.bool true]) h)))

set_option maxRecDepth 100000 in

theorem F49 {minus0 far1 h : _} {R : Value → Heap → Prop} (H : L49 minus0 far1 h R) : CallsH Try.prog 49 #[Value.bool minus0, Value.int .u64 far1] h R := by
  refine CallsH.enter (n := 21) Try.func49 rfl rfl rfl rfl ?_
  intro w0 aa ww S
  unfold L49 at H
  refine W.seq ?_
  replace S := S.sub [(0, Value.bool minus0), (1, Value.int .u64 far1)] ⟨rfl, rfl, trivial⟩
  refine W.region ?_
  refine OL.pure S (Lf.run_assign (S.ev rfl)) rfl rfl trivial ?_
  clear S; intro aa S
  refine OL.pure S (Lf.run_assign (S.ev rfl)) rfl rfl trivial ?_
  clear S; intro aa S
  refine OL.nil ?_
  refine W.seq ?_
  refine W.seq ?_
  replace S := S.sub [(0, Value.bool minus0), (1, Value.int .u64 far1)] ⟨rfl, rfl, trivial⟩
  refine W.region ?_
  refine OL.pure S (Lf.run_move (S.ev rfl)) rfl rfl trivial ?_
  clear S; intro aa S
  refine OL.pure S (Lf.run_not (S.ev rfl)) rfl rfl trivial ?_
  clear S; intro aa S
  refine OL.nil ?_
  refine W.cond S (b := (!minus0)) rfl (fun hb => ?_) (fun hb => ?_)
  · replace H := H.1 hb
    refine W.seq ?_
    refine W.seq ?_
    replace S := S.sub [(1, Value.int .u64 far1)] ⟨rfl, trivial⟩
    refine W.region ?_
    refine OL.pure S (Lf.run_move (S.ev rfl)) rfl rfl trivial ?_
    clear S; intro aa S
    refine OL.pure S (Lf.run_gtr (S.ev rfl) (S.ev rfl)) rfl rfl trivial ?_
    clear S; intro aa S
    refine OL.nil ?_
    refine W.cond S (b := (decide (9223372036854775807 < far1))) rfl (fun hb_1 => ?_) (fun hb_1 => ?_)
    · replace H := H.1 hb_1
      refine W.seq ?_
      replace S := S.sub [] trivial
      refine W.region ?_
      refine OL.pure S (Lf.run_assign (S.ev rfl)) rfl rfl trivial ?_
      clear S; intro aa S
      refine OL.pure S (Lf.run_assign (S.ev rfl)) rfl rfl trivial ?_
      clear S; intro aa S
      refine OL.nil ?_
      refine W.ret ?_
      exact Ret.two S rfl rfl rfl H
    · replace H := H.2 hb_1
      refine W.skip ?_
      refine W.seq ?_
      replace S := S.sub [(1, Value.int .u64 far1)] ⟨rfl, trivial⟩
      refine W.region ?_
      refine OL.pure S (Lf.run_move (S.ev rfl)) rfl rfl trivial ?_
      clear S; intro aa S
      refine OL.pure S (Lf.run_cvi Try.underlying22 Try.underlying2 (S.ev rfl)) rfl rfl trivial ?_
      clear S; intro aa S
      refine OL.pure S (Lf.run_assign (S.ev rfl)) rfl rfl trivial ?_
      clear S; intro aa S
      refine OL.pure S (Lf.run_assign (S.ev rfl)) rfl rfl trivial ?_
      clear S; intro aa S
      refine OL.nil ?_
      refine W.ret ?_
      exact Ret.two S rfl rfl rfl H
  · replace H := H.2 hb
    refine W.skip ?_
    refine W.seq ?_
    refine W.seq ?_
    replace S := S.sub [(1, Value.int .u64 far1)] ⟨rfl, trivial⟩
    refine W.region ?_
    refine OL.pure S (Lf.run_move (S.ev rfl)) rfl rfl trivial ?_
    clear S; intro aa S
    refine OL.pure S (Lf.run_gtr (S.ev rfl) (S.ev rfl)) rfl rfl trivial ?_
    clear S; intro aa S
    refine OL.nil ?_
    refine W.cond S (b := (decide (9223372036854775808 < far1))) rfl (fun hb_2 => ?_) (fun hb_2 => ?_)
    · replace H := H.1 hb_2
      refine W.seq ?_
      replace S := S.sub [] trivial
      refine W.region ?_
      refine OL.pure S (Lf.run_assign (S.ev rfl)) rfl rfl trivial ?_
      clear S; intro aa S
      refine OL.pure S (Lf.run_assign (S.ev rfl)) rfl rfl trivial ?_
      clear S; intro aa S
      refine OL.nil ?_
      refine W.ret ?_
      exact Ret.two S rfl rfl rfl H
    · replace H := H.2 hb_2
      refine W.skip ?_
      refine W.seq ?_
      refine W.seq ?_
      replace S := S.sub [(1, Value.int .u64 far1)] ⟨rfl, trivial⟩
      refine W.region ?_
      refine OL.pure S (Lf.run_move (S.ev rfl)) rfl rfl trivial ?_
      clear S; intro aa S
      refine OL.pure S (Lf.run_eql (S.ev rfl) (S.ev rfl)) rfl rfl trivial ?_
      clear S; intro aa S
      refine OL.nil ?_
      refine W.cond S (b := (far1 == 0)) rfl (fun hb_3 => ?_) (fun hb_3 => ?_)
      · replace H := H.1 hb_3
        refine W.seq ?_
        replace S := S.sub [] trivial
        refine W.region ?_
        refine OL.pure S (Lf.run_assign (S.ev rfl)) rfl rfl trivial ?_
        clear S; intro aa S
        refine OL.pure S (Lf.run_assign (S.ev rfl)) rfl rfl trivial ?_
        clear S; intro aa S
        refine OL.nil ?_
        refine W.ret ?_
        exact Ret.two S rfl rfl rfl H
      · replace H := H.2 hb_3
        refine W.skip ?_
        refine W.seq ?_
        replace S := S.sub [(1, Value.int .u64 far1)] ⟨rfl, trivial⟩
        refine W.region ?_
        refine OL.pure S (Lf.run_move (S.ev rfl)) rfl rfl trivial ?_
        clear S; intro aa S
        refine OL.pure S (Lf.run_sub (S.ev rfl) (S.ev rfl)) rfl rfl trivial ?_
        clear S; intro aa S
        refine OL.pure S (Lf.run_cvi Try.underlying22 Try.underlying2 (S.ev rfl)) rfl rfl trivial ?_
        clear S; intro aa S
        refine OL.pure S (Lf.run_neg (S.ev rfl)) rfl rfl trivial ?_
        clear S; intro aa S
        refine OL.pure S (Lf.run_sub (S.ev rfl) (S.ev rfl)) rfl rfl trivial ?_
        clear S; intro aa S
        refine OL.pure S (Lf.run_assign (S.ev rfl)) rfl rfl trivial ?_
        clear S; intro aa S
        refine OL.pure S (Lf.run_assign (S.ev rfl)) rfl rfl trivial ?_
        clear S; intro aa S
        refine OL.nil ?_
        refine W.ret ?_
        exact Ret.two S rfl rfl rfl H

/-- chattel num.bits -/
def L50 (x0 : Nat) (h : Heap) (R : Value → Heap → Prop) : Prop :=
  ifb (fO x0 x0 != some .eq) (
    R (Value.int .u64 9221120237041090561) h) (
    R (Value.int .u64 ((x0 : Nat) : Int)) h)

set_option maxRecDepth 100000 in

theorem F50 {x0 h : _} {R : Value → Heap → Prop} (H : L50 x0 h R) : CallsH Try.prog 50 #[Value.float .f64 x0] h R := by
  refine CallsH.enter (n := 8) Try.func50 rfl rfl rfl rfl ?_
  intro w0 aa ww S
  unfold L50 at H
  refine W.seq ?_
  replace S := S.sub [(0, Value.float .f64 x0)] ⟨rfl, trivial⟩
  refine W.region ?_
  refine OL.pure S (Lf.run_assign (S.ev rfl)) rfl rfl trivial ?_
  clear S; intro aa S
  refine OL.nil ?_
  refine W.seq ?_
  refine W.seq ?_
  replace S := S.sub [(0, Value.float .f64 x0)] ⟨rfl, trivial⟩
  refine W.region ?_
  refine OL.pure S (Lf.run_move (S.ev rfl)) rfl rfl trivial ?_
  clear S; intro aa S
  refine OL.pure S (Lf.run_move (S.ev rfl)) rfl rfl trivial ?_
  clear S; intro aa S
  refine OL.pure S (Lf.run_fneq (S.ev rfl) (S.ev rfl)) rfl rfl trivial ?_
  clear S; intro aa S
  refine OL.nil ?_
  refine W.cond S (b := (fO x0 x0 != some .eq)) rfl (fun hb => ?_) (fun hb => ?_)
  · replace H := H.1 hb
    refine W.seq ?_
    replace S := S.sub [] trivial
    refine W.region ?_
    refine OL.pure S (Lf.run_assign (S.ev rfl)) rfl rfl trivial ?_
    clear S; intro aa S
    refine OL.nil ?_
    refine W.ret ?_
    exact Ret.one S rfl rfl H
  · replace H := H.2 hb
    refine W.skip ?_
    refine W.seq ?_
    replace S := S.sub [(0, Value.float .f64 x0)] ⟨rfl, trivial⟩
    refine W.region ?_
    refine OL.pure S (Lf.run_move (S.ev rfl)) rfl rfl trivial ?_
    clear S; intro aa S
    refine OL.pure S (Lf.run_bitsF isext60 (evs_map S rfl)) rfl rfl trivial ?_
    clear S; intro aa S
    refine OL.pure S (Lf.run_assign (S.ev rfl)) rfl rfl trivial ?_
    clear S; intro aa S
    refine OL.nil ?_
    refine W.ret ?_
    exact Ret.one S rfl rfl H

/-- chattel chattelref02.finite -/
def L51 (a0 : Int) (h : Heap) (R : Value → Heap → Prop) : Prop :=
  cal Try.prog 16 #[Value.int .u64 a0] h fun u h1 => asI .i64 u fun x4 =>
  ∃ J : Bool → Heap → Prop, (andj (decide (2 ≤ x4)) (fun k =>
    cal Try.prog 16 #[Value.int .u64 a0] h1 fun u_1 h3 => asI .i64 u_1 fun x8 =>
    k (decide (x8 ≤ 5)) h3) h1 J) ∧ ∀ x10 h2, J x10 h2 →
  R (Value.bool x10) h2

set_option maxRecDepth 100000 in

theorem F51 {a0 h : _} {R : Value → Heap → Prop} (H : L51 a0 h R) : CallsH Try.prog 51 #[Value.int .u64 a0] h R := by
  refine CallsH.enter (n := 11) Try.func51 rfl rfl rfl rfl ?_
  intro w0 aa ww S
  unfold L51 at H
  refine W.seq ?_
  replace S := S.sub [(0, Value.int .u64 a0)] ⟨rfl, trivial⟩
  refine W.region ?_
  refine OL.pure S (Lf.run_assign (S.ev rfl)) rfl rfl trivial ?_
  clear S; intro aa S
  refine OL.nil ?_
  refine W.seq ?_
  replace S := S.sub [(0, Value.int .u64 a0)] ⟨rfl, trivial⟩
  refine W.region ?_
  refine OL.pure S (Lf.run_move (S.ev rfl)) rfl rfl trivial ?_
  clear S; intro aa S
  refine ol_cal S H isfn16 rfl rfl trivial ?_
  clear S H aa; intro u aa ww h1 H S
  obtain ⟨x4, rfl, H⟩ := H
  refine OL.pure S (Lf.run_geq (S.ev rfl) (S.ev rfl)) rfl rfl trivial ?_
  clear S; intro aa S
  refine OL.pure S (Lf.run_move (S.ev rfl)) rfl rfl trivial ?_
  clear S; intro aa S
  obtain ⟨J, H, HK⟩ := H
  refine OL.cutN 4 (fun aa ww => ∃ x10 h2, St 11 ((10, Value.bool x10) :: [(0, Value.int .u64 a0), (3, Value.int .u64 a0), (4, Value.int .i64 x4), (5, Value.bool (decide (2 ≤ x4))), (6, Value.bool (decide (2 ≤ x4)))]) h2 w0 aa ww ∧ J x10 h2) ?_ ?_
  · rcases Bool.eq_false_or_eq_true (decide (2 ≤ x4)) with hb | hb
    · replace H := H.1 hb
      refine OL.pure S (Lf.run_move (S.ev rfl)) rfl rfl (GOk.mk rfl rfl hb) ?_
      clear S; intro aa S
      refine ol_cal S H isfn16 rfl rfl (GOk.mk rfl rfl hb) ?_
      clear S H aa; intro u_1 aa ww h3 H S
      obtain ⟨x8, rfl, H⟩ := H
      refine OL.pure S (Lf.run_leq (S.ev rfl) (S.ev rfl)) rfl rfl (GOk.mk rfl rfl hb) ?_
      clear S; intro aa S
      refine OL.pure S (Lf.run_pickT (S.ev rfl) hb (S.ev rfl)) rfl rfl trivial ?_
      clear S; intro aa S
      refine OL.nil ?_
      exact ⟨_, _, S.sub _ ⟨rfl, rfl, rfl, rfl, rfl, rfl, trivial⟩, H⟩
    · replace H := H.2 hb
      refine OL.not S rfl rfl (GNo.mk rfl rfl hb) ?_
      clear S; intro aa S
      refine OL.not S rfl rfl (GNo.mk rfl rfl hb) ?_
      clear S; intro aa S
      refine OL.not S rfl rfl (GNo.mk rfl rfl hb) ?_
      clear S; intro aa S
      refine OL.pure S (Lf.run_pickF (S.ev rfl) hb (S.ev rfl)) rfl rfl trivial ?_
      clear S; intro aa S
      refine OL.nil ?_
      exact ⟨_, _, S.sub _ ⟨rfl, rfl, rfl, rfl, rfl, rfl, trivial⟩, H⟩
  · clear S aa
    rintro aa ww ⟨x10, h2, S, HJ⟩
    replace H := HK _ _ HJ
    clear HK HJ
    refine OL.pure S (Lf.run_assign (S.ev rfl)) rfl rfl trivial ?_
    clear S; intro aa S
    refine OL.nil ?_
    refine W.ret ?_
    exact Ret.one S rfl rfl H

/-- chattel chattelref02.zero -/
def L52 (a0 : Int) (h : Heap) (R : Value → Heap → Prop) : Prop :=
  cal Try.prog 16 #[Value.int .u64 a0] h fun u h1 => asI .i64 u fun x4 =>
  ∃ J : Bool → Heap → Prop, (orj (x4 == 3) (fun k =>
    cal Try.prog 16 #[Value.int .u64 a0] h1 fun u_1 h3 => asI .i64 u_1 fun x8 =>
    k (x8 == 4) h3) h1 J) ∧ ∀ x10 h2, J x10 h2 →
  R (Value.bool x10) h2

set_option maxRecDepth 100000 in

theorem F52 {a0 h : _} {R : Value → Heap → Prop} (H : L52 a0 h R) : CallsH Try.prog 52 #[Value.int .u64 a0] h R := by
  refine CallsH.enter (n := 11) Try.func52 rfl rfl rfl rfl ?_
  intro w0 aa ww S
  unfold L52 at H
  refine W.seq ?_
  replace S := S.sub [(0, Value.int .u64 a0)] ⟨rfl, trivial⟩
  refine W.region ?_
  refine OL.pure S (Lf.run_assign (S.ev rfl)) rfl rfl trivial ?_
  clear S; intro aa S
  refine OL.nil ?_
  refine W.seq ?_
  replace S := S.sub [(0, Value.int .u64 a0)] ⟨rfl, trivial⟩
  refine W.region ?_
  refine OL.pure S (Lf.run_move (S.ev rfl)) rfl rfl trivial ?_
  clear S; intro aa S
  refine ol_cal S H isfn16 rfl rfl trivial ?_
  clear S H aa; intro u aa ww h1 H S
  obtain ⟨x4, rfl, H⟩ := H
  refine OL.pure S (Lf.run_eql (S.ev rfl) (S.ev rfl)) rfl rfl trivial ?_
  clear S; intro aa S
  refine OL.pure S (Lf.run_move (S.ev rfl)) rfl rfl trivial ?_
  clear S; intro aa S
  obtain ⟨J, H, HK⟩ := H
  refine OL.cutN 4 (fun aa ww => ∃ x10 h2, St 11 ((10, Value.bool x10) :: [(0, Value.int .u64 a0), (3, Value.int .u64 a0), (4, Value.int .i64 x4), (5, Value.bool (x4 == 3)), (6, Value.bool (x4 == 3))]) h2 w0 aa ww ∧ J x10 h2) ?_ ?_
  · rcases Bool.eq_false_or_eq_true (x4 == 3) with hb | hb
    · replace H := H.1 hb
      refine OL.not S rfl rfl (GNo.mk rfl rfl hb) ?_
      clear S; intro aa S
      refine OL.not S rfl rfl (GNo.mk rfl rfl hb) ?_
      clear S; intro aa S
      refine OL.not S rfl rfl (GNo.mk rfl rfl hb) ?_
      clear S; intro aa S
      refine OL.pure S (Lf.run_pickT (S.ev rfl) hb (S.ev rfl)) rfl rfl trivial ?_
      clear S; intro aa S
      refine OL.nil ?_
      exact ⟨_, _, S.sub _ ⟨rfl, rfl, rfl, rfl, rfl, rfl, trivial⟩, H⟩
    · replace H := H.2 hb
      refine OL.pure S (Lf.run_move (S.ev rfl)) rfl rfl (GOk.mk rfl rfl hb) ?_
      clear S; intro aa S
      refine ol_cal S H isfn16 rfl rfl (GOk.mk rfl rfl hb) ?_
      clear S H aa; intro u_1 aa ww h3 H S
      obtain ⟨x8, rfl, H⟩ := H
      refine OL.pure S (Lf.run_eql (S.ev rfl) (S.ev rfl)) rfl rfl (GOk.mk rfl rfl hb) ?_
      clear S; intro aa S
      refine OL.pure S (Lf.run_pickF (S.ev rfl) hb (S.ev rfl)) rfl rfl trivial ?_
      clear S; intro aa S
      refine OL.nil ?_
      exact ⟨_, _, S.sub _ ⟨rfl, rfl, rfl, rfl, rfl, rfl, trivial⟩, H⟩
  · clear S aa
    rintro aa ww ⟨x10, h2, S, HJ⟩
    replace H := HK _ _ HJ
    clear HK HJ
    refine OL.pure S (Lf.run_assign (S.ev rfl)) rfl rfl trivial ?_
    clear S; intro aa S
    refine OL.nil ?_
    refine W.ret ?_
    exact Ret.one S rfl rfl H

/-- chattel chattelref02.of -/
def L53 (x0 : Nat) (h : Heap) (R : Value → Heap → Prop) : Prop :=
  cal Try.prog 56 #[Value.int .u64 ((x0 : Nat) : Int)] h fun u h1 => asI .u64 u fun x5 =>
  R (Value.int .u64 x5) h1

set_option maxRecDepth 100000 in

theorem F53 {x0 h : _} {R : Value → Heap → Prop} (H : L53 x0 h R) : CallsH Try.prog 53 #[Value.float .f64 x0] h R := by
  refine CallsH.enter (n := 6) Try.func53 rfl rfl rfl rfl ?_
  intro w0 aa ww S
  unfold L53 at H
  refine W.seq ?_
  replace S := S.sub [(0, Value.float .f64 x0)] ⟨rfl, trivial⟩
  refine W.region ?_
  refine OL.pure S (Lf.run_assign (S.ev rfl)) rfl rfl trivial ?_
  clear S; intro aa S
  refine OL.nil ?_
  refine W.seq ?_
  replace S := S.sub [(0, Value.float .f64 x0)] ⟨rfl, trivial⟩
  refine W.region ?_
  refine OL.pure S (Lf.run_move (S.ev rfl)) rfl rfl trivial ?_
  clear S; intro aa S
  refine OL.pure S (Lf.run_bitsF isext60 (evs_map S rfl)) rfl rfl trivial ?_
  clear S; intro aa S
  refine ol_cal S H isfn56 rfl rfl trivial ?_
  clear S H aa; intro u aa ww h1 H S
  obtain ⟨x5, rfl, H⟩ := H
  refine OL.pure S (Lf.run_assign (S.ev rfl)) rfl rfl trivial ?_
  clear S; intro aa S
  refine OL.nil ?_
  refine W.ret ?_
  exact Ret.one S rfl rfl H

/-- chattel chattelref02.inf -/
def L54 (s0 : Int) (h : Heap) (R : Value → Heap → Prop) : Prop :=
  R (Value.int .u64 (bitsI .or .u64 (IntKind.u64.wrap (s0 * 2 ^ (min (63 : Int).toNat IntKind.u64.bits))) 9218868437227405312)) h

set_option maxRecDepth 100000 in

theorem F54 {s0 h : _} {R : Value → Heap → Prop} (H : L54 s0 h R) : CallsH Try.prog 54 #[Value.int .u64 s0] h R := by
  refine CallsH.enter (n := 6) Try.func54 rfl rfl rfl rfl ?_
  intro w0 aa ww S
  unfold L54 at H
  refine W.seq ?_
  replace S := S.sub [(0, Value.int .u64 s0)] ⟨rfl, trivial⟩
  refine W.region ?_
  refine OL.pure S (Lf.run_assign (S.ev rfl)) rfl rfl trivial ?_
  clear S; intro aa S
  refine OL.nil ?_
  refine W.seq ?_
  replace S := S.sub [(0, Value.int .u64 s0)] ⟨rfl, trivial⟩
  refine W.region ?_
  refine OL.pure S (Lf.run_move (S.ev rfl)) rfl rfl trivial ?_
  clear S; intro aa S
  refine OL.pure S (Lf.run_shl (S.ev rfl) (S.ev rfl) (by decide)) rfl rfl trivial ?_
  clear S; intro aa S
  refine OL.pure S (Lf.run_bits (op := .or) (by simp) (S.ev rfl) (S.ev rfl)) rfl rfl trivial ?_
  clear S; intro aa S
  refine OL.pure S (Lf.run_assign (S.ev rfl)) rfl rfl trivial ?_
  clear S; intro aa S
  refine OL.nil ?_
  refine W.ret ?_
  exact Ret.one S rfl rfl H

/-- chattel chattelref02.nul -/
def L55 (s0 : Int) (h : Heap) (R : Value → Heap → Prop) : Prop :=
  R (Value.int .u64 (IntKind.u64.wrap (s0 * 2 ^ (min (63 : Int).toNat IntKind.u64.bits)))) h

set_option maxRecDepth 100000 in

theorem F55 {s0 h : _} {R : Value → Heap → Prop} (H : L55 s0 h R) : CallsH Try.prog 55 #[Value.int .u64 s0] h R := by
  refine CallsH.enter (n := 5) Try.func55 rfl rfl rfl rfl ?_
  intro w0 aa ww S
  unfold L55 at H
  refine W.seq ?_
  replace S := S.sub [(0, Value.int .u64 s0)] ⟨rfl, trivial⟩
  refine W.region ?_
  refine OL.pure S (Lf.run_assign (S.ev rfl)) rfl rfl trivial ?_
  clear S; intro aa S
  refine OL.nil ?_
  refine W.seq ?_
  replace S := S.sub [(0, Value.int .u64 s0)] ⟨rfl, trivial⟩
  refine W.region ?_
  refine OL.pure S (Lf.run_move (S.ev rfl)) rfl rfl trivial ?_
  clear S; intro aa S
  refine OL.pure S (Lf.run_shl (S.ev rfl) (S.ev rfl) (by decide)) rfl rfl trivial ?_
  clear S; intro aa S
  refine OL.pure S (Lf.run_assign (S.ev rfl)) rfl rfl trivial ?_
  clear S; intro aa S
  refine OL.nil ?_
  refine W.ret ?_
  exact Ret.one S rfl rfl H

/-- chattel chattelref02.plain -/
def L56 (a0 : Int) (h : Heap) (R : Value → Heap → Prop) : Prop :=
  cal Try.prog 16 #[Value.int .u64 a0] h fun u h1 => asI .i64 u fun x4 =>
  ifb (x4 == 0) (
    R (Value.int .u64 9221120237041090561) h1) (
    R (Value.int .u64 a0) h1)

set_option maxRecDepth 100000 in

theorem F56 {a0 h : _} {R : Value → Heap → Prop} (H : L56 a0 h R) : CallsH Try.prog 56 #[Value.int .u64 a0] h R := by
  refine CallsH.enter (n := 7) Try.func56 rfl rfl rfl rfl ?_
  intro w0 aa ww S
  unfold L56 at H
  refine W.seq ?_
  replace S := S.sub [(0, Value.int .u64 a0)] ⟨rfl, trivial⟩
  refine W.region ?_
  refine OL.pure S (Lf.run_assign (S.ev rfl)) rfl rfl trivial ?_
  clear S; intro aa S
  refine OL.nil ?_
  refine W.seq ?_
  refine W.seq ?_
  replace S := S.sub [(0, Value.int .u64 a0)] ⟨rfl, trivial⟩
  refine W.region ?_
  refine OL.pure S (Lf.run_move (S.ev rfl)) rfl rfl trivial ?_
  clear S; intro aa S
  refine ol_cal S H isfn16 rfl rfl trivial ?_
  clear S H aa; intro u aa ww h1 H S
  obtain ⟨x4, rfl, H⟩ := H
  refine OL.pure S (Lf.run_eql (S.ev rfl) (S.ev rfl)) rfl rfl trivial ?_
  clear S; intro aa S
  refine OL.nil ?_
  refine W.cond S (b := (x4 == 0)) rfl (fun hb => ?_) (fun hb => ?_)
  · replace H := H.1 hb
    refine W.seq ?_
    replace S := S.sub [] trivial
    refine W.region ?_
    refine OL.pure S (Lf.run_assign (S.ev rfl)) rfl rfl trivial ?_
    clear S; intro aa S
    refine OL.nil ?_
    refine W.ret ?_
    exact Ret.one S rfl rfl H
  · replace H := H.2 hb
    refine W.skip ?_
    refine W.seq ?_
    replace S := S.sub [(0, Value.int .u64 a0)] ⟨rfl, trivial⟩
    refine W.region ?_
    refine OL.pure S (Lf.run_move (S.ev rfl)) rfl rfl trivial ?_
    clear S; intro aa S
    refine OL.pure S (Lf.run_assign (S.ev rfl)) rfl rfl trivial ?_
    clear S; intro aa S
    refine OL.nil ?_
    refine W.ret ?_
    exact Ret.one S rfl rfl H

/-- chattel num.dec -/
def L57 (n0 : Int) (h : Heap) (R : Value → Heap → Prop) : Prop :=
  new 51 #[Value.int .u8 0, Value.int .u8 0, Value.int .u8 0, Value.int .u8 0, Value.int .u8 0, Value.int .u8 0, Value.int .u8 0, Value.int .u8 0, Value.int .u8 0, Value.int .u8 0, Value.int .u8 0, Value.int .u8 0, Value.int .u8 0, Value.int .u8 0, Value.int .u8 0, Value.int .u8 0, Value.int .u8 0, Value.int .u8 0, Value.int .u8 0, Value.int .u8 0] h fun p3 h1 =>
  ∃ (I : Int → Int → Heap → Prop) (m : Int → Int → Heap → Nat), I n0 20 h1 ∧ ∀ n0_1 i4 h2, I n0_1 i4 h2 →
  ixA 20 (IntKind.i64.wrap (i4 - 1)) (
  sto h2 (p3.add (((IntKind.i64.wrap (i4 - 1)) : Int).toNat * 1)) (Value.int .u8 (IntKind.u8.wrap (IntKind.u64.wrap (48 + ((n0_1 : Int).tmod 10))))) fun h3 =>
  ifb ((IntKind.u64.wrap ((n0_1 : Int).tdiv 10)) == 0) (
    slA p3 20 1 (IntKind.i64.wrap (i4 - 1)) ((20 : Nat) : Int) fun s18 =>
    cvT h3 s18 fun s19 =>
    R (Value.string s19) h3) (
    I (IntKind.u64.wrap ((n0_1 : Int).tdiv 10)) (IntKind.i64.wrap (i4 - 1)) h3 ∧ m (IntKind.u64.wrap ((n0_1 : Int).tdiv 10)) (IntKind.i64.wrap (i4 - 1)) h3 < m n0_1 i4 h2))

set_option maxRecDepth 100000 in

theorem F57 {n0 h : _} {R : Value → Heap → Prop} (H : L57 n0 h R) : CallsH Try.prog 57 #[Value.int .u64 n0] h R := by
  refine CallsH.enter (n := 20) Try.func57 rfl rfl rfl rfl ?_
  intro w0 aa ww S
  unfold L57 at H
  refine W.seq ?_
  replace S := S.sub [(0, Value.int .u64 n0)] ⟨rfl, trivial⟩
  refine W.region ?_
  refine OL.pure S (Lf.run_assign (S.ev rfl)) rfl rfl trivial ?_
  clear S; intro aa S
  refine OL.nil ?_
  refine W.seq ?_
  replace S := S.sub [(0, Value.int .u64 n0)] ⟨rfl, trivial⟩
  refine W.region ?_
  refine ol_alloc S H ti51 rfl rfl trivial ?_
  clear S H aa; intro p3 aa ww h1 H S
  refine OL.nil ?_
  refine W.seq ?_
  replace S := S.sub [(0, Value.int .u64 n0), (3, Value.pointer (some p3))] ⟨rfl, rfl, trivial⟩
  refine W.region ?_
  refine OL.pure S (Lf.run_assign (S.ev rfl)) rfl rfl trivial ?_
  clear S; intro aa S
  refine OL.nil ?_
  refine W.block ?_
  obtain ⟨I, m, H, HB⟩ := H
  refine W.loopS (σ := Int × Int × Heap) (fun s aa ww => St 20 [(0, Value.int .u64 s.1), (3, Value.pointer (some p3)), (4, Value.int .i64 s.2.1)] s.2.2 w0 aa ww ∧ I s.1 s.2.1 s.2.2) (fun s => m s.1 s.2.1 s.2.2) (n0, 20, h1) ⟨S.sub _ ⟨rfl, rfl, rfl, trivial⟩, H⟩ ?_
  clear H S aa
  rintro ⟨n0_1, i4, h2⟩ aa ww ⟨S, HI⟩
  replace S : St 20 [(0, Value.int .u64 n0_1), (3, Value.pointer (some p3)), (4, Value.int .i64 i4)] h2 w0 aa ww := S
  have H := HB n0_1 i4 h2 HI
  clear HI
  refine W.block ?_
  refine W.seq ?_
  replace S := S.sub [(0, Value.int .u64 n0_1), (3, Value.pointer (some p3)), (4, Value.int .i64 i4)] ⟨rfl, rfl, rfl, trivial⟩
  refine W.region ?_
  refine OL.pure S (Lf.run_move (S.ev rfl)) rfl rfl trivial ?_
  clear S; intro aa S
  refine OL.pure S (Lf.run_sub (S.ev rfl) (S.ev rfl)) rfl rfl trivial ?_
  clear S; intro aa S
  refine OL.pure S (Lf.run_assign (S.ev rfl)) rfl rfl trivial ?_
  clear S; intro aa S
  refine OL.nil ?_
  refine W.seq ?_
  replace S := S.sub [(0, Value.int .u64 n0_1), (3, Value.pointer (some p3)), (4, Value.int .i64 (IntKind.i64.wrap (i4 - 1)))] ⟨rfl, rfl, rfl, trivial⟩
  refine W.region ?_
  refine OL.pure S (Lf.run_move (S.ev rfl)) rfl rfl trivial ?_
  clear S; intro aa S
  refine OL.pure S (Lf.run_move (S.ev rfl)) rfl rfl trivial ?_
  clear S; intro aa S
  refine OL.pure S (Lf.run_rem (S.ev rfl) (S.ev rfl) (by decide)) rfl rfl trivial ?_
  clear S; intro aa S
  refine OL.pure S (Lf.run_add (S.ev rfl) (S.ev rfl)) rfl rfl trivial ?_
  clear S; intro aa S
  refine OL.pure S (Lf.run_cvi Try.underlying22 Try.underlying5 (S.ev rfl)) rfl rfl trivial ?_
  clear S; intro aa S
  obtain ⟨e, e_1, H⟩ := H
  refine OL.pure S (Lf.run_ixa (S.ev rfl) (S.ev rfl) Try.underlying51 ti5 e e_1) rfl rfl trivial ?_
  clear S; intro aa S
  refine ol_sto S H rfl rfl rfl ti5 trivial ?_
  clear S H aa; intro aa ww h3 H S
  refine OL.nil ?_
  refine W.seq ?_
  replace S := S.sub [(0, Value.int .u64 n0_1), (3, Value.pointer (some p3)), (4, Value.int .i64 (IntKind.i64.wrap (i4 - 1)))] ⟨rfl, rfl, rfl, trivial⟩
  refine W.region ?_
  refine OL.pure S (Lf.run_move (S.ev rfl)) rfl rfl trivial ?_
  clear S; intro aa S
  refine OL.pure S (Lf.run_quo (S.ev rfl) (S.ev rfl) (by decide)) rfl rfl trivial ?_
  clear S; intro aa S
  refine OL.pure S (Lf.run_assign (S.ev rfl)) rfl rfl trivial ?_
  clear S; intro aa S
  refine OL.nil ?_
  refine W.seq ?_
  replace S := S.sub [(0, Value.int .u64 (IntKind.u64.wrap ((n0_1 : Int).tdiv 10))), (3, Value.pointer (some p3)), (4, Value.int .i64 (IntKind.i64.wrap (i4 - 1)))] ⟨rfl, rfl, rfl, trivial⟩
  refine W.region ?_
  refine OL.pure S (Lf.run_move (S.ev rfl)) rfl rfl trivial ?_
  clear S; intro aa S
  refine OL.pure S (Lf.run_eql (S.ev rfl) (S.ev rfl)) rfl rfl trivial ?_
  clear S; intro aa S
  refine OL.nil ?_
  refine W.cond S (b := ((IntKind.u64.wrap ((n0_1 : Int).tdiv 10)) == 0)) rfl (fun hb => ?_) (fun hb => ?_)
  · replace H := H.1 hb
    refine W.seq ?_
    replace S := S.sub [(3, Value.pointer (some p3)), (4, Value.int .i64 (IntKind.i64.wrap (i4 - 1)))] ⟨rfl, rfl, trivial⟩
    refine W.region ?_
    refine OL.pure S (Lf.run_move (S.ev rfl)) rfl rfl trivial ?_
    clear S; intro aa S
    obtain ⟨s18, c, c_1, c_2, c_3, H⟩ := slA_ex H
    refine OL.pure S (Lf.run_saSN Try.underlying51 ti5 (S.ev rfl) (S.ev rfl) c c_1 c_3) rfl rfl trivial ?_
    clear S; intro aa S
    obtain ⟨bs, c_4, c_5, H⟩ := H
    refine OL.pure S (Lf.run_cvT Try.underlying48 Try.underlying9 Try.underlying5 (S.ev rfl) c_4 (by rw [S.heap]; exact c_5)) rfl rfl trivial ?_
    clear S; intro aa S
    generalize (⟨bs.toArray⟩ : ByteArray) = s19 at H S
    refine OL.pure S (Lf.run_assign (S.ev rfl)) rfl rfl trivial ?_
    clear S; intro aa S
    refine OL.nil ?_
    refine W.ret ?_
    exact Ret.one S rfl rfl H
  · replace H := H.2 hb
    refine W.skip ?_
    exact ⟨((IntKind.u64.wrap ((n0_1 : Int).tdiv 10)), (IntKind.i64.wrap (i4 - 1)), h3), ⟨S.sub _ ⟨rfl, rfl, rfl, trivial⟩, H.1⟩, H.2⟩

/-- chattel num.digit -/
def L58 (c0 : Int) (h : Heap) (R : Value → Heap → Prop) : Prop :=
  ifb (decide (c0 < 10)) (
    R (Value.int .u8 (IntKind.u8.wrap (48 + c0))) h) (
    R (Value.int .u8 (IntKind.u8.wrap ((IntKind.u8.wrap (97 + c0)) - 10))) h)

set_option maxRecDepth 100000 in

theorem F58 {c0 h : _} {R : Value → Heap → Prop} (H : L58 c0 h R) : CallsH Try.prog 58 #[Value.int .u8 c0] h R := by
  refine CallsH.enter (n := 10) Try.func58 rfl rfl rfl rfl ?_
  intro w0 aa ww S
  unfold L58 at H
  refine W.seq ?_
  replace S := S.sub [(0, Value.int .u8 c0)] ⟨rfl, trivial⟩
  refine W.region ?_
  refine OL.pure S (Lf.run_assign (S.ev rfl)) rfl rfl trivial ?_
  clear S; intro aa S
  refine OL.nil ?_
  refine W.seq ?_
  refine W.seq ?_
  replace S := S.sub [(0, Value.int .u8 c0)] ⟨rfl, trivial⟩
  refine W.region ?_
  refine OL.pure S (Lf.run_move (S.ev rfl)) rfl rfl trivial ?_
  clear S; intro aa S
  refine OL.pure S (Lf.run_lss (S.ev rfl) (S.ev rfl)) rfl rfl trivial ?_
  clear S; intro aa S
  refine OL.nil ?_
  refine W.cond S (b := (decide (c0 < 10))) rfl (fun hb => ?_) (fun hb => ?_)
  · replace H := H.1 hb
    refine W.seq ?_
    replace S := S.sub [(0, Value.int .u8 c0)] ⟨rfl, trivial⟩
    refine W.region ?_
    refine OL.pure S (Lf.run_move (S.ev rfl)) rfl rfl trivial ?_
    clear S; intro aa S
    refine OL.pure S (Lf.run_add (S.ev rfl) (S.ev rfl)) rfl rfl trivial ?_
    clear S; intro aa S
    refine OL.pure S (Lf.run_assign (S.ev rfl)) rfl rfl trivial ?_
    clear S; intro aa S
    refine OL.nil ?_
    refine W.ret ?_
    exact Ret.one S rfl rfl H
  · replace H := H.2 hb
    refine W.skip ?_
    refine W.seq ?_
    replace S := S.sub [(0, Value.int .u8 c0)] ⟨rfl, trivial⟩
    refine W.region ?_
    refine OL.pure S (Lf.run_move (S.ev rfl)) rfl rfl trivial ?_
    clear S; intro aa S
    refine OL.pure S (Lf.run_add (S.ev rfl) (S.ev rfl)) rfl rfl trivial ?_
    clear S; intro aa S
    refine OL.pure S (Lf.run_sub (S.ev rfl) (S.ev rfl)) rfl rfl trivial ?_
    clear S; intro aa S
    refine OL.pure S (Lf.run_assign (S.ev rfl)) rfl rfl trivial ?_
    clear S; intro aa S
    refine OL.nil ?_
    refine W.ret ?_
    exact Ret.one S rfl rfl H

/-- math.Abs -/
def L59 (x0 : Nat) (h : Heap) (R : Value → Heap → Prop) : Prop :=
  R (Value.float .f64 ((((bitsI .andNot .u64 ((x0 : Nat) : Int) 9223372036854775808) : Int)).toNat)) h

set_option maxRecDepth 100000 in

theorem F59 {x0 h : _} {R : Value → Heap → Prop} (H : L59 x0 h R) : CallsH Try.prog 59 #[Value.float .f64 x0] h R := by
  refine CallsH.enter (n := 7) Try.func59 rfl rfl rfl rfl ?_
  intro w0 aa ww S
  unfold L59 at H
  refine W.seq ?_
  replace S := S.sub [(0, Value.float .f64 x0)] ⟨rfl, trivial⟩
  refine W.region ?_
  refine OL.pure S (Lf.run_assign (S.ev rfl)) rfl rfl trivial ?_
  clear S; intro aa S
  refine OL.nil ?_
  refine W.seq ?_
  replace S := S.sub [(0, Value.float .f64 x0)] ⟨rfl, trivial⟩
  refine W.region ?_
  refine OL.pure S (Lf.run_move (S.ev rfl)) rfl rfl trivial ?_
  clear S; intro aa S
  refine OL.pure S (Lf.run_bitsF isext60 (evs_map S rfl)) rfl rfl trivial ?_
  clear S; intro aa S
  refine OL.pure S (Lf.run_bits (op := .andNot) (by simp) (S.ev rfl) (S.ev rfl)) rfl rfl trivial ?_
  clear S; intro aa S
  refine OL.pure S (Lf.run_fromB isext43 (evs_map S rfl)) rfl rfl trivial ?_
  clear S; intro aa S
  refine OL.pure S (Lf.run_assign (S.ev rfl)) rfl rfl trivial ?_
  clear S; intro aa S
  refine OL.nil ?_
  refine W.ret ?_
  exact Ret.one S rfl rfl H

end Go.Proofs.Ytfafhadklhnemaa

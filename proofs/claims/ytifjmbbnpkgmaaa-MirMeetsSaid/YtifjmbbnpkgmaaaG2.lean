/- Lifted by program off the elaborated code: each Go function, read as a proposition over typed variables and the heap. -/
import Derived.Test.YtifjmbbnpkgmaaaG0
namespace Go.Proofs.Ytifjmbbnpkgmaaa
open Go Go.Lf
set_option linter.unusedVariables false
set_option maxRecDepth 100000

/-- chattel chattelref14.Small -/
def L9 (b0 : ByteArray) (b0_1 : Int) (b0_2 : Sv) (b0_3 : Sv) (locals1 : Int) (code2 : Int) (h : Heap) (R : Value → Heap → Prop) : Prop :=
  new 33 #[Value.string b0, Value.int .i64 b0_1, Value.slice b0_2.a b0_2.n b0_2.c, Value.slice b0_3.a b0_3.n b0_3.c] h fun p3 h1 =>
  ldS h1 (p3.add 2) fun x11 =>
  ∃ J : Bool → Prop, (orr (decide (locals1 < ((x11.n : Nat) : Int))) (fun k =>
    ldS h1 (p3.add 3) fun x17 =>
    k (decide (code2 < ((x17.n : Nat) : Int)))) J) ∧ ∀ x21, J x21 →
  ∃ J_1 : Bool → Prop, (orr x21 (fun k_1 =>
    ldT h1 p3 fun x24 =>
    k_1 (decide (60 < ((x24.size : Nat) : Int)))) J_1) ∧ ∀ x27, J_1 x27 →
  ifb x27 (
    R (Value.bool false) h1) (
    ∃ (I : Int → Heap → Prop) (m : Int → Heap → Nat), I 0 h1 ∧ ∀ i7 h2, I i7 h2 →
    ldS h2 (p3.add 3) fun x30 =>
    ifb (decide (i7 < ((x30.n : Nat) : Int))) (
      ldS h2 (p3.add 3) fun x36 =>
      ixS x36 i7 fun q38 =>
      ∃ (y39 : Int) (y39_1 : Int) (y39_2 : Int) (y39_3 : Sv) (y39_4 : Int) (y39_5 : Sv) (y39_6 : Int) (y39_7 : Sv) (y39_8 : Bool) (y39_9 : ByteArray) (y39_10 : Int) (y39_11 : Sv) (y39_12 : Int) (y39_13 : Int) (y39_14 : Sv) (y39_15 : Int) (y39_16 : Int) (y39_17 : Int) (y39_18 : Int) (y39_19 : Int) (y39_20 : Int), cl h2 (q38.add ((i7 : Int).toNat * 21)) = some (Value.int .i64 y39) ∧ cl h2 ((q38.add ((i7 : Int).toNat * 21)).add 1) = some (Value.int .i64 y39_1) ∧ cl h2 ((q38.add ((i7 : Int).toNat * 21)).add 2) = some (Value.int .i64 y39_2) ∧ cl h2 ((q38.add ((i7 : Int).toNat * 21)).add 3) = some (Value.slice y39_3.a y39_3.n y39_3.c) ∧ cl h2 ((q38.add ((i7 : Int).toNat * 21)).add 4) = some (Value.int .i64 y39_4) ∧ cl h2 ((q38.add ((i7 : Int).toNat * 21)).add 5) = some (Value.slice y39_5.a y39_5.n y39_5.c) ∧ cl h2 ((q38.add ((i7 : Int).toNat * 21)).add 6) = some (Value.int .i64 y39_6) ∧ cl h2 ((q38.add ((i7 : Int).toNat * 21)).add 7) = some (Value.slice y39_7.a y39_7.n y39_7.c) ∧ cl h2 ((q38.add ((i7 : Int).toNat * 21)).add 8) = some (Value.bool y39_8) ∧ cl h2 ((q38.add ((i7 : Int).toNat * 21)).add 9) = some (Value.string y39_9) ∧ cl h2 ((q38.add ((i7 : Int).toNat * 21)).add 10) = some (Value.int .i64 y39_10) ∧ cl h2 ((q38.add ((i7 : Int).toNat * 21)).add 11) = some (Value.slice y39_11.a y39_11.n y39_11.c) ∧ cl h2 ((q38.add ((i7 : Int).toNat * 21)).add 12) = some (Value.int .i64 y39_12) ∧ cl h2 ((q38.add ((i7 : Int).toNat * 21)).add 13) = some (Value.int .i64 y39_13) ∧ cl h2 ((q38.add ((i7 : Int).toNat * 21)).add 14) = some (Value.slice y39_14.a y39_14.n y39_14.c) ∧ cl h2 ((q38.add ((i7 : Int).toNat * 21)).add 15) = some (Value.int .i64 y39_15) ∧ cl h2 ((q38.add ((i7 : Int).toNat * 21)).add 16) = some (Value.int .u64 y39_16) ∧ cl h2 ((q38.add ((i7 : Int).toNat * 21)).add 17) = some (Value.int .i64 y39_17) ∧ cl h2 ((q38.add ((i7 : Int).toNat * 21)).add 18) = some (Value.int .i64 y39_18) ∧ cl h2 ((q38.add ((i7 : Int).toNat * 21)).add 19) = some (Value.int .i64 y39_19) ∧ cl h2 ((q38.add ((i7 : Int).toNat * 21)).add 20) = some (Value.int .i64 y39_20) ∧
      new 61 #[Value.int .i64 0, Value.int .i64 0, Value.int .i64 0, Value.slice (⟨none, 0, 0⟩ : Sv).a (⟨none, 0, 0⟩ : Sv).n (⟨none, 0, 0⟩ : Sv).c, Value.int .i64 0, Value.slice (⟨none, 0, 0⟩ : Sv).a (⟨none, 0, 0⟩ : Sv).n (⟨none, 0, 0⟩ : Sv).c, Value.int .i64 0, Value.slice (⟨none, 0, 0⟩ : Sv).a (⟨none, 0, 0⟩ : Sv).n (⟨none, 0, 0⟩ : Sv).c, Value.bool false, Value.string (⟨#[]⟩ : ByteArray), Value.int .i64 0, Value.slice (⟨none, 0, 0⟩ : Sv).a (⟨none, 0, 0⟩ : Sv).n (⟨none, 0, 0⟩ : Sv).c, Value.int .i64 0, Value.int .i64 0, Value.slice (⟨none, 0, 0⟩ : Sv).a (⟨none, 0, 0⟩ : Sv).n (⟨none, 0, 0⟩ : Sv).c, Value.int .i64 0, Value.int .u64 0, Value.int .i64 0, Value.int .i64 0, Value.int .i64 0, Value.int .i64 0] h2 fun p8 h3 =>
      stoA h3 p8 [Value.int .i64 y39, Value.int .i64 y39_1, Value.int .i64 y39_2, Value.slice y39_3.a y39_3.n y39_3.c, Value.int .i64 y39_4, Value.slice y39_5.a y39_5.n y39_5.c, Value.int .i64 y39_6, Value.slice y39_7.a y39_7.n y39_7.c, Value.bool y39_8, Value.string y39_9, Value.int .i64 y39_10, Value.slice y39_11.a y39_11.n y39_11.c, Value.int .i64 y39_12, Value.int .i64 y39_13, Value.slice y39_14.a y39_14.n y39_14.c, Value.int .i64 y39_15, Value.int .u64 y39_16, Value.int .i64 y39_17, Value.int .i64 y39_18, Value.int .i64 y39_19, Value.int .i64 y39_20] fun h4 =>
      ldS h4 ((p8.add 2).add 1) fun x42 =>
      ∃ J_2 : Bool → Prop, (orr (decide (6 < ((x42.n : Nat) : Int))) (fun k_2 =>
        ldS h4 ((p8.add 4).add 1) fun x48 =>
        k_2 (decide (8 < ((x48.n : Nat) : Int)))) J_2) ∧ ∀ x51, J_2 x51 →
      ∃ J_3 : Bool → Prop, (orr x51 (fun k_3 =>
        ldS h4 (((p8.add 4).add 2).add 1) fun x56 =>
        k_3 (decide (6 < ((x56.n : Nat) : Int)))) J_3) ∧ ∀ x59, J_3 x59 →
      ∃ J_4 : Bool → Prop, (orr x59 (fun k_4 =>
        ldT h4 ((p8.add 4).add 5) fun x63 =>
        k_4 (decide (60 < ((x63.size : Nat) : Int)))) J_4) ∧ ∀ x66, J_4 x66 →
      ∃ J_5 : Bool → Prop, (orr x66 (fun k_5 =>
        ldS h4 (((p8.add 12).add 1).add 1) fun x71 =>
        k_5 (decide (6 < ((x71.n : Nat) : Int)))) J_5) ∧ ∀ x74, J_5 x74 →
      ∃ J_6 : Bool → Prop, (orr x74 (fun k_6 =>
        ldS h4 ((p8.add 4).add 7) fun x78 =>
        k_6 (decide (6 < ((x78.n : Nat) : Int)))) J_6) ∧ ∀ x81, J_6 x81 →
      ifb x81 (
        R (Value.bool false) h4) (
        ∃ (I_1 : Int → Prop) (m_1 : Int → Nat), I_1 0 ∧ ∀ k9, I_1 k9 →
        ldS h4 ((p8.add 4).add 1) fun x85 =>
        ifb (decide (k9 < ((x85.n : Nat) : Int))) (
          ldS h4 ((p8.add 4).add 1) fun x92 =>
          ixS x92 k9 fun q94 =>
          ldS h4 (((q94.add ((k9 : Int).toNat * 5)).add 1).add 1) fun x97 =>
          ifb (decide (6 < ((x97.n : Nat) : Int))) (
            R (Value.bool false) h4) (
            I_1 (IntKind.i64.wrap (k9 + 1)) ∧ m_1 (IntKind.i64.wrap (k9 + 1)) < m_1 k9)) (
          I (IntKind.i64.wrap (i7 + 1)) h4 ∧ m (IntKind.i64.wrap (i7 + 1)) h4 < m i7 h2))) (
      R (Value.bool true) h2))

set_option maxRecDepth 100000 in

theorem F9 {b0 b0_1 b0_2 b0_3 locals1 code2 h : _} {R : Value → Heap → Prop} (H : L9 b0 b0_1 b0_2 b0_3 locals1 code2 h R) : CallsH Try.prog 9 #[Value.agg #[Value.string b0, Value.int .i64 b0_1, Value.slice b0_2.a b0_2.n b0_2.c, Value.slice b0_3.a b0_3.n b0_3.c], Value.int .i64 locals1, Value.int .i64 code2] h R := by
  refine CallsH.enter (n := 100) Try.func9 rfl rfl rfl rfl ?_
  intro w0 aa ww S
  unfold L9 at H
  refine W.seq ?_
  replace S := S.sub [(0, Value.agg #[Value.string b0, Value.int .i64 b0_1, Value.slice b0_2.a b0_2.n b0_2.c, Value.slice b0_3.a b0_3.n b0_3.c]), (1, Value.int .i64 locals1), (2, Value.int .i64 code2)] ⟨rfl, rfl, rfl, trivial⟩
  refine W.region ?_
  refine ol_box S H rfl rfl rfl trivial ?_
  clear S H aa; intro p3 aa ww h1 H S
  refine OL.pure S (Lf.run_assign (S.ev rfl)) rfl rfl trivial ?_
  clear S; intro aa S
  refine OL.nil ?_
  refine W.seq ?_
  refine W.seq ?_
  replace S := S.sub [(1, Value.int .i64 locals1), (2, Value.int .i64 code2), (3, Value.pointer (some p3))] ⟨rfl, rfl, rfl, trivial⟩
  refine W.region ?_
  refine OL.pure S (Lf.run_fa (S.ev rfl) fa33_2) rfl rfl trivial ?_
  clear S; intro aa S
  obtain ⟨x11, c, H⟩ := H
  refine OL.pure S (Lf.run_ld (S.ev rfl) fl30 (S.cl c)) rfl rfl trivial ?_
  clear S; intro aa S
  refine OL.pure S (Lf.run_lens (S.ev rfl) rfl Try.underlying30) rfl rfl trivial ?_
  clear S; intro aa S
  refine OL.pure S (Lf.run_move (S.ev rfl)) rfl rfl trivial ?_
  clear S; intro aa S
  refine OL.pure S (Lf.run_gtr (S.ev rfl) (S.ev rfl)) rfl rfl trivial ?_
  clear S; intro aa S
  refine OL.pure S (Lf.run_move (S.ev rfl)) rfl rfl trivial ?_
  clear S; intro aa S
  obtain ⟨J, H, HK⟩ := H
  refine OL.cutN 6 (fun aa ww => ∃ x21, St 100 ((21, Value.bool x21) :: [(1, Value.int .i64 locals1), (2, Value.int .i64 code2), (3, Value.pointer (some p3)), (10, Value.pointer (some (p3.add 2))), (11, Value.slice x11.a x11.n x11.c), (12, Value.int .i64 ((x11.n : Nat) : Int)), (13, Value.int .i64 locals1), (14, Value.bool (decide (locals1 < ((x11.n : Nat) : Int)))), (15, Value.bool (decide (locals1 < ((x11.n : Nat) : Int))))]) h1 w0 aa ww ∧ J x21) ?_ ?_
  · rcases Bool.eq_false_or_eq_true (decide (locals1 < ((x11.n : Nat) : Int))) with hb | hb
    · replace H := H.1 hb
      refine OL.not S rfl rfl (GNo.mk rfl rfl hb) ?_
      clear S; intro aa S
      refine OL.not S rfl rfl (GNo.mk rfl rfl hb) ?_
      clear S; intro aa S
      refine OL.not S rfl rfl (GNo.mk rfl rfl hb) ?_
      clear S; intro aa S
      refine OL.not S rfl rfl (GNo.mk rfl rfl hb) ?_
      clear S; intro aa S
      refine OL.not S rfl rfl (GNo.mk rfl rfl hb) ?_
      clear S; intro aa S
      refine OL.pure S (Lf.run_pickT (S.ev rfl) hb (S.ev rfl)) rfl rfl trivial ?_
      clear S; intro aa S
      refine OL.nil ?_
      exact ⟨_, S.sub _ ⟨rfl, rfl, rfl, rfl, rfl, rfl, rfl, rfl, rfl, rfl, trivial⟩, H⟩
    · replace H := H.2 hb
      refine OL.pure S (Lf.run_fa (S.ev rfl) fa33_3) rfl rfl (GOk.mk rfl rfl hb) ?_
      clear S; intro aa S
      obtain ⟨x17, c_1, H⟩ := H
      refine OL.pure S (Lf.run_ld (S.ev rfl) fl31 (S.cl c_1)) rfl rfl (GOk.mk rfl rfl hb) ?_
      clear S; intro aa S
      refine OL.pure S (Lf.run_lens (S.ev rfl) rfl Try.underlying31) rfl rfl (GOk.mk rfl rfl hb) ?_
      clear S; intro aa S
      refine OL.pure S (Lf.run_move (S.ev rfl)) rfl rfl (GOk.mk rfl rfl hb) ?_
      clear S; intro aa S
      refine OL.pure S (Lf.run_gtr (S.ev rfl) (S.ev rfl)) rfl rfl (GOk.mk rfl rfl hb) ?_
      clear S; intro aa S
      refine OL.pure S (Lf.run_pickF (S.ev rfl) hb (S.ev rfl)) rfl rfl trivial ?_
      clear S; intro aa S
      refine OL.nil ?_
      exact ⟨_, S.sub _ ⟨rfl, rfl, rfl, rfl, rfl, rfl, rfl, rfl, rfl, rfl, trivial⟩, H⟩
  · clear S aa
    rintro aa ww ⟨x21, S, HJ⟩
    replace H := HK _ HJ
    clear HK HJ
    refine OL.pure S (Lf.run_move (S.ev rfl)) rfl rfl trivial ?_
    clear S; intro aa S
    obtain ⟨J_1, H, HK_1⟩ := H
    refine OL.cutN 5 (fun aa ww => ∃ x27, St 100 ((27, Value.bool x27) :: [(1, Value.int .i64 locals1), (2, Value.int .i64 code2), (3, Value.pointer (some p3)), (10, Value.pointer (some (p3.add 2))), (11, Value.slice x11.a x11.n x11.c), (12, Value.int .i64 ((x11.n : Nat) : Int)), (13, Value.int .i64 locals1), (14, Value.bool (decide (locals1 < ((x11.n : Nat) : Int)))), (15, Value.bool (decide (locals1 < ((x11.n : Nat) : Int)))), (21, Value.bool x21), (22, Value.bool x21)]) h1 w0 aa ww ∧ J_1 x27) ?_ ?_
    · rcases Bool.eq_false_or_eq_true x21 with hb_1 | hb_1
      · replace H := H.1 hb_1
        refine OL.not S rfl rfl (GNo.mk rfl rfl hb_1) ?_
        clear S; intro aa S
        refine OL.not S rfl rfl (GNo.mk rfl rfl hb_1) ?_
        clear S; intro aa S
        refine OL.not S rfl rfl (GNo.mk rfl rfl hb_1) ?_
        clear S; intro aa S
        refine OL.not S rfl rfl (GNo.mk rfl rfl hb_1) ?_
        clear S; intro aa S
        refine OL.pure S (Lf.run_pickT (S.ev rfl) hb_1 (S.ev rfl)) rfl rfl trivial ?_
        clear S; intro aa S
        refine OL.nil ?_
        exact ⟨_, S.sub _ ⟨rfl, rfl, rfl, rfl, rfl, rfl, rfl, rfl, rfl, rfl, rfl, rfl, trivial⟩, H⟩
      · replace H := H.2 hb_1
        refine OL.pure S (Lf.run_fa (S.ev rfl) fa33_0) rfl rfl (GOk.mk rfl rfl hb_1) ?_
        clear S; intro aa S
        obtain ⟨x24, c_2, H⟩ := H
        refine OL.pure S (Lf.run_ld (S.ev rfl) fl9 (S.cl c_2)) rfl rfl (GOk.mk rfl rfl hb_1) ?_
        clear S; intro aa S
        refine OL.pure S (Lf.run_lent (S.ev rfl) rfl Try.underlying9) rfl rfl (GOk.mk rfl rfl hb_1) ?_
        clear S; intro aa S
        refine OL.pure S (Lf.run_gtr (S.ev rfl) (S.ev rfl)) rfl rfl (GOk.mk rfl rfl hb_1) ?_
        clear S; intro aa S
        refine OL.pure S (Lf.run_pickF (S.ev rfl) hb_1 (S.ev rfl)) rfl rfl trivial ?_
        clear S; intro aa S
        refine OL.nil ?_
        exact ⟨_, S.sub _ ⟨rfl, rfl, rfl, rfl, rfl, rfl, rfl, rfl, rfl, rfl, rfl, rfl, trivial⟩, H⟩
    · clear S aa
      rintro aa ww ⟨x27, S, HJ⟩
      replace H := HK_1 _ HJ
      clear HK_1 HJ
      refine OL.nil ?_
      refine W.cond S (b := x27) rfl (fun hb_2 => ?_) (fun hb_2 => ?_)
      · replace H := H.1 hb_2
        refine W.seq ?_
        replace S := S.sub [] trivial
        refine W.region ?_
        refine OL.pure S (Lf.run_assign (S.ev rfl)) rfl rfl trivial ?_
        clear S; intro aa S
        refine OL.nil ?_
        refine W.ret ?_
        exact Ret.one S rfl rfl H
      · replace H := H.2 hb_2
        refine W.skip ?_
        refine W.seq ?_
        refine W.seq ?_
        replace S := S.sub [(3, Value.pointer (some p3))] ⟨rfl, trivial⟩
        refine W.region ?_
        refine OL.pure S (Lf.run_assign (S.ev rfl)) rfl rfl trivial ?_
        clear S; intro aa S
        refine OL.nil ?_
        refine W.block ?_
        obtain ⟨I, m, H, HB_1⟩ := H
        refine W.loopS (σ := Int × Heap) (fun s aa ww => St 100 [(3, Value.pointer (some p3)), (7, Value.int .i64 s.1)] s.2 w0 aa ww ∧ I s.1 s.2) (fun s => m s.1 s.2) (0, h1) ⟨S.sub _ ⟨rfl, rfl, trivial⟩, H⟩ ?_
        clear H S aa
        rintro ⟨i7, h2⟩ aa ww ⟨S, HI⟩
        replace S : St 100 [(3, Value.pointer (some p3)), (7, Value.int .i64 i7)] h2 w0 aa ww := S
        have H := HB_1 i7 h2 HI
        clear HI
        refine W.seq ?_
        refine W.seq ?_
        replace S := S.sub [(3, Value.pointer (some p3)), (7, Value.int .i64 i7)] ⟨rfl, rfl, trivial⟩
        refine W.region ?_
        refine OL.pure S (Lf.run_move (S.ev rfl)) rfl rfl trivial ?_
        clear S; intro aa S
        refine OL.pure S (Lf.run_fa (S.ev rfl) fa33_3) rfl rfl trivial ?_
        clear S; intro aa S
        obtain ⟨x30, c_3, H⟩ := H
        refine OL.pure S (Lf.run_ld (S.ev rfl) fl31 (S.cl c_3)) rfl rfl trivial ?_
        clear S; intro aa S
        refine OL.pure S (Lf.run_lens (S.ev rfl) rfl Try.underlying31) rfl rfl trivial ?_
        clear S; intro aa S
        refine OL.pure S (Lf.run_lss (S.ev rfl) (S.ev rfl)) rfl rfl trivial ?_
        clear S; intro aa S
        refine OL.nil ?_
        refine W.cond S (b := (decide (i7 < ((x30.n : Nat) : Int)))) rfl (fun hb_3 => ?_) (fun hb_3 => ?_)
        · replace H := H.1 hb_3
          refine W.skip ?_
          refine W.seq ?_
          refine W.block ?_
          refine W.seq ?_
          replace S := S.sub [(3, Value.pointer (some p3)), (7, Value.int .i64 i7)] ⟨rfl, rfl, trivial⟩
          refine W.region ?_
          refine OL.pure S (Lf.run_fa (S.ev rfl) fa33_3) rfl rfl trivial ?_
          clear S; intro aa S
          obtain ⟨x36, c_4, H⟩ := H
          refine OL.pure S (Lf.run_ld (S.ev rfl) fl31 (S.cl c_4)) rfl rfl trivial ?_
          clear S; intro aa S
          refine OL.pure S (Lf.run_move (S.ev rfl)) rfl rfl trivial ?_
          clear S; intro aa S
          obtain ⟨q38, e, e_1, e_2, H⟩ := H
          refine OL.pure S (Lf.run_ixs (S.ev rfl) (S.ev rfl) Try.underlying31 ti61 e e_1 e_2) rfl rfl trivial ?_
          clear S; intro aa S
          obtain ⟨y39, y39_1, y39_2, y39_3, y39_4, y39_5, y39_6, y39_7, y39_8, y39_9, y39_10, y39_11, y39_12, y39_13, y39_14, y39_15, y39_16, y39_17, y39_18, y39_19, y39_20, c_15, c_16, c_17, c_18, c_19, c_20, c_21, c_22, c_23, c_24, c_25, c_26, c_27, c_28, c_29, c_30, c_31, c_32, c_33, c_34, c_35, H⟩ := H
          refine OL.pure S (Lf.run_ldA (cs := [Value.int .i64 y39, Value.int .i64 y39_1, Value.int .i64 y39_2, Value.slice y39_3.a y39_3.n y39_3.c, Value.int .i64 y39_4, Value.slice y39_5.a y39_5.n y39_5.c, Value.int .i64 y39_6, Value.slice y39_7.a y39_7.n y39_7.c, Value.bool y39_8, Value.string y39_9, Value.int .i64 y39_10, Value.slice y39_11.a y39_11.n y39_11.c, Value.int .i64 y39_12, Value.int .i64 y39_13, Value.slice y39_14.a y39_14.n y39_14.c, Value.int .i64 y39_15, Value.int .u64 y39_16, Value.int .i64 y39_17, Value.int .i64 y39_18, Value.int .i64 y39_19, Value.int .i64 y39_20]) (S.ev rfl) ag61 ti61 (by rw [S.heap]; exact RowL.toRow ⟨c_15, c_16, c_17, c_18, c_19, c_20, c_21, c_22, c_23, c_24, c_25, c_26, c_27, c_28, c_29, c_30, c_31, c_32, c_33, c_34, c_35, trivial⟩)) rfl rfl trivial ?_
          clear S; intro aa S
          refine ol_alloc S H ti61 rfl rfl trivial ?_
          clear S H aa; intro p8 aa ww h3 H S
          refine ol_stoA S H rfl rfl ti61 trivial ?_
          clear S H aa; intro aa ww h4 H S
          refine OL.nil ?_
          refine W.seq ?_
          refine W.seq ?_
          replace S := S.sub [(3, Value.pointer (some p3)), (7, Value.int .i64 i7), (8, Value.pointer (some p8))] ⟨rfl, rfl, rfl, trivial⟩
          refine W.region ?_
          refine OL.pure S (Lf.run_fa (S.ev rfl) fa61_2) rfl rfl trivial ?_
          clear S; intro aa S
          refine OL.pure S (Lf.run_fa (S.ev rfl) fa24_1) rfl rfl trivial ?_
          clear S; intro aa S
          obtain ⟨x42, c_6, H⟩ := H
          refine OL.pure S (Lf.run_ld (S.ev rfl) fl22 (S.cl c_6)) rfl rfl trivial ?_
          clear S; intro aa S
          refine OL.pure S (Lf.run_lens (S.ev rfl) rfl Try.underlying22) rfl rfl trivial ?_
          clear S; intro aa S
          refine OL.pure S (Lf.run_gtr (S.ev rfl) (S.ev rfl)) rfl rfl trivial ?_
          clear S; intro aa S
          refine OL.pure S (Lf.run_move (S.ev rfl)) rfl rfl trivial ?_
          clear S; intro aa S
          obtain ⟨J_2, H, HK_2⟩ := H
          refine OL.cutN 6 (fun aa ww => ∃ x51, St 100 ((51, Value.bool x51) :: [(3, Value.pointer (some p3)), (7, Value.int .i64 i7), (8, Value.pointer (some p8)), (40, Value.pointer (some (p8.add 2))), (41, Value.pointer (some ((p8.add 2).add 1))), (42, Value.slice x42.a x42.n x42.c), (43, Value.int .i64 ((x42.n : Nat) : Int)), (44, Value.bool (decide (6 < ((x42.n : Nat) : Int)))), (45, Value.bool (decide (6 < ((x42.n : Nat) : Int))))]) h4 w0 aa ww ∧ J_2 x51) ?_ ?_
          · rcases Bool.eq_false_or_eq_true (decide (6 < ((x42.n : Nat) : Int))) with hb_4 | hb_4
            · replace H := H.1 hb_4
              refine OL.not S rfl rfl (GNo.mk rfl rfl hb_4) ?_
              clear S; intro aa S
              refine OL.not S rfl rfl (GNo.mk rfl rfl hb_4) ?_
              clear S; intro aa S
              refine OL.not S rfl rfl (GNo.mk rfl rfl hb_4) ?_
              clear S; intro aa S
              refine OL.not S rfl rfl (GNo.mk rfl rfl hb_4) ?_
              clear S; intro aa S
              refine OL.not S rfl rfl (GNo.mk rfl rfl hb_4) ?_
              clear S; intro aa S
              refine OL.pure S (Lf.run_pickT (S.ev rfl) hb_4 (S.ev rfl)) rfl rfl trivial ?_
              clear S; intro aa S
              refine OL.nil ?_
              exact ⟨_, S.sub _ ⟨rfl, rfl, rfl, rfl, rfl, rfl, rfl, rfl, rfl, rfl, trivial⟩, H⟩
            · replace H := H.2 hb_4
              refine OL.pure S (Lf.run_fa (S.ev rfl) fa61_3) rfl rfl (GOk.mk rfl rfl hb_4) ?_
              clear S; intro aa S
              refine OL.pure S (Lf.run_fa (S.ev rfl) fa56_1) rfl rfl (GOk.mk rfl rfl hb_4) ?_
              clear S; intro aa S
              obtain ⟨x48, c_7, H⟩ := H
              refine OL.pure S (Lf.run_ld (S.ev rfl) fl54 (S.cl c_7)) rfl rfl (GOk.mk rfl rfl hb_4) ?_
              clear S; intro aa S
              refine OL.pure S (Lf.run_lens (S.ev rfl) rfl Try.underlying54) rfl rfl (GOk.mk rfl rfl hb_4) ?_
              clear S; intro aa S
              refine OL.pure S (Lf.run_gtr (S.ev rfl) (S.ev rfl)) rfl rfl (GOk.mk rfl rfl hb_4) ?_
              clear S; intro aa S
              refine OL.pure S (Lf.run_pickF (S.ev rfl) hb_4 (S.ev rfl)) rfl rfl trivial ?_
              clear S; intro aa S
              refine OL.nil ?_
              exact ⟨_, S.sub _ ⟨rfl, rfl, rfl, rfl, rfl, rfl, rfl, rfl, rfl, rfl, trivial⟩, H⟩
          · clear S aa
            rintro aa ww ⟨x51, S, HJ⟩
            replace H := HK_2 _ HJ
            clear HK_2 HJ
            refine OL.pure S (Lf.run_move (S.ev rfl)) rfl rfl trivial ?_
            clear S; intro aa S
            obtain ⟨J_3, H, HK_3⟩ := H
            refine OL.cutN 7 (fun aa ww => ∃ x59, St 100 ((59, Value.bool x59) :: [(3, Value.pointer (some p3)), (7, Value.int .i64 i7), (8, Value.pointer (some p8)), (40, Value.pointer (some (p8.add 2))), (41, Value.pointer (some ((p8.add 2).add 1))), (42, Value.slice x42.a x42.n x42.c), (43, Value.int .i64 ((x42.n : Nat) : Int)), (44, Value.bool (decide (6 < ((x42.n : Nat) : Int)))), (45, Value.bool (decide (6 < ((x42.n : Nat) : Int)))), (51, Value.bool x51), (52, Value.bool x51)]) h4 w0 aa ww ∧ J_3 x59) ?_ ?_
            · rcases Bool.eq_false_or_eq_true x51 with hb_5 | hb_5
              · replace H := H.1 hb_5
                refine OL.not S rfl rfl (GNo.mk rfl rfl hb_5) ?_
                clear S; intro aa S
                refine OL.not S rfl rfl (GNo.mk rfl rfl hb_5) ?_
                clear S; intro aa S
                refine OL.not S rfl rfl (GNo.mk rfl rfl hb_5) ?_
                clear S; intro aa S
                refine OL.not S rfl rfl (GNo.mk rfl rfl hb_5) ?_
                clear S; intro aa S
                refine OL.not S rfl rfl (GNo.mk rfl rfl hb_5) ?_
                clear S; intro aa S
                refine OL.not S rfl rfl (GNo.mk rfl rfl hb_5) ?_
                clear S; intro aa S
                refine OL.pure S (Lf.run_pickT (S.ev rfl) hb_5 (S.ev rfl)) rfl rfl trivial ?_
                clear S; intro aa S
                refine OL.nil ?_
                exact ⟨_, S.sub _ ⟨rfl, rfl, rfl, rfl, rfl, rfl, rfl, rfl, rfl, rfl, rfl, rfl, trivial⟩, H⟩
              · replace H := H.2 hb_5
                refine OL.pure S (Lf.run_fa (S.ev rfl) fa61_3) rfl rfl (GOk.mk rfl rfl hb_5) ?_
                clear S; intro aa S
                refine OL.pure S (Lf.run_fa (S.ev rfl) fa56_2) rfl rfl (GOk.mk rfl rfl hb_5) ?_
                clear S; intro aa S
                refine OL.pure S (Lf.run_fa (S.ev rfl) fa24_1) rfl rfl (GOk.mk rfl rfl hb_5) ?_
                clear S; intro aa S
                obtain ⟨x56, c_8, H⟩ := H
                refine OL.pure S (Lf.run_ld (S.ev rfl) fl22 (S.cl c_8)) rfl rfl (GOk.mk rfl rfl hb_5) ?_
                clear S; intro aa S
                refine OL.pure S (Lf.run_lens (S.ev rfl) rfl Try.underlying22) rfl rfl (GOk.mk rfl rfl hb_5) ?_
                clear S; intro aa S
                refine OL.pure S (Lf.run_gtr (S.ev rfl) (S.ev rfl)) rfl rfl (GOk.mk rfl rfl hb_5) ?_
                clear S; intro aa S
                refine OL.pure S (Lf.run_pickF (S.ev rfl) hb_5 (S.ev rfl)) rfl rfl trivial ?_
                clear S; intro aa S
                refine OL.nil ?_
                exact ⟨_, S.sub _ ⟨rfl, rfl, rfl, rfl, rfl, rfl, rfl, rfl, rfl, rfl, rfl, rfl, trivial⟩, H⟩
            · clear S aa
              rintro aa ww ⟨x59, S, HJ⟩
              replace H := HK_3 _ HJ
              clear HK_3 HJ
              refine OL.pure S (Lf.run_move (S.ev rfl)) rfl rfl trivial ?_
              clear S; intro aa S
              obtain ⟨J_4, H, HK_4⟩ := H
              refine OL.cutN 6 (fun aa ww => ∃ x66, St 100 ((66, Value.bool x66) :: [(3, Value.pointer (some p3)), (7, Value.int .i64 i7), (8, Value.pointer (some p8)), (40, Value.pointer (some (p8.add 2))), (41, Value.pointer (some ((p8.add 2).add 1))), (42, Value.slice x42.a x42.n x42.c), (43, Value.int .i64 ((x42.n : Nat) : Int)), (44, Value.bool (decide (6 < ((x42.n : Nat) : Int)))), (45, Value.bool (decide (6 < ((x42.n : Nat) : Int)))), (51, Value.bool x51), (52, Value.bool x51), (59, Value.bool x59), (60, Value.bool x59)]) h4 w0 aa ww ∧ J_4 x66) ?_ ?_
              · rcases Bool.eq_false_or_eq_true x59 with hb_6 | hb_6
                · replace H := H.1 hb_6
                  refine OL.not S rfl rfl (GNo.mk rfl rfl hb_6) ?_
                  clear S; intro aa S
                  refine OL.not S rfl rfl (GNo.mk rfl rfl hb_6) ?_
                  clear S; intro aa S
                  refine OL.not S rfl rfl (GNo.mk rfl rfl hb_6) ?_
                  clear S; intro aa S
                  refine OL.not S rfl rfl (GNo.mk rfl rfl hb_6) ?_
                  clear S; intro aa S
                  refine OL.not S rfl rfl (GNo.mk rfl rfl hb_6) ?_
                  clear S; intro aa S
                  refine OL.pure S (Lf.run_pickT (S.ev rfl) hb_6 (S.ev rfl)) rfl rfl trivial ?_
                  clear S; intro aa S
                  refine OL.nil ?_
                  exact ⟨_, S.sub _ ⟨rfl, rfl, rfl, rfl, rfl, rfl, rfl, rfl, rfl, rfl, rfl, rfl, rfl, rfl, trivial⟩, H⟩
                · replace H := H.2 hb_6
                  refine OL.pure S (Lf.run_fa (S.ev rfl) fa61_3) rfl rfl (GOk.mk rfl rfl hb_6) ?_
                  clear S; intro aa S
                  refine OL.pure S (Lf.run_fa (S.ev rfl) fa56_4) rfl rfl (GOk.mk rfl rfl hb_6) ?_
                  clear S; intro aa S
                  obtain ⟨x63, c_9, H⟩ := H
                  refine OL.pure S (Lf.run_ld (S.ev rfl) fl9 (S.cl c_9)) rfl rfl (GOk.mk rfl rfl hb_6) ?_
                  clear S; intro aa S
                  refine OL.pure S (Lf.run_lent (S.ev rfl) rfl Try.underlying9) rfl rfl (GOk.mk rfl rfl hb_6) ?_
                  clear S; intro aa S
                  refine OL.pure S (Lf.run_gtr (S.ev rfl) (S.ev rfl)) rfl rfl (GOk.mk rfl rfl hb_6) ?_
                  clear S; intro aa S
                  refine OL.pure S (Lf.run_pickF (S.ev rfl) hb_6 (S.ev rfl)) rfl rfl trivial ?_
                  clear S; intro aa S
                  refine OL.nil ?_
                  exact ⟨_, S.sub _ ⟨rfl, rfl, rfl, rfl, rfl, rfl, rfl, rfl, rfl, rfl, rfl, rfl, rfl, rfl, trivial⟩, H⟩
              · clear S aa
                rintro aa ww ⟨x66, S, HJ⟩
                replace H := HK_4 _ HJ
                clear HK_4 HJ
                refine OL.pure S (Lf.run_move (S.ev rfl)) rfl rfl trivial ?_
                clear S; intro aa S
                obtain ⟨J_5, H, HK_5⟩ := H
                refine OL.cutN 7 (fun aa ww => ∃ x74, St 100 ((74, Value.bool x74) :: [(3, Value.pointer (some p3)), (7, Value.int .i64 i7), (8, Value.pointer (some p8)), (40, Value.pointer (some (p8.add 2))), (41, Value.pointer (some ((p8.add 2).add 1))), (42, Value.slice x42.a x42.n x42.c), (43, Value.int .i64 ((x42.n : Nat) : Int)), (44, Value.bool (decide (6 < ((x42.n : Nat) : Int)))), (45, Value.bool (decide (6 < ((x42.n : Nat) : Int)))), (51, Value.bool x51), (52, Value.bool x51), (59, Value.bool x59), (60, Value.bool x59), (66, Value.bool x66), (67, Value.bool x66)]) h4 w0 aa ww ∧ J_5 x74) ?_ ?_
                · rcases Bool.eq_false_or_eq_true x66 with hb_7 | hb_7
                  · replace H := H.1 hb_7
                    refine OL.not S rfl rfl (GNo.mk rfl rfl hb_7) ?_
                    clear S; intro aa S
                    refine OL.not S rfl rfl (GNo.mk rfl rfl hb_7) ?_
                    clear S; intro aa S
                    refine OL.not S rfl rfl (GNo.mk rfl rfl hb_7) ?_
                    clear S; intro aa S
                    refine OL.not S rfl rfl (GNo.mk rfl rfl hb_7) ?_
                    clear S; intro aa S
                    refine OL.not S rfl rfl (GNo.mk rfl rfl hb_7) ?_
                    clear S; intro aa S
                    refine OL.not S rfl rfl (GNo.mk rfl rfl hb_7) ?_
                    clear S; intro aa S
                    refine OL.pure S (Lf.run_pickT (S.ev rfl) hb_7 (S.ev rfl)) rfl rfl trivial ?_
                    clear S; intro aa S
                    refine OL.nil ?_
                    exact ⟨_, S.sub _ ⟨rfl, rfl, rfl, rfl, rfl, rfl, rfl, rfl, rfl, rfl, rfl, rfl, rfl, rfl, rfl, rfl, trivial⟩, H⟩
                  · replace H := H.2 hb_7
                    refine OL.pure S (Lf.run_fa (S.ev rfl) fa61_4) rfl rfl (GOk.mk rfl rfl hb_7) ?_
                    clear S; intro aa S
                    refine OL.pure S (Lf.run_fa (S.ev rfl) fa59_1) rfl rfl (GOk.mk rfl rfl hb_7) ?_
                    clear S; intro aa S
                    refine OL.pure S (Lf.run_fa (S.ev rfl) fa24_1) rfl rfl (GOk.mk rfl rfl hb_7) ?_
                    clear S; intro aa S
                    obtain ⟨x71, c_10, H⟩ := H
                    refine OL.pure S (Lf.run_ld (S.ev rfl) fl22 (S.cl c_10)) rfl rfl (GOk.mk rfl rfl hb_7) ?_
                    clear S; intro aa S
                    refine OL.pure S (Lf.run_lens (S.ev rfl) rfl Try.underlying22) rfl rfl (GOk.mk rfl rfl hb_7) ?_
                    clear S; intro aa S
                    refine OL.pure S (Lf.run_gtr (S.ev rfl) (S.ev rfl)) rfl rfl (GOk.mk rfl rfl hb_7) ?_
                    clear S; intro aa S
                    refine OL.pure S (Lf.run_pickF (S.ev rfl) hb_7 (S.ev rfl)) rfl rfl trivial ?_
                    clear S; intro aa S
                    refine OL.nil ?_
                    exact ⟨_, S.sub _ ⟨rfl, rfl, rfl, rfl, rfl, rfl, rfl, rfl, rfl, rfl, rfl, rfl, rfl, rfl, rfl, rfl, trivial⟩, H⟩
                · clear S aa
                  rintro aa ww ⟨x74, S, HJ⟩
                  replace H := HK_5 _ HJ
                  clear HK_5 HJ
                  refine OL.pure S (Lf.run_move (S.ev rfl)) rfl rfl trivial ?_
                  clear S; intro aa S
                  obtain ⟨J_6, H, HK_6⟩ := H
                  refine OL.cutN 6 (fun aa ww => ∃ x81, St 100 ((81, Value.bool x81) :: [(3, Value.pointer (some p3)), (7, Value.int .i64 i7), (8, Value.pointer (some p8)), (40, Value.pointer (some (p8.add 2))), (41, Value.pointer (some ((p8.add 2).add 1))), (42, Value.slice x42.a x42.n x42.c), (43, Value.int .i64 ((x42.n : Nat) : Int)), (44, Value.bool (decide (6 < ((x42.n : Nat) : Int)))), (45, Value.bool (decide (6 < ((x42.n : Nat) : Int)))), (51, Value.bool x51), (52, Value.bool x51), (59, Value.bool x59), (60, Value.bool x59), (66, Value.bool x66), (67, Value.bool x66), (74, Value.bool x74), (75, Value.bool x74)]) h4 w0 aa ww ∧ J_6 x81) ?_ ?_
                  · rcases Bool.eq_false_or_eq_true x74 with hb_8 | hb_8
                    · replace H := H.1 hb_8
                      refine OL.not S rfl rfl (GNo.mk rfl rfl hb_8) ?_
                      clear S; intro aa S
                      refine OL.not S rfl rfl (GNo.mk rfl rfl hb_8) ?_
                      clear S; intro aa S
                      refine OL.not S rfl rfl (GNo.mk rfl rfl hb_8) ?_
                      clear S; intro aa S
                      refine OL.not S rfl rfl (GNo.mk rfl rfl hb_8) ?_
                      clear S; intro aa S
                      refine OL.not S rfl rfl (GNo.mk rfl rfl hb_8) ?_
                      clear S; intro aa S
                      refine OL.pure S (Lf.run_pickT (S.ev rfl) hb_8 (S.ev rfl)) rfl rfl trivial ?_
                      clear S; intro aa S
                      refine OL.nil ?_
                      exact ⟨_, S.sub _ ⟨rfl, rfl, rfl, rfl, rfl, rfl, rfl, rfl, rfl, rfl, rfl, rfl, rfl, rfl, rfl, rfl, rfl, rfl, trivial⟩, H⟩
                    · replace H := H.2 hb_8
                      refine OL.pure S (Lf.run_fa (S.ev rfl) fa61_3) rfl rfl (GOk.mk rfl rfl hb_8) ?_
                      clear S; intro aa S
                      refine OL.pure S (Lf.run_fa (S.ev rfl) fa56_6) rfl rfl (GOk.mk rfl rfl hb_8) ?_
                      clear S; intro aa S
                      obtain ⟨x78, c_11, H⟩ := H
                      refine OL.pure S (Lf.run_ld (S.ev rfl) fl47 (S.cl c_11)) rfl rfl (GOk.mk rfl rfl hb_8) ?_
                      clear S; intro aa S
                      refine OL.pure S (Lf.run_lens (S.ev rfl) rfl Try.underlying47) rfl rfl (GOk.mk rfl rfl hb_8) ?_
                      clear S; intro aa S
                      refine OL.pure S (Lf.run_gtr (S.ev rfl) (S.ev rfl)) rfl rfl (GOk.mk rfl rfl hb_8) ?_
                      clear S; intro aa S
                      refine OL.pure S (Lf.run_pickF (S.ev rfl) hb_8 (S.ev rfl)) rfl rfl trivial ?_
                      clear S; intro aa S
                      refine OL.nil ?_
                      exact ⟨_, S.sub _ ⟨rfl, rfl, rfl, rfl, rfl, rfl, rfl, rfl, rfl, rfl, rfl, rfl, rfl, rfl, rfl, rfl, rfl, rfl, trivial⟩, H⟩
                  · clear S aa
                    rintro aa ww ⟨x81, S, HJ⟩
                    replace H := HK_6 _ HJ
                    clear HK_6 HJ
                    refine OL.nil ?_
                    refine W.cond S (b := x81) rfl (fun hb_9 => ?_) (fun hb_9 => ?_)
                    · replace H := H.1 hb_9
                      refine W.seq ?_
                      replace S := S.sub [] trivial
                      refine W.region ?_
                      refine OL.pure S (Lf.run_assign (S.ev rfl)) rfl rfl trivial ?_
                      clear S; intro aa S
                      refine OL.nil ?_
                      refine W.ret ?_
                      exact Ret.one S rfl rfl H
                    · replace H := H.2 hb_9
                      refine W.skip ?_
                      refine W.seq ?_
                      replace S := S.sub [(3, Value.pointer (some p3)), (7, Value.int .i64 i7), (8, Value.pointer (some p8))] ⟨rfl, rfl, rfl, trivial⟩
                      refine W.region ?_
                      refine OL.pure S (Lf.run_assign (S.ev rfl)) rfl rfl trivial ?_
                      clear S; intro aa S
                      refine OL.nil ?_
                      refine W.block ?_
                      obtain ⟨I_1, m_1, H, HB⟩ := H
                      refine W.loopS (σ := Int) (fun s aa ww => St 100 [(3, Value.pointer (some p3)), (7, Value.int .i64 i7), (8, Value.pointer (some p8)), (9, Value.int .i64 s)] h4 w0 aa ww ∧ I_1 s) (fun s => m_1 s) (0) ⟨S.sub _ ⟨rfl, rfl, rfl, rfl, trivial⟩, H⟩ ?_
                      clear H S aa
                      rintro k9 aa ww ⟨S, HI⟩
                      replace S : St 100 [(3, Value.pointer (some p3)), (7, Value.int .i64 i7), (8, Value.pointer (some p8)), (9, Value.int .i64 k9)] h4 w0 aa ww := S
                      have H := HB k9 HI
                      clear HI
                      refine W.seq ?_
                      refine W.seq ?_
                      replace S := S.sub [(3, Value.pointer (some p3)), (7, Value.int .i64 i7), (8, Value.pointer (some p8)), (9, Value.int .i64 k9)] ⟨rfl, rfl, rfl, rfl, trivial⟩
                      refine W.region ?_
                      refine OL.pure S (Lf.run_move (S.ev rfl)) rfl rfl trivial ?_
                      clear S; intro aa S
                      refine OL.pure S (Lf.run_fa (S.ev rfl) fa61_3) rfl rfl trivial ?_
                      clear S; intro aa S
                      refine OL.pure S (Lf.run_fa (S.ev rfl) fa56_1) rfl rfl trivial ?_
                      clear S; intro aa S
                      obtain ⟨x85, c_12, H⟩ := H
                      refine OL.pure S (Lf.run_ld (S.ev rfl) fl54 (S.cl c_12)) rfl rfl trivial ?_
                      clear S; intro aa S
                      refine OL.pure S (Lf.run_lens (S.ev rfl) rfl Try.underlying54) rfl rfl trivial ?_
                      clear S; intro aa S
                      refine OL.pure S (Lf.run_lss (S.ev rfl) (S.ev rfl)) rfl rfl trivial ?_
                      clear S; intro aa S
                      refine OL.nil ?_
                      refine W.cond S (b := (decide (k9 < ((x85.n : Nat) : Int)))) rfl (fun hb_10 => ?_) (fun hb_10 => ?_)
                      · replace H := H.1 hb_10
                        refine W.skip ?_
                        refine W.seq ?_
                        refine W.block ?_
                        refine W.seq ?_
                        replace S := S.sub [(3, Value.pointer (some p3)), (7, Value.int .i64 i7), (8, Value.pointer (some p8)), (9, Value.int .i64 k9)] ⟨rfl, rfl, rfl, rfl, trivial⟩
                        refine W.region ?_
                        refine OL.pure S (Lf.run_fa (S.ev rfl) fa61_3) rfl rfl trivial ?_
                        clear S; intro aa S
                        refine OL.pure S (Lf.run_fa (S.ev rfl) fa56_1) rfl rfl trivial ?_
                        clear S; intro aa S
                        obtain ⟨x92, c_13, H⟩ := H
                        refine OL.pure S (Lf.run_ld (S.ev rfl) fl54 (S.cl c_13)) rfl rfl trivial ?_
                        clear S; intro aa S
                        refine OL.pure S (Lf.run_move (S.ev rfl)) rfl rfl trivial ?_
                        clear S; intro aa S
                        obtain ⟨q94, e_3, e_4, e_5, H⟩ := H
                        refine OL.pure S (Lf.run_ixs (S.ev rfl) (S.ev rfl) Try.underlying54 ti59 e_3 e_4 e_5) rfl rfl trivial ?_
                        clear S; intro aa S
                        refine OL.pure S (Lf.run_fa (S.ev rfl) fa59_1) rfl rfl trivial ?_
                        clear S; intro aa S
                        refine OL.pure S (Lf.run_fa (S.ev rfl) fa24_1) rfl rfl trivial ?_
                        clear S; intro aa S
                        obtain ⟨x97, c_14, H⟩ := H
                        refine OL.pure S (Lf.run_ld (S.ev rfl) fl22 (S.cl c_14)) rfl rfl trivial ?_
                        clear S; intro aa S
                        refine OL.pure S (Lf.run_lens (S.ev rfl) rfl Try.underlying22) rfl rfl trivial ?_
                        clear S; intro aa S
                        refine OL.pure S (Lf.run_gtr (S.ev rfl) (S.ev rfl)) rfl rfl trivial ?_
                        clear S; intro aa S
                        refine OL.nil ?_
                        refine W.cond S (b := (decide (6 < ((x97.n : Nat) : Int)))) rfl (fun hb_11 => ?_) (fun hb_11 => ?_)
                        · replace H := H.1 hb_11
                          refine W.seq ?_
                          replace S := S.sub [] trivial
                          refine W.region ?_
                          refine OL.pure S (Lf.run_assign (S.ev rfl)) rfl rfl trivial ?_
                          clear S; intro aa S
                          refine OL.nil ?_
                          refine W.ret ?_
                          exact Ret.one S rfl rfl H
                        · replace H := H.2 hb_11
                          refine W.skip ?_
                          replace S := S.sub [(3, Value.pointer (some p3)), (7, Value.int .i64 i7), (8, Value.pointer (some p8)), (9, Value.int .i64 k9)] ⟨rfl, rfl, rfl, rfl, trivial⟩
                          refine W.region ?_
                          refine OL.pure S (Lf.run_move (S.ev rfl)) rfl rfl trivial ?_
                          clear S; intro aa S
                          refine OL.pure S (Lf.run_add (S.ev rfl) (S.ev rfl)) rfl rfl trivial ?_
                          clear S; intro aa S
                          refine OL.pure S (Lf.run_assign (S.ev rfl)) rfl rfl trivial ?_
                          clear S; intro aa S
                          refine OL.nil ?_
                          exact ⟨((IntKind.i64.wrap (k9 + 1))), ⟨S.sub _ ⟨rfl, rfl, rfl, rfl, trivial⟩, H.1⟩, H.2⟩
                      · replace H := H.2 hb_10
                        refine W.exit_ ?_
                        refine xhit ?_
                        replace S := S.sub [(3, Value.pointer (some p3)), (7, Value.int .i64 i7)] ⟨rfl, rfl, trivial⟩
                        refine W.region ?_
                        refine OL.pure S (Lf.run_move (S.ev rfl)) rfl rfl trivial ?_
                        clear S; intro aa S
                        refine OL.pure S (Lf.run_add (S.ev rfl) (S.ev rfl)) rfl rfl trivial ?_
                        clear S; intro aa S
                        refine OL.pure S (Lf.run_assign (S.ev rfl)) rfl rfl trivial ?_
                        clear S; intro aa S
                        refine OL.nil ?_
                        exact ⟨((IntKind.i64.wrap (i7 + 1)), h4), ⟨S.sub _ ⟨rfl, rfl, trivial⟩, H.1⟩, H.2⟩
        · replace H := H.2 hb_3
          refine W.exit_ ?_
          refine xhit ?_
          refine W.seq ?_
          replace S := S.sub [] trivial
          refine W.region ?_
          refine OL.pure S (Lf.run_assign (S.ev rfl)) rfl rfl trivial ?_
          clear S; intro aa S
          refine OL.nil ?_
          refine W.ret ?_
          exact Ret.one S rfl rfl H

/-- chattel mir.Reach -/
def L10 (b0 : Option Addr) (h : Heap) (R : Value → Heap → Prop) : Prop :=
  ∃ J : Bool → Prop, (orr (Option.isNone b0) (fun k =>
    nn b0 fun p12 =>
    ldS h (p12.add 3) fun x14 =>
    k (((x14.n : Nat) : Int) == 0)) J) ∧ ∀ x17, J x17 →
  ifb x17 (
    R (Value.slice (⟨none, 0, 0⟩ : Sv).a (⟨none, 0, 0⟩ : Sv).n (⟨none, 0, 0⟩ : Sv).c) h) (
    nn b0 fun p19 =>
    ldS h (p19.add 3) fun x21 =>
    mkS 4 (Value.bool false).cells 1 1 ((x21.n : Nat) : Int) ((x21.n : Nat) : Int) h fun s23 h1 =>
    ixS s23 0 fun q25 =>
    sto h1 q25 (Value.bool true) fun h2 =>
    newS 3 #[Value.int .i64 0] 1 h2 fun s26 h3 =>
    ∃ (I : Sv → Int → Heap → Prop) (m : Sv → Int → Heap → Nat), I s26 0 h3 ∧ ∀ todo4 vat5 h4, I todo4 vat5 h4 →
    ifb (decide (vat5 < ((todo4.n : Nat) : Int))) (
      ixS todo4 vat5 fun q36 =>
      ldI .i64 h4 (q36.add ((vat5 : Int).toNat * 1)) fun x37 =>
      cal Try.prog 12 #[Value.pointer b0, Value.int .i64 x37] h4 fun u h5 => asS u fun x38 =>
      ∃ (I_1 : Sv → Int → Heap → Prop) (m_1 : Sv → Int → Heap → Nat), I_1 todo4 0 h5 ∧ ∀ todo4_1 x40 h6, I_1 todo4_1 x40 h6 →
      ifb (decide (x40 < ((x38.n : Nat) : Int))) (
        ∃ J_1 : Sv → Heap → Prop, (
          ixS x38 x40 fun q42 =>
          ldI .i64 h6 (q42.add ((x40 : Int).toNat * 1)) fun x43 =>
          ∃ J_2 : Bool → Prop, (andr ((decide (0 ≤ x43)) && (decide (x43 < ((s23.n : Nat) : Int)))) (fun k_1 =>
            ixS s23 x43 fun q55 =>
            ldB h6 (q55.add ((x43 : Int).toNat * 1)) fun x56 =>
            k_1 (!x56)) J_2) ∧ ∀ x58, J_2 x58 →
          ifb x58 (
            ixS s23 x43 fun q61 =>
            sto h6 (q61.add ((x43 : Int).toNat * 1)) (Value.bool true) fun h7 =>
            newS 3 #[Value.int .i64 x43] 1 h7 fun s64 h8 =>
            appS 3 (Value.int .i64 0).cells 1 8 h8 todo4_1 s64 fun s65 h9 =>
            J_1 s65 h9) (
            J_1 todo4_1 h6)) ∧ (∀ todo4_2 h10, J_1 todo4_2 h10 →
        I_1 todo4_2 (IntKind.i64.wrap (x40 + 1)) h10 ∧ m_1 todo4_2 (IntKind.i64.wrap (x40 + 1)) h10 < m_1 todo4_1 x40 h6)) (
        I todo4_1 (IntKind.i64.wrap (vat5 + 1)) h6 ∧ m todo4_1 (IntKind.i64.wrap (vat5 + 1)) h6 < m todo4 vat5 h4)) (
      R (Value.slice s23.a s23.n s23.c) h4))

set_option maxRecDepth 100000 in

theorem F10 {b0 h : _} {R : Value → Heap → Prop} (H : L10 b0 h R) : CallsH Try.prog 10 #[Value.pointer b0] h R := by
  refine CallsH.enter (n := 68) Try.func10 rfl rfl rfl rfl ?_
  intro w0 aa ww S
  unfold L10 at H
  refine W.seq ?_
  replace S := S.sub [(0, Value.pointer b0)] ⟨rfl, trivial⟩
  refine W.region ?_
  refine OL.pure S (Lf.run_assign (S.ev rfl)) rfl rfl trivial ?_
  clear S; intro aa S
  refine OL.nil ?_
  refine W.seq ?_
  refine W.seq ?_
  replace S := S.sub [(0, Value.pointer b0)] ⟨rfl, trivial⟩
  refine W.region ?_
  refine OL.pure S (Lf.run_move (S.ev rfl)) rfl rfl trivial ?_
  clear S; intro aa S
  refine OL.pure S (Lf.run_eqlpn Try.underlying37 (S.ev rfl) (S.ev rfl)) rfl rfl trivial ?_
  clear S; intro aa S
  refine OL.pure S (Lf.run_move (S.ev rfl)) rfl rfl trivial ?_
  clear S; intro aa S
  obtain ⟨J, H, HK⟩ := H
  refine OL.cutN 7 (fun aa ww => ∃ x17, St 68 ((17, Value.bool x17) :: [(0, Value.pointer b0), (8, Value.pointer b0), (9, Value.bool (Option.isNone b0)), (10, Value.bool (Option.isNone b0))]) h w0 aa ww ∧ J x17) ?_ ?_
  · rcases Bool.eq_false_or_eq_true (Option.isNone b0) with hb | hb
    · replace H := H.1 hb
      refine OL.not S rfl rfl (GNo.mk rfl rfl hb) ?_
      clear S; intro aa S
      refine OL.not S rfl rfl (GNo.mk rfl rfl hb) ?_
      clear S; intro aa S
      refine OL.not S rfl rfl (GNo.mk rfl rfl hb) ?_
      clear S; intro aa S
      refine OL.not S rfl rfl (GNo.mk rfl rfl hb) ?_
      clear S; intro aa S
      refine OL.not S rfl rfl (GNo.mk rfl rfl hb) ?_
      clear S; intro aa S
      refine OL.not S rfl rfl (GNo.mk rfl rfl hb) ?_
      clear S; intro aa S
      refine OL.pure S (Lf.run_pickT (S.ev rfl) hb (S.ev rfl)) rfl rfl trivial ?_
      clear S; intro aa S
      refine OL.nil ?_
      exact ⟨_, S.sub _ ⟨rfl, rfl, rfl, rfl, rfl, trivial⟩, H⟩
    · replace H := H.2 hb
      refine OL.pure S (Lf.run_move (S.ev rfl)) rfl rfl (GOk.mk rfl rfl hb) ?_
      clear S; intro aa S
      obtain ⟨p12, e, H⟩ := H
      refine OL.pure S (Lf.run_nc' (S.ev rfl) e) rfl rfl (GOk.mk rfl rfl hb) ?_
      clear S; intro aa S
      refine OL.pure S (Lf.run_fa (S.ev rfl) fa33_3) rfl rfl (GOk.mk rfl rfl hb) ?_
      clear S; intro aa S
      obtain ⟨x14, c, H⟩ := H
      refine OL.pure S (Lf.run_ld (S.ev rfl) fl31 (S.cl c)) rfl rfl (GOk.mk rfl rfl hb) ?_
      clear S; intro aa S
      refine OL.pure S (Lf.run_lens (S.ev rfl) rfl Try.underlying31) rfl rfl (GOk.mk rfl rfl hb) ?_
      clear S; intro aa S
      refine OL.pure S (Lf.run_eql (S.ev rfl) (S.ev rfl)) rfl rfl (GOk.mk rfl rfl hb) ?_
      clear S; intro aa S
      refine OL.pure S (Lf.run_pickF (S.ev rfl) hb (S.ev rfl)) rfl rfl trivial ?_
      clear S; intro aa S
      refine OL.nil ?_
      exact ⟨_, S.sub _ ⟨rfl, rfl, rfl, rfl, rfl, trivial⟩, H⟩
  · clear S aa
    rintro aa ww ⟨x17, S, HJ⟩
    replace H := HK _ HJ
    clear HK HJ
    refine OL.nil ?_
    refine W.cond S (b := x17) rfl (fun hb_1 => ?_) (fun hb_1 => ?_)
    · replace H := H.1 hb_1
      refine W.seq ?_
      replace S := S.sub [] trivial
      refine W.region ?_
      refine OL.pure S (Lf.run_assign (S.ev rfl)) rfl rfl trivial ?_
      clear S; intro aa S
      refine OL.nil ?_
      refine W.ret ?_
      exact Ret.one S rfl rfl H
    · replace H := H.2 hb_1
      refine W.skip ?_
      refine W.seq ?_
      replace S := S.sub [(0, Value.pointer b0)] ⟨rfl, trivial⟩
      refine W.region ?_
      refine OL.pure S (Lf.run_move (S.ev rfl)) rfl rfl trivial ?_
      clear S; intro aa S
      obtain ⟨p19, e_1, H⟩ := H
      refine OL.pure S (Lf.run_nc' (S.ev rfl) e_1) rfl rfl trivial ?_
      clear S; intro aa S
      refine OL.pure S (Lf.run_fa (S.ev rfl) fa33_3) rfl rfl trivial ?_
      clear S; intro aa S
      obtain ⟨x21, c_1, H⟩ := H
      refine OL.pure S (Lf.run_ld (S.ev rfl) fl31 (S.cl c_1)) rfl rfl trivial ?_
      clear S; intro aa S
      refine OL.pure S (Lf.run_lens (S.ev rfl) rfl Try.underlying31) rfl rfl trivial ?_
      clear S; intro aa S
      refine ol_mkS S H Try.underlying35 ti4 rfl rfl rfl trivial ?_
      clear S H aa; intro s23 aa ww h1 H S
      refine OL.pure S (Lf.run_assign (S.ev rfl)) rfl rfl trivial ?_
      clear S; intro aa S
      refine OL.nil ?_
      refine W.seq ?_
      replace S := S.sub [(0, Value.pointer b0), (3, Value.slice s23.a s23.n s23.c)] ⟨rfl, rfl, trivial⟩
      refine W.region ?_
      refine OL.pure S (Lf.run_move (S.ev rfl)) rfl rfl trivial ?_
      clear S; intro aa S
      obtain ⟨q25, e_2, e_3, e_4, H⟩ := H
      refine OL.pure S (Lf.run_ixs (S.ev rfl) (S.ev rfl) Try.underlying35 ti4 e_2 e_3 e_4) rfl rfl trivial ?_
      clear S; intro aa S
      refine ol_sto S H rfl rfl rfl ti4 trivial ?_
      clear S H aa; intro aa ww h2 H S
      refine OL.nil ?_
      refine W.seq ?_
      replace S := S.sub [(0, Value.pointer b0), (3, Value.slice s23.a s23.n s23.c)] ⟨rfl, rfl, trivial⟩
      refine W.region ?_
      refine ol_newS S H Try.underlying22 ti3 (by decide) (parts_map S rfl) (by kernel_rfl) (by decide) rfl trivial ?_
      clear S H aa; intro s26 aa ww h3 H S
      refine OL.pure S (Lf.run_assign (S.ev rfl)) rfl rfl trivial ?_
      clear S; intro aa S
      refine OL.nil ?_
      refine W.seq ?_
      refine W.seq ?_
      replace S := S.sub [(0, Value.pointer b0), (3, Value.slice s23.a s23.n s23.c), (4, Value.slice s26.a s26.n s26.c)] ⟨rfl, rfl, rfl, trivial⟩
      refine W.region ?_
      refine OL.pure S (Lf.run_assign (S.ev rfl)) rfl rfl trivial ?_
      clear S; intro aa S
      refine OL.nil ?_
      refine W.block ?_
      obtain ⟨I, m, H, HB_1⟩ := H
      refine W.loopS (σ := Sv × Int × Heap) (fun s aa ww => St 68 [(0, Value.pointer b0), (3, Value.slice s23.a s23.n s23.c), (4, Value.slice s.1.a s.1.n s.1.c), (5, Value.int .i64 s.2.1)] s.2.2 w0 aa ww ∧ I s.1 s.2.1 s.2.2) (fun s => m s.1 s.2.1 s.2.2) (s26, 0, h3) ⟨S.sub _ ⟨rfl, rfl, rfl, rfl, trivial⟩, H⟩ ?_
      clear H S aa
      rintro ⟨todo4, vat5, h4⟩ aa ww ⟨S, HI⟩
      replace S : St 68 [(0, Value.pointer b0), (3, Value.slice s23.a s23.n s23.c), (4, Value.slice todo4.a todo4.n todo4.c), (5, Value.int .i64 vat5)] h4 w0 aa ww := S
      have H := HB_1 todo4 vat5 h4 HI
      clear HI
      refine W.seq ?_
      refine W.seq ?_
      replace S := S.sub [(0, Value.pointer b0), (3, Value.slice s23.a s23.n s23.c), (4, Value.slice todo4.a todo4.n todo4.c), (5, Value.int .i64 vat5)] ⟨rfl, rfl, rfl, rfl, trivial⟩
      refine W.region ?_
      refine OL.pure S (Lf.run_move (S.ev rfl)) rfl rfl trivial ?_
      clear S; intro aa S
      refine OL.pure S (Lf.run_move (S.ev rfl)) rfl rfl trivial ?_
      clear S; intro aa S
      refine OL.pure S (Lf.run_lens (S.ev rfl) rfl Try.underlying22) rfl rfl trivial ?_
      clear S; intro aa S
      refine OL.pure S (Lf.run_lss (S.ev rfl) (S.ev rfl)) rfl rfl trivial ?_
      clear S; intro aa S
      refine OL.nil ?_
      refine W.cond S (b := (decide (vat5 < ((todo4.n : Nat) : Int)))) rfl (fun hb_2 => ?_) (fun hb_2 => ?_)
      · replace H := H.1 hb_2
        refine W.skip ?_
        refine W.seq ?_
        refine W.block ?_
        refine W.seq ?_
        replace S := S.sub [(0, Value.pointer b0), (3, Value.slice s23.a s23.n s23.c), (4, Value.slice todo4.a todo4.n todo4.c), (5, Value.int .i64 vat5)] ⟨rfl, rfl, rfl, rfl, trivial⟩
        refine W.region ?_
        refine OL.pure S (Lf.run_move (S.ev rfl)) rfl rfl trivial ?_
        clear S; intro aa S
        refine OL.pure S (Lf.run_move (S.ev rfl)) rfl rfl trivial ?_
        clear S; intro aa S
        refine OL.pure S (Lf.run_move (S.ev rfl)) rfl rfl trivial ?_
        clear S; intro aa S
        obtain ⟨q36, e_5, e_6, e_7, H⟩ := H
        refine OL.pure S (Lf.run_ixs (S.ev rfl) (S.ev rfl) Try.underlying22 ti3 e_5 e_6 e_7) rfl rfl trivial ?_
        clear S; intro aa S
        obtain ⟨x37, c_2, H⟩ := H
        refine OL.pure S (Lf.run_ld (S.ev rfl) fl3 (S.cl c_2)) rfl rfl trivial ?_
        clear S; intro aa S
        refine ol_cal S H isfn12 rfl rfl trivial ?_
        clear S H aa; intro u aa ww h5 H S
        obtain ⟨x38, rfl, H⟩ := H
        refine OL.pure S (Lf.run_lens (S.ev rfl) rfl Try.underlying22) rfl rfl trivial ?_
        clear S; intro aa S
        refine OL.pure S (Lf.run_move (S.ev rfl)) rfl rfl trivial ?_
        clear S; intro aa S
        refine OL.nil ?_
        refine W.block ?_
        obtain ⟨I_1, m_1, H, HB⟩ := H
        refine W.loopS (σ := Sv × Int × Heap) (fun s aa ww => St 68 [(0, Value.pointer b0), (3, Value.slice s23.a s23.n s23.c), (4, Value.slice s.1.a s.1.n s.1.c), (5, Value.int .i64 vat5), (38, Value.slice x38.a x38.n x38.c), (39, Value.int .i64 ((x38.n : Nat) : Int)), (40, Value.int .i64 s.2.1)] s.2.2 w0 aa ww ∧ I_1 s.1 s.2.1 s.2.2) (fun s => m_1 s.1 s.2.1 s.2.2) (todo4, 0, h5) ⟨S.sub _ ⟨rfl, rfl, rfl, rfl, rfl, rfl, rfl, trivial⟩, H⟩ ?_
        clear H S aa
        rintro ⟨todo4_1, x40, h6⟩ aa ww ⟨S, HI⟩
        replace S : St 68 [(0, Value.pointer b0), (3, Value.slice s23.a s23.n s23.c), (4, Value.slice todo4_1.a todo4_1.n todo4_1.c), (5, Value.int .i64 vat5), (38, Value.slice x38.a x38.n x38.c), (39, Value.int .i64 ((x38.n : Nat) : Int)), (40, Value.int .i64 x40)] h6 w0 aa ww := S
        have H := HB todo4_1 x40 h6 HI
        clear HI
        refine W.seq ?_
        replace S := S.sub [(0, Value.pointer b0), (3, Value.slice s23.a s23.n s23.c), (4, Value.slice todo4_1.a todo4_1.n todo4_1.c), (5, Value.int .i64 vat5), (38, Value.slice x38.a x38.n x38.c), (39, Value.int .i64 ((x38.n : Nat) : Int)), (40, Value.int .i64 x40)] ⟨rfl, rfl, rfl, rfl, rfl, rfl, rfl, trivial⟩
        refine W.region ?_
        refine OL.pure S (Lf.run_lss (S.ev rfl) (S.ev rfl)) rfl rfl trivial ?_
        clear S; intro aa S
        refine OL.nil ?_
        refine W.seq ?_
        refine W.cond S (b := (decide (x40 < ((x38.n : Nat) : Int)))) rfl (fun hb_3 => ?_) (fun hb_3 => ?_)
        · replace H := H.1 hb_3
          refine W.skip ?_
          obtain ⟨J_1, H, HK_1⟩ := H
          refine W.seqJ (fun aa ww => ∃ todo4_2 h10, St 68 [(0, Value.pointer b0), (3, Value.slice s23.a s23.n s23.c), (4, Value.slice todo4_2.a todo4_2.n todo4_2.c), (5, Value.int .i64 vat5), (38, Value.slice x38.a x38.n x38.c), (39, Value.int .i64 ((x38.n : Nat) : Int)), (40, Value.int .i64 x40)] h10 w0 aa ww ∧ J_1 todo4_2 h10) ?_ ?_
          · clear HK_1
            refine W.block ?_
            refine W.seq ?_
            replace S := S.sub [(0, Value.pointer b0), (3, Value.slice s23.a s23.n s23.c), (4, Value.slice todo4_1.a todo4_1.n todo4_1.c), (5, Value.int .i64 vat5), (38, Value.slice x38.a x38.n x38.c), (39, Value.int .i64 ((x38.n : Nat) : Int)), (40, Value.int .i64 x40)] ⟨rfl, rfl, rfl, rfl, rfl, rfl, rfl, trivial⟩
            refine W.region ?_
            obtain ⟨q42, e_8, e_9, e_10, H⟩ := H
            refine OL.pure S (Lf.run_ixs (S.ev rfl) (S.ev rfl) Try.underlying22 ti3 e_8 e_9 e_10) rfl rfl trivial ?_
            clear S; intro aa S
            obtain ⟨x43, c_3, H⟩ := H
            refine OL.pure S (Lf.run_ld (S.ev rfl) fl3 (S.cl c_3)) rfl rfl trivial ?_
            clear S; intro aa S
            refine OL.pure S (Lf.run_assign (S.ev rfl)) rfl rfl trivial ?_
            clear S; intro aa S
            refine OL.nil ?_
            refine W.seq ?_
            replace S := S.sub [(0, Value.pointer b0), (3, Value.slice s23.a s23.n s23.c), (4, Value.slice todo4_1.a todo4_1.n todo4_1.c), (5, Value.int .i64 vat5), (7, Value.int .i64 x43), (38, Value.slice x38.a x38.n x38.c), (39, Value.int .i64 ((x38.n : Nat) : Int)), (40, Value.int .i64 x40)] ⟨rfl, rfl, rfl, rfl, rfl, rfl, rfl, rfl, trivial⟩
            refine W.region ?_
            refine OL.pure S (Lf.run_move (S.ev rfl)) rfl rfl trivial ?_
            clear S; intro aa S
            refine OL.pure S (Lf.run_geq (S.ev rfl) (S.ev rfl)) rfl rfl trivial ?_
            clear S; intro aa S
            refine OL.pure S (Lf.run_move (S.ev rfl)) rfl rfl trivial ?_
            clear S; intro aa S
            refine OL.cutN 5 (fun aa ww => St 68 ((51, Value.bool ((decide (0 ≤ x43)) && (decide (x43 < ((s23.n : Nat) : Int))))) :: [(0, Value.pointer b0), (3, Value.slice s23.a s23.n s23.c), (4, Value.slice todo4_1.a todo4_1.n todo4_1.c), (5, Value.int .i64 vat5), (7, Value.int .i64 x43), (38, Value.slice x38.a x38.n x38.c), (39, Value.int .i64 ((x38.n : Nat) : Int)), (40, Value.int .i64 x40), (44, Value.int .i64 x43), (45, Value.bool (decide (0 ≤ x43))), (46, Value.bool (decide (0 ≤ x43)))]) h6 w0 aa ww) ?_ ?_
            · rcases Bool.eq_false_or_eq_true (decide (0 ≤ x43)) with hb_4 | hb_4
              · refine OL.pure S (Lf.run_move (S.ev rfl)) rfl rfl (GOk.mk rfl rfl hb_4) ?_
                clear S; intro aa S
                refine OL.pure S (Lf.run_move (S.ev rfl)) rfl rfl (GOk.mk rfl rfl hb_4) ?_
                clear S; intro aa S
                refine OL.pure S (Lf.run_lens (S.ev rfl) rfl Try.underlying35) rfl rfl (GOk.mk rfl rfl hb_4) ?_
                clear S; intro aa S
                refine OL.pure S (Lf.run_lss (S.ev rfl) (S.ev rfl)) rfl rfl (GOk.mk rfl rfl hb_4) ?_
                clear S; intro aa S
                refine OL.pure S (Lf.run_pickT (S.ev rfl) hb_4 (S.ev rfl)) rfl rfl trivial ?_
                clear S; intro aa S
                refine OL.nil ?_
                exact (S.hd (by rw [hb_4, Bool.true_and])).sub _ ⟨rfl, rfl, rfl, rfl, rfl, rfl, rfl, rfl, rfl, rfl, rfl, rfl, trivial⟩
              · refine OL.not S rfl rfl (GNo.mk rfl rfl hb_4) ?_
                clear S; intro aa S
                refine OL.not S rfl rfl (GNo.mk rfl rfl hb_4) ?_
                clear S; intro aa S
                refine OL.not S rfl rfl (GNo.mk rfl rfl hb_4) ?_
                clear S; intro aa S
                refine OL.not S rfl rfl (GNo.mk rfl rfl hb_4) ?_
                clear S; intro aa S
                refine OL.pure S (Lf.run_pickF (S.ev rfl) hb_4 (S.ev rfl)) rfl rfl trivial ?_
                clear S; intro aa S
                refine OL.nil ?_
                exact (S.hd (by rw [hb_4, Bool.false_and])).sub _ ⟨rfl, rfl, rfl, rfl, rfl, rfl, rfl, rfl, rfl, rfl, rfl, rfl, trivial⟩
            · clear S aa
              intro aa ww S
              refine OL.pure S (Lf.run_move (S.ev rfl)) rfl rfl trivial ?_
              clear S; intro aa S
              obtain ⟨J_2, H, HK_2⟩ := H
              refine OL.cutN 6 (fun aa ww => ∃ x58, St 68 ((58, Value.bool x58) :: [(0, Value.pointer b0), (3, Value.slice s23.a s23.n s23.c), (4, Value.slice todo4_1.a todo4_1.n todo4_1.c), (5, Value.int .i64 vat5), (7, Value.int .i64 x43), (38, Value.slice x38.a x38.n x38.c), (39, Value.int .i64 ((x38.n : Nat) : Int)), (40, Value.int .i64 x40), (44, Value.int .i64 x43), (45, Value.bool (decide (0 ≤ x43))), (46, Value.bool (decide (0 ≤ x43))), (51, Value.bool ((decide (0 ≤ x43)) && (decide (x43 < ((s23.n : Nat) : Int))))), (52, Value.bool ((decide (0 ≤ x43)) && (decide (x43 < ((s23.n : Nat) : Int)))))]) h6 w0 aa ww ∧ J_2 x58) ?_ ?_
              · rcases Bool.eq_false_or_eq_true ((decide (0 ≤ x43)) && (decide (x43 < ((s23.n : Nat) : Int)))) with hb_5 | hb_5
                · replace H := H.1 hb_5
                  refine OL.pure S (Lf.run_move (S.ev rfl)) rfl rfl (GOk.mk rfl rfl hb_5) ?_
                  clear S; intro aa S
                  refine OL.pure S (Lf.run_move (S.ev rfl)) rfl rfl (GOk.mk rfl rfl hb_5) ?_
                  clear S; intro aa S
                  obtain ⟨q55, e_11, e_12, e_13, H⟩ := H
                  refine OL.pure S (Lf.run_ixs (S.ev rfl) (S.ev rfl) Try.underlying35 ti4 e_11 e_12 e_13) rfl rfl (GOk.mk rfl rfl hb_5) ?_
                  clear S; intro aa S
                  obtain ⟨x56, c_4, H⟩ := H
                  refine OL.pure S (Lf.run_ld (S.ev rfl) fl4 (S.cl c_4)) rfl rfl (GOk.mk rfl rfl hb_5) ?_
                  clear S; intro aa S
                  refine OL.pure S (Lf.run_not (S.ev rfl)) rfl rfl (GOk.mk rfl rfl hb_5) ?_
                  clear S; intro aa S
                  refine OL.pure S (Lf.run_pickT (S.ev rfl) hb_5 (S.ev rfl)) rfl rfl trivial ?_
                  clear S; intro aa S
                  refine OL.nil ?_
                  exact ⟨_, S.sub _ ⟨rfl, rfl, rfl, rfl, rfl, rfl, rfl, rfl, rfl, rfl, rfl, rfl, rfl, rfl, trivial⟩, H⟩
                · replace H := H.2 hb_5
                  refine OL.not S rfl rfl (GNo.mk rfl rfl hb_5) ?_
                  clear S; intro aa S
                  refine OL.not S rfl rfl (GNo.mk rfl rfl hb_5) ?_
                  clear S; intro aa S
                  refine OL.not S rfl rfl (GNo.mk rfl rfl hb_5) ?_
                  clear S; intro aa S
                  refine OL.not S rfl rfl (GNo.mk rfl rfl hb_5) ?_
                  clear S; intro aa S
                  refine OL.not S rfl rfl (GNo.mk rfl rfl hb_5) ?_
                  clear S; intro aa S
                  refine OL.pure S (Lf.run_pickF (S.ev rfl) hb_5 (S.ev rfl)) rfl rfl trivial ?_
                  clear S; intro aa S
                  refine OL.nil ?_
                  exact ⟨_, S.sub _ ⟨rfl, rfl, rfl, rfl, rfl, rfl, rfl, rfl, rfl, rfl, rfl, rfl, rfl, rfl, trivial⟩, H⟩
              · clear S aa
                rintro aa ww ⟨x58, S, HJ⟩
                replace H := HK_2 _ HJ
                clear HK_2 HJ
                refine OL.nil ?_
                refine W.cond S (b := x58) rfl (fun hb_6 => ?_) (fun hb_6 => ?_)
                · replace H := H.1 hb_6
                  refine W.seq ?_
                  replace S := S.sub [(0, Value.pointer b0), (3, Value.slice s23.a s23.n s23.c), (4, Value.slice todo4_1.a todo4_1.n todo4_1.c), (5, Value.int .i64 vat5), (7, Value.int .i64 x43), (38, Value.slice x38.a x38.n x38.c), (39, Value.int .i64 ((x38.n : Nat) : Int)), (40, Value.int .i64 x40)] ⟨rfl, rfl, rfl, rfl, rfl, rfl, rfl, rfl, trivial⟩
                  refine W.region ?_
                  refine OL.pure S (Lf.run_move (S.ev rfl)) rfl rfl trivial ?_
                  clear S; intro aa S
                  refine OL.pure S (Lf.run_move (S.ev rfl)) rfl rfl trivial ?_
                  clear S; intro aa S
                  obtain ⟨q61, e_14, e_15, e_16, H⟩ := H
                  refine OL.pure S (Lf.run_ixs (S.ev rfl) (S.ev rfl) Try.underlying35 ti4 e_14 e_15 e_16) rfl rfl trivial ?_
                  clear S; intro aa S
                  refine ol_sto S H rfl rfl rfl ti4 trivial ?_
                  clear S H aa; intro aa ww h7 H S
                  refine OL.nil ?_
                  replace S := S.sub [(0, Value.pointer b0), (3, Value.slice s23.a s23.n s23.c), (4, Value.slice todo4_1.a todo4_1.n todo4_1.c), (5, Value.int .i64 vat5), (7, Value.int .i64 x43), (38, Value.slice x38.a x38.n x38.c), (39, Value.int .i64 ((x38.n : Nat) : Int)), (40, Value.int .i64 x40)] ⟨rfl, rfl, rfl, rfl, rfl, rfl, rfl, rfl, trivial⟩
                  refine W.region ?_
                  refine OL.pure S (Lf.run_move (S.ev rfl)) rfl rfl trivial ?_
                  clear S; intro aa S
                  refine OL.pure S (Lf.run_move (S.ev rfl)) rfl rfl trivial ?_
                  clear S; intro aa S
                  refine ol_newS S H Try.underlying22 ti3 (by decide) (parts_map S rfl) (by kernel_rfl) (by decide) rfl trivial ?_
                  clear S H aa; intro s64 aa ww h8 H S
                  refine ol_appS S H Try.underlying22 ti3 rfl rfl rfl trivial ?_
                  clear S H aa; intro s65 aa ww h9 H S
                  refine OL.pure S (Lf.run_assign (S.ev rfl)) rfl rfl trivial ?_
                  clear S; intro aa S
                  refine OL.nil ?_
                  exact ⟨s65, h9, S.sub _ ⟨rfl, rfl, rfl, rfl, rfl, rfl, rfl, trivial⟩, H⟩
                · replace H := H.2 hb_6
                  refine W.skip ?_
                  exact ⟨todo4_1, h6, S.sub _ ⟨rfl, rfl, rfl, rfl, rfl, rfl, rfl, trivial⟩, H⟩
          · clear H S aa
            rintro aa ww ⟨todo4_2, h10, S, HJ⟩
            have H := HK_1 _ _ HJ
            clear HK_1 HJ
            replace S := S.sub [(0, Value.pointer b0), (3, Value.slice s23.a s23.n s23.c), (4, Value.slice todo4_2.a todo4_2.n todo4_2.c), (5, Value.int .i64 vat5), (38, Value.slice x38.a x38.n x38.c), (39, Value.int .i64 ((x38.n : Nat) : Int)), (40, Value.int .i64 x40)] ⟨rfl, rfl, rfl, rfl, rfl, rfl, rfl, trivial⟩
            refine W.region ?_
            refine OL.pure S (Lf.run_add (S.ev rfl) (S.ev rfl)) rfl rfl trivial ?_
            clear S; intro aa S
            refine OL.pure S (Lf.run_move (S.ev rfl)) rfl rfl trivial ?_
            clear S; intro aa S
            refine OL.nil ?_
            exact ⟨(todo4_2, (IntKind.i64.wrap (x40 + 1)), h10), ⟨S.sub _ ⟨rfl, rfl, rfl, rfl, rfl, rfl, rfl, trivial⟩, H.1⟩, H.2⟩
        · replace H := H.2 hb_3
          refine W.exit_ ?_
          refine xhit ?_
          replace S := S.sub [(0, Value.pointer b0), (3, Value.slice s23.a s23.n s23.c), (4, Value.slice todo4_1.a todo4_1.n todo4_1.c), (5, Value.int .i64 vat5)] ⟨rfl, rfl, rfl, rfl, trivial⟩
          refine W.region ?_
          refine OL.pure S (Lf.run_move (S.ev rfl)) rfl rfl trivial ?_
          clear S; intro aa S
          refine OL.pure S (Lf.run_add (S.ev rfl) (S.ev rfl)) rfl rfl trivial ?_
          clear S; intro aa S
          refine OL.pure S (Lf.run_assign (S.ev rfl)) rfl rfl trivial ?_
          clear S; intro aa S
          refine OL.nil ?_
          exact ⟨(todo4_1, (IntKind.i64.wrap (vat5 + 1)), h6), ⟨S.sub _ ⟨rfl, rfl, rfl, rfl, trivial⟩, H.1⟩, H.2⟩
      · replace H := H.2 hb_2
        refine W.exit_ ?_
        refine xhit ?_
        refine W.seq ?_
        replace S := S.sub [(3, Value.slice s23.a s23.n s23.c)] ⟨rfl, trivial⟩
        refine W.region ?_
        refine OL.pure S (Lf.run_move (S.ev rfl)) rfl rfl trivial ?_
        clear S; intro aa S
        refine OL.pure S (Lf.run_assign (S.ev rfl)) rfl rfl trivial ?_
        clear S; intro aa S
        refine OL.nil ?_
        refine W.ret ?_
        exact Ret.one S rfl rfl H

/-- chattel chattelref14.Reach -/
def L11 (code0 : Sv) (h : Heap) (R : Value → Heap → Prop) : Prop :=
  mkS 3 (Value.int .i64 0).cells 1 8 ((code0.n : Nat) : Int) ((code0.n : Nat) : Int) h fun s10 h1 =>
  ∃ J : Heap → Prop, (
    ifb (decide (0 < ((code0.n : Nat) : Int))) (
      ixS s10 0 fun q15 =>
      sto h1 q15 (Value.int .i64 1) fun h2 =>
      J h2) (
      J h1)) ∧ (∀ h3, J h3 →
  ∃ (I : Int → Heap → Prop) (m : Int → Heap → Nat), I 0 h3 ∧ ∀ round4 h4, I round4 h4 →
  ifb (decide (round4 < ((code0.n : Nat) : Int))) (
    ∃ (I_1 : Int → Heap → Prop) (m_1 : Int → Heap → Nat), I_1 0 h4 ∧ ∀ i5 h5, I_1 i5 h5 →
    ifb (decide (i5 < ((code0.n : Nat) : Int))) (
      cal Try.prog 22 #[Value.slice code0.a code0.n code0.c, Value.int .i64 i5] h5 fun u h6 => asS u fun x30 =>
      ∃ (I_2 : Int → Heap → Prop) (m_2 : Int → Heap → Nat), I_2 0 h6 ∧ ∀ k7 h7, I_2 k7 h7 →
      ∃ J_1 : Bool → Prop, (andr (decide (k7 < ((x30.n : Nat) : Int))) (fun k =>
        ixS s10 i5 fun q38 =>
        ldI .i64 h7 (q38.add ((i5 : Int).toNat * 1)) fun x39 =>
        k (decide (0 < x39))) J_1) ∧ ∀ x41, J_1 x41 →
      ifb x41 (
        ∃ J_2 : Heap → Prop, (
          ixS x30 k7 fun q46 =>
          ldI .i64 h7 (q46.add ((k7 : Int).toNat * 1)) fun x47 =>
          ∃ J_3 : Bool → Prop, (andr (decide (0 ≤ x47)) (fun k_1 =>
            ixS x30 k7 fun q52 =>
            ldI .i64 h7 (q52.add ((k7 : Int).toNat * 1)) fun x53 =>
            k_1 (decide (x53 < ((code0.n : Nat) : Int)))) J_3) ∧ ∀ x57, J_3 x57 →
          ifb x57 (
            ixS x30 k7 fun q61 =>
            ldI .i64 h7 (q61.add ((k7 : Int).toNat * 1)) fun x62 =>
            ixS s10 x62 fun q63 =>
            sto h7 (q63.add ((x62 : Int).toNat * 1)) (Value.int .i64 1) fun h8 =>
            J_2 h8) (
            J_2 h7)) ∧ (∀ h9, J_2 h9 →
        I_2 (IntKind.i64.wrap (k7 + 1)) h9 ∧ m_2 (IntKind.i64.wrap (k7 + 1)) h9 < m_2 k7 h7)) (
        I_1 (IntKind.i64.wrap (i5 + 1)) h7 ∧ m_1 (IntKind.i64.wrap (i5 + 1)) h7 < m_1 i5 h5)) (
      I (IntKind.i64.wrap (round4 + 1)) h5 ∧ m (IntKind.i64.wrap (round4 + 1)) h5 < m round4 h4)) (
    R (Value.slice s10.a s10.n s10.c) h4))

set_option maxRecDepth 100000 in

theorem F11 {code0 h : _} {R : Value → Heap → Prop} (H : L11 code0 h R) : CallsH Try.prog 11 #[Value.slice code0.a code0.n code0.c] h R := by
  refine CallsH.enter (n := 65) Try.func11 rfl rfl rfl rfl ?_
  intro w0 aa ww S
  unfold L11 at H
  refine W.seq ?_
  replace S := S.sub [(0, Value.slice code0.a code0.n code0.c)] ⟨rfl, trivial⟩
  refine W.region ?_
  refine OL.pure S (Lf.run_assign (S.ev rfl)) rfl rfl trivial ?_
  clear S; intro aa S
  refine OL.nil ?_
  refine W.seq ?_
  replace S := S.sub [(0, Value.slice code0.a code0.n code0.c)] ⟨rfl, trivial⟩
  refine W.region ?_
  refine OL.pure S (Lf.run_move (S.ev rfl)) rfl rfl trivial ?_
  clear S; intro aa S
  refine OL.pure S (Lf.run_lens (S.ev rfl) rfl Try.underlying31) rfl rfl trivial ?_
  clear S; intro aa S
  refine ol_mkS S H Try.underlying22 ti3 rfl rfl rfl trivial ?_
  clear S H aa; intro s10 aa ww h1 H S
  refine OL.pure S (Lf.run_assign (S.ev rfl)) rfl rfl trivial ?_
  clear S; intro aa S
  refine OL.nil ?_
  obtain ⟨J, H, HK⟩ := H
  refine W.seqJ (fun aa ww => ∃ h3, St 65 [(0, Value.slice code0.a code0.n code0.c), (3, Value.slice s10.a s10.n s10.c)] h3 w0 aa ww ∧ J h3) ?_ ?_
  · clear HK
    refine W.seq ?_
    replace S := S.sub [(0, Value.slice code0.a code0.n code0.c), (3, Value.slice s10.a s10.n s10.c)] ⟨rfl, rfl, trivial⟩
    refine W.region ?_
    refine OL.pure S (Lf.run_move (S.ev rfl)) rfl rfl trivial ?_
    clear S; intro aa S
    refine OL.pure S (Lf.run_lens (S.ev rfl) rfl Try.underlying31) rfl rfl trivial ?_
    clear S; intro aa S
    refine OL.pure S (Lf.run_gtr (S.ev rfl) (S.ev rfl)) rfl rfl trivial ?_
    clear S; intro aa S
    refine OL.nil ?_
    refine W.cond S (b := (decide (0 < ((code0.n : Nat) : Int)))) rfl (fun hb => ?_) (fun hb => ?_)
    · replace H := H.1 hb
      replace S := S.sub [(0, Value.slice code0.a code0.n code0.c), (3, Value.slice s10.a s10.n s10.c)] ⟨rfl, rfl, trivial⟩
      refine W.region ?_
      refine OL.pure S (Lf.run_move (S.ev rfl)) rfl rfl trivial ?_
      clear S; intro aa S
      obtain ⟨q15, e, e_1, e_2, H⟩ := H
      refine OL.pure S (Lf.run_ixs (S.ev rfl) (S.ev rfl) Try.underlying22 ti3 e e_1 e_2) rfl rfl trivial ?_
      clear S; intro aa S
      refine ol_sto S H rfl rfl rfl ti3 trivial ?_
      clear S H aa; intro aa ww h2 H S
      refine OL.nil ?_
      exact ⟨h2, S.sub _ ⟨rfl, rfl, trivial⟩, H⟩
    · replace H := H.2 hb
      refine W.skip ?_
      exact ⟨h1, S.sub _ ⟨rfl, rfl, trivial⟩, H⟩
  · clear H S aa
    rintro aa ww ⟨h3, S, HJ⟩
    have H := HK _ HJ
    clear HK HJ
    refine W.seq ?_
    refine W.seq ?_
    replace S := S.sub [(0, Value.slice code0.a code0.n code0.c), (3, Value.slice s10.a s10.n s10.c)] ⟨rfl, rfl, trivial⟩
    refine W.region ?_
    refine OL.pure S (Lf.run_assign (S.ev rfl)) rfl rfl trivial ?_
    clear S; intro aa S
    refine OL.nil ?_
    refine W.block ?_
    obtain ⟨I, m, H, HB_2⟩ := H
    refine W.loopS (σ := Int × Heap) (fun s aa ww => St 65 [(0, Value.slice code0.a code0.n code0.c), (3, Value.slice s10.a s10.n s10.c), (4, Value.int .i64 s.1)] s.2 w0 aa ww ∧ I s.1 s.2) (fun s => m s.1 s.2) (0, h3) ⟨S.sub _ ⟨rfl, rfl, rfl, trivial⟩, H⟩ ?_
    clear H S aa
    rintro ⟨round4, h4⟩ aa ww ⟨S, HI⟩
    replace S : St 65 [(0, Value.slice code0.a code0.n code0.c), (3, Value.slice s10.a s10.n s10.c), (4, Value.int .i64 round4)] h4 w0 aa ww := S
    have H := HB_2 round4 h4 HI
    clear HI
    refine W.seq ?_
    refine W.seq ?_
    replace S := S.sub [(0, Value.slice code0.a code0.n code0.c), (3, Value.slice s10.a s10.n s10.c), (4, Value.int .i64 round4)] ⟨rfl, rfl, rfl, trivial⟩
    refine W.region ?_
    refine OL.pure S (Lf.run_move (S.ev rfl)) rfl rfl trivial ?_
    clear S; intro aa S
    refine OL.pure S (Lf.run_move (S.ev rfl)) rfl rfl trivial ?_
    clear S; intro aa S
    refine OL.pure S (Lf.run_lens (S.ev rfl) rfl Try.underlying31) rfl rfl trivial ?_
    clear S; intro aa S
    refine OL.pure S (Lf.run_lss (S.ev rfl) (S.ev rfl)) rfl rfl trivial ?_
    clear S; intro aa S
    refine OL.nil ?_
    refine W.cond S (b := (decide (round4 < ((code0.n : Nat) : Int)))) rfl (fun hb_1 => ?_) (fun hb_1 => ?_)
    · replace H := H.1 hb_1
      refine W.skip ?_
      refine W.seq ?_
      refine W.block ?_
      refine W.seq ?_
      replace S := S.sub [(0, Value.slice code0.a code0.n code0.c), (3, Value.slice s10.a s10.n s10.c), (4, Value.int .i64 round4)] ⟨rfl, rfl, rfl, trivial⟩
      refine W.region ?_
      refine OL.pure S (Lf.run_assign (S.ev rfl)) rfl rfl trivial ?_
      clear S; intro aa S
      refine OL.nil ?_
      refine W.block ?_
      obtain ⟨I_1, m_1, H, HB_1⟩ := H
      refine W.loopS (σ := Int × Heap) (fun s aa ww => St 65 [(0, Value.slice code0.a code0.n code0.c), (3, Value.slice s10.a s10.n s10.c), (4, Value.int .i64 round4), (5, Value.int .i64 s.1)] s.2 w0 aa ww ∧ I_1 s.1 s.2) (fun s => m_1 s.1 s.2) (0, h4) ⟨S.sub _ ⟨rfl, rfl, rfl, rfl, trivial⟩, H⟩ ?_
      clear H S aa
      rintro ⟨i5, h5⟩ aa ww ⟨S, HI⟩
      replace S : St 65 [(0, Value.slice code0.a code0.n code0.c), (3, Value.slice s10.a s10.n s10.c), (4, Value.int .i64 round4), (5, Value.int .i64 i5)] h5 w0 aa ww := S
      have H := HB_1 i5 h5 HI
      clear HI
      refine W.seq ?_
      refine W.seq ?_
      replace S := S.sub [(0, Value.slice code0.a code0.n code0.c), (3, Value.slice s10.a s10.n s10.c), (4, Value.int .i64 round4), (5, Value.int .i64 i5)] ⟨rfl, rfl, rfl, rfl, trivial⟩
      refine W.region ?_
      refine OL.pure S (Lf.run_move (S.ev rfl)) rfl rfl trivial ?_
      clear S; intro aa S
      refine OL.pure S (Lf.run_move (S.ev rfl)) rfl rfl trivial ?_
      clear S; intro aa S
      refine OL.pure S (Lf.run_lens (S.ev rfl) rfl Try.underlying31) rfl rfl trivial ?_
      clear S; intro aa S
      refine OL.pure S (Lf.run_lss (S.ev rfl) (S.ev rfl)) rfl rfl trivial ?_
      clear S; intro aa S
      refine OL.nil ?_
      refine W.cond S (b := (decide (i5 < ((code0.n : Nat) : Int)))) rfl (fun hb_2 => ?_) (fun hb_2 => ?_)
      · replace H := H.1 hb_2
        refine W.skip ?_
        refine W.seq ?_
        refine W.block ?_
        refine W.seq ?_
        replace S := S.sub [(0, Value.slice code0.a code0.n code0.c), (3, Value.slice s10.a s10.n s10.c), (4, Value.int .i64 round4), (5, Value.int .i64 i5)] ⟨rfl, rfl, rfl, rfl, trivial⟩
        refine W.region ?_
        refine OL.pure S (Lf.run_move (S.ev rfl)) rfl rfl trivial ?_
        clear S; intro aa S
        refine OL.pure S (Lf.run_move (S.ev rfl)) rfl rfl trivial ?_
        clear S; intro aa S
        refine ol_cal S H isfn22 rfl rfl trivial ?_
        clear S H aa; intro u aa ww h6 H S
        obtain ⟨x30, rfl, H⟩ := H
        refine OL.pure S (Lf.run_assign (S.ev rfl)) rfl rfl trivial ?_
        clear S; intro aa S
        refine OL.nil ?_
        refine W.seq ?_
        replace S := S.sub [(0, Value.slice code0.a code0.n code0.c), (3, Value.slice s10.a s10.n s10.c), (4, Value.int .i64 round4), (5, Value.int .i64 i5), (6, Value.slice x30.a x30.n x30.c)] ⟨rfl, rfl, rfl, rfl, rfl, trivial⟩
        refine W.region ?_
        refine OL.pure S (Lf.run_assign (S.ev rfl)) rfl rfl trivial ?_
        clear S; intro aa S
        refine OL.nil ?_
        refine W.block ?_
        obtain ⟨I_2, m_2, H, HB⟩ := H
        refine W.loopS (σ := Int × Heap) (fun s aa ww => St 65 [(0, Value.slice code0.a code0.n code0.c), (3, Value.slice s10.a s10.n s10.c), (4, Value.int .i64 round4), (5, Value.int .i64 i5), (6, Value.slice x30.a x30.n x30.c), (7, Value.int .i64 s.1)] s.2 w0 aa ww ∧ I_2 s.1 s.2) (fun s => m_2 s.1 s.2) (0, h6) ⟨S.sub _ ⟨rfl, rfl, rfl, rfl, rfl, rfl, trivial⟩, H⟩ ?_
        clear H S aa
        rintro ⟨k7, h7⟩ aa ww ⟨S, HI⟩
        replace S : St 65 [(0, Value.slice code0.a code0.n code0.c), (3, Value.slice s10.a s10.n s10.c), (4, Value.int .i64 round4), (5, Value.int .i64 i5), (6, Value.slice x30.a x30.n x30.c), (7, Value.int .i64 k7)] h7 w0 aa ww := S
        have H := HB k7 h7 HI
        clear HI
        refine W.seq ?_
        refine W.seq ?_
        replace S := S.sub [(0, Value.slice code0.a code0.n code0.c), (3, Value.slice s10.a s10.n s10.c), (4, Value.int .i64 round4), (5, Value.int .i64 i5), (6, Value.slice x30.a x30.n x30.c), (7, Value.int .i64 k7)] ⟨rfl, rfl, rfl, rfl, rfl, rfl, trivial⟩
        refine W.region ?_
        refine OL.pure S (Lf.run_move (S.ev rfl)) rfl rfl trivial ?_
        clear S; intro aa S
        refine OL.pure S (Lf.run_move (S.ev rfl)) rfl rfl trivial ?_
        clear S; intro aa S
        refine OL.pure S (Lf.run_lens (S.ev rfl) rfl Try.underlying22) rfl rfl trivial ?_
        clear S; intro aa S
        refine OL.pure S (Lf.run_lss (S.ev rfl) (S.ev rfl)) rfl rfl trivial ?_
        clear S; intro aa S
        refine OL.pure S (Lf.run_move (S.ev rfl)) rfl rfl trivial ?_
        clear S; intro aa S
        obtain ⟨J_1, H, HK_1⟩ := H
        refine OL.cutN 6 (fun aa ww => ∃ x41, St 65 ((41, Value.bool x41) :: [(0, Value.slice code0.a code0.n code0.c), (3, Value.slice s10.a s10.n s10.c), (4, Value.int .i64 round4), (5, Value.int .i64 i5), (6, Value.slice x30.a x30.n x30.c), (7, Value.int .i64 k7), (31, Value.int .i64 k7), (32, Value.slice x30.a x30.n x30.c), (33, Value.int .i64 ((x30.n : Nat) : Int)), (34, Value.bool (decide (k7 < ((x30.n : Nat) : Int)))), (35, Value.bool (decide (k7 < ((x30.n : Nat) : Int))))]) h7 w0 aa ww ∧ J_1 x41) ?_ ?_
        · rcases Bool.eq_false_or_eq_true (decide (k7 < ((x30.n : Nat) : Int))) with hb_3 | hb_3
          · replace H := H.1 hb_3
            refine OL.pure S (Lf.run_move (S.ev rfl)) rfl rfl (GOk.mk rfl rfl hb_3) ?_
            clear S; intro aa S
            refine OL.pure S (Lf.run_move (S.ev rfl)) rfl rfl (GOk.mk rfl rfl hb_3) ?_
            clear S; intro aa S
            obtain ⟨q38, e_3, e_4, e_5, H⟩ := H
            refine OL.pure S (Lf.run_ixs (S.ev rfl) (S.ev rfl) Try.underlying22 ti3 e_3 e_4 e_5) rfl rfl (GOk.mk rfl rfl hb_3) ?_
            clear S; intro aa S
            obtain ⟨x39, c, H⟩ := H
            refine OL.pure S (Lf.run_ld (S.ev rfl) fl3 (S.cl c)) rfl rfl (GOk.mk rfl rfl hb_3) ?_
            clear S; intro aa S
            refine OL.pure S (Lf.run_gtr (S.ev rfl) (S.ev rfl)) rfl rfl (GOk.mk rfl rfl hb_3) ?_
            clear S; intro aa S
            refine OL.pure S (Lf.run_pickT (S.ev rfl) hb_3 (S.ev rfl)) rfl rfl trivial ?_
            clear S; intro aa S
            refine OL.nil ?_
            exact ⟨_, S.sub _ ⟨rfl, rfl, rfl, rfl, rfl, rfl, rfl, rfl, rfl, rfl, rfl, rfl, trivial⟩, H⟩
          · replace H := H.2 hb_3
            refine OL.not S rfl rfl (GNo.mk rfl rfl hb_3) ?_
            clear S; intro aa S
            refine OL.not S rfl rfl (GNo.mk rfl rfl hb_3) ?_
            clear S; intro aa S
            refine OL.not S rfl rfl (GNo.mk rfl rfl hb_3) ?_
            clear S; intro aa S
            refine OL.not S rfl rfl (GNo.mk rfl rfl hb_3) ?_
            clear S; intro aa S
            refine OL.not S rfl rfl (GNo.mk rfl rfl hb_3) ?_
            clear S; intro aa S
            refine OL.pure S (Lf.run_pickF (S.ev rfl) hb_3 (S.ev rfl)) rfl rfl trivial ?_
            clear S; intro aa S
            refine OL.nil ?_
            exact ⟨_, S.sub _ ⟨rfl, rfl, rfl, rfl, rfl, rfl, rfl, rfl, rfl, rfl, rfl, rfl, trivial⟩, H⟩
        · clear S aa
          rintro aa ww ⟨x41, S, HJ⟩
          replace H := HK_1 _ HJ
          clear HK_1 HJ
          refine OL.nil ?_
          refine W.cond S (b := x41) rfl (fun hb_4 => ?_) (fun hb_4 => ?_)
          · replace H := H.1 hb_4
            refine W.skip ?_
            obtain ⟨J_2, H, HK_2⟩ := H
            refine W.seqJ (fun aa ww => ∃ h9, St 65 [(0, Value.slice code0.a code0.n code0.c), (3, Value.slice s10.a s10.n s10.c), (4, Value.int .i64 round4), (5, Value.int .i64 i5), (6, Value.slice x30.a x30.n x30.c), (7, Value.int .i64 k7)] h9 w0 aa ww ∧ J_2 h9) ?_ ?_
            · clear HK_2
              refine W.block ?_
              refine W.seq ?_
              replace S := S.sub [(0, Value.slice code0.a code0.n code0.c), (3, Value.slice s10.a s10.n s10.c), (4, Value.int .i64 round4), (5, Value.int .i64 i5), (6, Value.slice x30.a x30.n x30.c), (7, Value.int .i64 k7)] ⟨rfl, rfl, rfl, rfl, rfl, rfl, trivial⟩
              refine W.region ?_
              refine OL.pure S (Lf.run_move (S.ev rfl)) rfl rfl trivial ?_
              clear S; intro aa S
              refine OL.pure S (Lf.run_move (S.ev rfl)) rfl rfl trivial ?_
              clear S; intro aa S
              obtain ⟨q46, e_6, e_7, e_8, H⟩ := H
              refine OL.pure S (Lf.run_ixs (S.ev rfl) (S.ev rfl) Try.underlying22 ti3 e_6 e_7 e_8) rfl rfl trivial ?_
              clear S; intro aa S
              obtain ⟨x47, c_1, H⟩ := H
              refine OL.pure S (Lf.run_ld (S.ev rfl) fl3 (S.cl c_1)) rfl rfl trivial ?_
              clear S; intro aa S
              refine OL.pure S (Lf.run_geq (S.ev rfl) (S.ev rfl)) rfl rfl trivial ?_
              clear S; intro aa S
              refine OL.pure S (Lf.run_move (S.ev rfl)) rfl rfl trivial ?_
              clear S; intro aa S
              obtain ⟨J_3, H, HK_3⟩ := H
              refine OL.cutN 8 (fun aa ww => ∃ x57, St 65 ((57, Value.bool x57) :: [(0, Value.slice code0.a code0.n code0.c), (3, Value.slice s10.a s10.n s10.c), (4, Value.int .i64 round4), (5, Value.int .i64 i5), (6, Value.slice x30.a x30.n x30.c), (7, Value.int .i64 k7), (44, Value.slice x30.a x30.n x30.c), (45, Value.int .i64 k7), (46, Value.pointer (some (q46.add ((k7 : Int).toNat * 1)))), (47, Value.int .i64 x47), (48, Value.bool (decide (0 ≤ x47))), (49, Value.bool (decide (0 ≤ x47)))]) h7 w0 aa ww ∧ J_3 x57) ?_ ?_
              · rcases Bool.eq_false_or_eq_true (decide (0 ≤ x47)) with hb_5 | hb_5
                · replace H := H.1 hb_5
                  refine OL.pure S (Lf.run_move (S.ev rfl)) rfl rfl (GOk.mk rfl rfl hb_5) ?_
                  clear S; intro aa S
                  refine OL.pure S (Lf.run_move (S.ev rfl)) rfl rfl (GOk.mk rfl rfl hb_5) ?_
                  clear S; intro aa S
                  obtain ⟨q52, e_9, e_10, e_11, H⟩ := H
                  refine OL.pure S (Lf.run_ixs (S.ev rfl) (S.ev rfl) Try.underlying22 ti3 e_9 e_10 e_11) rfl rfl (GOk.mk rfl rfl hb_5) ?_
                  clear S; intro aa S
                  obtain ⟨x53, c_2, H⟩ := H
                  refine OL.pure S (Lf.run_ld (S.ev rfl) fl3 (S.cl c_2)) rfl rfl (GOk.mk rfl rfl hb_5) ?_
                  clear S; intro aa S
                  refine OL.pure S (Lf.run_move (S.ev rfl)) rfl rfl (GOk.mk rfl rfl hb_5) ?_
                  clear S; intro aa S
                  refine OL.pure S (Lf.run_lens (S.ev rfl) rfl Try.underlying31) rfl rfl (GOk.mk rfl rfl hb_5) ?_
                  clear S; intro aa S
                  refine OL.pure S (Lf.run_lss (S.ev rfl) (S.ev rfl)) rfl rfl (GOk.mk rfl rfl hb_5) ?_
                  clear S; intro aa S
                  refine OL.pure S (Lf.run_pickT (S.ev rfl) hb_5 (S.ev rfl)) rfl rfl trivial ?_
                  clear S; intro aa S
                  refine OL.nil ?_
                  exact ⟨_, S.sub _ ⟨rfl, rfl, rfl, rfl, rfl, rfl, rfl, rfl, rfl, rfl, rfl, rfl, rfl, trivial⟩, H⟩
                · replace H := H.2 hb_5
                  refine OL.not S rfl rfl (GNo.mk rfl rfl hb_5) ?_
                  clear S; intro aa S
                  refine OL.not S rfl rfl (GNo.mk rfl rfl hb_5) ?_
                  clear S; intro aa S
                  refine OL.not S rfl rfl (GNo.mk rfl rfl hb_5) ?_
                  clear S; intro aa S
                  refine OL.not S rfl rfl (GNo.mk rfl rfl hb_5) ?_
                  clear S; intro aa S
                  refine OL.not S rfl rfl (GNo.mk rfl rfl hb_5) ?_
                  clear S; intro aa S
                  refine OL.not S rfl rfl (GNo.mk rfl rfl hb_5) ?_
                  clear S; intro aa S
                  refine OL.not S rfl rfl (GNo.mk rfl rfl hb_5) ?_
                  clear S; intro aa S
                  refine OL.pure S (Lf.run_pickF (S.ev rfl) hb_5 (S.ev rfl)) rfl rfl trivial ?_
                  clear S; intro aa S
                  refine OL.nil ?_
                  exact ⟨_, S.sub _ ⟨rfl, rfl, rfl, rfl, rfl, rfl, rfl, rfl, rfl, rfl, rfl, rfl, rfl, trivial⟩, H⟩
              · clear S aa
                rintro aa ww ⟨x57, S, HJ⟩
                replace H := HK_3 _ HJ
                clear HK_3 HJ
                refine OL.nil ?_
                refine W.cond S (b := x57) rfl (fun hb_6 => ?_) (fun hb_6 => ?_)
                · replace H := H.1 hb_6
                  replace S := S.sub [(0, Value.slice code0.a code0.n code0.c), (3, Value.slice s10.a s10.n s10.c), (4, Value.int .i64 round4), (5, Value.int .i64 i5), (6, Value.slice x30.a x30.n x30.c), (7, Value.int .i64 k7)] ⟨rfl, rfl, rfl, rfl, rfl, rfl, trivial⟩
                  refine W.region ?_
                  refine OL.pure S (Lf.run_move (S.ev rfl)) rfl rfl trivial ?_
                  clear S; intro aa S
                  refine OL.pure S (Lf.run_move (S.ev rfl)) rfl rfl trivial ?_
                  clear S; intro aa S
                  refine OL.pure S (Lf.run_move (S.ev rfl)) rfl rfl trivial ?_
                  clear S; intro aa S
                  obtain ⟨q61, e_12, e_13, e_14, H⟩ := H
                  refine OL.pure S (Lf.run_ixs (S.ev rfl) (S.ev rfl) Try.underlying22 ti3 e_12 e_13 e_14) rfl rfl trivial ?_
                  clear S; intro aa S
                  obtain ⟨x62, c_3, H⟩ := H
                  refine OL.pure S (Lf.run_ld (S.ev rfl) fl3 (S.cl c_3)) rfl rfl trivial ?_
                  clear S; intro aa S
                  obtain ⟨q63, e_15, e_16, e_17, H⟩ := H
                  refine OL.pure S (Lf.run_ixs (S.ev rfl) (S.ev rfl) Try.underlying22 ti3 e_15 e_16 e_17) rfl rfl trivial ?_
                  clear S; intro aa S
                  refine ol_sto S H rfl rfl rfl ti3 trivial ?_
                  clear S H aa; intro aa ww h8 H S
                  refine OL.nil ?_
                  exact ⟨h8, S.sub _ ⟨rfl, rfl, rfl, rfl, rfl, rfl, trivial⟩, H⟩
                · replace H := H.2 hb_6
                  refine W.skip ?_
                  exact ⟨h7, S.sub _ ⟨rfl, rfl, rfl, rfl, rfl, rfl, trivial⟩, H⟩
            · clear H S aa
              rintro aa ww ⟨h9, S, HJ⟩
              have H := HK_2 _ HJ
              clear HK_2 HJ
              replace S := S.sub [(0, Value.slice code0.a code0.n code0.c), (3, Value.slice s10.a s10.n s10.c), (4, Value.int .i64 round4), (5, Value.int .i64 i5), (6, Value.slice x30.a x30.n x30.c), (7, Value.int .i64 k7)] ⟨rfl, rfl, rfl, rfl, rfl, rfl, trivial⟩
              refine W.region ?_
              refine OL.pure S (Lf.run_move (S.ev rfl)) rfl rfl trivial ?_
              clear S; intro aa S
              refine OL.pure S (Lf.run_add (S.ev rfl) (S.ev rfl)) rfl rfl trivial ?_
              clear S; intro aa S
              refine OL.pure S (Lf.run_assign (S.ev rfl)) rfl rfl trivial ?_
              clear S; intro aa S
              refine OL.nil ?_
              exact ⟨((IntKind.i64.wrap (k7 + 1)), h9), ⟨S.sub _ ⟨rfl, rfl, rfl, rfl, rfl, rfl, trivial⟩, H.1⟩, H.2⟩
          · replace H := H.2 hb_4
            refine W.exit_ ?_
            refine xhit ?_
            replace S := S.sub [(0, Value.slice code0.a code0.n code0.c), (3, Value.slice s10.a s10.n s10.c), (4, Value.int .i64 round4), (5, Value.int .i64 i5)] ⟨rfl, rfl, rfl, rfl, trivial⟩
            refine W.region ?_
            refine OL.pure S (Lf.run_move (S.ev rfl)) rfl rfl trivial ?_
            clear S; intro aa S
            refine OL.pure S (Lf.run_add (S.ev rfl) (S.ev rfl)) rfl rfl trivial ?_
            clear S; intro aa S
            refine OL.pure S (Lf.run_assign (S.ev rfl)) rfl rfl trivial ?_
            clear S; intro aa S
            refine OL.nil ?_
            exact ⟨((IntKind.i64.wrap (i5 + 1)), h7), ⟨S.sub _ ⟨rfl, rfl, rfl, rfl, trivial⟩, H.1⟩, H.2⟩
      · replace H := H.2 hb_2
        refine W.exit_ ?_
        refine xhit ?_
        replace S := S.sub [(0, Value.slice code0.a code0.n code0.c), (3, Value.slice s10.a s10.n s10.c), (4, Value.int .i64 round4)] ⟨rfl, rfl, rfl, trivial⟩
        refine W.region ?_
        refine OL.pure S (Lf.run_move (S.ev rfl)) rfl rfl trivial ?_
        clear S; intro aa S
        refine OL.pure S (Lf.run_add (S.ev rfl) (S.ev rfl)) rfl rfl trivial ?_
        clear S; intro aa S
        refine OL.pure S (Lf.run_assign (S.ev rfl)) rfl rfl trivial ?_
        clear S; intro aa S
        refine OL.nil ?_
        exact ⟨((IntKind.i64.wrap (round4 + 1)), h5), ⟨S.sub _ ⟨rfl, rfl, rfl, trivial⟩, H.1⟩, H.2⟩
    · replace H := H.2 hb_1
      refine W.exit_ ?_
      refine xhit ?_
      refine W.seq ?_
      replace S := S.sub [(3, Value.slice s10.a s10.n s10.c)] ⟨rfl, trivial⟩
      refine W.region ?_
      refine OL.pure S (Lf.run_move (S.ev rfl)) rfl rfl trivial ?_
      clear S; intro aa S
      refine OL.pure S (Lf.run_assign (S.ev rfl)) rfl rfl trivial ?_
      clear S; intro aa S
      refine OL.nil ?_
      refine W.ret ?_
      exact Ret.one S rfl rfl H

/-- chattel mir.Succ -/
def L12 (b0 : Option Addr) (i1 : Int) (h : Heap) (R : Value → Heap → Prop) : Prop :=
  ∃ J : Bool → Prop, (orr ((Option.isNone b0) || (decide (i1 < 0))) (fun k =>
    nn b0 fun p15 =>
    ldS h (p15.add 3) fun x17 =>
    k (decide (((x17.n : Nat) : Int) ≤ i1))) J) ∧ ∀ x20, J x20 →
  ifb x20 (
    R (Value.slice (⟨none, 0, 0⟩ : Sv).a (⟨none, 0, 0⟩ : Sv).n (⟨none, 0, 0⟩ : Sv).c) h) (
    nn b0 fun p22 =>
    ldS h (p22.add 3) fun x24 =>
    ixS x24 i1 fun q26 =>
    ∃ (y27 : Int) (y27_1 : Int) (y27_2 : Int) (y27_3 : Sv) (y27_4 : Int) (y27_5 : Sv) (y27_6 : Int) (y27_7 : Sv) (y27_8 : Bool) (y27_9 : ByteArray) (y27_10 : Int) (y27_11 : Sv) (y27_12 : Int) (y27_13 : Int) (y27_14 : Sv) (y27_15 : Int) (y27_16 : Int) (y27_17 : Int) (y27_18 : Int) (y27_19 : Int) (y27_20 : Int), cl h (q26.add ((i1 : Int).toNat * 21)) = some (Value.int .i64 y27) ∧ cl h ((q26.add ((i1 : Int).toNat * 21)).add 1) = some (Value.int .i64 y27_1) ∧ cl h ((q26.add ((i1 : Int).toNat * 21)).add 2) = some (Value.int .i64 y27_2) ∧ cl h ((q26.add ((i1 : Int).toNat * 21)).add 3) = some (Value.slice y27_3.a y27_3.n y27_3.c) ∧ cl h ((q26.add ((i1 : Int).toNat * 21)).add 4) = some (Value.int .i64 y27_4) ∧ cl h ((q26.add ((i1 : Int).toNat * 21)).add 5) = some (Value.slice y27_5.a y27_5.n y27_5.c) ∧ cl h ((q26.add ((i1 : Int).toNat * 21)).add 6) = some (Value.int .i64 y27_6) ∧ cl h ((q26.add ((i1 : Int).toNat * 21)).add 7) = some (Value.slice y27_7.a y27_7.n y27_7.c) ∧ cl h ((q26.add ((i1 : Int).toNat * 21)).add 8) = some (Value.bool y27_8) ∧ cl h ((q26.add ((i1 : Int).toNat * 21)).add 9) = some (Value.string y27_9) ∧ cl h ((q26.add ((i1 : Int).toNat * 21)).add 10) = some (Value.int .i64 y27_10) ∧ cl h ((q26.add ((i1 : Int).toNat * 21)).add 11) = some (Value.slice y27_11.a y27_11.n y27_11.c) ∧ cl h ((q26.add ((i1 : Int).toNat * 21)).add 12) = some (Value.int .i64 y27_12) ∧ cl h ((q26.add ((i1 : Int).toNat * 21)).add 13) = some (Value.int .i64 y27_13) ∧ cl h ((q26.add ((i1 : Int).toNat * 21)).add 14) = some (Value.slice y27_14.a y27_14.n y27_14.c) ∧ cl h ((q26.add ((i1 : Int).toNat * 21)).add 15) = some (Value.int .i64 y27_15) ∧ cl h ((q26.add ((i1 : Int).toNat * 21)).add 16) = some (Value.int .u64 y27_16) ∧ cl h ((q26.add ((i1 : Int).toNat * 21)).add 17) = some (Value.int .i64 y27_17) ∧ cl h ((q26.add ((i1 : Int).toNat * 21)).add 18) = some (Value.int .i64 y27_18) ∧ cl h ((q26.add ((i1 : Int).toNat * 21)).add 19) = some (Value.int .i64 y27_19) ∧ cl h ((q26.add ((i1 : Int).toNat * 21)).add 20) = some (Value.int .i64 y27_20) ∧
    new 61 #[Value.int .i64 0, Value.int .i64 0, Value.int .i64 0, Value.slice (⟨none, 0, 0⟩ : Sv).a (⟨none, 0, 0⟩ : Sv).n (⟨none, 0, 0⟩ : Sv).c, Value.int .i64 0, Value.slice (⟨none, 0, 0⟩ : Sv).a (⟨none, 0, 0⟩ : Sv).n (⟨none, 0, 0⟩ : Sv).c, Value.int .i64 0, Value.slice (⟨none, 0, 0⟩ : Sv).a (⟨none, 0, 0⟩ : Sv).n (⟨none, 0, 0⟩ : Sv).c, Value.bool false, Value.string (⟨#[]⟩ : ByteArray), Value.int .i64 0, Value.slice (⟨none, 0, 0⟩ : Sv).a (⟨none, 0, 0⟩ : Sv).n (⟨none, 0, 0⟩ : Sv).c, Value.int .i64 0, Value.int .i64 0, Value.slice (⟨none, 0, 0⟩ : Sv).a (⟨none, 0, 0⟩ : Sv).n (⟨none, 0, 0⟩ : Sv).c, Value.int .i64 0, Value.int .u64 0, Value.int .i64 0, Value.int .i64 0, Value.int .i64 0, Value.int .i64 0] h fun p5 h1 =>
    stoA h1 p5 [Value.int .i64 y27, Value.int .i64 y27_1, Value.int .i64 y27_2, Value.slice y27_3.a y27_3.n y27_3.c, Value.int .i64 y27_4, Value.slice y27_5.a y27_5.n y27_5.c, Value.int .i64 y27_6, Value.slice y27_7.a y27_7.n y27_7.c, Value.bool y27_8, Value.string y27_9, Value.int .i64 y27_10, Value.slice y27_11.a y27_11.n y27_11.c, Value.int .i64 y27_12, Value.int .i64 y27_13, Value.slice y27_14.a y27_14.n y27_14.c, Value.int .i64 y27_15, Value.int .u64 y27_16, Value.int .i64 y27_17, Value.int .i64 y27_18, Value.int .i64 y27_19, Value.int .i64 y27_20] fun h2 =>
    ldI .i64 h2 p5 fun x29 =>
    ifb (x29 == 4) (
      ldI .i64 h2 (p5.add 17) fun x33 =>
      newS 3 #[Value.int .i64 x33] 1 h2 fun s34 h3 =>
      R (Value.slice s34.a s34.n s34.c) h3) (
      ifb (x29 == 5) (
        ldI .i64 h2 (p5.add 17) fun x38 =>
        ldI .i64 h2 (p5.add 18) fun x40 =>
        ifb (x38 == x40) (
          ldI .i64 h2 (p5.add 17) fun x43 =>
          newS 3 #[Value.int .i64 x43] 1 h2 fun s44 h4 =>
          R (Value.slice s44.a s44.n s44.c) h4) (
          ldI .i64 h2 (p5.add 17) fun x46 =>
          ldI .i64 h2 (p5.add 18) fun x48 =>
          newS 3 #[Value.int .i64 x46, Value.int .i64 x48] 2 h2 fun s49 h5 =>
          R (Value.slice s49.a s49.n s49.c) h5)) (
        ∃ J_1 : Bool → Prop, (
          ifb (x29 == 6) (
            J_1 (x29 == 6)) (
            J_1 (x29 == 7))) ∧ (∀ x50, J_1 x50 →
        ifb x50 (
          R (Value.slice (⟨none, 0, 0⟩ : Sv).a (⟨none, 0, 0⟩ : Sv).n (⟨none, 0, 0⟩ : Sv).c) h2) (
          newS 3 #[Value.int .i64 (IntKind.i64.wrap (i1 + 1))] 1 h2 fun s55 h6 =>
          R (Value.slice s55.a s55.n s55.c) h6)))))

set_option maxRecDepth 100000 in

theorem F12 {b0 i1 h : _} {R : Value → Heap → Prop} (H : L12 b0 i1 h R) : CallsH Try.prog 12 #[Value.pointer b0, Value.int .i64 i1] h R := by
  refine CallsH.enter (n := 56) Try.func12 rfl rfl rfl rfl ?_
  intro w0 aa ww S
  unfold L12 at H
  refine W.seq ?_
  replace S := S.sub [(0, Value.pointer b0), (1, Value.int .i64 i1)] ⟨rfl, rfl, trivial⟩
  refine W.region ?_
  refine OL.pure S (Lf.run_assign (S.ev rfl)) rfl rfl trivial ?_
  clear S; intro aa S
  refine OL.nil ?_
  refine W.seq ?_
  refine W.seq ?_
  replace S := S.sub [(0, Value.pointer b0), (1, Value.int .i64 i1)] ⟨rfl, rfl, trivial⟩
  refine W.region ?_
  refine OL.pure S (Lf.run_move (S.ev rfl)) rfl rfl trivial ?_
  clear S; intro aa S
  refine OL.pure S (Lf.run_eqlpn Try.underlying37 (S.ev rfl) (S.ev rfl)) rfl rfl trivial ?_
  clear S; intro aa S
  refine OL.pure S (Lf.run_move (S.ev rfl)) rfl rfl trivial ?_
  clear S; intro aa S
  refine OL.cutN 3 (fun aa ww => St 56 ((11, Value.bool ((Option.isNone b0) || (decide (i1 < 0)))) :: [(0, Value.pointer b0), (1, Value.int .i64 i1), (6, Value.pointer b0), (7, Value.bool (Option.isNone b0)), (8, Value.bool (Option.isNone b0))]) h w0 aa ww) ?_ ?_
  · rcases Bool.eq_false_or_eq_true (Option.isNone b0) with hb | hb
    · refine OL.not S rfl rfl (GNo.mk rfl rfl hb) ?_
      clear S; intro aa S
      refine OL.not S rfl rfl (GNo.mk rfl rfl hb) ?_
      clear S; intro aa S
      refine OL.pure S (Lf.run_pickT (S.ev rfl) hb (S.ev rfl)) rfl rfl trivial ?_
      clear S; intro aa S
      refine OL.nil ?_
      exact (S.hd (by rw [hb, Bool.true_or])).sub _ ⟨rfl, rfl, rfl, rfl, rfl, rfl, trivial⟩
    · refine OL.pure S (Lf.run_move (S.ev rfl)) rfl rfl (GOk.mk rfl rfl hb) ?_
      clear S; intro aa S
      refine OL.pure S (Lf.run_lss (S.ev rfl) (S.ev rfl)) rfl rfl (GOk.mk rfl rfl hb) ?_
      clear S; intro aa S
      refine OL.pure S (Lf.run_pickF (S.ev rfl) hb (S.ev rfl)) rfl rfl trivial ?_
      clear S; intro aa S
      refine OL.nil ?_
      exact (S.hd (by rw [hb, Bool.false_or])).sub _ ⟨rfl, rfl, rfl, rfl, rfl, rfl, trivial⟩
  · clear S aa
    intro aa ww S
    refine OL.pure S (Lf.run_move (S.ev rfl)) rfl rfl trivial ?_
    clear S; intro aa S
    obtain ⟨J, H, HK⟩ := H
    refine OL.cutN 8 (fun aa ww => ∃ x20, St 56 ((20, Value.bool x20) :: [(0, Value.pointer b0), (1, Value.int .i64 i1), (6, Value.pointer b0), (7, Value.bool (Option.isNone b0)), (8, Value.bool (Option.isNone b0)), (11, Value.bool ((Option.isNone b0) || (decide (i1 < 0)))), (12, Value.bool ((Option.isNone b0) || (decide (i1 < 0))))]) h w0 aa ww ∧ J x20) ?_ ?_
    · rcases Bool.eq_false_or_eq_true ((Option.isNone b0) || (decide (i1 < 0))) with hb_1 | hb_1
      · replace H := H.1 hb_1
        refine OL.not S rfl rfl (GNo.mk rfl rfl hb_1) ?_
        clear S; intro aa S
        refine OL.not S rfl rfl (GNo.mk rfl rfl hb_1) ?_
        clear S; intro aa S
        refine OL.not S rfl rfl (GNo.mk rfl rfl hb_1) ?_
        clear S; intro aa S
        refine OL.not S rfl rfl (GNo.mk rfl rfl hb_1) ?_
        clear S; intro aa S
        refine OL.not S rfl rfl (GNo.mk rfl rfl hb_1) ?_
        clear S; intro aa S
        refine OL.not S rfl rfl (GNo.mk rfl rfl hb_1) ?_
        clear S; intro aa S
        refine OL.not S rfl rfl (GNo.mk rfl rfl hb_1) ?_
        clear S; intro aa S
        refine OL.pure S (Lf.run_pickT (S.ev rfl) hb_1 (S.ev rfl)) rfl rfl trivial ?_
        clear S; intro aa S
        refine OL.nil ?_
        exact ⟨_, S.sub _ ⟨rfl, rfl, rfl, rfl, rfl, rfl, rfl, rfl, trivial⟩, H⟩
      · replace H := H.2 hb_1
        refine OL.pure S (Lf.run_move (S.ev rfl)) rfl rfl (GOk.mk rfl rfl hb_1) ?_
        clear S; intro aa S
        refine OL.pure S (Lf.run_move (S.ev rfl)) rfl rfl (GOk.mk rfl rfl hb_1) ?_
        clear S; intro aa S
        obtain ⟨p15, e, H⟩ := H
        refine OL.pure S (Lf.run_nc' (S.ev rfl) e) rfl rfl (GOk.mk rfl rfl hb_1) ?_
        clear S; intro aa S
        refine OL.pure S (Lf.run_fa (S.ev rfl) fa33_3) rfl rfl (GOk.mk rfl rfl hb_1) ?_
        clear S; intro aa S
        obtain ⟨x17, c, H⟩ := H
        refine OL.pure S (Lf.run_ld (S.ev rfl) fl31 (S.cl c)) rfl rfl (GOk.mk rfl rfl hb_1) ?_
        clear S; intro aa S
        refine OL.pure S (Lf.run_lens (S.ev rfl) rfl Try.underlying31) rfl rfl (GOk.mk rfl rfl hb_1) ?_
        clear S; intro aa S
        refine OL.pure S (Lf.run_geq (S.ev rfl) (S.ev rfl)) rfl rfl (GOk.mk rfl rfl hb_1) ?_
        clear S; intro aa S
        refine OL.pure S (Lf.run_pickF (S.ev rfl) hb_1 (S.ev rfl)) rfl rfl trivial ?_
        clear S; intro aa S
        refine OL.nil ?_
        exact ⟨_, S.sub _ ⟨rfl, rfl, rfl, rfl, rfl, rfl, rfl, rfl, trivial⟩, H⟩
    · clear S aa
      rintro aa ww ⟨x20, S, HJ⟩
      replace H := HK _ HJ
      clear HK HJ
      refine OL.nil ?_
      refine W.cond S (b := x20) rfl (fun hb_2 => ?_) (fun hb_2 => ?_)
      · replace H := H.1 hb_2
        refine W.seq ?_
        replace S := S.sub [] trivial
        refine W.region ?_
        refine OL.pure S (Lf.run_assign (S.ev rfl)) rfl rfl trivial ?_
        clear S; intro aa S
        refine OL.nil ?_
        refine W.ret ?_
        exact Ret.one S rfl rfl H
      · replace H := H.2 hb_2
        refine W.skip ?_
        refine W.seq ?_
        refine W.seq ?_
        replace S := S.sub [(0, Value.pointer b0), (1, Value.int .i64 i1)] ⟨rfl, rfl, trivial⟩
        refine W.region ?_
        refine OL.pure S (Lf.run_move (S.ev rfl)) rfl rfl trivial ?_
        clear S; intro aa S
        obtain ⟨p22, e_1, H⟩ := H
        refine OL.pure S (Lf.run_nc' (S.ev rfl) e_1) rfl rfl trivial ?_
        clear S; intro aa S
        refine OL.pure S (Lf.run_fa (S.ev rfl) fa33_3) rfl rfl trivial ?_
        clear S; intro aa S
        obtain ⟨x24, c_1, H⟩ := H
        refine OL.pure S (Lf.run_ld (S.ev rfl) fl31 (S.cl c_1)) rfl rfl trivial ?_
        clear S; intro aa S
        refine OL.pure S (Lf.run_move (S.ev rfl)) rfl rfl trivial ?_
        clear S; intro aa S
        obtain ⟨q26, e_2, e_3, e_4, H⟩ := H
        refine OL.pure S (Lf.run_ixs (S.ev rfl) (S.ev rfl) Try.underlying31 ti61 e_2 e_3 e_4) rfl rfl trivial ?_
        clear S; intro aa S
        obtain ⟨y27, y27_1, y27_2, y27_3, y27_4, y27_5, y27_6, y27_7, y27_8, y27_9, y27_10, y27_11, y27_12, y27_13, y27_14, y27_15, y27_16, y27_17, y27_18, y27_19, y27_20, c_10, c_11, c_12, c_13, c_14, c_15, c_16, c_17, c_18, c_19, c_20, c_21, c_22, c_23, c_24, c_25, c_26, c_27, c_28, c_29, c_30, H⟩ := H
        refine OL.pure S (Lf.run_ldA (cs := [Value.int .i64 y27, Value.int .i64 y27_1, Value.int .i64 y27_2, Value.slice y27_3.a y27_3.n y27_3.c, Value.int .i64 y27_4, Value.slice y27_5.a y27_5.n y27_5.c, Value.int .i64 y27_6, Value.slice y27_7.a y27_7.n y27_7.c, Value.bool y27_8, Value.string y27_9, Value.int .i64 y27_10, Value.slice y27_11.a y27_11.n y27_11.c, Value.int .i64 y27_12, Value.int .i64 y27_13, Value.slice y27_14.a y27_14.n y27_14.c, Value.int .i64 y27_15, Value.int .u64 y27_16, Value.int .i64 y27_17, Value.int .i64 y27_18, Value.int .i64 y27_19, Value.int .i64 y27_20]) (S.ev rfl) ag61 ti61 (by rw [S.heap]; exact RowL.toRow ⟨c_10, c_11, c_12, c_13, c_14, c_15, c_16, c_17, c_18, c_19, c_20, c_21, c_22, c_23, c_24, c_25, c_26, c_27, c_28, c_29, c_30, trivial⟩)) rfl rfl trivial ?_
        clear S; intro aa S
        refine ol_alloc S H ti61 rfl rfl trivial ?_
        clear S H aa; intro p5 aa ww h1 H S
        refine ol_stoA S H rfl rfl ti61 trivial ?_
        clear S H aa; intro aa ww h2 H S
        refine OL.nil ?_
        refine W.seq ?_
        replace S := S.sub [(1, Value.int .i64 i1), (5, Value.pointer (some p5))] ⟨rfl, rfl, trivial⟩
        refine W.region ?_
        refine OL.pure S (Lf.run_fa (S.ev rfl) fa61_0) rfl rfl trivial ?_
        clear S; intro aa S
        obtain ⟨x29, c_3, H⟩ := H
        refine OL.pure S (Lf.run_ld (S.ev rfl) fl3 (S.cl c_3)) rfl rfl trivial ?_
        clear S; intro aa S
        refine OL.nil ?_
        refine W.block ?_
        refine W.seq ?_
        replace S := S.sub [(1, Value.int .i64 i1), (5, Value.pointer (some p5)), (29, Value.int .i64 x29)] ⟨rfl, rfl, rfl, trivial⟩
        refine W.region ?_
        refine OL.pure S (Lf.run_eql (S.ev rfl) (S.ev rfl)) rfl rfl trivial ?_
        clear S; intro aa S
        refine OL.pure S (Lf.run_assign (S.ev rfl)) rfl rfl trivial ?_
        clear S; intro aa S
        refine OL.nil ?_
        refine W.cond S (b := (x29 == 4)) rfl (fun hb_3 => ?_) (fun hb_3 => ?_)
        · replace H := H.1 hb_3
          refine W.seq ?_
          replace S := S.sub [(5, Value.pointer (some p5))] ⟨rfl, trivial⟩
          refine W.region ?_
          refine OL.pure S (Lf.run_fa (S.ev rfl) fa61_5) rfl rfl trivial ?_
          clear S; intro aa S
          obtain ⟨x33, c_4, H⟩ := H
          refine OL.pure S (Lf.run_ld (S.ev rfl) fl3 (S.cl c_4)) rfl rfl trivial ?_
          clear S; intro aa S
          refine ol_newS S H Try.underlying22 ti3 (by decide) (parts_map S rfl) (by kernel_rfl) (by decide) rfl trivial ?_
          clear S H aa; intro s34 aa ww h3 H S
          refine OL.pure S (Lf.run_assign (S.ev rfl)) rfl rfl trivial ?_
          clear S; intro aa S
          refine OL.nil ?_
          refine W.ret ?_
          exact Ret.one S rfl rfl H
        · replace H := H.2 hb_3
          refine W.seq ?_
          replace S := S.sub [(1, Value.int .i64 i1), (5, Value.pointer (some p5)), (29, Value.int .i64 x29)] ⟨rfl, rfl, rfl, trivial⟩
          refine W.region ?_
          refine OL.pure S (Lf.run_eql (S.ev rfl) (S.ev rfl)) rfl rfl trivial ?_
          clear S; intro aa S
          refine OL.pure S (Lf.run_assign (S.ev rfl)) rfl rfl trivial ?_
          clear S; intro aa S
          refine OL.nil ?_
          refine W.cond S (b := (x29 == 5)) rfl (fun hb_4 => ?_) (fun hb_4 => ?_)
          · replace H := H.1 hb_4
            refine W.seq ?_
            refine W.seq ?_
            replace S := S.sub [(5, Value.pointer (some p5))] ⟨rfl, trivial⟩
            refine W.region ?_
            refine OL.pure S (Lf.run_fa (S.ev rfl) fa61_5) rfl rfl trivial ?_
            clear S; intro aa S
            obtain ⟨x38, c_5, H⟩ := H
            refine OL.pure S (Lf.run_ld (S.ev rfl) fl3 (S.cl c_5)) rfl rfl trivial ?_
            clear S; intro aa S
            refine OL.pure S (Lf.run_fa (S.ev rfl) fa61_6) rfl rfl trivial ?_
            clear S; intro aa S
            obtain ⟨x40, c_6, H⟩ := H
            refine OL.pure S (Lf.run_ld (S.ev rfl) fl3 (S.cl c_6)) rfl rfl trivial ?_
            clear S; intro aa S
            refine OL.pure S (Lf.run_eql (S.ev rfl) (S.ev rfl)) rfl rfl trivial ?_
            clear S; intro aa S
            refine OL.nil ?_
            refine W.cond S (b := (x38 == x40)) rfl (fun hb_5 => ?_) (fun hb_5 => ?_)
            · replace H := H.1 hb_5
              refine W.seq ?_
              replace S := S.sub [(5, Value.pointer (some p5))] ⟨rfl, trivial⟩
              refine W.region ?_
              refine OL.pure S (Lf.run_fa (S.ev rfl) fa61_5) rfl rfl trivial ?_
              clear S; intro aa S
              obtain ⟨x43, c_7, H⟩ := H
              refine OL.pure S (Lf.run_ld (S.ev rfl) fl3 (S.cl c_7)) rfl rfl trivial ?_
              clear S; intro aa S
              refine ol_newS S H Try.underlying22 ti3 (by decide) (parts_map S rfl) (by kernel_rfl) (by decide) rfl trivial ?_
              clear S H aa; intro s44 aa ww h4 H S
              refine OL.pure S (Lf.run_assign (S.ev rfl)) rfl rfl trivial ?_
              clear S; intro aa S
              refine OL.nil ?_
              refine W.ret ?_
              exact Ret.one S rfl rfl H
            · replace H := H.2 hb_5
              refine W.skip ?_
              refine W.seq ?_
              replace S := S.sub [(5, Value.pointer (some p5))] ⟨rfl, trivial⟩
              refine W.region ?_
              refine OL.pure S (Lf.run_fa (S.ev rfl) fa61_5) rfl rfl trivial ?_
              clear S; intro aa S
              obtain ⟨x46, c_8, H⟩ := H
              refine OL.pure S (Lf.run_ld (S.ev rfl) fl3 (S.cl c_8)) rfl rfl trivial ?_
              clear S; intro aa S
              refine OL.pure S (Lf.run_fa (S.ev rfl) fa61_6) rfl rfl trivial ?_
              clear S; intro aa S
              obtain ⟨x48, c_9, H⟩ := H
              refine OL.pure S (Lf.run_ld (S.ev rfl) fl3 (S.cl c_9)) rfl rfl trivial ?_
              clear S; intro aa S
              refine ol_newS S H Try.underlying22 ti3 (by decide) (parts_map S rfl) (by kernel_rfl) (by decide) rfl trivial ?_
              clear S H aa; intro s49 aa ww h5 H S
              refine OL.pure S (Lf.run_assign (S.ev rfl)) rfl rfl trivial ?_
              clear S; intro aa S
              refine OL.nil ?_
              refine W.ret ?_
              exact Ret.one S rfl rfl H
          · replace H := H.2 hb_4
            obtain ⟨J_1, H, HK_1⟩ := H
            refine W.seqJ (fun aa ww => ∃ x50, St 56 [(1, Value.int .i64 i1), (50, Value.bool x50)] h2 w0 aa ww ∧ J_1 x50) ?_ ?_
            · clear HK_1
              refine W.seq ?_
              replace S := S.sub [(1, Value.int .i64 i1), (29, Value.int .i64 x29)] ⟨rfl, rfl, trivial⟩
              refine W.region ?_
              refine OL.pure S (Lf.run_eql (S.ev rfl) (S.ev rfl)) rfl rfl trivial ?_
              clear S; intro aa S
              refine OL.pure S (Lf.run_assign (S.ev rfl)) rfl rfl trivial ?_
              clear S; intro aa S
              refine OL.nil ?_
              refine W.cond S (b := (x29 == 6)) rfl (fun hb_6 => ?_) (fun hb_6 => ?_)
              · replace H := H.1 hb_6
                refine W.skip ?_
                exact ⟨(x29 == 6), S.sub _ ⟨rfl, rfl, trivial⟩, H⟩
              · replace H := H.2 hb_6
                replace S := S.sub [(1, Value.int .i64 i1), (29, Value.int .i64 x29)] ⟨rfl, rfl, trivial⟩
                refine W.region ?_
                refine OL.pure S (Lf.run_eql (S.ev rfl) (S.ev rfl)) rfl rfl trivial ?_
                clear S; intro aa S
                refine OL.pure S (Lf.run_assign (S.ev rfl)) rfl rfl trivial ?_
                clear S; intro aa S
                refine OL.nil ?_
                exact ⟨(x29 == 7), S.sub _ ⟨rfl, rfl, trivial⟩, H⟩
            · clear H S aa
              rintro aa ww ⟨x50, S, HJ⟩
              have H := HK_1 _ HJ
              clear HK_1 HJ
              refine W.cond S (b := x50) rfl (fun hb_7 => ?_) (fun hb_7 => ?_)
              · replace H := H.1 hb_7
                refine W.seq ?_
                replace S := S.sub [] trivial
                refine W.region ?_
                refine OL.pure S (Lf.run_assign (S.ev rfl)) rfl rfl trivial ?_
                clear S; intro aa S
                refine OL.nil ?_
                refine W.ret ?_
                exact Ret.one S rfl rfl H
              · replace H := H.2 hb_7
                refine W.skip ?_
                refine W.seq ?_
                replace S := S.sub [(1, Value.int .i64 i1)] ⟨rfl, trivial⟩
                refine W.region ?_
                refine OL.pure S (Lf.run_move (S.ev rfl)) rfl rfl trivial ?_
                clear S; intro aa S
                refine OL.pure S (Lf.run_add (S.ev rfl) (S.ev rfl)) rfl rfl trivial ?_
                clear S; intro aa S
                refine ol_newS S H Try.underlying22 ti3 (by decide) (parts_map S rfl) (by kernel_rfl) (by decide) rfl trivial ?_
                clear S H aa; intro s55 aa ww h6 H S
                refine OL.pure S (Lf.run_assign (S.ev rfl)) rfl rfl trivial ?_
                clear S; intro aa S
                refine OL.nil ?_
                refine W.ret ?_
                exact Ret.one S rfl rfl H

/-- chattel mir.Check -/
def L13 (b0 : Option Addr) (h : Heap) (R : Value → Heap → Prop) : Prop :=
  new 37 #[Value.pointer b0] h fun p1 h1 =>
  ∃ J : Bool → Prop, (
    ldP h1 p1 fun x5 =>
    ifb (Option.isNone x5) (
      J true) (
      ldP h1 p1 fun x8 =>
      nn x8 fun p9 =>
      ldI .i64 h1 (p9.add 1) fun x11 =>
      ifb (decide (x11 < 0)) (
        J true) (
        ldP h1 p1 fun x19 =>
        nn x19 fun p20 =>
        ldS h1 (p20.add 2) fun x22 =>
        ldP h1 p1 fun x15 =>
        nn x15 fun p16 =>
        ldI .i64 h1 (p16.add 1) fun x18 =>
        ifb (decide (((x22.n : Nat) : Int) ≤ x18)) (
          J true) (
          ldP h1 p1 fun x27 =>
          nn x27 fun p28 =>
          ldS h1 (p28.add 3) fun x30 =>
          J (((x30.n : Nat) : Int) == 0))))) ∧ (∀ x33, J x33 →
  ifb x33 (
    R (Value.int .i64 0) h1) (
    ldP h1 p1 fun x34 =>
    nn x34 fun p35 =>
    ldS h1 (p35.add 3) fun x37 =>
    ∃ (I : Int → Heap → Prop) (m : Int → Heap → Nat), I 0 h1 ∧ ∀ x39 h2, I x39 h2 →
    ifb (decide (x39 < ((x37.n : Nat) : Int))) (
      ixS x37 x39 fun q42 =>
      ∃ (y43 : Int) (y43_1 : Int) (y43_2 : Int) (y43_3 : Sv) (y43_4 : Int) (y43_5 : Sv) (y43_6 : Int) (y43_7 : Sv) (y43_8 : Bool) (y43_9 : ByteArray) (y43_10 : Int) (y43_11 : Sv) (y43_12 : Int) (y43_13 : Int) (y43_14 : Sv) (y43_15 : Int) (y43_16 : Int) (y43_17 : Int) (y43_18 : Int) (y43_19 : Int) (y43_20 : Int), cl h2 (q42.add ((x39 : Int).toNat * 21)) = some (Value.int .i64 y43) ∧ cl h2 ((q42.add ((x39 : Int).toNat * 21)).add 1) = some (Value.int .i64 y43_1) ∧ cl h2 ((q42.add ((x39 : Int).toNat * 21)).add 2) = some (Value.int .i64 y43_2) ∧ cl h2 ((q42.add ((x39 : Int).toNat * 21)).add 3) = some (Value.slice y43_3.a y43_3.n y43_3.c) ∧ cl h2 ((q42.add ((x39 : Int).toNat * 21)).add 4) = some (Value.int .i64 y43_4) ∧ cl h2 ((q42.add ((x39 : Int).toNat * 21)).add 5) = some (Value.slice y43_5.a y43_5.n y43_5.c) ∧ cl h2 ((q42.add ((x39 : Int).toNat * 21)).add 6) = some (Value.int .i64 y43_6) ∧ cl h2 ((q42.add ((x39 : Int).toNat * 21)).add 7) = some (Value.slice y43_7.a y43_7.n y43_7.c) ∧ cl h2 ((q42.add ((x39 : Int).toNat * 21)).add 8) = some (Value.bool y43_8) ∧ cl h2 ((q42.add ((x39 : Int).toNat * 21)).add 9) = some (Value.string y43_9) ∧ cl h2 ((q42.add ((x39 : Int).toNat * 21)).add 10) = some (Value.int .i64 y43_10) ∧ cl h2 ((q42.add ((x39 : Int).toNat * 21)).add 11) = some (Value.slice y43_11.a y43_11.n y43_11.c) ∧ cl h2 ((q42.add ((x39 : Int).toNat * 21)).add 12) = some (Value.int .i64 y43_12) ∧ cl h2 ((q42.add ((x39 : Int).toNat * 21)).add 13) = some (Value.int .i64 y43_13) ∧ cl h2 ((q42.add ((x39 : Int).toNat * 21)).add 14) = some (Value.slice y43_14.a y43_14.n y43_14.c) ∧ cl h2 ((q42.add ((x39 : Int).toNat * 21)).add 15) = some (Value.int .i64 y43_15) ∧ cl h2 ((q42.add ((x39 : Int).toNat * 21)).add 16) = some (Value.int .u64 y43_16) ∧ cl h2 ((q42.add ((x39 : Int).toNat * 21)).add 17) = some (Value.int .i64 y43_17) ∧ cl h2 ((q42.add ((x39 : Int).toNat * 21)).add 18) = some (Value.int .i64 y43_18) ∧ cl h2 ((q42.add ((x39 : Int).toNat * 21)).add 19) = some (Value.int .i64 y43_19) ∧ cl h2 ((q42.add ((x39 : Int).toNat * 21)).add 20) = some (Value.int .i64 y43_20) ∧
      new 61 #[Value.int .i64 0, Value.int .i64 0, Value.int .i64 0, Value.slice (⟨none, 0, 0⟩ : Sv).a (⟨none, 0, 0⟩ : Sv).n (⟨none, 0, 0⟩ : Sv).c, Value.int .i64 0, Value.slice (⟨none, 0, 0⟩ : Sv).a (⟨none, 0, 0⟩ : Sv).n (⟨none, 0, 0⟩ : Sv).c, Value.int .i64 0, Value.slice (⟨none, 0, 0⟩ : Sv).a (⟨none, 0, 0⟩ : Sv).n (⟨none, 0, 0⟩ : Sv).c, Value.bool false, Value.string (⟨#[]⟩ : ByteArray), Value.int .i64 0, Value.slice (⟨none, 0, 0⟩ : Sv).a (⟨none, 0, 0⟩ : Sv).n (⟨none, 0, 0⟩ : Sv).c, Value.int .i64 0, Value.int .i64 0, Value.slice (⟨none, 0, 0⟩ : Sv).a (⟨none, 0, 0⟩ : Sv).n (⟨none, 0, 0⟩ : Sv).c, Value.int .i64 0, Value.int .u64 0, Value.int .i64 0, Value.int .i64 0, Value.int .i64 0, Value.int .i64 0] h2 fun p4 h3 =>
      stoA h3 p4 [Value.int .i64 y43, Value.int .i64 y43_1, Value.int .i64 y43_2, Value.slice y43_3.a y43_3.n y43_3.c, Value.int .i64 y43_4, Value.slice y43_5.a y43_5.n y43_5.c, Value.int .i64 y43_6, Value.slice y43_7.a y43_7.n y43_7.c, Value.bool y43_8, Value.string y43_9, Value.int .i64 y43_10, Value.slice y43_11.a y43_11.n y43_11.c, Value.int .i64 y43_12, Value.int .i64 y43_13, Value.slice y43_14.a y43_14.n y43_14.c, Value.int .i64 y43_15, Value.int .u64 y43_16, Value.int .i64 y43_17, Value.int .i64 y43_18, Value.int .i64 y43_19, Value.int .i64 y43_20] fun h4 =>
      ldP h4 p1 fun x44 =>
      ∃ (y45 : Int) (y45_1 : Int) (y45_2 : Int) (y45_3 : Sv) (y45_4 : Int) (y45_5 : Sv) (y45_6 : Int) (y45_7 : Sv) (y45_8 : Bool) (y45_9 : ByteArray) (y45_10 : Int) (y45_11 : Sv) (y45_12 : Int) (y45_13 : Int) (y45_14 : Sv) (y45_15 : Int) (y45_16 : Int) (y45_17 : Int) (y45_18 : Int) (y45_19 : Int) (y45_20 : Int), cl h4 p4 = some (Value.int .i64 y45) ∧ cl h4 (p4.add 1) = some (Value.int .i64 y45_1) ∧ cl h4 (p4.add 2) = some (Value.int .i64 y45_2) ∧ cl h4 (p4.add 3) = some (Value.slice y45_3.a y45_3.n y45_3.c) ∧ cl h4 (p4.add 4) = some (Value.int .i64 y45_4) ∧ cl h4 (p4.add 5) = some (Value.slice y45_5.a y45_5.n y45_5.c) ∧ cl h4 (p4.add 6) = some (Value.int .i64 y45_6) ∧ cl h4 (p4.add 7) = some (Value.slice y45_7.a y45_7.n y45_7.c) ∧ cl h4 (p4.add 8) = some (Value.bool y45_8) ∧ cl h4 (p4.add 9) = some (Value.string y45_9) ∧ cl h4 (p4.add 10) = some (Value.int .i64 y45_10) ∧ cl h4 (p4.add 11) = some (Value.slice y45_11.a y45_11.n y45_11.c) ∧ cl h4 (p4.add 12) = some (Value.int .i64 y45_12) ∧ cl h4 (p4.add 13) = some (Value.int .i64 y45_13) ∧ cl h4 (p4.add 14) = some (Value.slice y45_14.a y45_14.n y45_14.c) ∧ cl h4 (p4.add 15) = some (Value.int .i64 y45_15) ∧ cl h4 (p4.add 16) = some (Value.int .u64 y45_16) ∧ cl h4 (p4.add 17) = some (Value.int .i64 y45_17) ∧ cl h4 (p4.add 18) = some (Value.int .i64 y45_18) ∧ cl h4 (p4.add 19) = some (Value.int .i64 y45_19) ∧ cl h4 (p4.add 20) = some (Value.int .i64 y45_20) ∧
      cal Try.prog 23 #[Value.pointer x44, Value.agg #[Value.int .i64 y45, Value.int .i64 y45_1, Value.int .i64 y45_2, Value.slice y45_3.a y45_3.n y45_3.c, Value.int .i64 y45_4, Value.slice y45_5.a y45_5.n y45_5.c, Value.int .i64 y45_6, Value.slice y45_7.a y45_7.n y45_7.c, Value.bool y45_8, Value.string y45_9, Value.int .i64 y45_10, Value.slice y45_11.a y45_11.n y45_11.c, Value.int .i64 y45_12, Value.int .i64 y45_13, Value.slice y45_14.a y45_14.n y45_14.c, Value.int .i64 y45_15, Value.int .u64 y45_16, Value.int .i64 y45_17, Value.int .i64 y45_18, Value.int .i64 y45_19, Value.int .i64 y45_20]] h4 fun u h5 => asB u fun x46 =>
      ∃ J_1 : Bool → Heap → Prop, (orj (!x46) (fun k =>
        ldP h5 p1 fun x49 =>
        cal Try.prog 12 #[Value.pointer x49, Value.int .i64 x39] h5 fun u_1 h7 => asS u_1 fun x51 =>
        cal Try.prog 24 #[Value.slice x51.a x51.n x51.c, (Value.func (.func 25) #[] #[Value.pointer (some p1)])] h7 fun u_2 h8 => asB u_2 fun x53 =>
        k x53 h8) h5 J_1) ∧ ∀ x54 h6, J_1 x54 h6 →
      ifb x54 (
        R (Value.int .i64 x39) h6) (
        I (IntKind.i64.wrap (x39 + 1)) h6 ∧ m (IntKind.i64.wrap (x39 + 1)) h6 < m x39 h2)) (
      R (Value.int .i64 (-1)) h2)))

set_option maxRecDepth 100000 in

theorem F13 {b0 h : _} {R : Value → Heap → Prop} (H : L13 b0 h R) : CallsH Try.prog 13 #[Value.pointer b0] h R := by
  refine CallsH.enter (n := 57) Try.func13 rfl rfl rfl rfl ?_
  intro w0 aa ww S
  unfold L13 at H
  refine W.seq ?_
  replace S := S.sub [(0, Value.pointer b0)] ⟨rfl, trivial⟩
  refine W.region ?_
  refine ol_box S H rfl rfl rfl trivial ?_
  clear S H aa; intro p1 aa ww h1 H S
  refine OL.pure S (Lf.run_assign (S.ev rfl)) rfl rfl trivial ?_
  clear S; intro aa S
  refine OL.nil ?_
  refine W.seq ?_
  refine W.seq ?_
  replace S := S.sub [(1, Value.pointer (some p1))] ⟨rfl, trivial⟩
  obtain ⟨J, H, HK⟩ := H
  refine W.mono (N' := fun aa ww => ∃ x33, St 57 [(1, Value.pointer (some p1)), (33, Value.bool x33)] h1 w0 aa ww ∧ J x33) ?_ ?_
  · refine W.regionD S (by kernel_rfl) ?_
    clear S; intro ww S
    obtain ⟨x5, c, H⟩ := H
    refine AN.load 0 S rfl (by kernel_rfl) (fun _ hx => Lf.run_ld (S.ev rfl) fl37 (hx.cell _ _ (S.cl c))) rfl rfl trivial ?_
    clear S; intro aa S
    refine AN.pure 1 S rfl (by kernel_rfl) (fun _ => Lf.run_eqlpn Try.underlying37 (S.ev rfl) (S.ev rfl)) rfl rfl trivial ?_
    clear S; intro aa S
    refine AN.pure 2 S rfl (by kernel_rfl) (fun _ => Lf.run_move (S.ev rfl)) rfl rfl trivial ?_
    clear S; intro aa S
    rcases Bool.eq_false_or_eq_true (Option.isNone x5) with hb | hb
    · replace H := H.1 hb
      refine AN.not 3 S rfl (by kernel_rfl) rfl rfl (GNo.mk rfl rfl hb) ?_
      clear S; intro aa S
      refine AN.not 4 S rfl (by kernel_rfl) rfl rfl (GNo.mk rfl rfl hb) ?_
      clear S; intro aa S
      refine AN.not 5 S rfl (by kernel_rfl) rfl rfl (GNo.mk rfl rfl hb) ?_
      clear S; intro aa S
      refine AN.not 6 S rfl (by kernel_rfl) rfl rfl (GNo.mk rfl rfl hb) ?_
      clear S; intro aa S
      refine AN.not 7 S rfl (by kernel_rfl) rfl rfl (GNo.mk rfl rfl hb) ?_
      clear S; intro aa S
      refine AN.pure 8 S rfl (by kernel_rfl) (fun _ => run_pickT (S.ev rfl) hb (S.ev rfl)) rfl rfl trivial ?_
      clear S; intro aa S
      refine AN.pure 9 S rfl (by kernel_rfl) (fun _ => Lf.run_move (S.ev rfl)) rfl rfl trivial ?_
      clear S; intro aa S
      have hb_4 : (true : Bool) = true := rfl
      refine AN.not 14 S rfl (by kernel_rfl) rfl rfl (GNo.mk rfl rfl hb_4) ?_
      clear S; intro aa S
      refine AN.not 15 S rfl (by kernel_rfl) rfl rfl (GNo.mk rfl rfl hb_4) ?_
      clear S; intro aa S
      refine AN.not 16 S rfl (by kernel_rfl) rfl rfl (GNo.mk rfl rfl hb_4) ?_
      clear S; intro aa S
      refine AN.not 17 S rfl (by kernel_rfl) rfl rfl (GNo.mk rfl rfl hb_4) ?_
      clear S; intro aa S
      refine AN.not 18 S rfl (by kernel_rfl) rfl rfl (GNo.mk rfl rfl hb_4) ?_
      clear S; intro aa S
      refine AN.not 10 S rfl (by kernel_rfl) rfl rfl (GNo.mk rfl rfl hb_4) ?_
      clear S; intro aa S
      refine AN.not 11 S rfl (by kernel_rfl) rfl rfl (GNo.mk rfl rfl hb_4) ?_
      clear S; intro aa S
      refine AN.not 12 S rfl (by kernel_rfl) rfl rfl (GNo.mk rfl rfl hb_4) ?_
      clear S; intro aa S
      refine AN.not 13 S rfl (by kernel_rfl) rfl rfl (GNo.mk rfl rfl hb_4) ?_
      clear S; intro aa S
      refine AN.not 19 S rfl (by kernel_rfl) rfl rfl (GNo.mk rfl rfl hb_4) ?_
      clear S; intro aa S
      refine AN.pure 20 S rfl (by kernel_rfl) (fun _ => run_pickT (S.ev rfl) hb_4 (S.ev rfl)) rfl rfl trivial ?_
      clear S; intro aa S
      refine AN.pure 21 S rfl (by kernel_rfl) (fun _ => Lf.run_move (S.ev rfl)) rfl rfl trivial ?_
      clear S; intro aa S
      have hb_5 : (true : Bool) = true := rfl
      refine AN.not 22 S rfl (by kernel_rfl) rfl rfl (GNo.mk rfl rfl hb_5) ?_
      clear S; intro aa S
      refine AN.not 23 S rfl (by kernel_rfl) rfl rfl (GNo.mk rfl rfl hb_5) ?_
      clear S; intro aa S
      refine AN.not 24 S rfl (by kernel_rfl) rfl rfl (GNo.mk rfl rfl hb_5) ?_
      clear S; intro aa S
      refine AN.not 25 S rfl (by kernel_rfl) rfl rfl (GNo.mk rfl rfl hb_5) ?_
      clear S; intro aa S
      refine AN.not 26 S rfl (by kernel_rfl) rfl rfl (GNo.mk rfl rfl hb_5) ?_
      clear S; intro aa S
      refine AN.not 27 S rfl (by kernel_rfl) rfl rfl (GNo.mk rfl rfl hb_5) ?_
      clear S; intro aa S
      refine AN.pure 28 S rfl (by kernel_rfl) (fun _ => run_pickT (S.ev rfl) hb_5 (S.ev rfl)) rfl rfl trivial ?_
      clear S; intro aa S
      refine AN.done (by kernel_rfl) ?_
      exact ⟨true, S.sub _ ⟨rfl, rfl, trivial⟩, H⟩
    · replace H := H.2 hb
      obtain ⟨x8, c_1, H⟩ := H
      refine AN.load 3 S rfl (by kernel_rfl) (fun _ hx => Lf.run_ld (S.ev rfl) fl37 (hx.cell _ _ (S.cl c_1))) rfl rfl (GOk.mk rfl rfl hb) ?_
      clear S; intro aa S
      obtain ⟨p9, e, H⟩ := H
      refine AN.pure 4 S rfl (by kernel_rfl) (fun _ => Lf.run_nc' (S.ev rfl) e) rfl rfl (GOk.mk rfl rfl hb) ?_
      clear S; intro aa S
      refine AN.pure 5 S rfl (by kernel_rfl) (fun _ => Lf.run_fa (S.ev rfl) fa33_1) rfl rfl (GOk.mk rfl rfl hb) ?_
      clear S; intro aa S
      obtain ⟨x11, c_2, H⟩ := H
      refine AN.load 6 S rfl (by kernel_rfl) (fun _ hx => Lf.run_ld (S.ev rfl) fl3 (hx.cell _ _ (S.cl c_2))) rfl rfl (GOk.mk rfl rfl hb) ?_
      clear S; intro aa S
      refine AN.pure 7 S rfl (by kernel_rfl) (fun _ => Lf.run_lss (S.ev rfl) (S.ev rfl)) rfl rfl (GOk.mk rfl rfl hb) ?_
      clear S; intro aa S
      refine AN.pure 8 S rfl (by kernel_rfl) (fun _ => run_pickF (S.ev rfl) hb (S.ev rfl)) rfl rfl trivial ?_
      clear S; intro aa S
      refine AN.pure 9 S rfl (by kernel_rfl) (fun _ => Lf.run_move (S.ev rfl)) rfl rfl trivial ?_
      clear S; intro aa S
      rcases Bool.eq_false_or_eq_true (decide (x11 < 0)) with hb_1 | hb_1
      · replace H := H.1 hb_1
        refine AN.not 14 S rfl (by kernel_rfl) rfl rfl (GNo.mk rfl rfl hb_1) ?_
        clear S; intro aa S
        refine AN.not 15 S rfl (by kernel_rfl) rfl rfl (GNo.mk rfl rfl hb_1) ?_
        clear S; intro aa S
        refine AN.not 16 S rfl (by kernel_rfl) rfl rfl (GNo.mk rfl rfl hb_1) ?_
        clear S; intro aa S
        refine AN.not 17 S rfl (by kernel_rfl) rfl rfl (GNo.mk rfl rfl hb_1) ?_
        clear S; intro aa S
        refine AN.not 18 S rfl (by kernel_rfl) rfl rfl (GNo.mk rfl rfl hb_1) ?_
        clear S; intro aa S
        refine AN.not 10 S rfl (by kernel_rfl) rfl rfl (GNo.mk rfl rfl hb_1) ?_
        clear S; intro aa S
        refine AN.not 11 S rfl (by kernel_rfl) rfl rfl (GNo.mk rfl rfl hb_1) ?_
        clear S; intro aa S
        refine AN.not 12 S rfl (by kernel_rfl) rfl rfl (GNo.mk rfl rfl hb_1) ?_
        clear S; intro aa S
        refine AN.not 13 S rfl (by kernel_rfl) rfl rfl (GNo.mk rfl rfl hb_1) ?_
        clear S; intro aa S
        refine AN.not 19 S rfl (by kernel_rfl) rfl rfl (GNo.mk rfl rfl hb_1) ?_
        clear S; intro aa S
        refine AN.pure 20 S rfl (by kernel_rfl) (fun _ => run_pickT (S.ev rfl) hb_1 (S.ev rfl)) rfl rfl trivial ?_
        clear S; intro aa S
        refine AN.pure 21 S rfl (by kernel_rfl) (fun _ => Lf.run_move (S.ev rfl)) rfl rfl trivial ?_
        clear S; intro aa S
        have hb_3 : (true : Bool) = true := rfl
        refine AN.not 22 S rfl (by kernel_rfl) rfl rfl (GNo.mk rfl rfl hb_3) ?_
        clear S; intro aa S
        refine AN.not 23 S rfl (by kernel_rfl) rfl rfl (GNo.mk rfl rfl hb_3) ?_
        clear S; intro aa S
        refine AN.not 24 S rfl (by kernel_rfl) rfl rfl (GNo.mk rfl rfl hb_3) ?_
        clear S; intro aa S
        refine AN.not 25 S rfl (by kernel_rfl) rfl rfl (GNo.mk rfl rfl hb_3) ?_
        clear S; intro aa S
        refine AN.not 26 S rfl (by kernel_rfl) rfl rfl (GNo.mk rfl rfl hb_3) ?_
        clear S; intro aa S
        refine AN.not 27 S rfl (by kernel_rfl) rfl rfl (GNo.mk rfl rfl hb_3) ?_
        clear S; intro aa S
        refine AN.pure 28 S rfl (by kernel_rfl) (fun _ => run_pickT (S.ev rfl) hb_3 (S.ev rfl)) rfl rfl trivial ?_
        clear S; intro aa S
        refine AN.done (by kernel_rfl) ?_
        exact ⟨true, S.sub _ ⟨rfl, rfl, trivial⟩, H⟩
      · replace H := H.2 hb_1
        obtain ⟨x19, c_3, H⟩ := H
        refine AN.load 14 S rfl (by kernel_rfl) (fun _ hx => Lf.run_ld (S.ev rfl) fl37 (hx.cell _ _ (S.cl c_3))) rfl rfl (GOk.mk rfl rfl hb_1) ?_
        clear S; intro aa S
        obtain ⟨p20, e_1, H⟩ := H
        refine AN.pure 15 S rfl (by kernel_rfl) (fun _ => Lf.run_nc' (S.ev rfl) e_1) rfl rfl (GOk.mk rfl rfl hb_1) ?_
        clear S; intro aa S
        refine AN.pure 16 S rfl (by kernel_rfl) (fun _ => Lf.run_fa (S.ev rfl) fa33_2) rfl rfl (GOk.mk rfl rfl hb_1) ?_
        clear S; intro aa S
        obtain ⟨x22, c_4, H⟩ := H
        refine AN.load 17 S rfl (by kernel_rfl) (fun _ hx => Lf.run_ld (S.ev rfl) fl30 (hx.cell _ _ (S.cl c_4))) rfl rfl (GOk.mk rfl rfl hb_1) ?_
        clear S; intro aa S
        refine AN.pure 18 S rfl (by kernel_rfl) (fun _ => Lf.run_lens (S.ev rfl) rfl Try.underlying30) rfl rfl (GOk.mk rfl rfl hb_1) ?_
        clear S; intro aa S
        obtain ⟨x15, c_5, H⟩ := H
        refine AN.load 10 S rfl (by kernel_rfl) (fun _ hx => Lf.run_ld (S.ev rfl) fl37 (hx.cell _ _ (S.cl c_5))) rfl rfl (GOk.mk rfl rfl hb_1) ?_
        clear S; intro aa S
        obtain ⟨p16, e_2, H⟩ := H
        refine AN.pure 11 S rfl (by kernel_rfl) (fun _ => Lf.run_nc' (S.ev rfl) e_2) rfl rfl (GOk.mk rfl rfl hb_1) ?_
        clear S; intro aa S
        refine AN.pure 12 S rfl (by kernel_rfl) (fun _ => Lf.run_fa (S.ev rfl) fa33_1) rfl rfl (GOk.mk rfl rfl hb_1) ?_
        clear S; intro aa S
        obtain ⟨x18, c_6, H⟩ := H
        refine AN.load 13 S rfl (by kernel_rfl) (fun _ hx => Lf.run_ld (S.ev rfl) fl3 (hx.cell _ _ (S.cl c_6))) rfl rfl (GOk.mk rfl rfl hb_1) ?_
        clear S; intro aa S
        refine AN.pure 19 S rfl (by kernel_rfl) (fun _ => Lf.run_geq (S.ev rfl) (S.ev rfl)) rfl rfl (GOk.mk rfl rfl hb_1) ?_
        clear S; intro aa S
        refine AN.pure 20 S rfl (by kernel_rfl) (fun _ => run_pickF (S.ev rfl) hb_1 (S.ev rfl)) rfl rfl trivial ?_
        clear S; intro aa S
        refine AN.pure 21 S rfl (by kernel_rfl) (fun _ => Lf.run_move (S.ev rfl)) rfl rfl trivial ?_
        clear S; intro aa S
        rcases Bool.eq_false_or_eq_true (decide (((x22.n : Nat) : Int) ≤ x18)) with hb_2 | hb_2
        · replace H := H.1 hb_2
          refine AN.not 22 S rfl (by kernel_rfl) rfl rfl (GNo.mk rfl rfl hb_2) ?_
          clear S; intro aa S
          refine AN.not 23 S rfl (by kernel_rfl) rfl rfl (GNo.mk rfl rfl hb_2) ?_
          clear S; intro aa S
          refine AN.not 24 S rfl (by kernel_rfl) rfl rfl (GNo.mk rfl rfl hb_2) ?_
          clear S; intro aa S
          refine AN.not 25 S rfl (by kernel_rfl) rfl rfl (GNo.mk rfl rfl hb_2) ?_
          clear S; intro aa S
          refine AN.not 26 S rfl (by kernel_rfl) rfl rfl (GNo.mk rfl rfl hb_2) ?_
          clear S; intro aa S
          refine AN.not 27 S rfl (by kernel_rfl) rfl rfl (GNo.mk rfl rfl hb_2) ?_
          clear S; intro aa S
          refine AN.pure 28 S rfl (by kernel_rfl) (fun _ => run_pickT (S.ev rfl) hb_2 (S.ev rfl)) rfl rfl trivial ?_
          clear S; intro aa S
          refine AN.done (by kernel_rfl) ?_
          exact ⟨true, S.sub _ ⟨rfl, rfl, trivial⟩, H⟩
        · replace H := H.2 hb_2
          obtain ⟨x27, c_7, H⟩ := H
          refine AN.load 22 S rfl (by kernel_rfl) (fun _ hx => Lf.run_ld (S.ev rfl) fl37 (hx.cell _ _ (S.cl c_7))) rfl rfl (GOk.mk rfl rfl hb_2) ?_
          clear S; intro aa S
          obtain ⟨p28, e_3, H⟩ := H
          refine AN.pure 23 S rfl (by kernel_rfl) (fun _ => Lf.run_nc' (S.ev rfl) e_3) rfl rfl (GOk.mk rfl rfl hb_2) ?_
          clear S; intro aa S
          refine AN.pure 24 S rfl (by kernel_rfl) (fun _ => Lf.run_fa (S.ev rfl) fa33_3) rfl rfl (GOk.mk rfl rfl hb_2) ?_
          clear S; intro aa S
          obtain ⟨x30, c_8, H⟩ := H
          refine AN.load 25 S rfl (by kernel_rfl) (fun _ hx => Lf.run_ld (S.ev rfl) fl31 (hx.cell _ _ (S.cl c_8))) rfl rfl (GOk.mk rfl rfl hb_2) ?_
          clear S; intro aa S
          refine AN.pure 26 S rfl (by kernel_rfl) (fun _ => Lf.run_lens (S.ev rfl) rfl Try.underlying31) rfl rfl (GOk.mk rfl rfl hb_2) ?_
          clear S; intro aa S
          refine AN.pure 27 S rfl (by kernel_rfl) (fun _ => Lf.run_eql (S.ev rfl) (S.ev rfl)) rfl rfl (GOk.mk rfl rfl hb_2) ?_
          clear S; intro aa S
          refine AN.pure 28 S rfl (by kernel_rfl) (fun _ => run_pickF (S.ev rfl) hb_2 (S.ev rfl)) rfl rfl trivial ?_
          clear S; intro aa S
          refine AN.done (by kernel_rfl) ?_
          exact ⟨(((x30.n : Nat) : Int) == 0), S.sub _ ⟨rfl, rfl, trivial⟩, H⟩
  · clear H S aa
    rintro aa ww ⟨x33, S, HJ⟩
    have H := HK _ HJ
    clear HK HJ
    refine W.cond S (b := x33) rfl (fun hb_6 => ?_) (fun hb_6 => ?_)
    · replace H := H.1 hb_6
      refine W.seq ?_
      replace S := S.sub [] trivial
      refine W.region ?_
      refine OL.pure S (Lf.run_assign (S.ev rfl)) rfl rfl trivial ?_
      clear S; intro aa S
      refine OL.nil ?_
      refine W.ret ?_
      exact Ret.one S rfl rfl H
    · replace H := H.2 hb_6
      refine W.skip ?_
      refine W.seq ?_
      refine W.seq ?_
      replace S := S.sub [(1, Value.pointer (some p1))] ⟨rfl, trivial⟩
      refine W.region ?_
      obtain ⟨x34, c_9, H⟩ := H
      refine OL.pure S (Lf.run_ld (S.ev rfl) fl37 (S.cl c_9)) rfl rfl trivial ?_
      clear S; intro aa S
      obtain ⟨p35, e_4, H⟩ := H
      refine OL.pure S (Lf.run_nc' (S.ev rfl) e_4) rfl rfl trivial ?_
      clear S; intro aa S
      refine OL.pure S (Lf.run_fa (S.ev rfl) fa33_3) rfl rfl trivial ?_
      clear S; intro aa S
      obtain ⟨x37, c_10, H⟩ := H
      refine OL.pure S (Lf.run_ld (S.ev rfl) fl31 (S.cl c_10)) rfl rfl trivial ?_
      clear S; intro aa S
      refine OL.pure S (Lf.run_lens (S.ev rfl) rfl Try.underlying31) rfl rfl trivial ?_
      clear S; intro aa S
      refine OL.pure S (Lf.run_move (S.ev rfl)) rfl rfl trivial ?_
      clear S; intro aa S
      refine OL.nil ?_
      refine W.block ?_
      obtain ⟨I, m, H, HB⟩ := H
      refine W.loopS (σ := Int × Heap) (fun s aa ww => St 57 [(1, Value.pointer (some p1)), (37, Value.slice x37.a x37.n x37.c), (38, Value.int .i64 ((x37.n : Nat) : Int)), (39, Value.int .i64 s.1)] s.2 w0 aa ww ∧ I s.1 s.2) (fun s => m s.1 s.2) (0, h1) ⟨S.sub _ ⟨rfl, rfl, rfl, rfl, trivial⟩, H⟩ ?_
      clear H S aa
      rintro ⟨x39, h2⟩ aa ww ⟨S, HI⟩
      replace S : St 57 [(1, Value.pointer (some p1)), (37, Value.slice x37.a x37.n x37.c), (38, Value.int .i64 ((x37.n : Nat) : Int)), (39, Value.int .i64 x39)] h2 w0 aa ww := S
      have H := HB x39 h2 HI
      clear HI
      refine W.seq ?_
      replace S := S.sub [(1, Value.pointer (some p1)), (37, Value.slice x37.a x37.n x37.c), (38, Value.int .i64 ((x37.n : Nat) : Int)), (39, Value.int .i64 x39)] ⟨rfl, rfl, rfl, rfl, trivial⟩
      refine W.region ?_
      refine OL.pure S (Lf.run_lss (S.ev rfl) (S.ev rfl)) rfl rfl trivial ?_
      clear S; intro aa S
      refine OL.nil ?_
      refine W.seq ?_
      refine W.cond S (b := (decide (x39 < ((x37.n : Nat) : Int)))) rfl (fun hb_7 => ?_) (fun hb_7 => ?_)
      · replace H := H.1 hb_7
        refine W.skip ?_
        refine W.seq ?_
        refine W.block ?_
        refine W.seq ?_
        replace S := S.sub [(1, Value.pointer (some p1)), (37, Value.slice x37.a x37.n x37.c), (38, Value.int .i64 ((x37.n : Nat) : Int)), (39, Value.int .i64 x39)] ⟨rfl, rfl, rfl, rfl, trivial⟩
        refine W.region ?_
        refine OL.pure S (Lf.run_move (S.ev rfl)) rfl rfl trivial ?_
        clear S; intro aa S
        obtain ⟨q42, e_5, e_6, e_7, H⟩ := H
        refine OL.pure S (Lf.run_ixs (S.ev rfl) (S.ev rfl) Try.underlying31 ti61 e_5 e_6 e_7) rfl rfl trivial ?_
        clear S; intro aa S
        obtain ⟨y43, y43_1, y43_2, y43_3, y43_4, y43_5, y43_6, y43_7, y43_8, y43_9, y43_10, y43_11, y43_12, y43_13, y43_14, y43_15, y43_16, y43_17, y43_18, y43_19, y43_20, c_36, c_37, c_38, c_39, c_40, c_41, c_42, c_43, c_44, c_45, c_46, c_47, c_48, c_49, c_50, c_51, c_52, c_53, c_54, c_55, c_56, H⟩ := H
        refine OL.pure S (Lf.run_ldA (cs := [Value.int .i64 y43, Value.int .i64 y43_1, Value.int .i64 y43_2, Value.slice y43_3.a y43_3.n y43_3.c, Value.int .i64 y43_4, Value.slice y43_5.a y43_5.n y43_5.c, Value.int .i64 y43_6, Value.slice y43_7.a y43_7.n y43_7.c, Value.bool y43_8, Value.string y43_9, Value.int .i64 y43_10, Value.slice y43_11.a y43_11.n y43_11.c, Value.int .i64 y43_12, Value.int .i64 y43_13, Value.slice y43_14.a y43_14.n y43_14.c, Value.int .i64 y43_15, Value.int .u64 y43_16, Value.int .i64 y43_17, Value.int .i64 y43_18, Value.int .i64 y43_19, Value.int .i64 y43_20]) (S.ev rfl) ag61 ti61 (by rw [S.heap]; exact RowL.toRow ⟨c_36, c_37, c_38, c_39, c_40, c_41, c_42, c_43, c_44, c_45, c_46, c_47, c_48, c_49, c_50, c_51, c_52, c_53, c_54, c_55, c_56, trivial⟩)) rfl rfl trivial ?_
        clear S; intro aa S
        refine ol_alloc S H ti61 rfl rfl trivial ?_
        clear S H aa; intro p4 aa ww h3 H S
        refine OL.pure S (Lf.run_assign (S.ev rfl)) rfl rfl trivial ?_
        clear S; intro aa S
        refine ol_stoA S H rfl rfl ti61 trivial ?_
        clear S H aa; intro aa ww h4 H S
        refine OL.nil ?_
        refine W.seq ?_
        replace S := S.sub [(1, Value.pointer (some p1)), (3, Value.int .i64 x39), (4, Value.pointer (some p4)), (37, Value.slice x37.a x37.n x37.c), (38, Value.int .i64 ((x37.n : Nat) : Int)), (39, Value.int .i64 x39)] ⟨rfl, rfl, rfl, rfl, rfl, rfl, trivial⟩
        refine W.region ?_
        obtain ⟨x44, c_12, H⟩ := H
        refine OL.pure S (Lf.run_ld (S.ev rfl) fl37 (S.cl c_12)) rfl rfl trivial ?_
        clear S; intro aa S
        obtain ⟨y45, y45_1, y45_2, y45_3, y45_4, y45_5, y45_6, y45_7, y45_8, y45_9, y45_10, y45_11, y45_12, y45_13, y45_14, y45_15, y45_16, y45_17, y45_18, y45_19, y45_20, c_15, c_16, c_17, c_18, c_19, c_20, c_21, c_22, c_23, c_24, c_25, c_26, c_27, c_28, c_29, c_30, c_31, c_32, c_33, c_34, c_35, H⟩ := H
        refine OL.pure S (Lf.run_ldA (cs := [Value.int .i64 y45, Value.int .i64 y45_1, Value.int .i64 y45_2, Value.slice y45_3.a y45_3.n y45_3.c, Value.int .i64 y45_4, Value.slice y45_5.a y45_5.n y45_5.c, Value.int .i64 y45_6, Value.slice y45_7.a y45_7.n y45_7.c, Value.bool y45_8, Value.string y45_9, Value.int .i64 y45_10, Value.slice y45_11.a y45_11.n y45_11.c, Value.int .i64 y45_12, Value.int .i64 y45_13, Value.slice y45_14.a y45_14.n y45_14.c, Value.int .i64 y45_15, Value.int .u64 y45_16, Value.int .i64 y45_17, Value.int .i64 y45_18, Value.int .i64 y45_19, Value.int .i64 y45_20]) (S.ev rfl) ag61 ti61 (by rw [S.heap]; exact RowL.toRow ⟨c_15, c_16, c_17, c_18, c_19, c_20, c_21, c_22, c_23, c_24, c_25, c_26, c_27, c_28, c_29, c_30, c_31, c_32, c_33, c_34, c_35, trivial⟩)) rfl rfl trivial ?_
        clear S; intro aa S
        refine ol_cal S H isfn23 rfl rfl trivial ?_
        clear S H aa; intro u aa ww h5 H S
        obtain ⟨x46, rfl, H⟩ := H
        refine OL.pure S (Lf.run_not (S.ev rfl)) rfl rfl trivial ?_
        clear S; intro aa S
        refine OL.pure S (Lf.run_move (S.ev rfl)) rfl rfl trivial ?_
        clear S; intro aa S
        obtain ⟨J_1, H, HK_1⟩ := H
        refine OL.cutN 6 (fun aa ww => ∃ x54 h6, St 57 ((54, Value.bool x54) :: [(1, Value.pointer (some p1)), (3, Value.int .i64 x39), (4, Value.pointer (some p4)), (37, Value.slice x37.a x37.n x37.c), (38, Value.int .i64 ((x37.n : Nat) : Int)), (39, Value.int .i64 x39), (44, Value.pointer x44), (45, Value.agg #[Value.int .i64 y45, Value.int .i64 y45_1, Value.int .i64 y45_2, Value.slice y45_3.a y45_3.n y45_3.c, Value.int .i64 y45_4, Value.slice y45_5.a y45_5.n y45_5.c, Value.int .i64 y45_6, Value.slice y45_7.a y45_7.n y45_7.c, Value.bool y45_8, Value.string y45_9, Value.int .i64 y45_10, Value.slice y45_11.a y45_11.n y45_11.c, Value.int .i64 y45_12, Value.int .i64 y45_13, Value.slice y45_14.a y45_14.n y45_14.c, Value.int .i64 y45_15, Value.int .u64 y45_16, Value.int .i64 y45_17, Value.int .i64 y45_18, Value.int .i64 y45_19, Value.int .i64 y45_20]), (46, Value.bool x46), (47, Value.bool (!x46)), (48, Value.bool (!x46))]) h6 w0 aa ww ∧ J_1 x54 h6) ?_ ?_
        · rcases Bool.eq_false_or_eq_true (!x46) with hb_8 | hb_8
          · replace H := H.1 hb_8
            refine OL.not S rfl rfl (GNo.mk rfl rfl hb_8) ?_
            clear S; intro aa S
            refine OL.not S rfl rfl (GNo.mk rfl rfl hb_8) ?_
            clear S; intro aa S
            refine OL.not S rfl rfl (GNo.mk rfl rfl hb_8) ?_
            clear S; intro aa S
            refine OL.not S rfl rfl (GNo.mk rfl rfl hb_8) ?_
            clear S; intro aa S
            refine OL.not S rfl rfl (GNo.mk rfl rfl hb_8) ?_
            clear S; intro aa S
            refine OL.pure S (Lf.run_pickT (S.ev rfl) hb_8 (S.ev rfl)) rfl rfl trivial ?_
            clear S; intro aa S
            refine OL.nil ?_
            exact ⟨_, _, S.sub _ ⟨rfl, rfl, rfl, rfl, rfl, rfl, rfl, rfl, rfl, rfl, rfl, rfl, trivial⟩, H⟩
          · replace H := H.2 hb_8
            obtain ⟨x49, c_14, H⟩ := H
            refine OL.pure S (Lf.run_ld (S.ev rfl) fl37 (S.cl c_14)) rfl rfl (GOk.mk rfl rfl hb_8) ?_
            clear S; intro aa S
            refine OL.pure S (Lf.run_move (S.ev rfl)) rfl rfl (GOk.mk rfl rfl hb_8) ?_
            clear S; intro aa S
            refine ol_cal S H isfn12 rfl rfl (GOk.mk rfl rfl hb_8) ?_
            clear S H aa; intro u_1 aa ww h7 H S
            obtain ⟨x51, rfl, H⟩ := H
            refine OL.pure S (Lf.run_mf (evs_map S rfl)) rfl rfl (GOk.mk rfl rfl hb_8) ?_
            clear S; intro aa S
            refine ol_cal S H isfn24 rfl rfl (GOk.mk rfl rfl hb_8) ?_
            clear S H aa; intro u_2 aa ww h8 H S
            obtain ⟨x53, rfl, H⟩ := H
            refine OL.pure S (Lf.run_pickF (S.ev rfl) hb_8 (S.ev rfl)) rfl rfl trivial ?_
            clear S; intro aa S
            refine OL.nil ?_
            exact ⟨_, _, S.sub _ ⟨rfl, rfl, rfl, rfl, rfl, rfl, rfl, rfl, rfl, rfl, rfl, rfl, trivial⟩, H⟩
        · clear S aa
          rintro aa ww ⟨x54, h6, S, HJ⟩
          replace H := HK_1 _ _ HJ
          clear HK_1 HJ
          refine OL.nil ?_
          refine W.cond S (b := x54) rfl (fun hb_9 => ?_) (fun hb_9 => ?_)
          · replace H := H.1 hb_9
            refine W.seq ?_
            replace S := S.sub [(3, Value.int .i64 x39)] ⟨rfl, trivial⟩
            refine W.region ?_
            refine OL.pure S (Lf.run_move (S.ev rfl)) rfl rfl trivial ?_
            clear S; intro aa S
            refine OL.pure S (Lf.run_assign (S.ev rfl)) rfl rfl trivial ?_
            clear S; intro aa S
            refine OL.nil ?_
            refine W.ret ?_
            exact Ret.one S rfl rfl H
          · replace H := H.2 hb_9
            refine W.skip ?_
            replace S := S.sub [(1, Value.pointer (some p1)), (37, Value.slice x37.a x37.n x37.c), (38, Value.int .i64 ((x37.n : Nat) : Int)), (39, Value.int .i64 x39)] ⟨rfl, rfl, rfl, rfl, trivial⟩
            refine W.region ?_
            refine OL.pure S (Lf.run_add (S.ev rfl) (S.ev rfl)) rfl rfl trivial ?_
            clear S; intro aa S
            refine OL.pure S (Lf.run_move (S.ev rfl)) rfl rfl trivial ?_
            clear S; intro aa S
            refine OL.nil ?_
            exact ⟨((IntKind.i64.wrap (x39 + 1)), h6), ⟨S.sub _ ⟨rfl, rfl, rfl, rfl, trivial⟩, H.1⟩, H.2⟩
      · replace H := H.2 hb_7
        refine W.exit_ ?_
        refine xhit ?_
        refine W.seq ?_
        replace S := S.sub [] trivial
        refine W.region ?_
        refine OL.pure S (Lf.run_assign (S.ev rfl)) rfl rfl trivial ?_
        clear S; intro aa S
        refine OL.nil ?_
        refine W.ret ?_
        exact Ret.one S rfl rfl H

/-- chattel mir.Accesses -/
def L14 (b0 : Option Addr) (i1 : Int) (h : Heap) (R : Value → Heap → Prop) : Prop :=
  ∃ J : Bool → Prop, (orr ((Option.isNone b0) || (decide (i1 < 0))) (fun k =>
    nn b0 fun p24 =>
    ldS h (p24.add 3) fun x26 =>
    k (decide (((x26.n : Nat) : Int) ≤ i1))) J) ∧ ∀ x29, J x29 →
  ifb x29 (
    R (Value.slice (⟨none, 0, 0⟩ : Sv).a (⟨none, 0, 0⟩ : Sv).n (⟨none, 0, 0⟩ : Sv).c) h) (
    nn b0 fun p31 =>
    ldS h (p31.add 3) fun x33 =>
    ixS x33 i1 fun q35 =>
    ∃ (y36 : Int) (y36_1 : Int) (y36_2 : Int) (y36_3 : Sv) (y36_4 : Int) (y36_5 : Sv) (y36_6 : Int) (y36_7 : Sv) (y36_8 : Bool) (y36_9 : ByteArray) (y36_10 : Int) (y36_11 : Sv) (y36_12 : Int) (y36_13 : Int) (y36_14 : Sv) (y36_15 : Int) (y36_16 : Int) (y36_17 : Int) (y36_18 : Int) (y36_19 : Int) (y36_20 : Int), cl h (q35.add ((i1 : Int).toNat * 21)) = some (Value.int .i64 y36) ∧ cl h ((q35.add ((i1 : Int).toNat * 21)).add 1) = some (Value.int .i64 y36_1) ∧ cl h ((q35.add ((i1 : Int).toNat * 21)).add 2) = some (Value.int .i64 y36_2) ∧ cl h ((q35.add ((i1 : Int).toNat * 21)).add 3) = some (Value.slice y36_3.a y36_3.n y36_3.c) ∧ cl h ((q35.add ((i1 : Int).toNat * 21)).add 4) = some (Value.int .i64 y36_4) ∧ cl h ((q35.add ((i1 : Int).toNat * 21)).add 5) = some (Value.slice y36_5.a y36_5.n y36_5.c) ∧ cl h ((q35.add ((i1 : Int).toNat * 21)).add 6) = some (Value.int .i64 y36_6) ∧ cl h ((q35.add ((i1 : Int).toNat * 21)).add 7) = some (Value.slice y36_7.a y36_7.n y36_7.c) ∧ cl h ((q35.add ((i1 : Int).toNat * 21)).add 8) = some (Value.bool y36_8) ∧ cl h ((q35.add ((i1 : Int).toNat * 21)).add 9) = some (Value.string y36_9) ∧ cl h ((q35.add ((i1 : Int).toNat * 21)).add 10) = some (Value.int .i64 y36_10) ∧ cl h ((q35.add ((i1 : Int).toNat * 21)).add 11) = some (Value.slice y36_11.a y36_11.n y36_11.c) ∧ cl h ((q35.add ((i1 : Int).toNat * 21)).add 12) = some (Value.int .i64 y36_12) ∧ cl h ((q35.add ((i1 : Int).toNat * 21)).add 13) = some (Value.int .i64 y36_13) ∧ cl h ((q35.add ((i1 : Int).toNat * 21)).add 14) = some (Value.slice y36_14.a y36_14.n y36_14.c) ∧ cl h ((q35.add ((i1 : Int).toNat * 21)).add 15) = some (Value.int .i64 y36_15) ∧ cl h ((q35.add ((i1 : Int).toNat * 21)).add 16) = some (Value.int .u64 y36_16) ∧ cl h ((q35.add ((i1 : Int).toNat * 21)).add 17) = some (Value.int .i64 y36_17) ∧ cl h ((q35.add ((i1 : Int).toNat * 21)).add 18) = some (Value.int .i64 y36_18) ∧ cl h ((q35.add ((i1 : Int).toNat * 21)).add 19) = some (Value.int .i64 y36_19) ∧ cl h ((q35.add ((i1 : Int).toNat * 21)).add 20) = some (Value.int .i64 y36_20) ∧
    new 61 #[Value.int .i64 0, Value.int .i64 0, Value.int .i64 0, Value.slice (⟨none, 0, 0⟩ : Sv).a (⟨none, 0, 0⟩ : Sv).n (⟨none, 0, 0⟩ : Sv).c, Value.int .i64 0, Value.slice (⟨none, 0, 0⟩ : Sv).a (⟨none, 0, 0⟩ : Sv).n (⟨none, 0, 0⟩ : Sv).c, Value.int .i64 0, Value.slice (⟨none, 0, 0⟩ : Sv).a (⟨none, 0, 0⟩ : Sv).n (⟨none, 0, 0⟩ : Sv).c, Value.bool false, Value.string (⟨#[]⟩ : ByteArray), Value.int .i64 0, Value.slice (⟨none, 0, 0⟩ : Sv).a (⟨none, 0, 0⟩ : Sv).n (⟨none, 0, 0⟩ : Sv).c, Value.int .i64 0, Value.int .i64 0, Value.slice (⟨none, 0, 0⟩ : Sv).a (⟨none, 0, 0⟩ : Sv).n (⟨none, 0, 0⟩ : Sv).c, Value.int .i64 0, Value.int .u64 0, Value.int .i64 0, Value.int .i64 0, Value.int .i64 0, Value.int .i64 0] h fun p6 h1 =>
    stoA h1 p6 [Value.int .i64 y36, Value.int .i64 y36_1, Value.int .i64 y36_2, Value.slice y36_3.a y36_3.n y36_3.c, Value.int .i64 y36_4, Value.slice y36_5.a y36_5.n y36_5.c, Value.int .i64 y36_6, Value.slice y36_7.a y36_7.n y36_7.c, Value.bool y36_8, Value.string y36_9, Value.int .i64 y36_10, Value.slice y36_11.a y36_11.n y36_11.c, Value.int .i64 y36_12, Value.int .i64 y36_13, Value.slice y36_14.a y36_14.n y36_14.c, Value.int .i64 y36_15, Value.int .u64 y36_16, Value.int .i64 y36_17, Value.int .i64 y36_18, Value.int .i64 y36_19, Value.int .i64 y36_20] fun h2 =>
    ∃ J_1 : Sv → Heap → Prop, (
      ldI .i64 h2 p6 fun x38 =>
      ifb (x38 == 1) (
        ldI .i64 h2 (p6.add 1) fun x42 =>
        newS 67 #[Value.int .i64 x42, Value.slice (⟨none, 0, 0⟩ : Sv).a (⟨none, 0, 0⟩ : Sv).n (⟨none, 0, 0⟩ : Sv).c, Value.int .i64 5] 1 h2 fun s45 h3 =>
        R (Value.slice s45.a s45.n s45.c) h3) (
        ifb (x38 == 2) (
          ldI .i64 h2 (p6.add 1) fun x49 =>
          newS 67 #[Value.int .i64 x49, Value.slice (⟨none, 0, 0⟩ : Sv).a (⟨none, 0, 0⟩ : Sv).n (⟨none, 0, 0⟩ : Sv).c, Value.int .i64 6] 1 h2 fun s52 h4 =>
          R (Value.slice s52.a s52.n s52.c) h4) (
          ifb (x38 == 5) (
            ∃ (y57 : Int) (y57_1 : Int) (y57_2 : Sv) (y57_3 : Int) (y57_4 : Int), cl h2 (p6.add 12) = some (Value.int .i64 y57) ∧ cl h2 ((p6.add 12).add 1) = some (Value.int .i64 y57_1) ∧ cl h2 ((p6.add 12).add 2) = some (Value.slice y57_2.a y57_2.n y57_2.c) ∧ cl h2 ((p6.add 12).add 3) = some (Value.int .i64 y57_3) ∧ cl h2 ((p6.add 12).add 4) = some (Value.int .u64 y57_4) ∧
            cal Try.prog 26 #[Value.agg #[Value.int .i64 y57, Value.int .i64 y57_1, Value.slice y57_2.a y57_2.n y57_2.c, Value.int .i64 y57_3, Value.int .u64 y57_4]] h2 fun u h5 => ∃ (y58 : Int) (y58_1 : Sv) (y58_2 : Int) (x58 : Bool), u = Value.tuple #[Value.agg #[Value.int .i64 y58, Value.slice y58_1.a y58_1.n y58_1.c, Value.int .i64 y58_2], Value.bool x58] ∧
            new 67 #[Value.int .i64 0, Value.slice (⟨none, 0, 0⟩ : Sv).a (⟨none, 0, 0⟩ : Sv).n (⟨none, 0, 0⟩ : Sv).c, Value.int .i64 0] h5 fun p7 h6 =>
            stoA h6 p7 [Value.int .i64 y58, Value.slice y58_1.a y58_1.n y58_1.c, Value.int .i64 y58_2] fun h7 =>
            ifb x58 (
              ∃ (y63 : Int) (y63_1 : Sv) (y63_2 : Int), cl h7 p7 = some (Value.int .i64 y63) ∧ cl h7 (p7.add 1) = some (Value.slice y63_1.a y63_1.n y63_1.c) ∧ cl h7 (p7.add 2) = some (Value.int .i64 y63_2) ∧
              newS 67 #[Value.int .i64 y63, Value.slice y63_1.a y63_1.n y63_1.c, Value.int .i64 y63_2] 1 h7 fun s64 h8 =>
              appS 67 (Value.agg #[Value.int .i64 0, Value.slice (⟨none, 0, 0⟩ : Sv).a (⟨none, 0, 0⟩ : Sv).n (⟨none, 0, 0⟩ : Sv).c, Value.int .i64 0]).cells 3 40 h8 (⟨none, 0, 0⟩ : Sv) s64 fun s65 h9 =>
              J_1 s65 h9) (
              J_1 (⟨none, 0, 0⟩ : Sv) h7)) (
            ifb (x38 == 6) (
              newS 67 #[Value.int .i64 0, Value.slice (⟨none, 0, 0⟩ : Sv).a (⟨none, 0, 0⟩ : Sv).n (⟨none, 0, 0⟩ : Sv).c, Value.int .i64 2] 1 h2 fun s70 h10 =>
              appS 67 (Value.agg #[Value.int .i64 0, Value.slice (⟨none, 0, 0⟩ : Sv).a (⟨none, 0, 0⟩ : Sv).n (⟨none, 0, 0⟩ : Sv).c, Value.int .i64 0]).cells 3 40 h10 (⟨none, 0, 0⟩ : Sv) s70 fun s71 h11 =>
              ∃ (I : Sv → Int → Heap → Prop) (m : Sv → Int → Heap → Nat), I s71 1 h11 ∧ ∀ l5 n9 h12, I l5 n9 h12 →
              nn b0 fun p74 =>
              ldS h12 (p74.add 2) fun x76 =>
              ifb (decide (n9 < ((x76.n : Nat) : Int))) (
                newS 67 #[Value.int .i64 n9, Value.slice (⟨none, 0, 0⟩ : Sv).a (⟨none, 0, 0⟩ : Sv).n (⟨none, 0, 0⟩ : Sv).c, Value.int .i64 6] 1 h12 fun s85 h13 =>
                appS 67 (Value.agg #[Value.int .i64 0, Value.slice (⟨none, 0, 0⟩ : Sv).a (⟨none, 0, 0⟩ : Sv).n (⟨none, 0, 0⟩ : Sv).c, Value.int .i64 0]).cells 3 40 h13 l5 s85 fun s86 h14 =>
                I s86 (IntKind.i64.wrap (n9 + 1)) h14 ∧ m s86 (IntKind.i64.wrap (n9 + 1)) h14 < m l5 n9 h12) (
                J_1 l5 h12)) (
              ifb (x38 == 3) (
                ldS h2 ((p6.add 4).add 1) fun x91 =>
                ∃ (I_1 : Sv → Int → Heap → Prop) (m_1 : Sv → Int → Heap → Nat), I_1 (⟨none, 0, 0⟩ : Sv) 0 h2 ∧ ∀ l5_1 x93 h15, I_1 l5_1 x93 h15 →
                ifb (decide (x93 < ((x91.n : Nat) : Int))) (
                  ∃ J_2 : Sv → Heap → Prop, (
                    ixS x91 x93 fun q95 =>
                    ∃ (y96 : Int) (y96_1 : Int) (y96_2 : Sv) (y96_3 : Int) (y96_4 : Int), cl h15 (q95.add ((x93 : Int).toNat * 5)) = some (Value.int .i64 y96) ∧ cl h15 ((q95.add ((x93 : Int).toNat * 5)).add 1) = some (Value.int .i64 y96_1) ∧ cl h15 ((q95.add ((x93 : Int).toNat * 5)).add 2) = some (Value.slice y96_2.a y96_2.n y96_2.c) ∧ cl h15 ((q95.add ((x93 : Int).toNat * 5)).add 3) = some (Value.int .i64 y96_3) ∧ cl h15 ((q95.add ((x93 : Int).toNat * 5)).add 4) = some (Value.int .u64 y96_4) ∧
                    new 59 #[Value.int .i64 0, Value.int .i64 0, Value.slice (⟨none, 0, 0⟩ : Sv).a (⟨none, 0, 0⟩ : Sv).n (⟨none, 0, 0⟩ : Sv).c, Value.int .i64 0, Value.int .u64 0] h15 fun p11 h16 =>
                    stoA h16 p11 [Value.int .i64 y96, Value.int .i64 y96_1, Value.slice y96_2.a y96_2.n y96_2.c, Value.int .i64 y96_3, Value.int .u64 y96_4] fun h17 =>
                    ∃ (y98 : Int) (y98_1 : Int) (y98_2 : Sv) (y98_3 : Int) (y98_4 : Int), cl h17 p11 = some (Value.int .i64 y98) ∧ cl h17 (p11.add 1) = some (Value.int .i64 y98_1) ∧ cl h17 (p11.add 2) = some (Value.slice y98_2.a y98_2.n y98_2.c) ∧ cl h17 (p11.add 3) = some (Value.int .i64 y98_3) ∧ cl h17 (p11.add 4) = some (Value.int .u64 y98_4) ∧
                    cal Try.prog 26 #[Value.agg #[Value.int .i64 y98, Value.int .i64 y98_1, Value.slice y98_2.a y98_2.n y98_2.c, Value.int .i64 y98_3, Value.int .u64 y98_4]] h17 fun u_1 h18 => ∃ (y99 : Int) (y99_1 : Sv) (y99_2 : Int) (x99 : Bool), u_1 = Value.tuple #[Value.agg #[Value.int .i64 y99, Value.slice y99_1.a y99_1.n y99_1.c, Value.int .i64 y99_2], Value.bool x99] ∧
                    new 67 #[Value.int .i64 0, Value.slice (⟨none, 0, 0⟩ : Sv).a (⟨none, 0, 0⟩ : Sv).n (⟨none, 0, 0⟩ : Sv).c, Value.int .i64 0] h18 fun p12 h19 =>
                    stoA h19 p12 [Value.int .i64 y99, Value.slice y99_1.a y99_1.n y99_1.c, Value.int .i64 y99_2] fun h20 =>
                    ifb x99 (
                      ∃ (y104 : Int) (y104_1 : Sv) (y104_2 : Int), cl h20 p12 = some (Value.int .i64 y104) ∧ cl h20 (p12.add 1) = some (Value.slice y104_1.a y104_1.n y104_1.c) ∧ cl h20 (p12.add 2) = some (Value.int .i64 y104_2) ∧
                      newS 67 #[Value.int .i64 y104, Value.slice y104_1.a y104_1.n y104_1.c, Value.int .i64 y104_2] 1 h20 fun s105 h21 =>
                      appS 67 (Value.agg #[Value.int .i64 0, Value.slice (⟨none, 0, 0⟩ : Sv).a (⟨none, 0, 0⟩ : Sv).n (⟨none, 0, 0⟩ : Sv).c, Value.int .i64 0]).cells 3 40 h21 l5_1 s105 fun s106 h22 =>
                      J_2 s106 h22) (
                      J_2 l5_1 h20)) ∧ (∀ l5_2 h23, J_2 l5_2 h23 →
                  I_1 l5_2 (IntKind.i64.wrap (x93 + 1)) h23 ∧ m_1 l5_2 (IntKind.i64.wrap (x93 + 1)) h23 < m_1 l5_1 x93 h15)) (
                  ∃ J_3 : Sv → Heap → Prop, (
                    ldI .i64 h15 (p6.add 4) fun x110 =>
                    ifb (x110 == 2) (
                      ∃ J_4 : Int → Prop, (
                        ldB h15 ((p6.add 4).add 4) fun x114 =>
                        ifb x114 (
                          J_4 3) (
                          J_4 1)) ∧ (∀ k14, J_4 k14 →
                      ∃ (y118 : Int) (y118_1 : Sv), cl h15 ((p6.add 4).add 2) = some (Value.int .i64 y118) ∧ cl h15 (((p6.add 4).add 2).add 1) = some (Value.slice y118_1.a y118_1.n y118_1.c) ∧
                      newS 67 #[Value.int .i64 y118, Value.slice y118_1.a y118_1.n y118_1.c, Value.int .i64 k14] 1 h15 fun s121 h24 =>
                      appS 67 (Value.agg #[Value.int .i64 0, Value.slice (⟨none, 0, 0⟩ : Sv).a (⟨none, 0, 0⟩ : Sv).n (⟨none, 0, 0⟩ : Sv).c, Value.int .i64 0]).cells 3 40 h24 l5_1 s121 fun s122 h25 =>
                      J_3 s122 h25)) (
                      J_3 l5_1 h15)) ∧ (∀ l5_3 h26, J_3 l5_3 h26 →
                  ∃ (y125 : Int) (y125_1 : Sv), cl h26 (p6.add 2) = some (Value.int .i64 y125) ∧ cl h26 ((p6.add 2).add 1) = some (Value.slice y125_1.a y125_1.n y125_1.c) ∧
                  newS 67 #[Value.int .i64 y125, Value.slice y125_1.a y125_1.n y125_1.c, Value.int .i64 4] 1 h26 fun s127 h27 =>
                  appS 67 (Value.agg #[Value.int .i64 0, Value.slice (⟨none, 0, 0⟩ : Sv).a (⟨none, 0, 0⟩ : Sv).n (⟨none, 0, 0⟩ : Sv).c, Value.int .i64 0]).cells 3 40 h27 l5_3 s127 fun s128 h28 =>
                  J_1 s128 h28))) (
                J_1 (⟨none, 0, 0⟩ : Sv) h2)))))) ∧ (∀ l5_4 h29, J_1 l5_4 h29 →
    R (Value.slice l5_4.a l5_4.n l5_4.c) h29))

set_option maxRecDepth 100000 in

theorem F14 {b0 i1 h : _} {R : Value → Heap → Prop} (H : L14 b0 i1 h R) : CallsH Try.prog 14 #[Value.pointer b0, Value.int .i64 i1] h R := by
  refine CallsH.enter (n := 130) Try.func14 rfl rfl rfl rfl ?_
  intro w0 aa ww S
  unfold L14 at H
  refine W.seq ?_
  replace S := S.sub [(0, Value.pointer b0), (1, Value.int .i64 i1)] ⟨rfl, rfl, trivial⟩
  refine W.region ?_
  refine OL.pure S (Lf.run_assign (S.ev rfl)) rfl rfl trivial ?_
  clear S; intro aa S
  refine OL.nil ?_
  refine W.seq ?_
  refine W.seq ?_
  replace S := S.sub [(0, Value.pointer b0), (1, Value.int .i64 i1)] ⟨rfl, rfl, trivial⟩
  refine W.region ?_
  refine OL.pure S (Lf.run_move (S.ev rfl)) rfl rfl trivial ?_
  clear S; intro aa S
  refine OL.pure S (Lf.run_eqlpn Try.underlying37 (S.ev rfl) (S.ev rfl)) rfl rfl trivial ?_
  clear S; intro aa S
  refine OL.pure S (Lf.run_move (S.ev rfl)) rfl rfl trivial ?_
  clear S; intro aa S
  refine OL.cutN 3 (fun aa ww => St 130 ((20, Value.bool ((Option.isNone b0) || (decide (i1 < 0)))) :: [(0, Value.pointer b0), (1, Value.int .i64 i1), (15, Value.pointer b0), (16, Value.bool (Option.isNone b0)), (17, Value.bool (Option.isNone b0))]) h w0 aa ww) ?_ ?_
  · rcases Bool.eq_false_or_eq_true (Option.isNone b0) with hb | hb
    · refine OL.not S rfl rfl (GNo.mk rfl rfl hb) ?_
      clear S; intro aa S
      refine OL.not S rfl rfl (GNo.mk rfl rfl hb) ?_
      clear S; intro aa S
      refine OL.pure S (Lf.run_pickT (S.ev rfl) hb (S.ev rfl)) rfl rfl trivial ?_
      clear S; intro aa S
      refine OL.nil ?_
      exact (S.hd (by rw [hb, Bool.true_or])).sub _ ⟨rfl, rfl, rfl, rfl, rfl, rfl, trivial⟩
    · refine OL.pure S (Lf.run_move (S.ev rfl)) rfl rfl (GOk.mk rfl rfl hb) ?_
      clear S; intro aa S
      refine OL.pure S (Lf.run_lss (S.ev rfl) (S.ev rfl)) rfl rfl (GOk.mk rfl rfl hb) ?_
      clear S; intro aa S
      refine OL.pure S (Lf.run_pickF (S.ev rfl) hb (S.ev rfl)) rfl rfl trivial ?_
      clear S; intro aa S
      refine OL.nil ?_
      exact (S.hd (by rw [hb, Bool.false_or])).sub _ ⟨rfl, rfl, rfl, rfl, rfl, rfl, trivial⟩
  · clear S aa
    intro aa ww S
    refine OL.pure S (Lf.run_move (S.ev rfl)) rfl rfl trivial ?_
    clear S; intro aa S
    obtain ⟨J, H, HK⟩ := H
    refine OL.cutN 8 (fun aa ww => ∃ x29, St 130 ((29, Value.bool x29) :: [(0, Value.pointer b0), (1, Value.int .i64 i1), (15, Value.pointer b0), (16, Value.bool (Option.isNone b0)), (17, Value.bool (Option.isNone b0)), (20, Value.bool ((Option.isNone b0) || (decide (i1 < 0)))), (21, Value.bool ((Option.isNone b0) || (decide (i1 < 0))))]) h w0 aa ww ∧ J x29) ?_ ?_
    · rcases Bool.eq_false_or_eq_true ((Option.isNone b0) || (decide (i1 < 0))) with hb_1 | hb_1
      · replace H := H.1 hb_1
        refine OL.not S rfl rfl (GNo.mk rfl rfl hb_1) ?_
        clear S; intro aa S
        refine OL.not S rfl rfl (GNo.mk rfl rfl hb_1) ?_
        clear S; intro aa S
        refine OL.not S rfl rfl (GNo.mk rfl rfl hb_1) ?_
        clear S; intro aa S
        refine OL.not S rfl rfl (GNo.mk rfl rfl hb_1) ?_
        clear S; intro aa S
        refine OL.not S rfl rfl (GNo.mk rfl rfl hb_1) ?_
        clear S; intro aa S
        refine OL.not S rfl rfl (GNo.mk rfl rfl hb_1) ?_
        clear S; intro aa S
        refine OL.not S rfl rfl (GNo.mk rfl rfl hb_1) ?_
        clear S; intro aa S
        refine OL.pure S (Lf.run_pickT (S.ev rfl) hb_1 (S.ev rfl)) rfl rfl trivial ?_
        clear S; intro aa S
        refine OL.nil ?_
        exact ⟨_, S.sub _ ⟨rfl, rfl, rfl, rfl, rfl, rfl, rfl, rfl, trivial⟩, H⟩
      · replace H := H.2 hb_1
        refine OL.pure S (Lf.run_move (S.ev rfl)) rfl rfl (GOk.mk rfl rfl hb_1) ?_
        clear S; intro aa S
        refine OL.pure S (Lf.run_move (S.ev rfl)) rfl rfl (GOk.mk rfl rfl hb_1) ?_
        clear S; intro aa S
        obtain ⟨p24, e, H⟩ := H
        refine OL.pure S (Lf.run_nc' (S.ev rfl) e) rfl rfl (GOk.mk rfl rfl hb_1) ?_
        clear S; intro aa S
        refine OL.pure S (Lf.run_fa (S.ev rfl) fa33_3) rfl rfl (GOk.mk rfl rfl hb_1) ?_
        clear S; intro aa S
        obtain ⟨x26, c, H⟩ := H
        refine OL.pure S (Lf.run_ld (S.ev rfl) fl31 (S.cl c)) rfl rfl (GOk.mk rfl rfl hb_1) ?_
        clear S; intro aa S
        refine OL.pure S (Lf.run_lens (S.ev rfl) rfl Try.underlying31) rfl rfl (GOk.mk rfl rfl hb_1) ?_
        clear S; intro aa S
        refine OL.pure S (Lf.run_geq (S.ev rfl) (S.ev rfl)) rfl rfl (GOk.mk rfl rfl hb_1) ?_
        clear S; intro aa S
        refine OL.pure S (Lf.run_pickF (S.ev rfl) hb_1 (S.ev rfl)) rfl rfl trivial ?_
        clear S; intro aa S
        refine OL.nil ?_
        exact ⟨_, S.sub _ ⟨rfl, rfl, rfl, rfl, rfl, rfl, rfl, rfl, trivial⟩, H⟩
    · clear S aa
      rintro aa ww ⟨x29, S, HJ⟩
      replace H := HK _ HJ
      clear HK HJ
      refine OL.nil ?_
      refine W.cond S (b := x29) rfl (fun hb_2 => ?_) (fun hb_2 => ?_)
      · replace H := H.1 hb_2
        refine W.seq ?_
        replace S := S.sub [] trivial
        refine W.region ?_
        refine OL.pure S (Lf.run_assign (S.ev rfl)) rfl rfl trivial ?_
        clear S; intro aa S
        refine OL.nil ?_
        refine W.ret ?_
        exact Ret.one S rfl rfl H
      · replace H := H.2 hb_2
        refine W.skip ?_
        refine W.seq ?_
        replace S := S.sub [(0, Value.pointer b0), (1, Value.int .i64 i1)] ⟨rfl, rfl, trivial⟩
        refine W.region ?_
        refine OL.pure S (Lf.run_assign (S.ev rfl)) rfl rfl trivial ?_
        clear S; intro aa S
        refine OL.nil ?_
        refine W.seq ?_
        replace S := S.sub [(0, Value.pointer b0), (1, Value.int .i64 i1), (5, Value.slice (⟨none, 0, 0⟩ : Sv).a (⟨none, 0, 0⟩ : Sv).n (⟨none, 0, 0⟩ : Sv).c)] ⟨rfl, rfl, rfl, trivial⟩
        refine W.region ?_
        refine OL.pure S (Lf.run_move (S.ev rfl)) rfl rfl trivial ?_
        clear S; intro aa S
        obtain ⟨p31, e_1, H⟩ := H
        refine OL.pure S (Lf.run_nc' (S.ev rfl) e_1) rfl rfl trivial ?_
        clear S; intro aa S
        refine OL.pure S (Lf.run_fa (S.ev rfl) fa33_3) rfl rfl trivial ?_
        clear S; intro aa S
        obtain ⟨x33, c_1, H⟩ := H
        refine OL.pure S (Lf.run_ld (S.ev rfl) fl31 (S.cl c_1)) rfl rfl trivial ?_
        clear S; intro aa S
        refine OL.pure S (Lf.run_move (S.ev rfl)) rfl rfl trivial ?_
        clear S; intro aa S
        obtain ⟨q35, e_2, e_3, e_4, H⟩ := H
        refine OL.pure S (Lf.run_ixs (S.ev rfl) (S.ev rfl) Try.underlying31 ti61 e_2 e_3 e_4) rfl rfl trivial ?_
        clear S; intro aa S
        obtain ⟨y36, y36_1, y36_2, y36_3, y36_4, y36_5, y36_6, y36_7, y36_8, y36_9, y36_10, y36_11, y36_12, y36_13, y36_14, y36_15, y36_16, y36_17, y36_18, y36_19, y36_20, c_42, c_43, c_44, c_45, c_46, c_47, c_48, c_49, c_50, c_51, c_52, c_53, c_54, c_55, c_56, c_57, c_58, c_59, c_60, c_61, c_62, H⟩ := H
        refine OL.pure S (Lf.run_ldA (cs := [Value.int .i64 y36, Value.int .i64 y36_1, Value.int .i64 y36_2, Value.slice y36_3.a y36_3.n y36_3.c, Value.int .i64 y36_4, Value.slice y36_5.a y36_5.n y36_5.c, Value.int .i64 y36_6, Value.slice y36_7.a y36_7.n y36_7.c, Value.bool y36_8, Value.string y36_9, Value.int .i64 y36_10, Value.slice y36_11.a y36_11.n y36_11.c, Value.int .i64 y36_12, Value.int .i64 y36_13, Value.slice y36_14.a y36_14.n y36_14.c, Value.int .i64 y36_15, Value.int .u64 y36_16, Value.int .i64 y36_17, Value.int .i64 y36_18, Value.int .i64 y36_19, Value.int .i64 y36_20]) (S.ev rfl) ag61 ti61 (by rw [S.heap]; exact RowL.toRow ⟨c_42, c_43, c_44, c_45, c_46, c_47, c_48, c_49, c_50, c_51, c_52, c_53, c_54, c_55, c_56, c_57, c_58, c_59, c_60, c_61, c_62, trivial⟩)) rfl rfl trivial ?_
        clear S; intro aa S
        refine ol_alloc S H ti61 rfl rfl trivial ?_
        clear S H aa; intro p6 aa ww h1 H S
        refine ol_stoA S H rfl rfl ti61 trivial ?_
        clear S H aa; intro aa ww h2 H S
        refine OL.nil ?_
        obtain ⟨J_1, H, HK_1⟩ := H
        refine W.seqJ (fun aa ww => ∃ l5_4 h29, St 130 [(5, Value.slice l5_4.a l5_4.n l5_4.c)] h29 w0 aa ww ∧ J_1 l5_4 h29) ?_ ?_
        · clear HK_1
          refine W.seq ?_
          replace S := S.sub [(0, Value.pointer b0), (5, Value.slice (⟨none, 0, 0⟩ : Sv).a (⟨none, 0, 0⟩ : Sv).n (⟨none, 0, 0⟩ : Sv).c), (6, Value.pointer (some p6))] ⟨rfl, rfl, rfl, trivial⟩
          refine W.region ?_
          refine OL.pure S (Lf.run_fa (S.ev rfl) fa61_0) rfl rfl trivial ?_
          clear S; intro aa S
          obtain ⟨x38, c_3, H⟩ := H
          refine OL.pure S (Lf.run_ld (S.ev rfl) fl3 (S.cl c_3)) rfl rfl trivial ?_
          clear S; intro aa S
          refine OL.nil ?_
          refine W.block ?_
          refine W.seq ?_
          replace S := S.sub [(0, Value.pointer b0), (5, Value.slice (⟨none, 0, 0⟩ : Sv).a (⟨none, 0, 0⟩ : Sv).n (⟨none, 0, 0⟩ : Sv).c), (6, Value.pointer (some p6)), (38, Value.int .i64 x38)] ⟨rfl, rfl, rfl, rfl, trivial⟩
          refine W.region ?_
          refine OL.pure S (Lf.run_eql (S.ev rfl) (S.ev rfl)) rfl rfl trivial ?_
          clear S; intro aa S
          refine OL.pure S (Lf.run_assign (S.ev rfl)) rfl rfl trivial ?_
          clear S; intro aa S
          refine OL.nil ?_
          refine W.cond S (b := (x38 == 1)) rfl (fun hb_3 => ?_) (fun hb_3 => ?_)
          · replace H := H.1 hb_3
            refine W.seq ?_
            replace S := S.sub [(6, Value.pointer (some p6))] ⟨rfl, trivial⟩
            refine W.region ?_
            refine OL.pure S (Lf.run_fa (S.ev rfl) fa61_1) rfl rfl trivial ?_
            clear S; intro aa S
            obtain ⟨x42, c_4, H⟩ := H
            refine OL.pure S (Lf.run_ld (S.ev rfl) fl3 (S.cl c_4)) rfl rfl trivial ?_
            clear S; intro aa S
            refine OL.pure S (Lf.run_build (cs := #[Value.int .i64 x42, Value.slice (⟨none, 0, 0⟩ : Sv).a (⟨none, 0, 0⟩ : Sv).n (⟨none, 0, 0⟩ : Sv).c]) pl24 ti24 (parts_map S rfl) (by kernel_rfl)) rfl rfl trivial ?_
            clear S; intro aa S
            refine OL.pure S (Lf.run_build (cs := #[Value.int .i64 x42, Value.slice (⟨none, 0, 0⟩ : Sv).a (⟨none, 0, 0⟩ : Sv).n (⟨none, 0, 0⟩ : Sv).c, Value.int .i64 5]) pl67 ti67 (parts_map S rfl) (by kernel_rfl)) rfl rfl trivial ?_
            clear S; intro aa S
            refine ol_newS S H Try.underlying42 ti67 (by decide) (parts_map S rfl) (by kernel_rfl) (by decide) rfl trivial ?_
            clear S H aa; intro s45 aa ww h3 H S
            refine OL.pure S (Lf.run_assign (S.ev rfl)) rfl rfl trivial ?_
            clear S; intro aa S
            refine OL.nil ?_
            refine W.ret ?_
            exact Ret.one S rfl rfl H
          · replace H := H.2 hb_3
            refine W.seq ?_
            replace S := S.sub [(0, Value.pointer b0), (5, Value.slice (⟨none, 0, 0⟩ : Sv).a (⟨none, 0, 0⟩ : Sv).n (⟨none, 0, 0⟩ : Sv).c), (6, Value.pointer (some p6)), (38, Value.int .i64 x38)] ⟨rfl, rfl, rfl, rfl, trivial⟩
            refine W.region ?_
            refine OL.pure S (Lf.run_eql (S.ev rfl) (S.ev rfl)) rfl rfl trivial ?_
            clear S; intro aa S
            refine OL.pure S (Lf.run_assign (S.ev rfl)) rfl rfl trivial ?_
            clear S; intro aa S
            refine OL.nil ?_
            refine W.cond S (b := (x38 == 2)) rfl (fun hb_4 => ?_) (fun hb_4 => ?_)
            · replace H := H.1 hb_4
              refine W.seq ?_
              replace S := S.sub [(6, Value.pointer (some p6))] ⟨rfl, trivial⟩
              refine W.region ?_
              refine OL.pure S (Lf.run_fa (S.ev rfl) fa61_1) rfl rfl trivial ?_
              clear S; intro aa S
              obtain ⟨x49, c_5, H⟩ := H
              refine OL.pure S (Lf.run_ld (S.ev rfl) fl3 (S.cl c_5)) rfl rfl trivial ?_
              clear S; intro aa S
              refine OL.pure S (Lf.run_build (cs := #[Value.int .i64 x49, Value.slice (⟨none, 0, 0⟩ : Sv).a (⟨none, 0, 0⟩ : Sv).n (⟨none, 0, 0⟩ : Sv).c]) pl24 ti24 (parts_map S rfl) (by kernel_rfl)) rfl rfl trivial ?_
              clear S; intro aa S
              refine OL.pure S (Lf.run_build (cs := #[Value.int .i64 x49, Value.slice (⟨none, 0, 0⟩ : Sv).a (⟨none, 0, 0⟩ : Sv).n (⟨none, 0, 0⟩ : Sv).c, Value.int .i64 6]) pl67 ti67 (parts_map S rfl) (by kernel_rfl)) rfl rfl trivial ?_
              clear S; intro aa S
              refine ol_newS S H Try.underlying42 ti67 (by decide) (parts_map S rfl) (by kernel_rfl) (by decide) rfl trivial ?_
              clear S H aa; intro s52 aa ww h4 H S
              refine OL.pure S (Lf.run_assign (S.ev rfl)) rfl rfl trivial ?_
              clear S; intro aa S
              refine OL.nil ?_
              refine W.ret ?_
              exact Ret.one S rfl rfl H
            · replace H := H.2 hb_4
              refine W.seq ?_
              replace S := S.sub [(0, Value.pointer b0), (5, Value.slice (⟨none, 0, 0⟩ : Sv).a (⟨none, 0, 0⟩ : Sv).n (⟨none, 0, 0⟩ : Sv).c), (6, Value.pointer (some p6)), (38, Value.int .i64 x38)] ⟨rfl, rfl, rfl, rfl, trivial⟩
              refine W.region ?_
              refine OL.pure S (Lf.run_eql (S.ev rfl) (S.ev rfl)) rfl rfl trivial ?_
              clear S; intro aa S
              refine OL.pure S (Lf.run_assign (S.ev rfl)) rfl rfl trivial ?_
              clear S; intro aa S
              refine OL.nil ?_
              refine W.cond S (b := (x38 == 5)) rfl (fun hb_5 => ?_) (fun hb_5 => ?_)
              · replace H := H.1 hb_5
                refine W.seq ?_
                replace S := S.sub [(5, Value.slice (⟨none, 0, 0⟩ : Sv).a (⟨none, 0, 0⟩ : Sv).n (⟨none, 0, 0⟩ : Sv).c), (6, Value.pointer (some p6))] ⟨rfl, rfl, trivial⟩
                refine W.region ?_
                refine OL.pure S (Lf.run_fa (S.ev rfl) fa61_4) rfl rfl trivial ?_
                clear S; intro aa S
                obtain ⟨y57, y57_1, y57_2, y57_3, y57_4, c_11, c_12, c_13, c_14, c_15, H⟩ := H
                refine OL.pure S (Lf.run_ldA (cs := [Value.int .i64 y57, Value.int .i64 y57_1, Value.slice y57_2.a y57_2.n y57_2.c, Value.int .i64 y57_3, Value.int .u64 y57_4]) (S.ev rfl) ag59 ti59 (by rw [S.heap]; exact RowL.toRow ⟨c_11, c_12, c_13, c_14, c_15, trivial⟩)) rfl rfl trivial ?_
                clear S; intro aa S
                refine ol_cal S H isfn26 rfl rfl trivial ?_
                clear S H aa; intro u aa ww h5 H S
                obtain ⟨y58, y58_1, y58_2, x58, rfl, H⟩ := H
                refine OL.pure S (Lf.run_move (S.ev rfl)) rfl rfl trivial ?_
                clear S; intro aa S
                refine OL.pure S (Lf.run_ex (S.ev rfl) rfl) rfl rfl trivial ?_
                clear S; intro aa S
                refine OL.pure S (Lf.run_ex (S.ev rfl) rfl) rfl rfl trivial ?_
                clear S; intro aa S
                refine ol_alloc S H ti67 rfl rfl trivial ?_
                clear S H aa; intro p7 aa ww h6 H S
                refine ol_stoA S H rfl rfl ti67 trivial ?_
                clear S H aa; intro aa ww h7 H S
                refine OL.pure S (Lf.run_assign (S.ev rfl)) rfl rfl trivial ?_
                clear S; intro aa S
                refine OL.nil ?_
                refine W.seq ?_
                replace S := S.sub [(5, Value.slice (⟨none, 0, 0⟩ : Sv).a (⟨none, 0, 0⟩ : Sv).n (⟨none, 0, 0⟩ : Sv).c), (7, Value.pointer (some p7)), (8, Value.bool x58)] ⟨rfl, rfl, rfl, trivial⟩
                refine W.region ?_
                refine OL.pure S (Lf.run_move (S.ev rfl)) rfl rfl trivial ?_
                clear S; intro aa S
                refine OL.nil ?_
                refine W.cond S (b := x58) rfl (fun hb_6 => ?_) (fun hb_6 => ?_)
                · replace H := H.1 hb_6
                  replace S := S.sub [(5, Value.slice (⟨none, 0, 0⟩ : Sv).a (⟨none, 0, 0⟩ : Sv).n (⟨none, 0, 0⟩ : Sv).c), (7, Value.pointer (some p7))] ⟨rfl, rfl, trivial⟩
                  refine W.region ?_
                  refine OL.pure S (Lf.run_move (S.ev rfl)) rfl rfl trivial ?_
                  clear S; intro aa S
                  obtain ⟨y63, y63_1, y63_2, c_8, c_9, c_10, H⟩ := H
                  refine OL.pure S (Lf.run_ldA (cs := [Value.int .i64 y63, Value.slice y63_1.a y63_1.n y63_1.c, Value.int .i64 y63_2]) (S.ev rfl) ag67 ti67 (by rw [S.heap]; exact RowL.toRow ⟨c_8, c_9, c_10, trivial⟩)) rfl rfl trivial ?_
                  clear S; intro aa S
                  refine ol_newS S H Try.underlying42 ti67 (by decide) (parts_map S rfl) (by kernel_rfl) (by decide) rfl trivial ?_
                  clear S H aa; intro s64 aa ww h8 H S
                  refine ol_appS S H Try.underlying42 ti67 rfl rfl rfl trivial ?_
                  clear S H aa; intro s65 aa ww h9 H S
                  refine OL.pure S (Lf.run_assign (S.ev rfl)) rfl rfl trivial ?_
                  clear S; intro aa S
                  refine OL.nil ?_
                  exact ⟨s65, h9, S.sub _ ⟨rfl, trivial⟩, H⟩
                · replace H := H.2 hb_6
                  refine W.skip ?_
                  exact ⟨(⟨none, 0, 0⟩ : Sv), h7, S.sub _ ⟨rfl, trivial⟩, H⟩
              · replace H := H.2 hb_5
                refine W.seq ?_
                replace S := S.sub [(0, Value.pointer b0), (5, Value.slice (⟨none, 0, 0⟩ : Sv).a (⟨none, 0, 0⟩ : Sv).n (⟨none, 0, 0⟩ : Sv).c), (6, Value.pointer (some p6)), (38, Value.int .i64 x38)] ⟨rfl, rfl, rfl, rfl, trivial⟩
                refine W.region ?_
                refine OL.pure S (Lf.run_eql (S.ev rfl) (S.ev rfl)) rfl rfl trivial ?_
                clear S; intro aa S
                refine OL.pure S (Lf.run_assign (S.ev rfl)) rfl rfl trivial ?_
                clear S; intro aa S
                refine OL.nil ?_
                refine W.cond S (b := (x38 == 6)) rfl (fun hb_7 => ?_) (fun hb_7 => ?_)
                · replace H := H.1 hb_7
                  refine W.seq ?_
                  replace S := S.sub [(0, Value.pointer b0), (5, Value.slice (⟨none, 0, 0⟩ : Sv).a (⟨none, 0, 0⟩ : Sv).n (⟨none, 0, 0⟩ : Sv).c)] ⟨rfl, rfl, trivial⟩
                  refine W.region ?_
                  refine OL.pure S (Lf.run_move (S.ev rfl)) rfl rfl trivial ?_
                  clear S; intro aa S
                  refine OL.pure S (Lf.run_build (cs := #[Value.int .i64 0, Value.slice (⟨none, 0, 0⟩ : Sv).a (⟨none, 0, 0⟩ : Sv).n (⟨none, 0, 0⟩ : Sv).c, Value.int .i64 2]) pl67 ti67 (parts_map S rfl) (by kernel_rfl)) rfl rfl trivial ?_
                  clear S; intro aa S
                  refine ol_newS S H Try.underlying42 ti67 (by decide) (parts_map S rfl) (by kernel_rfl) (by decide) rfl trivial ?_
                  clear S H aa; intro s70 aa ww h10 H S
                  refine ol_appS S H Try.underlying42 ti67 rfl rfl rfl trivial ?_
                  clear S H aa; intro s71 aa ww h11 H S
                  refine OL.pure S (Lf.run_assign (S.ev rfl)) rfl rfl trivial ?_
                  clear S; intro aa S
                  refine OL.nil ?_
                  refine W.seq ?_
                  replace S := S.sub [(0, Value.pointer b0), (5, Value.slice s71.a s71.n s71.c)] ⟨rfl, rfl, trivial⟩
                  refine W.region ?_
                  refine OL.pure S (Lf.run_assign (S.ev rfl)) rfl rfl trivial ?_
                  clear S; intro aa S
                  refine OL.nil ?_
                  refine W.block ?_
                  obtain ⟨I, m, H, HB⟩ := H
                  refine W.loopS (σ := Sv × Int × Heap) (fun s aa ww => St 130 [(0, Value.pointer b0), (5, Value.slice s.1.a s.1.n s.1.c), (9, Value.int .i64 s.2.1)] s.2.2 w0 aa ww ∧ I s.1 s.2.1 s.2.2) (fun s => m s.1 s.2.1 s.2.2) (s71, 1, h11) ⟨S.sub _ ⟨rfl, rfl, rfl, trivial⟩, H⟩ ?_
                  clear H S aa
                  rintro ⟨l5, n9, h12⟩ aa ww ⟨S, HI⟩
                  replace S : St 130 [(0, Value.pointer b0), (5, Value.slice l5.a l5.n l5.c), (9, Value.int .i64 n9)] h12 w0 aa ww := S
                  have H := HB l5 n9 h12 HI
                  clear HI
                  refine W.seq ?_
                  refine W.seq ?_
                  replace S := S.sub [(0, Value.pointer b0), (5, Value.slice l5.a l5.n l5.c), (9, Value.int .i64 n9)] ⟨rfl, rfl, rfl, trivial⟩
                  refine W.region ?_
                  refine OL.pure S (Lf.run_move (S.ev rfl)) rfl rfl trivial ?_
                  clear S; intro aa S
                  refine OL.pure S (Lf.run_move (S.ev rfl)) rfl rfl trivial ?_
                  clear S; intro aa S
                  obtain ⟨p74, e_5, H⟩ := H
                  refine OL.pure S (Lf.run_nc' (S.ev rfl) e_5) rfl rfl trivial ?_
                  clear S; intro aa S
                  refine OL.pure S (Lf.run_fa (S.ev rfl) fa33_2) rfl rfl trivial ?_
                  clear S; intro aa S
                  obtain ⟨x76, c_16, H⟩ := H
                  refine OL.pure S (Lf.run_ld (S.ev rfl) fl30 (S.cl c_16)) rfl rfl trivial ?_
                  clear S; intro aa S
                  refine OL.pure S (Lf.run_lens (S.ev rfl) rfl Try.underlying30) rfl rfl trivial ?_
                  clear S; intro aa S
                  refine OL.pure S (Lf.run_lss (S.ev rfl) (S.ev rfl)) rfl rfl trivial ?_
                  clear S; intro aa S
                  refine OL.nil ?_
                  refine W.cond S (b := (decide (n9 < ((x76.n : Nat) : Int)))) rfl (fun hb_8 => ?_) (fun hb_8 => ?_)
                  · replace H := H.1 hb_8
                    refine W.skip ?_
                    refine W.seq ?_
                    refine W.block ?_
                    replace S := S.sub [(0, Value.pointer b0), (5, Value.slice l5.a l5.n l5.c), (9, Value.int .i64 n9)] ⟨rfl, rfl, rfl, trivial⟩
                    refine W.region ?_
                    refine OL.pure S (Lf.run_move (S.ev rfl)) rfl rfl trivial ?_
                    clear S; intro aa S
                    refine OL.pure S (Lf.run_move (S.ev rfl)) rfl rfl trivial ?_
                    clear S; intro aa S
                    refine OL.pure S (Lf.run_build (cs := #[Value.int .i64 n9, Value.slice (⟨none, 0, 0⟩ : Sv).a (⟨none, 0, 0⟩ : Sv).n (⟨none, 0, 0⟩ : Sv).c]) pl24 ti24 (parts_map S rfl) (by kernel_rfl)) rfl rfl trivial ?_
                    clear S; intro aa S
                    refine OL.pure S (Lf.run_build (cs := #[Value.int .i64 n9, Value.slice (⟨none, 0, 0⟩ : Sv).a (⟨none, 0, 0⟩ : Sv).n (⟨none, 0, 0⟩ : Sv).c, Value.int .i64 6]) pl67 ti67 (parts_map S rfl) (by kernel_rfl)) rfl rfl trivial ?_
                    clear S; intro aa S
                    refine ol_newS S H Try.underlying42 ti67 (by decide) (parts_map S rfl) (by kernel_rfl) (by decide) rfl trivial ?_
                    clear S H aa; intro s85 aa ww h13 H S
                    refine ol_appS S H Try.underlying42 ti67 rfl rfl rfl trivial ?_
                    clear S H aa; intro s86 aa ww h14 H S
                    refine OL.pure S (Lf.run_assign (S.ev rfl)) rfl rfl trivial ?_
                    clear S; intro aa S
                    refine OL.nil ?_
                    replace S := S.sub [(0, Value.pointer b0), (5, Value.slice s86.a s86.n s86.c), (9, Value.int .i64 n9)] ⟨rfl, rfl, rfl, trivial⟩
                    refine W.region ?_
                    refine OL.pure S (Lf.run_move (S.ev rfl)) rfl rfl trivial ?_
                    clear S; intro aa S
                    refine OL.pure S (Lf.run_add (S.ev rfl) (S.ev rfl)) rfl rfl trivial ?_
                    clear S; intro aa S
                    refine OL.pure S (Lf.run_assign (S.ev rfl)) rfl rfl trivial ?_
                    clear S; intro aa S
                    refine OL.nil ?_
                    exact ⟨(s86, (IntKind.i64.wrap (n9 + 1)), h14), ⟨S.sub _ ⟨rfl, rfl, rfl, trivial⟩, H.1⟩, H.2⟩
                  · replace H := H.2 hb_8
                    refine W.exit_ ?_
                    refine xhit ?_
                    exact ⟨l5, h12, S.sub _ ⟨rfl, trivial⟩, H⟩
                · replace H := H.2 hb_7
                  refine W.seq ?_
                  replace S := S.sub [(5, Value.slice (⟨none, 0, 0⟩ : Sv).a (⟨none, 0, 0⟩ : Sv).n (⟨none, 0, 0⟩ : Sv).c), (6, Value.pointer (some p6)), (38, Value.int .i64 x38)] ⟨rfl, rfl, rfl, trivial⟩
                  refine W.region ?_
                  refine OL.pure S (Lf.run_eql (S.ev rfl) (S.ev rfl)) rfl rfl trivial ?_
                  clear S; intro aa S
                  refine OL.pure S (Lf.run_assign (S.ev rfl)) rfl rfl trivial ?_
                  clear S; intro aa S
                  refine OL.nil ?_
                  refine W.cond S (b := (x38 == 3)) rfl (fun hb_9 => ?_) (fun hb_9 => ?_)
                  · replace H := H.1 hb_9
                    refine W.seq ?_
                    refine W.seq ?_
                    replace S := S.sub [(5, Value.slice (⟨none, 0, 0⟩ : Sv).a (⟨none, 0, 0⟩ : Sv).n (⟨none, 0, 0⟩ : Sv).c), (6, Value.pointer (some p6))] ⟨rfl, rfl, trivial⟩
                    refine W.region ?_
                    refine OL.pure S (Lf.run_fa (S.ev rfl) fa61_3) rfl rfl trivial ?_
                    clear S; intro aa S
                    refine OL.pure S (Lf.run_fa (S.ev rfl) fa56_1) rfl rfl trivial ?_
                    clear S; intro aa S
                    obtain ⟨x91, c_17, H⟩ := H
                    refine OL.pure S (Lf.run_ld (S.ev rfl) fl54 (S.cl c_17)) rfl rfl trivial ?_
                    clear S; intro aa S
                    refine OL.pure S (Lf.run_lens (S.ev rfl) rfl Try.underlying54) rfl rfl trivial ?_
                    clear S; intro aa S
                    refine OL.pure S (Lf.run_move (S.ev rfl)) rfl rfl trivial ?_
                    clear S; intro aa S
                    refine OL.nil ?_
                    refine W.block ?_
                    obtain ⟨I_1, m_1, H, HB_1⟩ := H
                    refine W.loopS (σ := Sv × Int × Heap) (fun s aa ww => St 130 [(5, Value.slice s.1.a s.1.n s.1.c), (6, Value.pointer (some p6)), (91, Value.slice x91.a x91.n x91.c), (92, Value.int .i64 ((x91.n : Nat) : Int)), (93, Value.int .i64 s.2.1)] s.2.2 w0 aa ww ∧ I_1 s.1 s.2.1 s.2.2) (fun s => m_1 s.1 s.2.1 s.2.2) ((⟨none, 0, 0⟩ : Sv), 0, h2) ⟨S.sub _ ⟨rfl, rfl, rfl, rfl, rfl, trivial⟩, H⟩ ?_
                    clear H S aa
                    rintro ⟨l5_1, x93, h15⟩ aa ww ⟨S, HI⟩
                    replace S : St 130 [(5, Value.slice l5_1.a l5_1.n l5_1.c), (6, Value.pointer (some p6)), (91, Value.slice x91.a x91.n x91.c), (92, Value.int .i64 ((x91.n : Nat) : Int)), (93, Value.int .i64 x93)] h15 w0 aa ww := S
                    have H := HB_1 l5_1 x93 h15 HI
                    clear HI
                    refine W.seq ?_
                    replace S := S.sub [(5, Value.slice l5_1.a l5_1.n l5_1.c), (6, Value.pointer (some p6)), (91, Value.slice x91.a x91.n x91.c), (92, Value.int .i64 ((x91.n : Nat) : Int)), (93, Value.int .i64 x93)] ⟨rfl, rfl, rfl, rfl, rfl, trivial⟩
                    refine W.region ?_
                    refine OL.pure S (Lf.run_lss (S.ev rfl) (S.ev rfl)) rfl rfl trivial ?_
                    clear S; intro aa S
                    refine OL.nil ?_
                    refine W.seq ?_
                    refine W.cond S (b := (decide (x93 < ((x91.n : Nat) : Int)))) rfl (fun hb_10 => ?_) (fun hb_10 => ?_)
                    · replace H := H.1 hb_10
                      refine W.skip ?_
                      obtain ⟨J_2, H, HK_2⟩ := H
                      refine W.seqJ (fun aa ww => ∃ l5_2 h23, St 130 [(5, Value.slice l5_2.a l5_2.n l5_2.c), (6, Value.pointer (some p6)), (91, Value.slice x91.a x91.n x91.c), (92, Value.int .i64 ((x91.n : Nat) : Int)), (93, Value.int .i64 x93)] h23 w0 aa ww ∧ J_2 l5_2 h23) ?_ ?_
                      · clear HK_2
                        refine W.block ?_
                        refine W.seq ?_
                        replace S := S.sub [(5, Value.slice l5_1.a l5_1.n l5_1.c), (6, Value.pointer (some p6)), (91, Value.slice x91.a x91.n x91.c), (92, Value.int .i64 ((x91.n : Nat) : Int)), (93, Value.int .i64 x93)] ⟨rfl, rfl, rfl, rfl, rfl, trivial⟩
                        refine W.region ?_
                        obtain ⟨q95, e_6, e_7, e_8, H⟩ := H
                        refine OL.pure S (Lf.run_ixs (S.ev rfl) (S.ev rfl) Try.underlying54 ti59 e_6 e_7 e_8) rfl rfl trivial ?_
                        clear S; intro aa S
                        obtain ⟨y96, y96_1, y96_2, y96_3, y96_4, c_29, c_30, c_31, c_32, c_33, H⟩ := H
                        refine OL.pure S (Lf.run_ldA (cs := [Value.int .i64 y96, Value.int .i64 y96_1, Value.slice y96_2.a y96_2.n y96_2.c, Value.int .i64 y96_3, Value.int .u64 y96_4]) (S.ev rfl) ag59 ti59 (by rw [S.heap]; exact RowL.toRow ⟨c_29, c_30, c_31, c_32, c_33, trivial⟩)) rfl rfl trivial ?_
                        clear S; intro aa S
                        refine ol_alloc S H ti59 rfl rfl trivial ?_
                        clear S H aa; intro p11 aa ww h16 H S
                        refine ol_stoA S H rfl rfl ti59 trivial ?_
                        clear S H aa; intro aa ww h17 H S
                        refine OL.nil ?_
                        refine W.seq ?_
                        replace S := S.sub [(5, Value.slice l5_1.a l5_1.n l5_1.c), (6, Value.pointer (some p6)), (11, Value.pointer (some p11)), (91, Value.slice x91.a x91.n x91.c), (92, Value.int .i64 ((x91.n : Nat) : Int)), (93, Value.int .i64 x93)] ⟨rfl, rfl, rfl, rfl, rfl, rfl, trivial⟩
                        refine W.region ?_
                        obtain ⟨y98, y98_1, y98_2, y98_3, y98_4, c_24, c_25, c_26, c_27, c_28, H⟩ := H
                        refine OL.pure S (Lf.run_ldA (cs := [Value.int .i64 y98, Value.int .i64 y98_1, Value.slice y98_2.a y98_2.n y98_2.c, Value.int .i64 y98_3, Value.int .u64 y98_4]) (S.ev rfl) ag59 ti59 (by rw [S.heap]; exact RowL.toRow ⟨c_24, c_25, c_26, c_27, c_28, trivial⟩)) rfl rfl trivial ?_
                        clear S; intro aa S
                        refine ol_cal S H isfn26 rfl rfl trivial ?_
                        clear S H aa; intro u_1 aa ww h18 H S
                        obtain ⟨y99, y99_1, y99_2, x99, rfl, H⟩ := H
                        refine OL.pure S (Lf.run_move (S.ev rfl)) rfl rfl trivial ?_
                        clear S; intro aa S
                        refine OL.pure S (Lf.run_ex (S.ev rfl) rfl) rfl rfl trivial ?_
                        clear S; intro aa S
                        refine OL.pure S (Lf.run_ex (S.ev rfl) rfl) rfl rfl trivial ?_
                        clear S; intro aa S
                        refine ol_alloc S H ti67 rfl rfl trivial ?_
                        clear S H aa; intro p12 aa ww h19 H S
                        refine ol_stoA S H rfl rfl ti67 trivial ?_
                        clear S H aa; intro aa ww h20 H S
                        refine OL.pure S (Lf.run_assign (S.ev rfl)) rfl rfl trivial ?_
                        clear S; intro aa S
                        refine OL.nil ?_
                        refine W.seq ?_
                        replace S := S.sub [(5, Value.slice l5_1.a l5_1.n l5_1.c), (6, Value.pointer (some p6)), (12, Value.pointer (some p12)), (13, Value.bool x99), (91, Value.slice x91.a x91.n x91.c), (92, Value.int .i64 ((x91.n : Nat) : Int)), (93, Value.int .i64 x93)] ⟨rfl, rfl, rfl, rfl, rfl, rfl, rfl, trivial⟩
                        refine W.region ?_
                        refine OL.pure S (Lf.run_move (S.ev rfl)) rfl rfl trivial ?_
                        clear S; intro aa S
                        refine OL.nil ?_
                        refine W.cond S (b := x99) rfl (fun hb_11 => ?_) (fun hb_11 => ?_)
                        · replace H := H.1 hb_11
                          replace S := S.sub [(5, Value.slice l5_1.a l5_1.n l5_1.c), (6, Value.pointer (some p6)), (12, Value.pointer (some p12)), (91, Value.slice x91.a x91.n x91.c), (92, Value.int .i64 ((x91.n : Nat) : Int)), (93, Value.int .i64 x93)] ⟨rfl, rfl, rfl, rfl, rfl, rfl, trivial⟩
                          refine W.region ?_
                          refine OL.pure S (Lf.run_move (S.ev rfl)) rfl rfl trivial ?_
                          clear S; intro aa S
                          obtain ⟨y104, y104_1, y104_2, c_21, c_22, c_23, H⟩ := H
                          refine OL.pure S (Lf.run_ldA (cs := [Value.int .i64 y104, Value.slice y104_1.a y104_1.n y104_1.c, Value.int .i64 y104_2]) (S.ev rfl) ag67 ti67 (by rw [S.heap]; exact RowL.toRow ⟨c_21, c_22, c_23, trivial⟩)) rfl rfl trivial ?_
                          clear S; intro aa S
                          refine ol_newS S H Try.underlying42 ti67 (by decide) (parts_map S rfl) (by kernel_rfl) (by decide) rfl trivial ?_
                          clear S H aa; intro s105 aa ww h21 H S
                          refine ol_appS S H Try.underlying42 ti67 rfl rfl rfl trivial ?_
                          clear S H aa; intro s106 aa ww h22 H S
                          refine OL.pure S (Lf.run_assign (S.ev rfl)) rfl rfl trivial ?_
                          clear S; intro aa S
                          refine OL.nil ?_
                          exact ⟨s106, h22, S.sub _ ⟨rfl, rfl, rfl, rfl, rfl, trivial⟩, H⟩
                        · replace H := H.2 hb_11
                          refine W.skip ?_
                          exact ⟨l5_1, h20, S.sub _ ⟨rfl, rfl, rfl, rfl, rfl, trivial⟩, H⟩
                      · clear H S aa
                        rintro aa ww ⟨l5_2, h23, S, HJ⟩
                        have H := HK_2 _ _ HJ
                        clear HK_2 HJ
                        replace S := S.sub [(5, Value.slice l5_2.a l5_2.n l5_2.c), (6, Value.pointer (some p6)), (91, Value.slice x91.a x91.n x91.c), (92, Value.int .i64 ((x91.n : Nat) : Int)), (93, Value.int .i64 x93)] ⟨rfl, rfl, rfl, rfl, rfl, trivial⟩
                        refine W.region ?_
                        refine OL.pure S (Lf.run_add (S.ev rfl) (S.ev rfl)) rfl rfl trivial ?_
                        clear S; intro aa S
                        refine OL.pure S (Lf.run_move (S.ev rfl)) rfl rfl trivial ?_
                        clear S; intro aa S
                        refine OL.nil ?_
                        exact ⟨(l5_2, (IntKind.i64.wrap (x93 + 1)), h23), ⟨S.sub _ ⟨rfl, rfl, rfl, rfl, rfl, trivial⟩, H.1⟩, H.2⟩
                    · replace H := H.2 hb_10
                      refine W.exit_ ?_
                      refine xhit ?_
                      obtain ⟨J_3, H, HK_3⟩ := H
                      refine W.seqJ (fun aa ww => ∃ l5_3 h26, St 130 [(5, Value.slice l5_3.a l5_3.n l5_3.c), (6, Value.pointer (some p6))] h26 w0 aa ww ∧ J_3 l5_3 h26) ?_ ?_
                      · clear HK_3
                        refine W.seq ?_
                        replace S := S.sub [(5, Value.slice l5_1.a l5_1.n l5_1.c), (6, Value.pointer (some p6))] ⟨rfl, rfl, trivial⟩
                        refine W.region ?_
                        refine OL.pure S (Lf.run_fa (S.ev rfl) fa61_3) rfl rfl trivial ?_
                        clear S; intro aa S
                        refine OL.pure S (Lf.run_fa (S.ev rfl) fa56_0) rfl rfl trivial ?_
                        clear S; intro aa S
                        obtain ⟨x110, c_34, H⟩ := H
                        refine OL.pure S (Lf.run_ld (S.ev rfl) fl3 (S.cl c_34)) rfl rfl trivial ?_
                        clear S; intro aa S
                        refine OL.pure S (Lf.run_eql (S.ev rfl) (S.ev rfl)) rfl rfl trivial ?_
                        clear S; intro aa S
                        refine OL.nil ?_
                        refine W.cond S (b := (x110 == 2)) rfl (fun hb_12 => ?_) (fun hb_12 => ?_)
                        · replace H := H.1 hb_12
                          refine W.seq ?_
                          replace S := S.sub [(5, Value.slice l5_1.a l5_1.n l5_1.c), (6, Value.pointer (some p6))] ⟨rfl, rfl, trivial⟩
                          refine W.region ?_
                          refine OL.pure S (Lf.run_assign (S.ev rfl)) rfl rfl trivial ?_
                          clear S; intro aa S
                          refine OL.nil ?_
                          obtain ⟨J_4, H, HK_4⟩ := H
                          refine W.seqJ (fun aa ww => ∃ k14, St 130 [(5, Value.slice l5_1.a l5_1.n l5_1.c), (6, Value.pointer (some p6)), (14, Value.int .i64 k14)] h15 w0 aa ww ∧ J_4 k14) ?_ ?_
                          · clear HK_4
                            refine W.seq ?_
                            replace S := S.sub [(5, Value.slice l5_1.a l5_1.n l5_1.c), (6, Value.pointer (some p6)), (14, Value.int .i64 1)] ⟨rfl, rfl, rfl, trivial⟩
                            refine W.region ?_
                            refine OL.pure S (Lf.run_fa (S.ev rfl) fa61_3) rfl rfl trivial ?_
                            clear S; intro aa S
                            refine OL.pure S (Lf.run_fa (S.ev rfl) fa56_3) rfl rfl trivial ?_
                            clear S; intro aa S
                            obtain ⟨x114, c_35, H⟩ := H
                            refine OL.pure S (Lf.run_ld (S.ev rfl) fl4 (S.cl c_35)) rfl rfl trivial ?_
                            clear S; intro aa S
                            refine OL.nil ?_
                            refine W.cond S (b := x114) rfl (fun hb_13 => ?_) (fun hb_13 => ?_)
                            · replace H := H.1 hb_13
                              replace S := S.sub [(5, Value.slice l5_1.a l5_1.n l5_1.c), (6, Value.pointer (some p6))] ⟨rfl, rfl, trivial⟩
                              refine W.region ?_
                              refine OL.pure S (Lf.run_assign (S.ev rfl)) rfl rfl trivial ?_
                              clear S; intro aa S
                              refine OL.nil ?_
                              exact ⟨3, S.sub _ ⟨rfl, rfl, rfl, trivial⟩, H⟩
                            · replace H := H.2 hb_13
                              refine W.skip ?_
                              exact ⟨1, S.sub _ ⟨rfl, rfl, rfl, trivial⟩, H⟩
                          · clear H S aa
                            rintro aa ww ⟨k14, S, HJ⟩
                            have H := HK_4 _ HJ
                            clear HK_4 HJ
                            replace S := S.sub [(5, Value.slice l5_1.a l5_1.n l5_1.c), (6, Value.pointer (some p6)), (14, Value.int .i64 k14)] ⟨rfl, rfl, rfl, trivial⟩
                            refine W.region ?_
                            refine OL.pure S (Lf.run_move (S.ev rfl)) rfl rfl trivial ?_
                            clear S; intro aa S
                            refine OL.pure S (Lf.run_fa (S.ev rfl) fa61_3) rfl rfl trivial ?_
                            clear S; intro aa S
                            refine OL.pure S (Lf.run_fa (S.ev rfl) fa56_2) rfl rfl trivial ?_
                            clear S; intro aa S
                            obtain ⟨y118, y118_1, c_37, c_38, H⟩ := H
                            refine OL.pure S (Lf.run_ldA (cs := [Value.int .i64 y118, Value.slice y118_1.a y118_1.n y118_1.c]) (S.ev rfl) ag24 ti24 (by rw [S.heap]; exact RowL.toRow ⟨c_37, c_38, trivial⟩)) rfl rfl trivial ?_
                            clear S; intro aa S
                            refine OL.pure S (Lf.run_move (S.ev rfl)) rfl rfl trivial ?_
                            clear S; intro aa S
                            refine OL.pure S (Lf.run_build (cs := #[Value.int .i64 y118, Value.slice y118_1.a y118_1.n y118_1.c, Value.int .i64 k14]) pl67 ti67 (parts_map S rfl) (by kernel_rfl)) rfl rfl trivial ?_
                            clear S; intro aa S
                            refine ol_newS S H Try.underlying42 ti67 (by decide) (parts_map S rfl) (by kernel_rfl) (by decide) rfl trivial ?_
                            clear S H aa; intro s121 aa ww h24 H S
                            refine ol_appS S H Try.underlying42 ti67 rfl rfl rfl trivial ?_
                            clear S H aa; intro s122 aa ww h25 H S
                            refine OL.pure S (Lf.run_assign (S.ev rfl)) rfl rfl trivial ?_
                            clear S; intro aa S
                            refine OL.nil ?_
                            exact ⟨s122, h25, S.sub _ ⟨rfl, rfl, trivial⟩, H⟩
                        · replace H := H.2 hb_12
                          refine W.skip ?_
                          exact ⟨l5_1, h15, S.sub _ ⟨rfl, rfl, trivial⟩, H⟩
                      · clear H S aa
                        rintro aa ww ⟨l5_3, h26, S, HJ⟩
                        have H := HK_3 _ _ HJ
                        clear HK_3 HJ
                        replace S := S.sub [(5, Value.slice l5_3.a l5_3.n l5_3.c), (6, Value.pointer (some p6))] ⟨rfl, rfl, trivial⟩
                        refine W.region ?_
                        refine OL.pure S (Lf.run_move (S.ev rfl)) rfl rfl trivial ?_
                        clear S; intro aa S
                        refine OL.pure S (Lf.run_fa (S.ev rfl) fa61_2) rfl rfl trivial ?_
                        clear S; intro aa S
                        obtain ⟨y125, y125_1, c_40, c_41, H⟩ := H
                        refine OL.pure S (Lf.run_ldA (cs := [Value.int .i64 y125, Value.slice y125_1.a y125_1.n y125_1.c]) (S.ev rfl) ag24 ti24 (by rw [S.heap]; exact RowL.toRow ⟨c_40, c_41, trivial⟩)) rfl rfl trivial ?_
                        clear S; intro aa S
                        refine OL.pure S (Lf.run_build (cs := #[Value.int .i64 y125, Value.slice y125_1.a y125_1.n y125_1.c, Value.int .i64 4]) pl67 ti67 (parts_map S rfl) (by kernel_rfl)) rfl rfl trivial ?_
                        clear S; intro aa S
                        refine ol_newS S H Try.underlying42 ti67 (by decide) (parts_map S rfl) (by kernel_rfl) (by decide) rfl trivial ?_
                        clear S H aa; intro s127 aa ww h27 H S
                        refine ol_appS S H Try.underlying42 ti67 rfl rfl rfl trivial ?_
                        clear S H aa; intro s128 aa ww h28 H S
                        refine OL.pure S (Lf.run_assign (S.ev rfl)) rfl rfl trivial ?_
                        clear S; intro aa S
                        refine OL.nil ?_
                        exact ⟨s128, h28, S.sub _ ⟨rfl, trivial⟩, H⟩
                  · replace H := H.2 hb_9
                    refine W.skip ?_
                    exact ⟨(⟨none, 0, 0⟩ : Sv), h2, S.sub _ ⟨rfl, trivial⟩, H⟩
        · clear H S aa
          rintro aa ww ⟨l5_4, h29, S, HJ⟩
          have H := HK_1 _ _ HJ
          clear HK_1 HJ
          refine W.seq ?_
          replace S := S.sub [(5, Value.slice l5_4.a l5_4.n l5_4.c)] ⟨rfl, trivial⟩
          refine W.region ?_
          refine OL.pure S (Lf.run_move (S.ev rfl)) rfl rfl trivial ?_
          clear S; intro aa S
          refine OL.pure S (Lf.run_assign (S.ev rfl)) rfl rfl trivial ?_
          clear S; intro aa S
          refine OL.nil ?_
          refine W.ret ?_
          exact Ret.one S rfl rfl H

/-- chattel mir.Text -/
def L15 (b0 : Option Addr) (h : Heap) (R : Value → Heap → Prop) : Prop :=
  ifb (Option.isNone b0) (
    R (Value.string (⟨#[]⟩ : ByteArray)) h) (
    ∃ Sq : Heap → Prop, Sq h ∧ (
      nn b0 fun p11 =>
      nn b0 fun p17 =>
      hlT Sq p11 fun x13 =>
      (((⟨#[98, 111, 100, 121, 32]⟩ : ByteArray).size : Nat) : Int) + ((x13.size : Nat) : Int) ≤ 9223372036854775807 ∧
      ((((⟨#[98, 111, 100, 121, 32]⟩ : ByteArray) ++ x13).size : Nat) : Int) + (((⟨#[32]⟩ : ByteArray).size : Nat) : Int) ≤ 9223372036854775807 ∧
      ldI .i64 h (p17.add 1) fun x19 =>
      cal Try.prog 27 #[Value.int .i64 x19] h fun u h1 => asT u fun x20 =>
      Sq h1 ∧
      (((((⟨#[98, 111, 100, 121, 32]⟩ : ByteArray) ++ x13) ++ (⟨#[32]⟩ : ByteArray)).size : Nat) : Int) + ((x20.size : Nat) : Int) ≤ 9223372036854775807 ∧
      ((((((⟨#[98, 111, 100, 121, 32]⟩ : ByteArray) ++ x13) ++ (⟨#[32]⟩ : ByteArray)) ++ x20).size : Nat) : Int) + (((⟨#[10]⟩ : ByteArray).size : Nat) : Int) ≤ 9223372036854775807 ∧
      nn b0 fun p24 =>
      ldS h1 (p24.add 2) fun x26 =>
      ∃ (I : ByteArray → Int → Heap → Prop) (m : ByteArray → Int → Heap → Nat), I (((((⟨#[98, 111, 100, 121, 32]⟩ : ByteArray) ++ x13) ++ (⟨#[32]⟩ : ByteArray)) ++ x20) ++ (⟨#[10]⟩ : ByteArray)) 0 h1 ∧ ∀ s3 x28 h2, I s3 x28 h2 →
      ifb (decide (x28 < ((x26.n : Nat) : Int))) (
        ixS x26 x28 fun q30 =>
        ∃ (y31 : ByteArray) (y31_1 : Int) (y31_2 : ByteArray) (y31_3 : Bool) (y31_4 : Int) (y31_5 : Sv) (y31_6 : Sv) (y31_7 : Int) (y31_8 : Int), cl h2 (q30.add ((x28 : Int).toNat * 9)) = some (Value.string y31) ∧ cl h2 ((q30.add ((x28 : Int).toNat * 9)).add 1) = some (Value.int .i64 y31_1) ∧ cl h2 ((q30.add ((x28 : Int).toNat * 9)).add 2) = some (Value.string y31_2) ∧ cl h2 ((q30.add ((x28 : Int).toNat * 9)).add 3) = some (Value.bool y31_3) ∧ cl h2 ((q30.add ((x28 : Int).toNat * 9)).add 4) = some (Value.int .i64 y31_4) ∧ cl h2 ((q30.add ((x28 : Int).toNat * 9)).add 5) = some (Value.slice y31_5.a y31_5.n y31_5.c) ∧ cl h2 ((q30.add ((x28 : Int).toNat * 9)).add 6) = some (Value.slice y31_6.a y31_6.n y31_6.c) ∧ cl h2 ((q30.add ((x28 : Int).toNat * 9)).add 7) = some (Value.int .i64 y31_7) ∧ cl h2 ((q30.add ((x28 : Int).toNat * 9)).add 8) = some (Value.int .i64 y31_8) ∧
        new 53 #[Value.string (⟨#[]⟩ : ByteArray), Value.int .i64 0, Value.string (⟨#[]⟩ : ByteArray), Value.bool false, Value.int .i64 0, Value.slice (⟨none, 0, 0⟩ : Sv).a (⟨none, 0, 0⟩ : Sv).n (⟨none, 0, 0⟩ : Sv).c, Value.slice (⟨none, 0, 0⟩ : Sv).a (⟨none, 0, 0⟩ : Sv).n (⟨none, 0, 0⟩ : Sv).c, Value.int .i64 0, Value.int .i64 0] h2 fun p5 h3 =>
        stoA h3 p5 [Value.string y31, Value.int .i64 y31_1, Value.string y31_2, Value.bool y31_3, Value.int .i64 y31_4, Value.slice y31_5.a y31_5.n y31_5.c, Value.slice y31_6.a y31_6.n y31_6.c, Value.int .i64 y31_7, Value.int .i64 y31_8] fun h4 =>
        ∃ Sq_1 : Heap → Prop, Sq_1 h4 ∧ (
          hlT Sq_1 p5 fun x34 =>
          (((⟨#[32, 32]⟩ : ByteArray).size : Nat) : Int) + ((x34.size : Nat) : Int) ≤ 9223372036854775807 ∧
          ((((⟨#[32, 32]⟩ : ByteArray) ++ x34).size : Nat) : Int) + (((⟨#[32]⟩ : ByteArray).size : Nat) : Int) ≤ 9223372036854775807 ∧
          ∃ (y38 : Int) (y38_1 : ByteArray) (y38_2 : Bool) (y38_3 : Int) (y38_4 : Sv) (y38_5 : Sv), cl h4 (p5.add 1) = some (Value.int .i64 y38) ∧ cl h4 ((p5.add 1).add 1) = some (Value.string y38_1) ∧ cl h4 ((p5.add 1).add 2) = some (Value.bool y38_2) ∧ cl h4 ((p5.add 1).add 3) = some (Value.int .i64 y38_3) ∧ cl h4 ((p5.add 1).add 4) = some (Value.slice y38_4.a y38_4.n y38_4.c) ∧ cl h4 ((p5.add 1).add 5) = some (Value.slice y38_5.a y38_5.n y38_5.c) ∧
          cal Try.prog 28 #[Value.agg #[Value.int .i64 y38, Value.string y38_1, Value.bool y38_2, Value.int .i64 y38_3, Value.slice y38_4.a y38_4.n y38_4.c, Value.slice y38_5.a y38_5.n y38_5.c]] h4 fun u_1 h5 => asT u_1 fun x39 =>
          Sq_1 h5 ∧
          (((((⟨#[32, 32]⟩ : ByteArray) ++ x34) ++ (⟨#[32]⟩ : ByteArray)).size : Nat) : Int) + ((x39.size : Nat) : Int) ≤ 9223372036854775807 ∧
          ((((((⟨#[32, 32]⟩ : ByteArray) ++ x34) ++ (⟨#[32]⟩ : ByteArray)) ++ x39).size : Nat) : Int) + (((⟨#[10]⟩ : ByteArray).size : Nat) : Int) ≤ 9223372036854775807 ∧
          ((s3.size : Nat) : Int) + (((((((⟨#[32, 32]⟩ : ByteArray) ++ x34) ++ (⟨#[32]⟩ : ByteArray)) ++ x39) ++ (⟨#[10]⟩ : ByteArray)).size : Nat) : Int) ≤ 9223372036854775807 ∧
          I (s3 ++ (((((⟨#[32, 32]⟩ : ByteArray) ++ x34) ++ (⟨#[32]⟩ : ByteArray)) ++ x39) ++ (⟨#[10]⟩ : ByteArray))) (IntKind.i64.wrap (x28 + 1)) h5 ∧ m (s3 ++ (((((⟨#[32, 32]⟩ : ByteArray) ++ x34) ++ (⟨#[32]⟩ : ByteArray)) ++ x39) ++ (⟨#[10]⟩ : ByteArray))) (IntKind.i64.wrap (x28 + 1)) h5 < m s3 x28 h2)) (
        nn b0 fun p45 =>
        ldS h2 (p45.add 3) fun x47 =>
        ∃ (I_1 : ByteArray → Int → Heap → Prop) (m_1 : ByteArray → Int → Heap → Nat), I_1 s3 0 h2 ∧ ∀ s3_1 x49 h6, I_1 s3_1 x49 h6 →
        ifb (decide (x49 < ((x47.n : Nat) : Int))) (
          ixS x47 x49 fun q51 =>
          ∃ (y52 : Int) (y52_1 : Int) (y52_2 : Int) (y52_3 : Sv) (y52_4 : Int) (y52_5 : Sv) (y52_6 : Int) (y52_7 : Sv) (y52_8 : Bool) (y52_9 : ByteArray) (y52_10 : Int) (y52_11 : Sv) (y52_12 : Int) (y52_13 : Int) (y52_14 : Sv) (y52_15 : Int) (y52_16 : Int) (y52_17 : Int) (y52_18 : Int) (y52_19 : Int) (y52_20 : Int), cl h6 (q51.add ((x49 : Int).toNat * 21)) = some (Value.int .i64 y52) ∧ cl h6 ((q51.add ((x49 : Int).toNat * 21)).add 1) = some (Value.int .i64 y52_1) ∧ cl h6 ((q51.add ((x49 : Int).toNat * 21)).add 2) = some (Value.int .i64 y52_2) ∧ cl h6 ((q51.add ((x49 : Int).toNat * 21)).add 3) = some (Value.slice y52_3.a y52_3.n y52_3.c) ∧ cl h6 ((q51.add ((x49 : Int).toNat * 21)).add 4) = some (Value.int .i64 y52_4) ∧ cl h6 ((q51.add ((x49 : Int).toNat * 21)).add 5) = some (Value.slice y52_5.a y52_5.n y52_5.c) ∧ cl h6 ((q51.add ((x49 : Int).toNat * 21)).add 6) = some (Value.int .i64 y52_6) ∧ cl h6 ((q51.add ((x49 : Int).toNat * 21)).add 7) = some (Value.slice y52_7.a y52_7.n y52_7.c) ∧ cl h6 ((q51.add ((x49 : Int).toNat * 21)).add 8) = some (Value.bool y52_8) ∧ cl h6 ((q51.add ((x49 : Int).toNat * 21)).add 9) = some (Value.string y52_9) ∧ cl h6 ((q51.add ((x49 : Int).toNat * 21)).add 10) = some (Value.int .i64 y52_10) ∧ cl h6 ((q51.add ((x49 : Int).toNat * 21)).add 11) = some (Value.slice y52_11.a y52_11.n y52_11.c) ∧ cl h6 ((q51.add ((x49 : Int).toNat * 21)).add 12) = some (Value.int .i64 y52_12) ∧ cl h6 ((q51.add ((x49 : Int).toNat * 21)).add 13) = some (Value.int .i64 y52_13) ∧ cl h6 ((q51.add ((x49 : Int).toNat * 21)).add 14) = some (Value.slice y52_14.a y52_14.n y52_14.c) ∧ cl h6 ((q51.add ((x49 : Int).toNat * 21)).add 15) = some (Value.int .i64 y52_15) ∧ cl h6 ((q51.add ((x49 : Int).toNat * 21)).add 16) = some (Value.int .u64 y52_16) ∧ cl h6 ((q51.add ((x49 : Int).toNat * 21)).add 17) = some (Value.int .i64 y52_17) ∧ cl h6 ((q51.add ((x49 : Int).toNat * 21)).add 18) = some (Value.int .i64 y52_18) ∧ cl h6 ((q51.add ((x49 : Int).toNat * 21)).add 19) = some (Value.int .i64 y52_19) ∧ cl h6 ((q51.add ((x49 : Int).toNat * 21)).add 20) = some (Value.int .i64 y52_20) ∧
          new 61 #[Value.int .i64 0, Value.int .i64 0, Value.int .i64 0, Value.slice (⟨none, 0, 0⟩ : Sv).a (⟨none, 0, 0⟩ : Sv).n (⟨none, 0, 0⟩ : Sv).c, Value.int .i64 0, Value.slice (⟨none, 0, 0⟩ : Sv).a (⟨none, 0, 0⟩ : Sv).n (⟨none, 0, 0⟩ : Sv).c, Value.int .i64 0, Value.slice (⟨none, 0, 0⟩ : Sv).a (⟨none, 0, 0⟩ : Sv).n (⟨none, 0, 0⟩ : Sv).c, Value.bool false, Value.string (⟨#[]⟩ : ByteArray), Value.int .i64 0, Value.slice (⟨none, 0, 0⟩ : Sv).a (⟨none, 0, 0⟩ : Sv).n (⟨none, 0, 0⟩ : Sv).c, Value.int .i64 0, Value.int .i64 0, Value.slice (⟨none, 0, 0⟩ : Sv).a (⟨none, 0, 0⟩ : Sv).n (⟨none, 0, 0⟩ : Sv).c, Value.int .i64 0, Value.int .u64 0, Value.int .i64 0, Value.int .i64 0, Value.int .i64 0, Value.int .i64 0] h6 fun p7 h7 =>
          stoA h7 p7 [Value.int .i64 y52, Value.int .i64 y52_1, Value.int .i64 y52_2, Value.slice y52_3.a y52_3.n y52_3.c, Value.int .i64 y52_4, Value.slice y52_5.a y52_5.n y52_5.c, Value.int .i64 y52_6, Value.slice y52_7.a y52_7.n y52_7.c, Value.bool y52_8, Value.string y52_9, Value.int .i64 y52_10, Value.slice y52_11.a y52_11.n y52_11.c, Value.int .i64 y52_12, Value.int .i64 y52_13, Value.slice y52_14.a y52_14.n y52_14.c, Value.int .i64 y52_15, Value.int .u64 y52_16, Value.int .i64 y52_17, Value.int .i64 y52_18, Value.int .i64 y52_19, Value.int .i64 y52_20] fun h8 =>
          ∃ (y54 : Int) (y54_1 : Int) (y54_2 : Int) (y54_3 : Sv) (y54_4 : Int) (y54_5 : Sv) (y54_6 : Int) (y54_7 : Sv) (y54_8 : Bool) (y54_9 : ByteArray) (y54_10 : Int) (y54_11 : Sv) (y54_12 : Int) (y54_13 : Int) (y54_14 : Sv) (y54_15 : Int) (y54_16 : Int) (y54_17 : Int) (y54_18 : Int) (y54_19 : Int) (y54_20 : Int), cl h8 p7 = some (Value.int .i64 y54) ∧ cl h8 (p7.add 1) = some (Value.int .i64 y54_1) ∧ cl h8 (p7.add 2) = some (Value.int .i64 y54_2) ∧ cl h8 (p7.add 3) = some (Value.slice y54_3.a y54_3.n y54_3.c) ∧ cl h8 (p7.add 4) = some (Value.int .i64 y54_4) ∧ cl h8 (p7.add 5) = some (Value.slice y54_5.a y54_5.n y54_5.c) ∧ cl h8 (p7.add 6) = some (Value.int .i64 y54_6) ∧ cl h8 (p7.add 7) = some (Value.slice y54_7.a y54_7.n y54_7.c) ∧ cl h8 (p7.add 8) = some (Value.bool y54_8) ∧ cl h8 (p7.add 9) = some (Value.string y54_9) ∧ cl h8 (p7.add 10) = some (Value.int .i64 y54_10) ∧ cl h8 (p7.add 11) = some (Value.slice y54_11.a y54_11.n y54_11.c) ∧ cl h8 (p7.add 12) = some (Value.int .i64 y54_12) ∧ cl h8 (p7.add 13) = some (Value.int .i64 y54_13) ∧ cl h8 (p7.add 14) = some (Value.slice y54_14.a y54_14.n y54_14.c) ∧ cl h8 (p7.add 15) = some (Value.int .i64 y54_15) ∧ cl h8 (p7.add 16) = some (Value.int .u64 y54_16) ∧ cl h8 (p7.add 17) = some (Value.int .i64 y54_17) ∧ cl h8 (p7.add 18) = some (Value.int .i64 y54_18) ∧ cl h8 (p7.add 19) = some (Value.int .i64 y54_19) ∧ cl h8 (p7.add 20) = some (Value.int .i64 y54_20) ∧
          cal Try.prog 29 #[Value.agg #[Value.int .i64 y54, Value.int .i64 y54_1, Value.int .i64 y54_2, Value.slice y54_3.a y54_3.n y54_3.c, Value.int .i64 y54_4, Value.slice y54_5.a y54_5.n y54_5.c, Value.int .i64 y54_6, Value.slice y54_7.a y54_7.n y54_7.c, Value.bool y54_8, Value.string y54_9, Value.int .i64 y54_10, Value.slice y54_11.a y54_11.n y54_11.c, Value.int .i64 y54_12, Value.int .i64 y54_13, Value.slice y54_14.a y54_14.n y54_14.c, Value.int .i64 y54_15, Value.int .u64 y54_16, Value.int .i64 y54_17, Value.int .i64 y54_18, Value.int .i64 y54_19, Value.int .i64 y54_20]] h8 fun u_2 h9 => asT u_2 fun x55 =>
          (((⟨#[32, 32, 32, 32]⟩ : ByteArray).size : Nat) : Int) + ((x55.size : Nat) : Int) ≤ 9223372036854775807 ∧
          ((((⟨#[32, 32, 32, 32]⟩ : ByteArray) ++ x55).size : Nat) : Int) + (((⟨#[10]⟩ : ByteArray).size : Nat) : Int) ≤ 9223372036854775807 ∧
          ((s3_1.size : Nat) : Int) + (((((⟨#[32, 32, 32, 32]⟩ : ByteArray) ++ x55) ++ (⟨#[10]⟩ : ByteArray)).size : Nat) : Int) ≤ 9223372036854775807 ∧
          I_1 (s3_1 ++ (((⟨#[32, 32, 32, 32]⟩ : ByteArray) ++ x55) ++ (⟨#[10]⟩ : ByteArray))) (IntKind.i64.wrap (x49 + 1)) h9 ∧ m_1 (s3_1 ++ (((⟨#[32, 32, 32, 32]⟩ : ByteArray) ++ x55) ++ (⟨#[10]⟩ : ByteArray))) (IntKind.i64.wrap (x49 + 1)) h9 < m_1 s3_1 x49 h6) (
          R (Value.string s3_1) h6))))

set_option maxRecDepth 100000 in

theorem F15 {b0 h : _} {R : Value → Heap → Prop} (H : L15 b0 h R) : CallsH Try.prog 15 #[Value.pointer b0] h R := by
  refine CallsH.enter (n := 61) Try.func15 rfl rfl rfl rfl ?_
  intro w0 aa ww S
  unfold L15 at H
  refine W.seq ?_
  replace S := S.sub [(0, Value.pointer b0)] ⟨rfl, trivial⟩
  refine W.region ?_
  refine OL.pure S (Lf.run_assign (S.ev rfl)) rfl rfl trivial ?_
  clear S; intro aa S
  refine OL.nil ?_
  refine W.seq ?_
  refine W.seq ?_
  replace S := S.sub [(0, Value.pointer b0)] ⟨rfl, trivial⟩
  refine W.region ?_
  refine OL.pure S (Lf.run_move (S.ev rfl)) rfl rfl trivial ?_
  clear S; intro aa S
  refine OL.pure S (Lf.run_eqlpn Try.underlying37 (S.ev rfl) (S.ev rfl)) rfl rfl trivial ?_
  clear S; intro aa S
  refine OL.nil ?_
  refine W.cond S (b := (Option.isNone b0)) rfl (fun hb => ?_) (fun hb => ?_)
  · replace H := H.1 hb
    refine W.seq ?_
    replace S := S.sub [] trivial
    refine W.region ?_
    refine OL.pure S (Lf.run_assign (S.ev rfl)) rfl rfl trivial ?_
    clear S; intro aa S
    refine OL.nil ?_
    refine W.ret ?_
    exact Ret.one S rfl rfl H
  · replace H := H.2 hb
    refine W.skip ?_
    refine W.seq ?_
    replace S := S.sub [(0, Value.pointer b0)] ⟨rfl, trivial⟩
    obtain ⟨Sq, HS, H⟩ := H
    refine W.regionN [3] [10] Sq S (by kernel_rfl) ?_
    clear S; intro ww S
    refine BN.pure 0 S (fun _ => HS) rfl (by kernel_rfl) (by kernel_rfl) (fun _ => Lf.run_move (S.ev rfl)) rfl rfl trivial ?_
    clear S; intro aa S
    obtain ⟨p11, e, H⟩ := H
    refine BN.pure 1 S (fun _ => HS) rfl (by kernel_rfl) (by kernel_rfl) (fun _ => Lf.run_nc' (S.ev rfl) e) rfl rfl trivial ?_
    clear S; intro aa S
    refine BN.pure 2 S (fun _ => HS) rfl (by kernel_rfl) (by kernel_rfl) (fun _ => Lf.run_fa (S.ev rfl) fa33_0) rfl rfl trivial ?_
    clear S; intro aa S
    refine BN.pure 6 S (fun _ => HS) rfl (by kernel_rfl) (by kernel_rfl) (fun _ => Lf.run_move (S.ev rfl)) rfl rfl trivial ?_
    clear S; intro aa S
    obtain ⟨p17, e_1, H⟩ := H
    refine BN.pure 7 S (fun _ => HS) rfl (by kernel_rfl) (by kernel_rfl) (fun _ => Lf.run_nc' (S.ev rfl) e_1) rfl rfl trivial ?_
    clear S; intro aa S
    refine BN.pure 8 S (fun _ => HS) rfl (by kernel_rfl) (by kernel_rfl) (fun _ => Lf.run_fa (S.ev rfl) fa33_1) rfl rfl trivial ?_
    clear S; intro aa S
    obtain ⟨x13, c, H⟩ := H
    refine BN.held 3 S HS rfl (by kernel_rfl) (fun _ hq => Lf.run_ld (S.ev rfl) fl9 (c _ hq)) rfl rfl trivial ?_
    clear S; intro aa S
    obtain ⟨c_1, H⟩ := H
    refine BN.pure 4 S (fun _ => HS) rfl (by kernel_rfl) (by kernel_rfl) (fun _ => Lf.run_addt (S.ev rfl) (S.ev rfl) c_1) rfl rfl trivial ?_
    clear S; intro aa S
    obtain ⟨c_2, H⟩ := H
    refine BN.pure 5 S (fun _ => HS) rfl (by kernel_rfl) (by kernel_rfl) (fun _ => Lf.run_addt (S.ev rfl) (S.ev rfl) c_2) rfl rfl trivial ?_
    clear S; intro aa S
    obtain ⟨x19, c_3, H⟩ := H
    refine BN.load 9 S (fun _ => HS) rfl (by kernel_rfl) (by kernel_rfl) (fun _ hx => Lf.run_ld (S.ev rfl) fl3 (hx.cell _ _ (S.cl c_3))) rfl rfl trivial ?_
    clear S; intro aa S
    refine BN.eff 10 rfl (by kernel_rfl) ?_
    refine ol_cal S H isfn27 rfl rfl trivial ?_
    clear S H aa; intro u aa ww h1 H S
    obtain ⟨x20, rfl, H⟩ := H
    refine OL.nil ?_
    clear HS; obtain ⟨HS, H⟩ := H
    refine ⟨fun _ => by rw [S.heap]; exact HS, ?_⟩
    obtain ⟨c_4, H⟩ := H
    refine BN.pure 11 S (fun _ => HS) rfl (by kernel_rfl) (by kernel_rfl) (fun _ => Lf.run_addt (S.ev rfl) (S.ev rfl) c_4) rfl rfl trivial ?_
    clear S; intro aa S
    obtain ⟨c_5, H⟩ := H
    refine BN.pure 12 S (fun _ => HS) rfl (by kernel_rfl) (by kernel_rfl) (fun _ => Lf.run_addt (S.ev rfl) (S.ev rfl) c_5) rfl rfl trivial ?_
    clear S; intro aa S
    refine BN.pure 13 S (fun _ => HS) rfl (by kernel_rfl) (by kernel_rfl) (fun _ => Lf.run_assign (S.ev rfl)) rfl rfl trivial ?_
    clear S; intro aa S
    refine BN.done (by kernel_rfl) ?_
    refine W.seq ?_
    refine W.seq ?_
    replace S := S.sub [(0, Value.pointer b0), (3, Value.string (((((⟨#[98, 111, 100, 121, 32]⟩ : ByteArray) ++ x13) ++ (⟨#[32]⟩ : ByteArray)) ++ x20) ++ (⟨#[10]⟩ : ByteArray)))] ⟨rfl, rfl, trivial⟩
    refine W.region ?_
    refine OL.pure S (Lf.run_move (S.ev rfl)) rfl rfl trivial ?_
    clear S; intro aa S
    obtain ⟨p24, e_2, H⟩ := H
    refine OL.pure S (Lf.run_nc' (S.ev rfl) e_2) rfl rfl trivial ?_
    clear S; intro aa S
    refine OL.pure S (Lf.run_fa (S.ev rfl) fa33_2) rfl rfl trivial ?_
    clear S; intro aa S
    obtain ⟨x26, c_6, H⟩ := H
    refine OL.pure S (Lf.run_ld (S.ev rfl) fl30 (S.cl c_6)) rfl rfl trivial ?_
    clear S; intro aa S
    refine OL.pure S (Lf.run_lens (S.ev rfl) rfl Try.underlying30) rfl rfl trivial ?_
    clear S; intro aa S
    refine OL.pure S (Lf.run_move (S.ev rfl)) rfl rfl trivial ?_
    clear S; intro aa S
    refine OL.nil ?_
    refine W.block ?_
    obtain ⟨I, m, H, HB_1⟩ := H
    refine W.loopS (σ := ByteArray × Int × Heap) (fun s aa ww => St 61 [(0, Value.pointer b0), (3, Value.string s.1), (26, Value.slice x26.a x26.n x26.c), (27, Value.int .i64 ((x26.n : Nat) : Int)), (28, Value.int .i64 s.2.1)] s.2.2 w0 aa ww ∧ I s.1 s.2.1 s.2.2) (fun s => m s.1 s.2.1 s.2.2) ((((((⟨#[98, 111, 100, 121, 32]⟩ : ByteArray) ++ x13) ++ (⟨#[32]⟩ : ByteArray)) ++ x20) ++ (⟨#[10]⟩ : ByteArray)), 0, h1) ⟨S.sub _ ⟨rfl, rfl, rfl, rfl, rfl, trivial⟩, H⟩ ?_
    clear H S aa
    rintro ⟨s3, x28, h2⟩ aa ww ⟨S, HI⟩
    replace S : St 61 [(0, Value.pointer b0), (3, Value.string s3), (26, Value.slice x26.a x26.n x26.c), (27, Value.int .i64 ((x26.n : Nat) : Int)), (28, Value.int .i64 x28)] h2 w0 aa ww := S
    have H := HB_1 s3 x28 h2 HI
    clear HI
    refine W.seq ?_
    replace S := S.sub [(0, Value.pointer b0), (3, Value.string s3), (26, Value.slice x26.a x26.n x26.c), (27, Value.int .i64 ((x26.n : Nat) : Int)), (28, Value.int .i64 x28)] ⟨rfl, rfl, rfl, rfl, rfl, trivial⟩
    refine W.region ?_
    refine OL.pure S (Lf.run_lss (S.ev rfl) (S.ev rfl)) rfl rfl trivial ?_
    clear S; intro aa S
    refine OL.nil ?_
    refine W.seq ?_
    refine W.cond S (b := (decide (x28 < ((x26.n : Nat) : Int)))) rfl (fun hb_1 => ?_) (fun hb_1 => ?_)
    · replace H := H.1 hb_1
      refine W.skip ?_
      refine W.seq ?_
      refine W.block ?_
      refine W.seq ?_
      replace S := S.sub [(0, Value.pointer b0), (3, Value.string s3), (26, Value.slice x26.a x26.n x26.c), (27, Value.int .i64 ((x26.n : Nat) : Int)), (28, Value.int .i64 x28)] ⟨rfl, rfl, rfl, rfl, rfl, trivial⟩
      refine W.region ?_
      obtain ⟨q30, e_3, e_4, e_5, H⟩ := H
      refine OL.pure S (Lf.run_ixs (S.ev rfl) (S.ev rfl) Try.underlying30 ti53 e_3 e_4 e_5) rfl rfl trivial ?_
      clear S; intro aa S
      obtain ⟨y31, y31_1, y31_2, y31_3, y31_4, y31_5, y31_6, y31_7, y31_8, c_21, c_22, c_23, c_24, c_25, c_26, c_27, c_28, c_29, H⟩ := H
      refine OL.pure S (Lf.run_ldA (cs := [Value.string y31, Value.int .i64 y31_1, Value.string y31_2, Value.bool y31_3, Value.int .i64 y31_4, Value.slice y31_5.a y31_5.n y31_5.c, Value.slice y31_6.a y31_6.n y31_6.c, Value.int .i64 y31_7, Value.int .i64 y31_8]) (S.ev rfl) ag53 ti53 (by rw [S.heap]; exact RowL.toRow ⟨c_21, c_22, c_23, c_24, c_25, c_26, c_27, c_28, c_29, trivial⟩)) rfl rfl trivial ?_
      clear S; intro aa S
      refine ol_alloc S H ti53 rfl rfl trivial ?_
      clear S H aa; intro p5 aa ww h3 H S
      refine ol_stoA S H rfl rfl ti53 trivial ?_
      clear S H aa; intro aa ww h4 H S
      refine OL.nil ?_
      replace S := S.sub [(0, Value.pointer b0), (3, Value.string s3), (5, Value.pointer (some p5)), (26, Value.slice x26.a x26.n x26.c), (27, Value.int .i64 ((x26.n : Nat) : Int)), (28, Value.int .i64 x28)] ⟨rfl, rfl, rfl, rfl, rfl, rfl, trivial⟩
      obtain ⟨Sq_1, HS_1, H⟩ := H
      refine W.regionN [2] [7] Sq_1 S (by kernel_rfl) ?_
      clear S; intro ww S
      refine BN.pure 0 S (fun _ => HS_1) rfl (by kernel_rfl) (by kernel_rfl) (fun _ => Lf.run_move (S.ev rfl)) rfl rfl trivial ?_
      clear S; intro aa S
      refine BN.pure 1 S (fun _ => HS_1) rfl (by kernel_rfl) (by kernel_rfl) (fun _ => Lf.run_fa (S.ev rfl) fa53_0) rfl rfl trivial ?_
      clear S; intro aa S
      refine BN.pure 5 S (fun _ => HS_1) rfl (by kernel_rfl) (by kernel_rfl) (fun _ => Lf.run_fa (S.ev rfl) fa53_1) rfl rfl trivial ?_
      clear S; intro aa S
      obtain ⟨x34, c_8, H⟩ := H
      refine BN.held 2 S HS_1 rfl (by kernel_rfl) (fun _ hq => Lf.run_ld (S.ev rfl) fl9 (c_8 _ hq)) rfl rfl trivial ?_
      clear S; intro aa S
      obtain ⟨c_9, H⟩ := H
      refine BN.pure 3 S (fun _ => HS_1) rfl (by kernel_rfl) (by kernel_rfl) (fun _ => Lf.run_addt (S.ev rfl) (S.ev rfl) c_9) rfl rfl trivial ?_
      clear S; intro aa S
      obtain ⟨c_10, H⟩ := H
      refine BN.pure 4 S (fun _ => HS_1) rfl (by kernel_rfl) (by kernel_rfl) (fun _ => Lf.run_addt (S.ev rfl) (S.ev rfl) c_10) rfl rfl trivial ?_
      clear S; intro aa S
      obtain ⟨y38, y38_1, y38_2, y38_3, y38_4, y38_5, c_15, c_16, c_17, c_18, c_19, c_20, H⟩ := H
      refine BN.load 6 S (fun _ => HS_1) rfl (by kernel_rfl) (by kernel_rfl) (fun _ hx => Lf.run_ldA (cs := [Value.int .i64 y38, Value.string y38_1, Value.bool y38_2, Value.int .i64 y38_3, Value.slice y38_4.a y38_4.n y38_4.c, Value.slice y38_5.a y38_5.n y38_5.c]) (S.ev rfl) ag49 ti49 (hx.row (S.row ⟨c_15, c_16, c_17, c_18, c_19, c_20, trivial⟩))) rfl rfl trivial ?_
      clear S; intro aa S
      refine BN.eff 7 rfl (by kernel_rfl) ?_
      refine ol_cal S H isfn28 rfl rfl trivial ?_
      clear S H aa; intro u_1 aa ww h5 H S
      obtain ⟨x39, rfl, H⟩ := H
      refine OL.nil ?_
      clear HS_1; obtain ⟨HS_1, H⟩ := H
      refine ⟨fun _ => by rw [S.heap]; exact HS_1, ?_⟩
      obtain ⟨c_12, H⟩ := H
      refine BN.pure 8 S (fun _ => HS_1) rfl (by kernel_rfl) (by kernel_rfl) (fun _ => Lf.run_addt (S.ev rfl) (S.ev rfl) c_12) rfl rfl trivial ?_
      clear S; intro aa S
      obtain ⟨c_13, H⟩ := H
      refine BN.pure 9 S (fun _ => HS_1) rfl (by kernel_rfl) (by kernel_rfl) (fun _ => Lf.run_addt (S.ev rfl) (S.ev rfl) c_13) rfl rfl trivial ?_
      clear S; intro aa S
      obtain ⟨c_14, H⟩ := H
      refine BN.pure 10 S (fun _ => HS_1) rfl (by kernel_rfl) (by kernel_rfl) (fun _ => Lf.run_addt (S.ev rfl) (S.ev rfl) c_14) rfl rfl trivial ?_
      clear S; intro aa S
      refine BN.pure 11 S (fun _ => HS_1) rfl (by kernel_rfl) (by kernel_rfl) (fun _ => Lf.run_assign (S.ev rfl)) rfl rfl trivial ?_
      clear S; intro aa S
      refine BN.done (by kernel_rfl) ?_
      replace S := S.sub [(0, Value.pointer b0), (3, Value.string (s3 ++ (((((⟨#[32, 32]⟩ : ByteArray) ++ x34) ++ (⟨#[32]⟩ : ByteArray)) ++ x39) ++ (⟨#[10]⟩ : ByteArray)))), (26, Value.slice x26.a x26.n x26.c), (27, Value.int .i64 ((x26.n : Nat) : Int)), (28, Value.int .i64 x28)] ⟨rfl, rfl, rfl, rfl, rfl, trivial⟩
      refine W.region ?_
      refine OL.pure S (Lf.run_add (S.ev rfl) (S.ev rfl)) rfl rfl trivial ?_
      clear S; intro aa S
      refine OL.pure S (Lf.run_move (S.ev rfl)) rfl rfl trivial ?_
      clear S; intro aa S
      refine OL.nil ?_
      exact ⟨((s3 ++ (((((⟨#[32, 32]⟩ : ByteArray) ++ x34) ++ (⟨#[32]⟩ : ByteArray)) ++ x39) ++ (⟨#[10]⟩ : ByteArray))), (IntKind.i64.wrap (x28 + 1)), h5), ⟨S.sub _ ⟨rfl, rfl, rfl, rfl, rfl, trivial⟩, H.1⟩, H.2⟩
    · replace H := H.2 hb_1
      refine W.exit_ ?_
      refine xhit ?_
      refine W.seq ?_
      refine W.seq ?_
      replace S := S.sub [(0, Value.pointer b0), (3, Value.string s3)] ⟨rfl, rfl, trivial⟩
      refine W.region ?_
      refine OL.pure S (Lf.run_move (S.ev rfl)) rfl rfl trivial ?_
      clear S; intro aa S
      obtain ⟨p45, e_6, H⟩ := H
      refine OL.pure S (Lf.run_nc' (S.ev rfl) e_6) rfl rfl trivial ?_
      clear S; intro aa S
      refine OL.pure S (Lf.run_fa (S.ev rfl) fa33_3) rfl rfl trivial ?_
      clear S; intro aa S
      obtain ⟨x47, c_30, H⟩ := H
      refine OL.pure S (Lf.run_ld (S.ev rfl) fl31 (S.cl c_30)) rfl rfl trivial ?_
      clear S; intro aa S
      refine OL.pure S (Lf.run_lens (S.ev rfl) rfl Try.underlying31) rfl rfl trivial ?_
      clear S; intro aa S
      refine OL.pure S (Lf.run_move (S.ev rfl)) rfl rfl trivial ?_
      clear S; intro aa S
      refine OL.nil ?_
      refine W.block ?_
      obtain ⟨I_1, m_1, H, HB⟩ := H
      refine W.loopS (σ := ByteArray × Int × Heap) (fun s aa ww => St 61 [(3, Value.string s.1), (47, Value.slice x47.a x47.n x47.c), (48, Value.int .i64 ((x47.n : Nat) : Int)), (49, Value.int .i64 s.2.1)] s.2.2 w0 aa ww ∧ I_1 s.1 s.2.1 s.2.2) (fun s => m_1 s.1 s.2.1 s.2.2) (s3, 0, h2) ⟨S.sub _ ⟨rfl, rfl, rfl, rfl, trivial⟩, H⟩ ?_
      clear H S aa
      rintro ⟨s3_1, x49, h6⟩ aa ww ⟨S, HI⟩
      replace S : St 61 [(3, Value.string s3_1), (47, Value.slice x47.a x47.n x47.c), (48, Value.int .i64 ((x47.n : Nat) : Int)), (49, Value.int .i64 x49)] h6 w0 aa ww := S
      have H := HB s3_1 x49 h6 HI
      clear HI
      refine W.seq ?_
      replace S := S.sub [(3, Value.string s3_1), (47, Value.slice x47.a x47.n x47.c), (48, Value.int .i64 ((x47.n : Nat) : Int)), (49, Value.int .i64 x49)] ⟨rfl, rfl, rfl, rfl, trivial⟩
      refine W.region ?_
      refine OL.pure S (Lf.run_lss (S.ev rfl) (S.ev rfl)) rfl rfl trivial ?_
      clear S; intro aa S
      refine OL.nil ?_
      refine W.seq ?_
      refine W.cond S (b := (decide (x49 < ((x47.n : Nat) : Int)))) rfl (fun hb_2 => ?_) (fun hb_2 => ?_)
      · replace H := H.1 hb_2
        refine W.skip ?_
        refine W.seq ?_
        refine W.block ?_
        refine W.seq ?_
        replace S := S.sub [(3, Value.string s3_1), (47, Value.slice x47.a x47.n x47.c), (48, Value.int .i64 ((x47.n : Nat) : Int)), (49, Value.int .i64 x49)] ⟨rfl, rfl, rfl, rfl, trivial⟩
        refine W.region ?_
        obtain ⟨q51, e_7, e_8, e_9, H⟩ := H
        refine OL.pure S (Lf.run_ixs (S.ev rfl) (S.ev rfl) Try.underlying31 ti61 e_7 e_8 e_9) rfl rfl trivial ?_
        clear S; intro aa S
        obtain ⟨y52, y52_1, y52_2, y52_3, y52_4, y52_5, y52_6, y52_7, y52_8, y52_9, y52_10, y52_11, y52_12, y52_13, y52_14, y52_15, y52_16, y52_17, y52_18, y52_19, y52_20, c_57, c_58, c_59, c_60, c_61, c_62, c_63, c_64, c_65, c_66, c_67, c_68, c_69, c_70, c_71, c_72, c_73, c_74, c_75, c_76, c_77, H⟩ := H
        refine OL.pure S (Lf.run_ldA (cs := [Value.int .i64 y52, Value.int .i64 y52_1, Value.int .i64 y52_2, Value.slice y52_3.a y52_3.n y52_3.c, Value.int .i64 y52_4, Value.slice y52_5.a y52_5.n y52_5.c, Value.int .i64 y52_6, Value.slice y52_7.a y52_7.n y52_7.c, Value.bool y52_8, Value.string y52_9, Value.int .i64 y52_10, Value.slice y52_11.a y52_11.n y52_11.c, Value.int .i64 y52_12, Value.int .i64 y52_13, Value.slice y52_14.a y52_14.n y52_14.c, Value.int .i64 y52_15, Value.int .u64 y52_16, Value.int .i64 y52_17, Value.int .i64 y52_18, Value.int .i64 y52_19, Value.int .i64 y52_20]) (S.ev rfl) ag61 ti61 (by rw [S.heap]; exact RowL.toRow ⟨c_57, c_58, c_59, c_60, c_61, c_62, c_63, c_64, c_65, c_66, c_67, c_68, c_69, c_70, c_71, c_72, c_73, c_74, c_75, c_76, c_77, trivial⟩)) rfl rfl trivial ?_
        clear S; intro aa S
        refine ol_alloc S H ti61 rfl rfl trivial ?_
        clear S H aa; intro p7 aa ww h7 H S
        refine ol_stoA S H rfl rfl ti61 trivial ?_
        clear S H aa; intro aa ww h8 H S
        refine OL.nil ?_
        replace S := S.sub [(3, Value.string s3_1), (7, Value.pointer (some p7)), (47, Value.slice x47.a x47.n x47.c), (48, Value.int .i64 ((x47.n : Nat) : Int)), (49, Value.int .i64 x49)] ⟨rfl, rfl, rfl, rfl, rfl, trivial⟩
        refine W.region ?_
        refine OL.pure S (Lf.run_move (S.ev rfl)) rfl rfl trivial ?_
        clear S; intro aa S
        obtain ⟨y54, y54_1, y54_2, y54_3, y54_4, y54_5, y54_6, y54_7, y54_8, y54_9, y54_10, y54_11, y54_12, y54_13, y54_14, y54_15, y54_16, y54_17, y54_18, y54_19, y54_20, c_36, c_37, c_38, c_39, c_40, c_41, c_42, c_43, c_44, c_45, c_46, c_47, c_48, c_49, c_50, c_51, c_52, c_53, c_54, c_55, c_56, H⟩ := H
        refine OL.pure S (Lf.run_ldA (cs := [Value.int .i64 y54, Value.int .i64 y54_1, Value.int .i64 y54_2, Value.slice y54_3.a y54_3.n y54_3.c, Value.int .i64 y54_4, Value.slice y54_5.a y54_5.n y54_5.c, Value.int .i64 y54_6, Value.slice y54_7.a y54_7.n y54_7.c, Value.bool y54_8, Value.string y54_9, Value.int .i64 y54_10, Value.slice y54_11.a y54_11.n y54_11.c, Value.int .i64 y54_12, Value.int .i64 y54_13, Value.slice y54_14.a y54_14.n y54_14.c, Value.int .i64 y54_15, Value.int .u64 y54_16, Value.int .i64 y54_17, Value.int .i64 y54_18, Value.int .i64 y54_19, Value.int .i64 y54_20]) (S.ev rfl) ag61 ti61 (by rw [S.heap]; exact RowL.toRow ⟨c_36, c_37, c_38, c_39, c_40, c_41, c_42, c_43, c_44, c_45, c_46, c_47, c_48, c_49, c_50, c_51, c_52, c_53, c_54, c_55, c_56, trivial⟩)) rfl rfl trivial ?_
        clear S; intro aa S
        refine ol_cal S H isfn29 rfl rfl trivial ?_
        clear S H aa; intro u_2 aa ww h9 H S
        obtain ⟨x55, rfl, H⟩ := H
        obtain ⟨c_33, H⟩ := H
        refine OL.pure S (Lf.run_addt (S.ev rfl) (S.ev rfl) c_33) rfl rfl trivial ?_
        clear S; intro aa S
        obtain ⟨c_34, H⟩ := H
        refine OL.pure S (Lf.run_addt (S.ev rfl) (S.ev rfl) c_34) rfl rfl trivial ?_
        clear S; intro aa S
        obtain ⟨c_35, H⟩ := H
        refine OL.pure S (Lf.run_addt (S.ev rfl) (S.ev rfl) c_35) rfl rfl trivial ?_
        clear S; intro aa S
        refine OL.pure S (Lf.run_assign (S.ev rfl)) rfl rfl trivial ?_
        clear S; intro aa S
        refine OL.nil ?_
        replace S := S.sub [(3, Value.string (s3_1 ++ (((⟨#[32, 32, 32, 32]⟩ : ByteArray) ++ x55) ++ (⟨#[10]⟩ : ByteArray)))), (47, Value.slice x47.a x47.n x47.c), (48, Value.int .i64 ((x47.n : Nat) : Int)), (49, Value.int .i64 x49)] ⟨rfl, rfl, rfl, rfl, trivial⟩
        refine W.region ?_
        refine OL.pure S (Lf.run_add (S.ev rfl) (S.ev rfl)) rfl rfl trivial ?_
        clear S; intro aa S
        refine OL.pure S (Lf.run_move (S.ev rfl)) rfl rfl trivial ?_
        clear S; intro aa S
        refine OL.nil ?_
        exact ⟨((s3_1 ++ (((⟨#[32, 32, 32, 32]⟩ : ByteArray) ++ x55) ++ (⟨#[10]⟩ : ByteArray))), (IntKind.i64.wrap (x49 + 1)), h9), ⟨S.sub _ ⟨rfl, rfl, rfl, rfl, trivial⟩, H.1⟩, H.2⟩
      · replace H := H.2 hb_2
        refine W.exit_ ?_
        refine xhit ?_
        refine W.seq ?_
        replace S := S.sub [(3, Value.string s3_1)] ⟨rfl, trivial⟩
        refine W.region ?_
        refine OL.pure S (Lf.run_move (S.ev rfl)) rfl rfl trivial ?_
        clear S; intro aa S
        refine OL.pure S (Lf.run_assign (S.ev rfl)) rfl rfl trivial ?_
        clear S; intro aa S
        refine OL.nil ?_
        refine W.ret ?_
        exact Ret.one S rfl rfl H

end Go.Proofs.Ytifjmbbnpkgmaaa

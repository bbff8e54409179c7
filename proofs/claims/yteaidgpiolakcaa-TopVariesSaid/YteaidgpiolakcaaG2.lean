/- Lifted by program off the elaborated code: each Go function, read as a proposition over typed variables and the heap. -/
import Derived.Test.YteaidgpiolakcaaG0
import Derived.Test.YteaidgpiolakcaaLiftY
namespace Go.Proofs.Yteaidgpiolakcaa
open Go Go.Lf
set_option linter.unusedVariables false
set_option maxRecDepth 100000

/-- chattel types.Inst -/
def L11 (x0 : Int) (x0_1 : ByteArray) (x0_2 : Bool) (x0_3 : Int) (x0_4 : Sv) (x0_5 : Sv) (lifes1 : Sv) (names2 : Sv) (args3 : Sv) (h : Heap) (R : Value → Heap → Prop) : Prop :=
  new 32 #[Value.int .i64 x0, Value.string x0_1, Value.bool x0_2, Value.int .i64 x0_3, Value.slice x0_4.a x0_4.n x0_4.c, Value.slice x0_5.a x0_5.n x0_5.c] h fun p4 h1 =>
  new 30 #[Value.slice lifes1.a lifes1.n lifes1.c] h1 fun p5 h2 =>
  new 32 #[Value.int .i64 0, Value.string (⟨#[]⟩ : ByteArray), Value.bool false, Value.int .i64 0, Value.slice (⟨none, 0, 0⟩ : Sv).a (⟨none, 0, 0⟩ : Sv).n (⟨none, 0, 0⟩ : Sv).c, Value.slice (⟨none, 0, 0⟩ : Sv).a (⟨none, 0, 0⟩ : Sv).n (⟨none, 0, 0⟩ : Sv).c] h2 fun p8 h3 =>
  ∃ J : Heap → Prop, (
    ldI .i64 h3 p4 fun x16 =>
    ifb (x16 == 9) (
      ldT h3 (p4.add 1) fun x20 =>
      cal Try.prog 18 #[Value.slice names2.a names2.n names2.c, Value.string x20] h3 fun u h4 => asI .i64 u fun x21 =>
      ifb ((decide (0 ≤ x21)) && (decide (x21 < ((args3.n : Nat) : Int)))) (
        ixS args3 x21 fun q32 =>
        ∃ (y33 : Int) (y33_1 : ByteArray) (y33_2 : Bool) (y33_3 : Int) (y33_4 : Sv) (y33_5 : Sv), cl h4 (q32.add ((x21 : Int).toNat * 6)) = some (Value.int .i64 y33) ∧ cl h4 ((q32.add ((x21 : Int).toNat * 6)).add 1) = some (Value.string y33_1) ∧ cl h4 ((q32.add ((x21 : Int).toNat * 6)).add 2) = some (Value.bool y33_2) ∧ cl h4 ((q32.add ((x21 : Int).toNat * 6)).add 3) = some (Value.int .i64 y33_3) ∧ cl h4 ((q32.add ((x21 : Int).toNat * 6)).add 4) = some (Value.slice y33_4.a y33_4.n y33_4.c) ∧ cl h4 ((q32.add ((x21 : Int).toNat * 6)).add 5) = some (Value.slice y33_5.a y33_5.n y33_5.c) ∧
        stoA h4 p8 [Value.int .i64 y33, Value.string y33_1, Value.bool y33_2, Value.int .i64 y33_3, Value.slice y33_4.a y33_4.n y33_4.c, Value.slice y33_5.a y33_5.n y33_5.c] fun h5 =>
        ∃ (y : Int) (y_1 : ByteArray) (y_2 : Bool) (y_3 : Int) (y_4 : Sv) (y_5 : Sv), cl h5 p8 = some (Value.int .i64 y) ∧ cl h5 (p8.add 1) = some (Value.string y_1) ∧ cl h5 (p8.add 2) = some (Value.bool y_2) ∧ cl h5 (p8.add 3) = some (Value.int .i64 y_3) ∧ cl h5 (p8.add 4) = some (Value.slice y_4.a y_4.n y_4.c) ∧ cl h5 (p8.add 5) = some (Value.slice y_5.a y_5.n y_5.c) ∧
        R (Value.agg #[Value.int .i64 y, Value.string y_1, Value.bool y_2, Value.int .i64 y_3, Value.slice y_4.a y_4.n y_4.c, Value.slice y_5.a y_5.n y_5.c]) h5) (
        J h4)) (
      J h3)) ∧ (∀ h6, J h6 →
  ∃ J_1 : Heap → Prop, (
    ∃ (y35 : Int) (y35_1 : ByteArray) (y35_2 : Bool) (y35_3 : Int) (y35_4 : Sv) (y35_5 : Sv), cl h6 p4 = some (Value.int .i64 y35) ∧ cl h6 (p4.add 1) = some (Value.string y35_1) ∧ cl h6 (p4.add 2) = some (Value.bool y35_2) ∧ cl h6 (p4.add 3) = some (Value.int .i64 y35_3) ∧ cl h6 (p4.add 4) = some (Value.slice y35_4.a y35_4.n y35_4.c) ∧ cl h6 (p4.add 5) = some (Value.slice y35_5.a y35_5.n y35_5.c) ∧
    cal Try.prog 20 #[Value.agg #[Value.int .i64 y35, Value.string y35_1, Value.bool y35_2, Value.int .i64 y35_3, Value.slice y35_4.a y35_4.n y35_4.c, Value.slice y35_5.a y35_5.n y35_5.c]] h6 fun u_1 h7 => asB u_1 fun x36 =>
    ∃ J_2 : Bool → Prop, (andr x36 (fun k =>
      ldI .i64 h7 p4 fun x39 =>
      k (x39 != 9)) J_2) ∧ ∀ x41, J_2 x41 →
    ifb x41 (
      ldI .i64 h7 (p4.add 3) fun x44 =>
      calV Try.prog (Value.func (.func 19) #[] #[Value.pointer (some p5)]) #[Value.int .i64 x44] h7 fun u_2 h8 => asI .i64 u_2 fun x45 =>
      sto h8 (p4.add 3) (Value.int .i64 x45) fun h9 =>
      J_1 h9) (
      J_1 h7)) ∧ (∀ h10, J_1 h10 →
  ∃ J_3 : Heap → Prop, (
    ldI .i64 h10 p4 fun x48 =>
    ifb (x48 == 5) (
      ldS h10 (p4.add 4) fun x51 =>
      cal Try.prog 21 #[Value.slice x51.a x51.n x51.c] h10 fun u_3 h11 => asS u_3 fun x52 =>
      sto h11 (p4.add 4) (Value.slice x52.a x52.n x52.c) fun h12 =>
      ldS h12 (p4.add 4) fun x55 =>
      ∃ (I : Int → Heap → Prop) (m : Int → Heap → Nat), I 0 h12 ∧ ∀ x57 h13, I x57 h13 →
      ifb (decide (x57 < ((x55.n : Nat) : Int))) (
        ixS x55 x57 fun q60 =>
        ldI .i64 h13 (q60.add ((x57 : Int).toNat * 1)) fun x61 =>
        ∃ Sq : Heap → Prop, Sq h13 ∧ (
          hlS Sq (p4.add 4) fun x63 =>
          calV Try.prog (Value.func (.func 19) #[] #[Value.pointer (some p5)]) #[Value.int .i64 x61] h13 fun u_4 h14 => asI .i64 u_4 fun x67 =>
          Sq h14 ∧
          ixS x63 x57 fun q68 =>
          sto h14 (q68.add ((x57 : Int).toNat * 1)) (Value.int .i64 x67) fun h15 =>
          I (IntKind.i64.wrap (x57 + 1)) h15 ∧ m (IntKind.i64.wrap (x57 + 1)) h15 < m x57 h13)) (
        J_3 h13)) (
      J_3 h10)) ∧ (∀ h16, J_3 h16 →
  ldS h16 (p4.add 5) fun x71 =>
  cal Try.prog 22 #[Value.slice x71.a x71.n x71.c] h16 fun u_5 h17 => asS u_5 fun x72 =>
  sto h17 (p4.add 5) (Value.slice x72.a x72.n x72.c) fun h18 =>
  ldS h18 (p4.add 5) fun x75 =>
  ∃ (I_1 : Int → Heap → Prop) (m_1 : Int → Heap → Nat), I_1 0 h18 ∧ ∀ x77 h19, I_1 x77 h19 →
  ifb (decide (x77 < ((x75.n : Nat) : Int))) (
    ixS x75 x77 fun q80 =>
    ∃ (y81 : Int) (y81_1 : ByteArray) (y81_2 : Bool) (y81_3 : Int) (y81_4 : Sv) (y81_5 : Sv), cl h19 (q80.add ((x77 : Int).toNat * 6)) = some (Value.int .i64 y81) ∧ cl h19 ((q80.add ((x77 : Int).toNat * 6)).add 1) = some (Value.string y81_1) ∧ cl h19 ((q80.add ((x77 : Int).toNat * 6)).add 2) = some (Value.bool y81_2) ∧ cl h19 ((q80.add ((x77 : Int).toNat * 6)).add 3) = some (Value.int .i64 y81_3) ∧ cl h19 ((q80.add ((x77 : Int).toNat * 6)).add 4) = some (Value.slice y81_4.a y81_4.n y81_4.c) ∧ cl h19 ((q80.add ((x77 : Int).toNat * 6)).add 5) = some (Value.slice y81_5.a y81_5.n y81_5.c) ∧
    new 32 #[Value.int .i64 0, Value.string (⟨#[]⟩ : ByteArray), Value.bool false, Value.int .i64 0, Value.slice (⟨none, 0, 0⟩ : Sv).a (⟨none, 0, 0⟩ : Sv).n (⟨none, 0, 0⟩ : Sv).c, Value.slice (⟨none, 0, 0⟩ : Sv).a (⟨none, 0, 0⟩ : Sv).n (⟨none, 0, 0⟩ : Sv).c] h19 fun p14 h20 =>
    stoA h20 p14 [Value.int .i64 y81, Value.string y81_1, Value.bool y81_2, Value.int .i64 y81_3, Value.slice y81_4.a y81_4.n y81_4.c, Value.slice y81_5.a y81_5.n y81_5.c] fun h21 =>
    ∃ Sq_1 : Heap → Prop, Sq_1 h21 ∧ (
      ∃ (y85 : Int) (y85_1 : ByteArray) (y85_2 : Bool) (y85_3 : Int) (y85_4 : Sv) (y85_5 : Sv), cl h21 p14 = some (Value.int .i64 y85) ∧ cl h21 (p14.add 1) = some (Value.string y85_1) ∧ cl h21 (p14.add 2) = some (Value.bool y85_2) ∧ cl h21 (p14.add 3) = some (Value.int .i64 y85_3) ∧ cl h21 (p14.add 4) = some (Value.slice y85_4.a y85_4.n y85_4.c) ∧ cl h21 (p14.add 5) = some (Value.slice y85_5.a y85_5.n y85_5.c) ∧
      ldS h21 p5 fun x86 =>
      hlS Sq_1 (p4.add 5) fun x83 =>
      cal Try.prog 11 #[Value.agg #[Value.int .i64 y85, Value.string y85_1, Value.bool y85_2, Value.int .i64 y85_3, Value.slice y85_4.a y85_4.n y85_4.c, Value.slice y85_5.a y85_5.n y85_5.c], Value.slice x86.a x86.n x86.c, Value.slice names2.a names2.n names2.c, Value.slice args3.a args3.n args3.c] h21 fun u_6 h22 => ∃ (y89 : Int) (y89_1 : ByteArray) (y89_2 : Bool) (y89_3 : Int) (y89_4 : Sv) (y89_5 : Sv), u_6 = Value.agg #[Value.int .i64 y89, Value.string y89_1, Value.bool y89_2, Value.int .i64 y89_3, Value.slice y89_4.a y89_4.n y89_4.c, Value.slice y89_5.a y89_5.n y89_5.c] ∧
      Sq_1 h22 ∧
      ixS x83 x77 fun q90 =>
      stoA h22 (q90.add ((x77 : Int).toNat * 6)) [Value.int .i64 y89, Value.string y89_1, Value.bool y89_2, Value.int .i64 y89_3, Value.slice y89_4.a y89_4.n y89_4.c, Value.slice y89_5.a y89_5.n y89_5.c] fun h23 =>
      I_1 (IntKind.i64.wrap (x77 + 1)) h23 ∧ m_1 (IntKind.i64.wrap (x77 + 1)) h23 < m_1 x77 h19)) (
    ∃ (y92 : Int) (y92_1 : ByteArray) (y92_2 : Bool) (y92_3 : Int) (y92_4 : Sv) (y92_5 : Sv), cl h19 p4 = some (Value.int .i64 y92) ∧ cl h19 (p4.add 1) = some (Value.string y92_1) ∧ cl h19 (p4.add 2) = some (Value.bool y92_2) ∧ cl h19 (p4.add 3) = some (Value.int .i64 y92_3) ∧ cl h19 (p4.add 4) = some (Value.slice y92_4.a y92_4.n y92_4.c) ∧ cl h19 (p4.add 5) = some (Value.slice y92_5.a y92_5.n y92_5.c) ∧
    stoA h19 p8 [Value.int .i64 y92, Value.string y92_1, Value.bool y92_2, Value.int .i64 y92_3, Value.slice y92_4.a y92_4.n y92_4.c, Value.slice y92_5.a y92_5.n y92_5.c] fun h24 =>
    ∃ (y_6 : Int) (y_7 : ByteArray) (y_8 : Bool) (y_9 : Int) (y_10 : Sv) (y_11 : Sv), cl h24 p8 = some (Value.int .i64 y_6) ∧ cl h24 (p8.add 1) = some (Value.string y_7) ∧ cl h24 (p8.add 2) = some (Value.bool y_8) ∧ cl h24 (p8.add 3) = some (Value.int .i64 y_9) ∧ cl h24 (p8.add 4) = some (Value.slice y_10.a y_10.n y_10.c) ∧ cl h24 (p8.add 5) = some (Value.slice y_11.a y_11.n y_11.c) ∧
    R (Value.agg #[Value.int .i64 y_6, Value.string y_7, Value.bool y_8, Value.int .i64 y_9, Value.slice y_10.a y_10.n y_10.c, Value.slice y_11.a y_11.n y_11.c]) h24))))

set_option maxRecDepth 100000 in

theorem F11 {x0 x0_1 x0_2 x0_3 x0_4 x0_5 lifes1 names2 args3 h : _} {R : Value → Heap → Prop} (H : L11 x0 x0_1 x0_2 x0_3 x0_4 x0_5 lifes1 names2 args3 h R) : CallsH Try.prog 11 #[Value.agg #[Value.int .i64 x0, Value.string x0_1, Value.bool x0_2, Value.int .i64 x0_3, Value.slice x0_4.a x0_4.n x0_4.c, Value.slice x0_5.a x0_5.n x0_5.c], Value.slice lifes1.a lifes1.n lifes1.c, Value.slice names2.a names2.n names2.c, Value.slice args3.a args3.n args3.c] h R := by
  refine CallsH.enter (n := 93) Try.func11 rfl rfl rfl rfl ?_
  intro w0 aa ww S
  unfold L11 at H
  refine W.seq ?_
  replace S := S.sub [(0, Value.agg #[Value.int .i64 x0, Value.string x0_1, Value.bool x0_2, Value.int .i64 x0_3, Value.slice x0_4.a x0_4.n x0_4.c, Value.slice x0_5.a x0_5.n x0_5.c]), (1, Value.slice lifes1.a lifes1.n lifes1.c), (2, Value.slice names2.a names2.n names2.c), (3, Value.slice args3.a args3.n args3.c)] ⟨rfl, rfl, rfl, rfl, trivial⟩
  refine W.region ?_
  refine ol_box S H rfl rfl rfl trivial ?_
  clear S H aa; intro p4 aa ww h1 H S
  refine ol_box S H rfl rfl rfl trivial ?_
  clear S H aa; intro p5 aa ww h2 H S
  refine ol_alloc S H ti32 rfl rfl trivial ?_
  clear S H aa; intro p8 aa ww h3 H S
  refine OL.nil ?_
  obtain ⟨J, H, HK⟩ := H
  refine W.seqJ (fun aa ww => ∃ h6, St 93 [(2, Value.slice names2.a names2.n names2.c), (3, Value.slice args3.a args3.n args3.c), (4, Value.pointer (some p4)), (5, Value.pointer (some p5)), (8, Value.pointer (some p8))] h6 w0 aa ww ∧ J h6) ?_ ?_
  · clear HK
    refine W.seq ?_
    replace S := S.sub [(2, Value.slice names2.a names2.n names2.c), (3, Value.slice args3.a args3.n args3.c), (4, Value.pointer (some p4)), (5, Value.pointer (some p5)), (8, Value.pointer (some p8))] ⟨rfl, rfl, rfl, rfl, rfl, trivial⟩
    refine W.region ?_
    refine OL.pure S (Lf.run_fa (S.ev rfl) fa32_0) rfl rfl trivial ?_
    clear S; intro aa S
    obtain ⟨x16, c, H⟩ := H
    refine OL.pure S (Lf.run_ld (S.ev rfl) fl3 (S.cl c)) rfl rfl trivial ?_
    clear S; intro aa S
    refine OL.pure S (Lf.run_eql (S.ev rfl) (S.ev rfl)) rfl rfl trivial ?_
    clear S; intro aa S
    refine OL.nil ?_
    refine W.cond S (b := (x16 == 9)) rfl (fun hb => ?_) (fun hb => ?_)
    · replace H := H.1 hb
      refine W.seq ?_
      replace S := S.sub [(2, Value.slice names2.a names2.n names2.c), (3, Value.slice args3.a args3.n args3.c), (4, Value.pointer (some p4)), (5, Value.pointer (some p5)), (8, Value.pointer (some p8))] ⟨rfl, rfl, rfl, rfl, rfl, trivial⟩
      refine W.region ?_
      refine OL.pure S (Lf.run_move (S.ev rfl)) rfl rfl trivial ?_
      clear S; intro aa S
      refine OL.pure S (Lf.run_fa (S.ev rfl) fa32_1) rfl rfl trivial ?_
      clear S; intro aa S
      obtain ⟨x20, c_1, H⟩ := H
      refine OL.pure S (Lf.run_ld (S.ev rfl) fl9 (S.cl c_1)) rfl rfl trivial ?_
      clear S; intro aa S
      refine ol_cal S H isfn18 rfl rfl trivial ?_
      clear S H aa; intro u aa ww h4 H S
      obtain ⟨x21, rfl, H⟩ := H
      refine OL.pure S (Lf.run_assign (S.ev rfl)) rfl rfl trivial ?_
      clear S; intro aa S
      refine OL.nil ?_
      refine W.seq ?_
      replace S := S.sub [(2, Value.slice names2.a names2.n names2.c), (3, Value.slice args3.a args3.n args3.c), (4, Value.pointer (some p4)), (5, Value.pointer (some p5)), (8, Value.pointer (some p8)), (9, Value.int .i64 x21)] ⟨rfl, rfl, rfl, rfl, rfl, rfl, trivial⟩
      refine W.region ?_
      refine OL.pure S (Lf.run_move (S.ev rfl)) rfl rfl trivial ?_
      clear S; intro aa S
      refine OL.pure S (Lf.run_geq (S.ev rfl) (S.ev rfl)) rfl rfl trivial ?_
      clear S; intro aa S
      refine OL.pure S (Lf.run_move (S.ev rfl)) rfl rfl trivial ?_
      clear S; intro aa S
      refine OL.cutN 5 (fun aa ww => St 93 ((29, Value.bool ((decide (0 ≤ x21)) && (decide (x21 < ((args3.n : Nat) : Int))))) :: [(2, Value.slice names2.a names2.n names2.c), (3, Value.slice args3.a args3.n args3.c), (4, Value.pointer (some p4)), (5, Value.pointer (some p5)), (8, Value.pointer (some p8)), (9, Value.int .i64 x21), (22, Value.int .i64 x21), (23, Value.bool (decide (0 ≤ x21))), (24, Value.bool (decide (0 ≤ x21)))]) h4 w0 aa ww) ?_ ?_
      · rcases Bool.eq_false_or_eq_true (decide (0 ≤ x21)) with hb_1 | hb_1
        · refine OL.pure S (Lf.run_move (S.ev rfl)) rfl rfl (GOk.mk rfl rfl hb_1) ?_
          clear S; intro aa S
          refine OL.pure S (Lf.run_move (S.ev rfl)) rfl rfl (GOk.mk rfl rfl hb_1) ?_
          clear S; intro aa S
          refine OL.pure S (Lf.run_lens (S.ev rfl) rfl Try.underlying22) rfl rfl (GOk.mk rfl rfl hb_1) ?_
          clear S; intro aa S
          refine OL.pure S (Lf.run_lss (S.ev rfl) (S.ev rfl)) rfl rfl (GOk.mk rfl rfl hb_1) ?_
          clear S; intro aa S
          refine OL.pure S (Lf.run_pickT (S.ev rfl) hb_1 (S.ev rfl)) rfl rfl trivial ?_
          clear S; intro aa S
          refine OL.nil ?_
          exact (S.hd (by rw [hb_1, Bool.true_and])).sub _ ⟨rfl, rfl, rfl, rfl, rfl, rfl, rfl, rfl, rfl, rfl, trivial⟩
        · refine OL.not S rfl rfl (GNo.mk rfl rfl hb_1) ?_
          clear S; intro aa S
          refine OL.not S rfl rfl (GNo.mk rfl rfl hb_1) ?_
          clear S; intro aa S
          refine OL.not S rfl rfl (GNo.mk rfl rfl hb_1) ?_
          clear S; intro aa S
          refine OL.not S rfl rfl (GNo.mk rfl rfl hb_1) ?_
          clear S; intro aa S
          refine OL.pure S (Lf.run_pickF (S.ev rfl) hb_1 (S.ev rfl)) rfl rfl trivial ?_
          clear S; intro aa S
          refine OL.nil ?_
          exact (S.hd (by rw [hb_1, Bool.false_and])).sub _ ⟨rfl, rfl, rfl, rfl, rfl, rfl, rfl, rfl, rfl, rfl, trivial⟩
      · clear S aa
        intro aa ww S
        refine OL.nil ?_
        refine W.cond S (b := ((decide (0 ≤ x21)) && (decide (x21 < ((args3.n : Nat) : Int))))) rfl (fun hb_2 => ?_) (fun hb_2 => ?_)
        · replace H := H.1 hb_2
          refine W.seq ?_
          replace S := S.sub [(3, Value.slice args3.a args3.n args3.c), (8, Value.pointer (some p8)), (9, Value.int .i64 x21)] ⟨rfl, rfl, rfl, trivial⟩
          refine W.region ?_
          refine OL.pure S (Lf.run_move (S.ev rfl)) rfl rfl trivial ?_
          clear S; intro aa S
          refine OL.pure S (Lf.run_move (S.ev rfl)) rfl rfl trivial ?_
          clear S; intro aa S
          obtain ⟨q32, e, e_1, e_2, H⟩ := H
          refine OL.pure S (Lf.run_ixs (S.ev rfl) (S.ev rfl) Try.underlying22 ti32 e e_1 e_2) rfl rfl trivial ?_
          clear S; intro aa S
          obtain ⟨y33, y33_1, y33_2, y33_3, y33_4, y33_5, c_9, c_10, c_11, c_12, c_13, c_14, H⟩ := H
          refine OL.pure S (Lf.run_ldA (cs := [Value.int .i64 y33, Value.string y33_1, Value.bool y33_2, Value.int .i64 y33_3, Value.slice y33_4.a y33_4.n y33_4.c, Value.slice y33_5.a y33_5.n y33_5.c]) (S.ev rfl) ag32 ti32 (by rw [S.heap]; exact RowL.toRow ⟨c_9, c_10, c_11, c_12, c_13, c_14, trivial⟩)) rfl rfl trivial ?_
          clear S; intro aa S
          refine ol_stoA S H rfl rfl ti32 trivial ?_
          clear S H aa; intro aa ww h5 H S
          refine OL.nil ?_
          refine W.ret ?_
          obtain ⟨y, y_1, y_2, y_3, y_4, y_5, c_3, c_4, c_5, c_6, c_7, c_8, H⟩ := H
          exact Ret.gen S rfl (RV.cellA (cs := [Value.int .i64 y, Value.string y_1, Value.bool y_2, Value.int .i64 y_3, Value.slice y_4.a y_4.n y_4.c, Value.slice y_5.a y_5.n y_5.c]) rfl ag32 ti32 ⟨c_3, c_4, c_5, c_6, c_7, c_8, trivial⟩ RV.nil) rfl H
        · replace H := H.2 hb_2
          refine W.skip ?_
          exact ⟨h4, S.sub _ ⟨rfl, rfl, rfl, rfl, rfl, trivial⟩, H⟩
    · replace H := H.2 hb
      refine W.skip ?_
      exact ⟨h3, S.sub _ ⟨rfl, rfl, rfl, rfl, rfl, trivial⟩, H⟩
  · clear H S aa
    rintro aa ww ⟨h6, S, HJ⟩
    have H := HK _ HJ
    clear HK HJ
    refine W.seq ?_
    replace S := S.sub [(2, Value.slice names2.a names2.n names2.c), (3, Value.slice args3.a args3.n args3.c), (4, Value.pointer (some p4)), (5, Value.pointer (some p5)), (8, Value.pointer (some p8))] ⟨rfl, rfl, rfl, rfl, rfl, trivial⟩
    refine W.region ?_
    refine OL.pure S (Lf.run_mf (evs_map S rfl)) rfl rfl trivial ?_
    clear S; intro aa S
    refine OL.pure S (Lf.run_assign (S.ev rfl)) rfl rfl trivial ?_
    clear S; intro aa S
    refine OL.nil ?_
    obtain ⟨J_1, H, HK_1⟩ := H
    refine W.seqJ (fun aa ww => ∃ h10, St 93 [(2, Value.slice names2.a names2.n names2.c), (3, Value.slice args3.a args3.n args3.c), (4, Value.pointer (some p4)), (5, Value.pointer (some p5)), (8, Value.pointer (some p8)), (10, (Value.func (.func 19) #[] #[Value.pointer (some p5)]))] h10 w0 aa ww ∧ J_1 h10) ?_ ?_
    · clear HK_1
      refine W.seq ?_
      replace S := S.sub [(2, Value.slice names2.a names2.n names2.c), (3, Value.slice args3.a args3.n args3.c), (4, Value.pointer (some p4)), (5, Value.pointer (some p5)), (8, Value.pointer (some p8)), (10, (Value.func (.func 19) #[] #[Value.pointer (some p5)]))] ⟨rfl, rfl, rfl, rfl, rfl, rfl, trivial⟩
      refine W.region ?_
      obtain ⟨y35, y35_1, y35_2, y35_3, y35_4, y35_5, c_18, c_19, c_20, c_21, c_22, c_23, H⟩ := H
      refine OL.pure S (Lf.run_ldA (cs := [Value.int .i64 y35, Value.string y35_1, Value.bool y35_2, Value.int .i64 y35_3, Value.slice y35_4.a y35_4.n y35_4.c, Value.slice y35_5.a y35_5.n y35_5.c]) (S.ev rfl) ag32 ti32 (by rw [S.heap]; exact RowL.toRow ⟨c_18, c_19, c_20, c_21, c_22, c_23, trivial⟩)) rfl rfl trivial ?_
      clear S; intro aa S
      refine ol_cal S H isfn20 rfl rfl trivial ?_
      clear S H aa; intro u_1 aa ww h7 H S
      obtain ⟨x36, rfl, H⟩ := H
      refine OL.pure S (Lf.run_move (S.ev rfl)) rfl rfl trivial ?_
      clear S; intro aa S
      obtain ⟨J_2, H, HK_2⟩ := H
      refine OL.cutN 4 (fun aa ww => ∃ x41, St 93 ((41, Value.bool x41) :: [(2, Value.slice names2.a names2.n names2.c), (3, Value.slice args3.a args3.n args3.c), (4, Value.pointer (some p4)), (5, Value.pointer (some p5)), (8, Value.pointer (some p8)), (10, (Value.func (.func 19) #[] #[Value.pointer (some p5)])), (35, Value.agg #[Value.int .i64 y35, Value.string y35_1, Value.bool y35_2, Value.int .i64 y35_3, Value.slice y35_4.a y35_4.n y35_4.c, Value.slice y35_5.a y35_5.n y35_5.c]), (36, Value.bool x36), (37, Value.bool x36)]) h7 w0 aa ww ∧ J_2 x41) ?_ ?_
      · rcases Bool.eq_false_or_eq_true x36 with hb_3 | hb_3
        · replace H := H.1 hb_3
          refine OL.pure S (Lf.run_fa (S.ev rfl) fa32_0) rfl rfl (GOk.mk rfl rfl hb_3) ?_
          clear S; intro aa S
          obtain ⟨x39, c_16, H⟩ := H
          refine OL.pure S (Lf.run_ld (S.ev rfl) fl3 (S.cl c_16)) rfl rfl (GOk.mk rfl rfl hb_3) ?_
          clear S; intro aa S
          refine OL.pure S (Lf.run_neq (S.ev rfl) (S.ev rfl)) rfl rfl (GOk.mk rfl rfl hb_3) ?_
          clear S; intro aa S
          refine OL.pure S (Lf.run_pickT (S.ev rfl) hb_3 (S.ev rfl)) rfl rfl trivial ?_
          clear S; intro aa S
          refine OL.nil ?_
          exact ⟨_, S.sub _ ⟨rfl, rfl, rfl, rfl, rfl, rfl, rfl, rfl, rfl, rfl, trivial⟩, H⟩
        · replace H := H.2 hb_3
          refine OL.not S rfl rfl (GNo.mk rfl rfl hb_3) ?_
          clear S; intro aa S
          refine OL.not S rfl rfl (GNo.mk rfl rfl hb_3) ?_
          clear S; intro aa S
          refine OL.not S rfl rfl (GNo.mk rfl rfl hb_3) ?_
          clear S; intro aa S
          refine OL.pure S (Lf.run_pickF (S.ev rfl) hb_3 (S.ev rfl)) rfl rfl trivial ?_
          clear S; intro aa S
          refine OL.nil ?_
          exact ⟨_, S.sub _ ⟨rfl, rfl, rfl, rfl, rfl, rfl, rfl, rfl, rfl, rfl, trivial⟩, H⟩
      · clear S aa
        rintro aa ww ⟨x41, S, HJ⟩
        replace H := HK_2 _ HJ
        clear HK_2 HJ
        refine OL.nil ?_
        refine W.cond S (b := x41) rfl (fun hb_4 => ?_) (fun hb_4 => ?_)
        · replace H := H.1 hb_4
          replace S := S.sub [(2, Value.slice names2.a names2.n names2.c), (3, Value.slice args3.a args3.n args3.c), (4, Value.pointer (some p4)), (5, Value.pointer (some p5)), (8, Value.pointer (some p8)), (10, (Value.func (.func 19) #[] #[Value.pointer (some p5)]))] ⟨rfl, rfl, rfl, rfl, rfl, rfl, trivial⟩
          refine W.region ?_
          refine OL.pure S (Lf.run_move (S.ev rfl)) rfl rfl trivial ?_
          clear S; intro aa S
          refine OL.pure S (Lf.run_fa (S.ev rfl) fa32_3) rfl rfl trivial ?_
          clear S; intro aa S
          obtain ⟨x44, c_17, H⟩ := H
          refine OL.pure S (Lf.run_ld (S.ev rfl) fl3 (S.cl c_17)) rfl rfl trivial ?_
          clear S; intro aa S
          refine ol_calV S H rfl rfl rfl trivial ?_
          clear S H aa; intro u_2 aa ww h8 H S
          obtain ⟨x45, rfl, H⟩ := H
          refine OL.pure S (Lf.run_fa (S.ev rfl) fa32_3) rfl rfl trivial ?_
          clear S; intro aa S
          refine ol_sto S H rfl rfl rfl ti3 trivial ?_
          clear S H aa; intro aa ww h9 H S
          refine OL.nil ?_
          exact ⟨h9, S.sub _ ⟨rfl, rfl, rfl, rfl, rfl, rfl, trivial⟩, H⟩
        · replace H := H.2 hb_4
          refine W.skip ?_
          exact ⟨h7, S.sub _ ⟨rfl, rfl, rfl, rfl, rfl, rfl, trivial⟩, H⟩
    · clear H S aa
      rintro aa ww ⟨h10, S, HJ⟩
      have H := HK_1 _ HJ
      clear HK_1 HJ
      obtain ⟨J_3, H, HK_3⟩ := H
      refine W.seqJ (fun aa ww => ∃ h16, St 93 [(2, Value.slice names2.a names2.n names2.c), (3, Value.slice args3.a args3.n args3.c), (4, Value.pointer (some p4)), (5, Value.pointer (some p5)), (8, Value.pointer (some p8))] h16 w0 aa ww ∧ J_3 h16) ?_ ?_
      · clear HK_3
        refine W.seq ?_
        replace S := S.sub [(2, Value.slice names2.a names2.n names2.c), (3, Value.slice args3.a args3.n args3.c), (4, Value.pointer (some p4)), (5, Value.pointer (some p5)), (8, Value.pointer (some p8)), (10, (Value.func (.func 19) #[] #[Value.pointer (some p5)]))] ⟨rfl, rfl, rfl, rfl, rfl, rfl, trivial⟩
        refine W.region ?_
        refine OL.pure S (Lf.run_fa (S.ev rfl) fa32_0) rfl rfl trivial ?_
        clear S; intro aa S
        obtain ⟨x48, c_24, H⟩ := H
        refine OL.pure S (Lf.run_ld (S.ev rfl) fl3 (S.cl c_24)) rfl rfl trivial ?_
        clear S; intro aa S
        refine OL.pure S (Lf.run_eql (S.ev rfl) (S.ev rfl)) rfl rfl trivial ?_
        clear S; intro aa S
        refine OL.nil ?_
        refine W.cond S (b := (x48 == 5)) rfl (fun hb_5 => ?_) (fun hb_5 => ?_)
        · replace H := H.1 hb_5
          refine W.seq ?_
          replace S := S.sub [(2, Value.slice names2.a names2.n names2.c), (3, Value.slice args3.a args3.n args3.c), (4, Value.pointer (some p4)), (5, Value.pointer (some p5)), (8, Value.pointer (some p8)), (10, (Value.func (.func 19) #[] #[Value.pointer (some p5)]))] ⟨rfl, rfl, rfl, rfl, rfl, rfl, trivial⟩
          refine W.region ?_
          refine OL.pure S (Lf.run_fa (S.ev rfl) fa32_4) rfl rfl trivial ?_
          clear S; intro aa S
          obtain ⟨x51, c_25, H⟩ := H
          refine OL.pure S (Lf.run_ld (S.ev rfl) fl30 (S.cl c_25)) rfl rfl trivial ?_
          clear S; intro aa S
          refine ol_cal S H isfn21 rfl rfl trivial ?_
          clear S H aa; intro u_3 aa ww h11 H S
          obtain ⟨x52, rfl, H⟩ := H
          refine OL.pure S (Lf.run_fa (S.ev rfl) fa32_4) rfl rfl trivial ?_
          clear S; intro aa S
          refine ol_sto S H rfl rfl rfl ti30 trivial ?_
          clear S H aa; intro aa ww h12 H S
          refine OL.nil ?_
          refine W.seq ?_
          replace S := S.sub [(2, Value.slice names2.a names2.n names2.c), (3, Value.slice args3.a args3.n args3.c), (4, Value.pointer (some p4)), (5, Value.pointer (some p5)), (8, Value.pointer (some p8)), (10, (Value.func (.func 19) #[] #[Value.pointer (some p5)]))] ⟨rfl, rfl, rfl, rfl, rfl, rfl, trivial⟩
          refine W.region ?_
          refine OL.pure S (Lf.run_fa (S.ev rfl) fa32_4) rfl rfl trivial ?_
          clear S; intro aa S
          obtain ⟨x55, c_26, H⟩ := H
          refine OL.pure S (Lf.run_ld (S.ev rfl) fl30 (S.cl c_26)) rfl rfl trivial ?_
          clear S; intro aa S
          refine OL.pure S (Lf.run_lens (S.ev rfl) rfl Try.underlying30) rfl rfl trivial ?_
          clear S; intro aa S
          refine OL.pure S (Lf.run_move (S.ev rfl)) rfl rfl trivial ?_
          clear S; intro aa S
          refine OL.nil ?_
          refine W.block ?_
          obtain ⟨I, m, H, HB⟩ := H
          refine W.loopS (σ := Int × Heap) (fun s aa ww => St 93 [(2, Value.slice names2.a names2.n names2.c), (3, Value.slice args3.a args3.n args3.c), (4, Value.pointer (some p4)), (5, Value.pointer (some p5)), (8, Value.pointer (some p8)), (10, (Value.func (.func 19) #[] #[Value.pointer (some p5)])), (55, Value.slice x55.a x55.n x55.c), (56, Value.int .i64 ((x55.n : Nat) : Int)), (57, Value.int .i64 s.1)] s.2 w0 aa ww ∧ I s.1 s.2) (fun s => m s.1 s.2) (0, h12) ⟨S.sub _ ⟨rfl, rfl, rfl, rfl, rfl, rfl, rfl, rfl, rfl, trivial⟩, H⟩ ?_
          clear H S aa
          rintro ⟨x57, h13⟩ aa ww ⟨S, HI⟩
          replace S : St 93 [(2, Value.slice names2.a names2.n names2.c), (3, Value.slice args3.a args3.n args3.c), (4, Value.pointer (some p4)), (5, Value.pointer (some p5)), (8, Value.pointer (some p8)), (10, (Value.func (.func 19) #[] #[Value.pointer (some p5)])), (55, Value.slice x55.a x55.n x55.c), (56, Value.int .i64 ((x55.n : Nat) : Int)), (57, Value.int .i64 x57)] h13 w0 aa ww := S
          have H := HB x57 h13 HI
          clear HI
          refine W.seq ?_
          replace S := S.sub [(2, Value.slice names2.a names2.n names2.c), (3, Value.slice args3.a args3.n args3.c), (4, Value.pointer (some p4)), (5, Value.pointer (some p5)), (8, Value.pointer (some p8)), (10, (Value.func (.func 19) #[] #[Value.pointer (some p5)])), (55, Value.slice x55.a x55.n x55.c), (56, Value.int .i64 ((x55.n : Nat) : Int)), (57, Value.int .i64 x57)] ⟨rfl, rfl, rfl, rfl, rfl, rfl, rfl, rfl, rfl, trivial⟩
          refine W.region ?_
          refine OL.pure S (Lf.run_lss (S.ev rfl) (S.ev rfl)) rfl rfl trivial ?_
          clear S; intro aa S
          refine OL.nil ?_
          refine W.seq ?_
          refine W.cond S (b := (decide (x57 < ((x55.n : Nat) : Int)))) rfl (fun hb_6 => ?_) (fun hb_6 => ?_)
          · replace H := H.1 hb_6
            refine W.skip ?_
            refine W.seq ?_
            refine W.block ?_
            refine W.seq ?_
            replace S := S.sub [(2, Value.slice names2.a names2.n names2.c), (3, Value.slice args3.a args3.n args3.c), (4, Value.pointer (some p4)), (5, Value.pointer (some p5)), (8, Value.pointer (some p8)), (10, (Value.func (.func 19) #[] #[Value.pointer (some p5)])), (55, Value.slice x55.a x55.n x55.c), (56, Value.int .i64 ((x55.n : Nat) : Int)), (57, Value.int .i64 x57)] ⟨rfl, rfl, rfl, rfl, rfl, rfl, rfl, rfl, rfl, trivial⟩
            refine W.region ?_
            refine OL.pure S (Lf.run_move (S.ev rfl)) rfl rfl trivial ?_
            clear S; intro aa S
            obtain ⟨q60, e_3, e_4, e_5, H⟩ := H
            refine OL.pure S (Lf.run_ixs (S.ev rfl) (S.ev rfl) Try.underlying30 ti3 e_3 e_4 e_5) rfl rfl trivial ?_
            clear S; intro aa S
            obtain ⟨x61, c_27, H⟩ := H
            refine OL.pure S (Lf.run_ld (S.ev rfl) fl3 (S.cl c_27)) rfl rfl trivial ?_
            clear S; intro aa S
            refine OL.pure S (Lf.run_assign (S.ev rfl)) rfl rfl trivial ?_
            clear S; intro aa S
            refine OL.pure S (Lf.run_assign (S.ev rfl)) rfl rfl trivial ?_
            clear S; intro aa S
            refine OL.nil ?_
            replace S := S.sub [(2, Value.slice names2.a names2.n names2.c), (3, Value.slice args3.a args3.n args3.c), (4, Value.pointer (some p4)), (5, Value.pointer (some p5)), (8, Value.pointer (some p8)), (10, (Value.func (.func 19) #[] #[Value.pointer (some p5)])), (11, Value.int .i64 x57), (12, Value.int .i64 x61), (55, Value.slice x55.a x55.n x55.c), (56, Value.int .i64 ((x55.n : Nat) : Int)), (57, Value.int .i64 x57)] ⟨rfl, rfl, rfl, rfl, rfl, rfl, rfl, rfl, rfl, rfl, rfl, trivial⟩
            obtain ⟨Sq, HS, H⟩ := H
            refine W.regionN [1] [5, 7] Sq S (by kernel_rfl) ?_
            clear S; intro ww S
            refine BN.pure 0 S (fun _ => HS) rfl (by kernel_rfl) (by kernel_rfl) (fun _ => Lf.run_fa (S.ev rfl) fa32_4) rfl rfl trivial ?_
            clear S; intro aa S
            refine BN.pure 2 S (fun _ => HS) rfl (by kernel_rfl) (by kernel_rfl) (fun _ => Lf.run_move (S.ev rfl)) rfl rfl trivial ?_
            clear S; intro aa S
            refine BN.pure 3 S (fun _ => HS) rfl (by kernel_rfl) (by kernel_rfl) (fun _ => Lf.run_move (S.ev rfl)) rfl rfl trivial ?_
            clear S; intro aa S
            refine BN.pure 4 S (fun _ => HS) rfl (by kernel_rfl) (by kernel_rfl) (fun _ => Lf.run_move (S.ev rfl)) rfl rfl trivial ?_
            clear S; intro aa S
            obtain ⟨x63, c_28, H⟩ := H
            refine BN.held 1 S HS rfl (by kernel_rfl) (fun _ hq => Lf.run_ld (S.ev rfl) fl30 (c_28 _ hq)) rfl rfl trivial ?_
            clear S; intro aa S
            refine BN.eff 5 rfl (by kernel_rfl) ?_
            refine ol_calV S H rfl rfl rfl trivial ?_
            clear S H aa; intro u_4 aa ww h14 H S
            obtain ⟨x67, rfl, H⟩ := H
            refine OL.nil ?_
            clear HS; obtain ⟨HS, H⟩ := H
            refine ⟨fun _ => by rw [S.heap]; exact HS, ?_⟩
            obtain ⟨q68, e_6, e_7, e_8, H⟩ := H
            refine BN.pure 6 S (fun _ => HS) rfl (by kernel_rfl) (by kernel_rfl) (fun _ => Lf.run_ixs (S.ev rfl) (S.ev rfl) Try.underlying30 ti3 e_6 e_7 e_8) rfl rfl trivial ?_
            clear S; intro aa S
            refine BN.eff 7 rfl (by kernel_rfl) ?_
            refine ol_sto S H rfl rfl rfl ti3 trivial ?_
            clear S H aa; intro aa ww h15 H S
            refine OL.nil ?_
            refine ⟨noNeed (by kernel_rfl), ?_⟩
            refine BN.done (by kernel_rfl) ?_
            replace S := S.sub [(2, Value.slice names2.a names2.n names2.c), (3, Value.slice args3.a args3.n args3.c), (4, Value.pointer (some p4)), (5, Value.pointer (some p5)), (8, Value.pointer (some p8)), (10, (Value.func (.func 19) #[] #[Value.pointer (some p5)])), (55, Value.slice x55.a x55.n x55.c), (56, Value.int .i64 ((x55.n : Nat) : Int)), (57, Value.int .i64 x57)] ⟨rfl, rfl, rfl, rfl, rfl, rfl, rfl, rfl, rfl, trivial⟩
            refine W.region ?_
            refine OL.pure S (Lf.run_add (S.ev rfl) (S.ev rfl)) rfl rfl trivial ?_
            clear S; intro aa S
            refine OL.pure S (Lf.run_move (S.ev rfl)) rfl rfl trivial ?_
            clear S; intro aa S
            refine OL.nil ?_
            exact ⟨((IntKind.i64.wrap (x57 + 1)), h15), ⟨S.sub _ ⟨rfl, rfl, rfl, rfl, rfl, rfl, rfl, rfl, rfl, trivial⟩, H.1⟩, H.2⟩
          · replace H := H.2 hb_6
            refine W.exit_ ?_
            refine xhit ?_
            exact ⟨h13, S.sub _ ⟨rfl, rfl, rfl, rfl, rfl, trivial⟩, H⟩
        · replace H := H.2 hb_5
          refine W.skip ?_
          exact ⟨h10, S.sub _ ⟨rfl, rfl, rfl, rfl, rfl, trivial⟩, H⟩
      · clear H S aa
        rintro aa ww ⟨h16, S, HJ⟩
        have H := HK_3 _ HJ
        clear HK_3 HJ
        refine W.seq ?_
        replace S := S.sub [(2, Value.slice names2.a names2.n names2.c), (3, Value.slice args3.a args3.n args3.c), (4, Value.pointer (some p4)), (5, Value.pointer (some p5)), (8, Value.pointer (some p8))] ⟨rfl, rfl, rfl, rfl, rfl, trivial⟩
        refine W.region ?_
        refine OL.pure S (Lf.run_fa (S.ev rfl) fa32_5) rfl rfl trivial ?_
        clear S; intro aa S
        obtain ⟨x71, c_29, H⟩ := H
        refine OL.pure S (Lf.run_ld (S.ev rfl) fl22 (S.cl c_29)) rfl rfl trivial ?_
        clear S; intro aa S
        refine ol_cal S H isfn22 rfl rfl trivial ?_
        clear S H aa; intro u_5 aa ww h17 H S
        obtain ⟨x72, rfl, H⟩ := H
        refine OL.pure S (Lf.run_fa (S.ev rfl) fa32_5) rfl rfl trivial ?_
        clear S; intro aa S
        refine ol_sto S H rfl rfl rfl ti22 trivial ?_
        clear S H aa; intro aa ww h18 H S
        refine OL.nil ?_
        refine W.seq ?_
        refine W.seq ?_
        replace S := S.sub [(2, Value.slice names2.a names2.n names2.c), (3, Value.slice args3.a args3.n args3.c), (4, Value.pointer (some p4)), (5, Value.pointer (some p5)), (8, Value.pointer (some p8))] ⟨rfl, rfl, rfl, rfl, rfl, trivial⟩
        refine W.region ?_
        refine OL.pure S (Lf.run_fa (S.ev rfl) fa32_5) rfl rfl trivial ?_
        clear S; intro aa S
        obtain ⟨x75, c_30, H⟩ := H
        refine OL.pure S (Lf.run_ld (S.ev rfl) fl22 (S.cl c_30)) rfl rfl trivial ?_
        clear S; intro aa S
        refine OL.pure S (Lf.run_lens (S.ev rfl) rfl Try.underlying22) rfl rfl trivial ?_
        clear S; intro aa S
        refine OL.pure S (Lf.run_move (S.ev rfl)) rfl rfl trivial ?_
        clear S; intro aa S
        refine OL.nil ?_
        refine W.block ?_
        obtain ⟨I_1, m_1, H, HB_1⟩ := H
        refine W.loopS (σ := Int × Heap) (fun s aa ww => St 93 [(2, Value.slice names2.a names2.n names2.c), (3, Value.slice args3.a args3.n args3.c), (4, Value.pointer (some p4)), (5, Value.pointer (some p5)), (8, Value.pointer (some p8)), (75, Value.slice x75.a x75.n x75.c), (76, Value.int .i64 ((x75.n : Nat) : Int)), (77, Value.int .i64 s.1)] s.2 w0 aa ww ∧ I_1 s.1 s.2) (fun s => m_1 s.1 s.2) (0, h18) ⟨S.sub _ ⟨rfl, rfl, rfl, rfl, rfl, rfl, rfl, rfl, trivial⟩, H⟩ ?_
        clear H S aa
        rintro ⟨x77, h19⟩ aa ww ⟨S, HI⟩
        replace S : St 93 [(2, Value.slice names2.a names2.n names2.c), (3, Value.slice args3.a args3.n args3.c), (4, Value.pointer (some p4)), (5, Value.pointer (some p5)), (8, Value.pointer (some p8)), (75, Value.slice x75.a x75.n x75.c), (76, Value.int .i64 ((x75.n : Nat) : Int)), (77, Value.int .i64 x77)] h19 w0 aa ww := S
        have H := HB_1 x77 h19 HI
        clear HI
        refine W.seq ?_
        replace S := S.sub [(2, Value.slice names2.a names2.n names2.c), (3, Value.slice args3.a args3.n args3.c), (4, Value.pointer (some p4)), (5, Value.pointer (some p5)), (8, Value.pointer (some p8)), (75, Value.slice x75.a x75.n x75.c), (76, Value.int .i64 ((x75.n : Nat) : Int)), (77, Value.int .i64 x77)] ⟨rfl, rfl, rfl, rfl, rfl, rfl, rfl, rfl, trivial⟩
        refine W.region ?_
        refine OL.pure S (Lf.run_lss (S.ev rfl) (S.ev rfl)) rfl rfl trivial ?_
        clear S; intro aa S
        refine OL.nil ?_
        refine W.seq ?_
        refine W.cond S (b := (decide (x77 < ((x75.n : Nat) : Int)))) rfl (fun hb_7 => ?_) (fun hb_7 => ?_)
        · replace H := H.1 hb_7
          refine W.skip ?_
          refine W.seq ?_
          refine W.block ?_
          refine W.seq ?_
          replace S := S.sub [(2, Value.slice names2.a names2.n names2.c), (3, Value.slice args3.a args3.n args3.c), (4, Value.pointer (some p4)), (5, Value.pointer (some p5)), (8, Value.pointer (some p8)), (75, Value.slice x75.a x75.n x75.c), (76, Value.int .i64 ((x75.n : Nat) : Int)), (77, Value.int .i64 x77)] ⟨rfl, rfl, rfl, rfl, rfl, rfl, rfl, rfl, trivial⟩
          refine W.region ?_
          refine OL.pure S (Lf.run_move (S.ev rfl)) rfl rfl trivial ?_
          clear S; intro aa S
          obtain ⟨q80, e_9, e_10, e_11, H⟩ := H
          refine OL.pure S (Lf.run_ixs (S.ev rfl) (S.ev rfl) Try.underlying22 ti32 e_9 e_10 e_11) rfl rfl trivial ?_
          clear S; intro aa S
          obtain ⟨y81, y81_1, y81_2, y81_3, y81_4, y81_5, c_41, c_42, c_43, c_44, c_45, c_46, H⟩ := H
          refine OL.pure S (Lf.run_ldA (cs := [Value.int .i64 y81, Value.string y81_1, Value.bool y81_2, Value.int .i64 y81_3, Value.slice y81_4.a y81_4.n y81_4.c, Value.slice y81_5.a y81_5.n y81_5.c]) (S.ev rfl) ag32 ti32 (by rw [S.heap]; exact RowL.toRow ⟨c_41, c_42, c_43, c_44, c_45, c_46, trivial⟩)) rfl rfl trivial ?_
          clear S; intro aa S
          refine ol_alloc S H ti32 rfl rfl trivial ?_
          clear S H aa; intro p14 aa ww h20 H S
          refine OL.pure S (Lf.run_assign (S.ev rfl)) rfl rfl trivial ?_
          clear S; intro aa S
          refine ol_stoA S H rfl rfl ti32 trivial ?_
          clear S H aa; intro aa ww h21 H S
          refine OL.nil ?_
          replace S := S.sub [(2, Value.slice names2.a names2.n names2.c), (3, Value.slice args3.a args3.n args3.c), (4, Value.pointer (some p4)), (5, Value.pointer (some p5)), (8, Value.pointer (some p8)), (13, Value.int .i64 x77), (14, Value.pointer (some p14)), (75, Value.slice x75.a x75.n x75.c), (76, Value.int .i64 ((x75.n : Nat) : Int)), (77, Value.int .i64 x77)] ⟨rfl, rfl, rfl, rfl, rfl, rfl, rfl, rfl, rfl, rfl, trivial⟩
          obtain ⟨Sq_1, HS_1, H⟩ := H
          refine W.regionN [1] [7, 9] Sq_1 S (by kernel_rfl) ?_
          clear S; intro ww S
          refine BN.pure 0 S (fun _ => HS_1) rfl (by kernel_rfl) (by kernel_rfl) (fun _ => Lf.run_fa (S.ev rfl) fa32_5) rfl rfl trivial ?_
          clear S; intro aa S
          refine BN.pure 2 S (fun _ => HS_1) rfl (by kernel_rfl) (by kernel_rfl) (fun _ => Lf.run_move (S.ev rfl)) rfl rfl trivial ?_
          clear S; intro aa S
          obtain ⟨y85, y85_1, y85_2, y85_3, y85_4, y85_5, c_35, c_36, c_37, c_38, c_39, c_40, H⟩ := H
          refine BN.load 3 S (fun _ => HS_1) rfl (by kernel_rfl) (by kernel_rfl) (fun _ hx => Lf.run_ldA (cs := [Value.int .i64 y85, Value.string y85_1, Value.bool y85_2, Value.int .i64 y85_3, Value.slice y85_4.a y85_4.n y85_4.c, Value.slice y85_5.a y85_5.n y85_5.c]) (S.ev rfl) ag32 ti32 (hx.row (S.row ⟨c_35, c_36, c_37, c_38, c_39, c_40, trivial⟩))) rfl rfl trivial ?_
          clear S; intro aa S
          obtain ⟨x86, c_33, H⟩ := H
          refine BN.load 4 S (fun _ => HS_1) rfl (by kernel_rfl) (by kernel_rfl) (fun _ hx => Lf.run_ld (S.ev rfl) fl30 (hx.cell _ _ (S.cl c_33))) rfl rfl trivial ?_
          clear S; intro aa S
          refine BN.pure 5 S (fun _ => HS_1) rfl (by kernel_rfl) (by kernel_rfl) (fun _ => Lf.run_move (S.ev rfl)) rfl rfl trivial ?_
          clear S; intro aa S
          refine BN.pure 6 S (fun _ => HS_1) rfl (by kernel_rfl) (by kernel_rfl) (fun _ => Lf.run_move (S.ev rfl)) rfl rfl trivial ?_
          clear S; intro aa S
          obtain ⟨x83, c_34, H⟩ := H
          refine BN.held 1 S HS_1 rfl (by kernel_rfl) (fun _ hq => Lf.run_ld (S.ev rfl) fl22 (c_34 _ hq)) rfl rfl trivial ?_
          clear S; intro aa S
          refine BN.eff 7 rfl (by kernel_rfl) ?_
          refine ol_cal S H isfn11 rfl rfl trivial ?_
          clear S H aa; intro u_6 aa ww h22 H S
          obtain ⟨y89, y89_1, y89_2, y89_3, y89_4, y89_5, rfl, H⟩ := H
          refine OL.nil ?_
          clear HS_1; obtain ⟨HS_1, H⟩ := H
          refine ⟨fun _ => by rw [S.heap]; exact HS_1, ?_⟩
          obtain ⟨q90, e_12, e_13, e_14, H⟩ := H
          refine BN.pure 8 S (fun _ => HS_1) rfl (by kernel_rfl) (by kernel_rfl) (fun _ => Lf.run_ixs (S.ev rfl) (S.ev rfl) Try.underlying22 ti32 e_12 e_13 e_14) rfl rfl trivial ?_
          clear S; intro aa S
          refine BN.eff 9 rfl (by kernel_rfl) ?_
          refine ol_stoA S H rfl rfl ti32 trivial ?_
          clear S H aa; intro aa ww h23 H S
          refine OL.nil ?_
          refine ⟨noNeed (by kernel_rfl), ?_⟩
          refine BN.done (by kernel_rfl) ?_
          replace S := S.sub [(2, Value.slice names2.a names2.n names2.c), (3, Value.slice args3.a args3.n args3.c), (4, Value.pointer (some p4)), (5, Value.pointer (some p5)), (8, Value.pointer (some p8)), (75, Value.slice x75.a x75.n x75.c), (76, Value.int .i64 ((x75.n : Nat) : Int)), (77, Value.int .i64 x77)] ⟨rfl, rfl, rfl, rfl, rfl, rfl, rfl, rfl, trivial⟩
          refine W.region ?_
          refine OL.pure S (Lf.run_add (S.ev rfl) (S.ev rfl)) rfl rfl trivial ?_
          clear S; intro aa S
          refine OL.pure S (Lf.run_move (S.ev rfl)) rfl rfl trivial ?_
          clear S; intro aa S
          refine OL.nil ?_
          exact ⟨((IntKind.i64.wrap (x77 + 1)), h23), ⟨S.sub _ ⟨rfl, rfl, rfl, rfl, rfl, rfl, rfl, rfl, trivial⟩, H.1⟩, H.2⟩
        · replace H := H.2 hb_7
          refine W.exit_ ?_
          refine xhit ?_
          refine W.seq ?_
          replace S := S.sub [(4, Value.pointer (some p4)), (8, Value.pointer (some p8))] ⟨rfl, rfl, trivial⟩
          refine W.region ?_
          obtain ⟨y92, y92_1, y92_2, y92_3, y92_4, y92_5, c_54, c_55, c_56, c_57, c_58, c_59, H⟩ := H
          refine OL.pure S (Lf.run_ldA (cs := [Value.int .i64 y92, Value.string y92_1, Value.bool y92_2, Value.int .i64 y92_3, Value.slice y92_4.a y92_4.n y92_4.c, Value.slice y92_5.a y92_5.n y92_5.c]) (S.ev rfl) ag32 ti32 (by rw [S.heap]; exact RowL.toRow ⟨c_54, c_55, c_56, c_57, c_58, c_59, trivial⟩)) rfl rfl trivial ?_
          clear S; intro aa S
          refine ol_stoA S H rfl rfl ti32 trivial ?_
          clear S H aa; intro aa ww h24 H S
          refine OL.nil ?_
          refine W.ret ?_
          obtain ⟨y_6, y_7, y_8, y_9, y_10, y_11, c_48, c_49, c_50, c_51, c_52, c_53, H⟩ := H
          exact Ret.gen S rfl (RV.cellA (cs := [Value.int .i64 y_6, Value.string y_7, Value.bool y_8, Value.int .i64 y_9, Value.slice y_10.a y_10.n y_10.c, Value.slice y_11.a y_11.n y_11.c]) rfl ag32 ti32 ⟨c_48, c_49, c_50, c_51, c_52, c_53, trivial⟩ RV.nil) rfl H

/-- chattel chattelref07.own -/
def L12 (x0 : Int) (x0_1 : ByteArray) (x0_2 : Bool) (x0_3 : Int) (x0_4 : Sv) (x0_5 : Sv) (h : Heap) (R : Value → Heap → Prop) : Prop :=
  new 32 #[Value.int .i64 x0, Value.string x0_1, Value.bool x0_2, Value.int .i64 x0_3, Value.slice x0_4.a x0_4.n x0_4.c, Value.slice x0_5.a x0_5.n x0_5.c] h fun p1 h1 =>
  ldI .i64 h1 p1 fun x4 =>
  ∃ J : Bool → Prop, (andr (decide (7 ≤ x4)) (fun k =>
    ldI .i64 h1 p1 fun x8 =>
    k (decide (x8 ≤ 9))) J) ∧ ∀ x10, J x10 →
  ifb x10 (
    ldI .i64 h1 (p1.add 3) fun x12 =>
    newS 3 #[Value.int .i64 x12] 1 h1 fun s13 h2 =>
    R (Value.slice s13.a s13.n s13.c) h2) (
    ldI .i64 h1 p1 fun x15 =>
    ifb (x15 == 5) (
      ldS h1 (p1.add 4) fun x18 =>
      R (Value.slice x18.a x18.n x18.c) h1) (
      R (Value.slice (⟨none, 0, 0⟩ : Sv).a (⟨none, 0, 0⟩ : Sv).n (⟨none, 0, 0⟩ : Sv).c) h1))

set_option maxRecDepth 100000 in

theorem F12 {x0 x0_1 x0_2 x0_3 x0_4 x0_5 h : _} {R : Value → Heap → Prop} (H : L12 x0 x0_1 x0_2 x0_3 x0_4 x0_5 h R) : CallsH Try.prog 12 #[Value.agg #[Value.int .i64 x0, Value.string x0_1, Value.bool x0_2, Value.int .i64 x0_3, Value.slice x0_4.a x0_4.n x0_4.c, Value.slice x0_5.a x0_5.n x0_5.c]] h R := by
  refine CallsH.enter (n := 19) Try.func12 rfl rfl rfl rfl ?_
  intro w0 aa ww S
  unfold L12 at H
  refine W.seq ?_
  replace S := S.sub [(0, Value.agg #[Value.int .i64 x0, Value.string x0_1, Value.bool x0_2, Value.int .i64 x0_3, Value.slice x0_4.a x0_4.n x0_4.c, Value.slice x0_5.a x0_5.n x0_5.c])] ⟨rfl, trivial⟩
  refine W.region ?_
  refine ol_box S H rfl rfl rfl trivial ?_
  clear S H aa; intro p1 aa ww h1 H S
  refine OL.pure S (Lf.run_assign (S.ev rfl)) rfl rfl trivial ?_
  clear S; intro aa S
  refine OL.nil ?_
  refine W.seq ?_
  refine W.seq ?_
  replace S := S.sub [(1, Value.pointer (some p1))] ⟨rfl, trivial⟩
  refine W.region ?_
  refine OL.pure S (Lf.run_fa (S.ev rfl) fa32_0) rfl rfl trivial ?_
  clear S; intro aa S
  obtain ⟨x4, c, H⟩ := H
  refine OL.pure S (Lf.run_ld (S.ev rfl) fl3 (S.cl c)) rfl rfl trivial ?_
  clear S; intro aa S
  refine OL.pure S (Lf.run_geq (S.ev rfl) (S.ev rfl)) rfl rfl trivial ?_
  clear S; intro aa S
  refine OL.pure S (Lf.run_move (S.ev rfl)) rfl rfl trivial ?_
  clear S; intro aa S
  obtain ⟨J, H, HK⟩ := H
  refine OL.cutN 4 (fun aa ww => ∃ x10, St 19 ((10, Value.bool x10) :: [(1, Value.pointer (some p1)), (3, Value.pointer (some p1)), (4, Value.int .i64 x4), (5, Value.bool (decide (7 ≤ x4))), (6, Value.bool (decide (7 ≤ x4)))]) h1 w0 aa ww ∧ J x10) ?_ ?_
  · rcases Bool.eq_false_or_eq_true (decide (7 ≤ x4)) with hb | hb
    · replace H := H.1 hb
      refine OL.pure S (Lf.run_fa (S.ev rfl) fa32_0) rfl rfl (GOk.mk rfl rfl hb) ?_
      clear S; intro aa S
      obtain ⟨x8, c_1, H⟩ := H
      refine OL.pure S (Lf.run_ld (S.ev rfl) fl3 (S.cl c_1)) rfl rfl (GOk.mk rfl rfl hb) ?_
      clear S; intro aa S
      refine OL.pure S (Lf.run_leq (S.ev rfl) (S.ev rfl)) rfl rfl (GOk.mk rfl rfl hb) ?_
      clear S; intro aa S
      refine OL.pure S (Lf.run_pickT (S.ev rfl) hb (S.ev rfl)) rfl rfl trivial ?_
      clear S; intro aa S
      refine OL.nil ?_
      exact ⟨_, S.sub _ ⟨rfl, rfl, rfl, rfl, rfl, rfl, trivial⟩, H⟩
    · replace H := H.2 hb
      refine OL.not S rfl rfl (GNo.mk rfl rfl hb) ?_
      clear S; intro aa S
      refine OL.not S rfl rfl (GNo.mk rfl rfl hb) ?_
      clear S; intro aa S
      refine OL.not S rfl rfl (GNo.mk rfl rfl hb) ?_
      clear S; intro aa S
      refine OL.pure S (Lf.run_pickF (S.ev rfl) hb (S.ev rfl)) rfl rfl trivial ?_
      clear S; intro aa S
      refine OL.nil ?_
      exact ⟨_, S.sub _ ⟨rfl, rfl, rfl, rfl, rfl, rfl, trivial⟩, H⟩
  · clear S aa
    rintro aa ww ⟨x10, S, HJ⟩
    replace H := HK _ HJ
    clear HK HJ
    refine OL.nil ?_
    refine W.cond S (b := x10) rfl (fun hb_1 => ?_) (fun hb_1 => ?_)
    · replace H := H.1 hb_1
      refine W.seq ?_
      replace S := S.sub [(1, Value.pointer (some p1))] ⟨rfl, trivial⟩
      refine W.region ?_
      refine OL.pure S (Lf.run_fa (S.ev rfl) fa32_3) rfl rfl trivial ?_
      clear S; intro aa S
      obtain ⟨x12, c_2, H⟩ := H
      refine OL.pure S (Lf.run_ld (S.ev rfl) fl3 (S.cl c_2)) rfl rfl trivial ?_
      clear S; intro aa S
      refine ol_newS S H Try.underlying30 ti3 (by decide) (parts_map S rfl) (by kernel_rfl) (by decide) rfl trivial ?_
      clear S H aa; intro s13 aa ww h2 H S
      refine OL.pure S (Lf.run_assign (S.ev rfl)) rfl rfl trivial ?_
      clear S; intro aa S
      refine OL.nil ?_
      refine W.ret ?_
      exact Ret.one S rfl rfl H
    · replace H := H.2 hb_1
      refine W.skip ?_
      refine W.seq ?_
      refine W.seq ?_
      replace S := S.sub [(1, Value.pointer (some p1))] ⟨rfl, trivial⟩
      refine W.region ?_
      refine OL.pure S (Lf.run_fa (S.ev rfl) fa32_0) rfl rfl trivial ?_
      clear S; intro aa S
      obtain ⟨x15, c_3, H⟩ := H
      refine OL.pure S (Lf.run_ld (S.ev rfl) fl3 (S.cl c_3)) rfl rfl trivial ?_
      clear S; intro aa S
      refine OL.pure S (Lf.run_eql (S.ev rfl) (S.ev rfl)) rfl rfl trivial ?_
      clear S; intro aa S
      refine OL.nil ?_
      refine W.cond S (b := (x15 == 5)) rfl (fun hb_2 => ?_) (fun hb_2 => ?_)
      · replace H := H.1 hb_2
        refine W.seq ?_
        replace S := S.sub [(1, Value.pointer (some p1))] ⟨rfl, trivial⟩
        refine W.region ?_
        refine OL.pure S (Lf.run_fa (S.ev rfl) fa32_4) rfl rfl trivial ?_
        clear S; intro aa S
        obtain ⟨x18, c_4, H⟩ := H
        refine OL.pure S (Lf.run_ld (S.ev rfl) fl30 (S.cl c_4)) rfl rfl trivial ?_
        clear S; intro aa S
        refine OL.pure S (Lf.run_assign (S.ev rfl)) rfl rfl trivial ?_
        clear S; intro aa S
        refine OL.nil ?_
        refine W.ret ?_
        exact Ret.one S rfl rfl H
      · replace H := H.2 hb_2
        refine W.skip ?_
        refine W.seq ?_
        replace S := S.sub [] trivial
        refine W.region ?_
        refine OL.pure S (Lf.run_assign (S.ev rfl)) rfl rfl trivial ?_
        clear S; intro aa S
        refine OL.nil ?_
        refine W.ret ?_
        exact Ret.one S rfl rfl H

/-- chattel vary.Once -/
def L13 (l0 : Sv) (ways1 : Option Nat) (h : Heap) (R : Value → Heap → Prop) : Prop :=
  newM h fun m11 h1 =>
  ∃ (I : Int → Heap → Prop) (m : Int → Heap → Nat), I 0 h1 ∧ ∀ x14 h2, I x14 h2 →
  ifb (decide (x14 < ((l0.n : Nat) : Int))) (
    ixS l0 x14 fun q16 =>
    ∃ (y17 : ByteArray) (y17_1 : Int) (y17_2 : Sv) (y17_3 : Sv), cl h2 (q16.add ((x14 : Int).toNat * 4)) = some (Value.string y17) ∧ cl h2 ((q16.add ((x14 : Int).toNat * 4)).add 1) = some (Value.int .i64 y17_1) ∧ cl h2 ((q16.add ((x14 : Int).toNat * 4)).add 2) = some (Value.slice y17_2.a y17_2.n y17_2.c) ∧ cl h2 ((q16.add ((x14 : Int).toNat * 4)).add 3) = some (Value.slice y17_3.a y17_3.n y17_3.c) ∧
    new 41 #[Value.string (⟨#[]⟩ : ByteArray), Value.int .i64 0, Value.slice (⟨none, 0, 0⟩ : Sv).a (⟨none, 0, 0⟩ : Sv).n (⟨none, 0, 0⟩ : Sv).c, Value.slice (⟨none, 0, 0⟩ : Sv).a (⟨none, 0, 0⟩ : Sv).n (⟨none, 0, 0⟩ : Sv).c] h2 fun p7 h3 =>
    stoA h3 p7 [Value.string y17, Value.int .i64 y17_1, Value.slice y17_2.a y17_2.n y17_2.c, Value.slice y17_3.a y17_3.n y17_3.c] fun h4 =>
    ∃ Sq : Heap → Prop, Sq h4 ∧ (
      ∃ (y18 : ByteArray) (y18_1 : Int) (y18_2 : Sv) (y18_3 : Sv), hld Sq p7 (Value.string y18) ∧ hld Sq (p7.add 1) (Value.int .i64 y18_1) ∧ hld Sq (p7.add 2) (Value.slice y18_2.a y18_2.n y18_2.c) ∧ hld Sq (p7.add 3) (Value.slice y18_3.a y18_3.n y18_3.c) ∧
      hlI .i64 Sq (p7.add 1) fun x21 =>
      ldS h4 (p7.add 2) fun x25 =>
      mkS 3 (Value.int .i64 0).cells 1 8 (IntKind.i64.wrap ((if (if 100 < x21 then 100 else x21) > 0 then (if 100 < x21 then 100 else x21) else 0) + ((x25.n : Nat) : Int))) (IntKind.i64.wrap ((if (if 100 < x21 then 100 else x21) > 0 then (if 100 < x21 then 100 else x21) else 0) + ((x25.n : Nat) : Int))) h4 fun s28 h5 =>
      Sq h5 ∧
      new 66 #[Value.string y18, Value.int .i64 y18_1, Value.slice y18_2.a y18_2.n y18_2.c, Value.slice y18_3.a y18_3.n y18_3.c, Value.map ways1, Value.slice s28.a s28.n s28.c] h5 fun p30 h6 =>
      ldI .i64 h6 (p7.add 1) fun x33 =>
      sto h6 (p30.add 1) (Value.int .i64 (if (if 100 < x33 then 100 else x33) > 0 then (if 100 < x33 then 100 else x33) else 0)) fun h7 =>
      ldS h7 (p7.add 3) fun x40 =>
      ∃ (I_1 : Int → Heap → Prop) (m_1 : Int → Heap → Nat), I_1 0 h7 ∧ ∀ x42 h8, I_1 x42 h8 →
      ifb (decide (x42 < ((x40.n : Nat) : Int))) (
        ixS x40 x42 fun q44 =>
        ∃ (y45 : Int) (y45_1 : ByteArray) (y45_2 : Bool) (y45_3 : Int) (y45_4 : Sv) (y45_5 : Sv), cl h8 (q44.add ((x42 : Int).toNat * 6)) = some (Value.int .i64 y45) ∧ cl h8 ((q44.add ((x42 : Int).toNat * 6)).add 1) = some (Value.string y45_1) ∧ cl h8 ((q44.add ((x42 : Int).toNat * 6)).add 2) = some (Value.bool y45_2) ∧ cl h8 ((q44.add ((x42 : Int).toNat * 6)).add 3) = some (Value.int .i64 y45_3) ∧ cl h8 ((q44.add ((x42 : Int).toNat * 6)).add 4) = some (Value.slice y45_4.a y45_4.n y45_4.c) ∧ cl h8 ((q44.add ((x42 : Int).toNat * 6)).add 5) = some (Value.slice y45_5.a y45_5.n y45_5.c) ∧
        new 32 #[Value.int .i64 0, Value.string (⟨#[]⟩ : ByteArray), Value.bool false, Value.int .i64 0, Value.slice (⟨none, 0, 0⟩ : Sv).a (⟨none, 0, 0⟩ : Sv).n (⟨none, 0, 0⟩ : Sv).c, Value.slice (⟨none, 0, 0⟩ : Sv).a (⟨none, 0, 0⟩ : Sv).n (⟨none, 0, 0⟩ : Sv).c] h8 fun p10 h9 =>
        stoA h9 p10 [Value.int .i64 y45, Value.string y45_1, Value.bool y45_2, Value.int .i64 y45_3, Value.slice y45_4.a y45_4.n y45_4.c, Value.slice y45_5.a y45_5.n y45_5.c] fun h10 =>
        ∃ (y47 : Int) (y47_1 : ByteArray) (y47_2 : Bool) (y47_3 : Int) (y47_4 : Sv) (y47_5 : Sv), cl h10 p10 = some (Value.int .i64 y47) ∧ cl h10 (p10.add 1) = some (Value.string y47_1) ∧ cl h10 (p10.add 2) = some (Value.bool y47_2) ∧ cl h10 (p10.add 3) = some (Value.int .i64 y47_3) ∧ cl h10 (p10.add 4) = some (Value.slice y47_4.a y47_4.n y47_4.c) ∧ cl h10 (p10.add 5) = some (Value.slice y47_5.a y47_5.n y47_5.c) ∧
        cal Try.prog 23 #[Value.pointer (some p30), Value.agg #[Value.int .i64 y47, Value.string y47_1, Value.bool y47_2, Value.int .i64 y47_3, Value.slice y47_4.a y47_4.n y47_4.c, Value.slice y47_5.a y47_5.n y47_5.c], Value.int .i64 1] h10 fun u h11 =>
        I_1 (IntKind.i64.wrap (x42 + 1)) h11 ∧ m_1 (IntKind.i64.wrap (x42 + 1)) h11 < m_1 x42 h8) (
        ldT h8 p7 fun x52 =>
        ldS h8 (p30.add 5) fun x56 =>
        updS h8 (Value.map (some m11)) x52 (Value.slice x56.a x56.n x56.c) fun h12 =>
        I (IntKind.i64.wrap (x14 + 1)) h12 ∧ m (IntKind.i64.wrap (x14 + 1)) h12 < m x14 h2))) (
    R (Value.map (some m11)) h2)

set_option maxRecDepth 100000 in

theorem F13 {l0 ways1 h : _} {R : Value → Heap → Prop} (H : L13 l0 ways1 h R) : CallsH Try.prog 13 #[Value.slice l0.a l0.n l0.c, Value.map ways1] h R := by
  refine CallsH.enter (n := 59) Try.func13 rfl rfl rfl rfl ?_
  intro w0 aa ww S
  unfold L13 at H
  refine W.seq ?_
  replace S := S.sub [(0, Value.slice l0.a l0.n l0.c), (1, Value.map ways1)] ⟨rfl, rfl, trivial⟩
  refine W.region ?_
  refine OL.pure S (Lf.run_assign (S.ev rfl)) rfl rfl trivial ?_
  clear S; intro aa S
  refine OL.nil ?_
  refine W.seq ?_
  replace S := S.sub [(0, Value.slice l0.a l0.n l0.c), (1, Value.map ways1)] ⟨rfl, rfl, trivial⟩
  refine W.region ?_
  refine ol_newM S H rfl trivial ?_
  clear S H aa; intro m11 aa ww h1 H S
  refine OL.pure S (Lf.run_assign (S.ev rfl)) rfl rfl trivial ?_
  clear S; intro aa S
  refine OL.nil ?_
  refine W.seq ?_
  refine W.seq ?_
  replace S := S.sub [(0, Value.slice l0.a l0.n l0.c), (1, Value.map ways1), (5, Value.map (some m11))] ⟨rfl, rfl, rfl, trivial⟩
  refine W.region ?_
  refine OL.pure S (Lf.run_move (S.ev rfl)) rfl rfl trivial ?_
  clear S; intro aa S
  refine OL.pure S (Lf.run_lens (S.ev rfl) rfl Try.underlying42) rfl rfl trivial ?_
  clear S; intro aa S
  refine OL.pure S (Lf.run_move (S.ev rfl)) rfl rfl trivial ?_
  clear S; intro aa S
  refine OL.nil ?_
  refine W.block ?_
  obtain ⟨I, m, H, HB_1⟩ := H
  refine W.loopS (σ := Int × Heap) (fun s aa ww => St 59 [(1, Value.map ways1), (5, Value.map (some m11)), (12, Value.slice l0.a l0.n l0.c), (13, Value.int .i64 ((l0.n : Nat) : Int)), (14, Value.int .i64 s.1)] s.2 w0 aa ww ∧ I s.1 s.2) (fun s => m s.1 s.2) (0, h1) ⟨S.sub _ ⟨rfl, rfl, rfl, rfl, rfl, trivial⟩, H⟩ ?_
  clear H S aa
  rintro ⟨x14, h2⟩ aa ww ⟨S, HI⟩
  replace S : St 59 [(1, Value.map ways1), (5, Value.map (some m11)), (12, Value.slice l0.a l0.n l0.c), (13, Value.int .i64 ((l0.n : Nat) : Int)), (14, Value.int .i64 x14)] h2 w0 aa ww := S
  have H := HB_1 x14 h2 HI
  clear HI
  refine W.seq ?_
  replace S := S.sub [(1, Value.map ways1), (5, Value.map (some m11)), (12, Value.slice l0.a l0.n l0.c), (13, Value.int .i64 ((l0.n : Nat) : Int)), (14, Value.int .i64 x14)] ⟨rfl, rfl, rfl, rfl, rfl, trivial⟩
  refine W.region ?_
  refine OL.pure S (Lf.run_lss (S.ev rfl) (S.ev rfl)) rfl rfl trivial ?_
  clear S; intro aa S
  refine OL.nil ?_
  refine W.seq ?_
  refine W.cond S (b := (decide (x14 < ((l0.n : Nat) : Int)))) rfl (fun hb => ?_) (fun hb => ?_)
  · replace H := H.1 hb
    refine W.skip ?_
    refine W.seq ?_
    refine W.block ?_
    refine W.seq ?_
    replace S := S.sub [(1, Value.map ways1), (5, Value.map (some m11)), (12, Value.slice l0.a l0.n l0.c), (13, Value.int .i64 ((l0.n : Nat) : Int)), (14, Value.int .i64 x14)] ⟨rfl, rfl, rfl, rfl, rfl, trivial⟩
    refine W.region ?_
    obtain ⟨q16, e, e_1, e_2, H⟩ := H
    refine OL.pure S (Lf.run_ixs (S.ev rfl) (S.ev rfl) Try.underlying42 ti41 e e_1 e_2) rfl rfl trivial ?_
    clear S; intro aa S
    obtain ⟨y17, y17_1, y17_2, y17_3, c_26, c_27, c_28, c_29, H⟩ := H
    refine OL.pure S (Lf.run_ldA (cs := [Value.string y17, Value.int .i64 y17_1, Value.slice y17_2.a y17_2.n y17_2.c, Value.slice y17_3.a y17_3.n y17_3.c]) (S.ev rfl) ag41 ti41 (by rw [S.heap]; exact RowL.toRow ⟨c_26, c_27, c_28, c_29, trivial⟩)) rfl rfl trivial ?_
    clear S; intro aa S
    refine ol_alloc S H ti41 rfl rfl trivial ?_
    clear S H aa; intro p7 aa ww h3 H S
    refine ol_stoA S H rfl rfl ti41 trivial ?_
    clear S H aa; intro aa ww h4 H S
    refine OL.nil ?_
    refine W.seq ?_
    replace S := S.sub [(1, Value.map ways1), (5, Value.map (some m11)), (7, Value.pointer (some p7)), (12, Value.slice l0.a l0.n l0.c), (13, Value.int .i64 ((l0.n : Nat) : Int)), (14, Value.int .i64 x14)] ⟨rfl, rfl, rfl, rfl, rfl, rfl, trivial⟩
    obtain ⟨Sq, HS, H⟩ := H
    refine W.regionN [0, 3] [10, 12] Sq S (by kernel_rfl) ?_
    clear S; intro ww S
    refine BN.pure 1 S (fun _ => HS) rfl (by kernel_rfl) (by kernel_rfl) (fun _ => Lf.run_move (S.ev rfl)) rfl rfl trivial ?_
    clear S; intro aa S
    refine BN.pure 2 S (fun _ => HS) rfl (by kernel_rfl) (by kernel_rfl) (fun _ => Lf.run_fa (S.ev rfl) fa41_1) rfl rfl trivial ?_
    clear S; intro aa S
    refine BN.pure 6 S (fun _ => HS) rfl (by kernel_rfl) (by kernel_rfl) (fun _ => Lf.run_fa (S.ev rfl) fa41_2) rfl rfl trivial ?_
    clear S; intro aa S
    obtain ⟨y18, y18_1, y18_2, y18_3, c_22, c_23, c_24, c_25, H⟩ := H
    refine BN.held 0 S HS rfl (by kernel_rfl) (fun _ hq => Lf.run_ldA (cs := [Value.string y18, Value.int .i64 y18_1, Value.slice y18_2.a y18_2.n y18_2.c, Value.slice y18_3.a y18_3.n y18_3.c]) (S.ev rfl) ag41 ti41 (hlRow hq fun h_ hs_ => ⟨c_22 h_ hs_, c_23 h_ hs_, c_24 h_ hs_, c_25 h_ hs_, trivial⟩)) rfl rfl trivial ?_
    clear S; intro aa S
    obtain ⟨x21, c_2, H⟩ := H
    refine BN.held 3 S HS rfl (by kernel_rfl) (fun _ hq => Lf.run_ld (S.ev rfl) fl3 (c_2 _ hq)) rfl rfl trivial ?_
    clear S; intro aa S
    refine BN.pure 4 S (fun _ => HS) rfl (by kernel_rfl) (by kernel_rfl) (fun _ => Lf.run_min (S.ev rfl) (S.ev rfl)) rfl rfl trivial ?_
    clear S; intro aa S
    refine BN.pure 5 S (fun _ => HS) rfl (by kernel_rfl) (by kernel_rfl) (fun _ => Lf.run_max (S.ev rfl) (S.ev rfl)) rfl rfl trivial ?_
    clear S; intro aa S
    obtain ⟨x25, c_3, H⟩ := H
    refine BN.load 7 S (fun _ => HS) rfl (by kernel_rfl) (by kernel_rfl) (fun _ hx => Lf.run_ld (S.ev rfl) fl39 (hx.cell _ _ (S.cl c_3))) rfl rfl trivial ?_
    clear S; intro aa S
    refine BN.pure 8 S (fun _ => HS) rfl (by kernel_rfl) (by kernel_rfl) (fun _ => Lf.run_lens (S.ev rfl) rfl Try.underlying39) rfl rfl trivial ?_
    clear S; intro aa S
    refine BN.pure 9 S (fun _ => HS) rfl (by kernel_rfl) (by kernel_rfl) (fun _ => Lf.run_add (S.ev rfl) (S.ev rfl)) rfl rfl trivial ?_
    clear S; intro aa S
    refine BN.eff 10 rfl (by kernel_rfl) ?_
    refine ol_mkS S H Try.underlying30 ti3 rfl rfl rfl trivial ?_
    clear S H aa; intro s28 aa ww h5 H S
    refine OL.nil ?_
    clear HS; obtain ⟨HS, H⟩ := H
    refine ⟨fun _ => by rw [S.heap]; exact HS, ?_⟩
    refine BN.pure 11 S (fun _ => HS) rfl (by kernel_rfl) (by kernel_rfl) (fun _ => Lf.run_build (cs := #[Value.string y18, Value.int .i64 y18_1, Value.slice y18_2.a y18_2.n y18_2.c, Value.slice y18_3.a y18_3.n y18_3.c, Value.map ways1, Value.slice s28.a s28.n s28.c]) pl66 ti66 (parts_map S rfl) (by kernel_rfl)) rfl rfl trivial ?_
    clear S; intro aa S
    refine BN.eff 12 rfl (by kernel_rfl) ?_
    refine ol_box S H rfl rfl rfl trivial ?_
    clear S H aa; intro p30 aa ww h6 H S
    refine OL.nil ?_
    refine ⟨noNeed (by kernel_rfl), ?_⟩
    refine BN.pure 13 S (noNeed (by kernel_rfl)) rfl (by kernel_rfl) (by kernel_rfl) (fun _ => Lf.run_assign (S.ev rfl)) rfl rfl trivial ?_
    clear S; intro aa S
    refine BN.done (by kernel_rfl) ?_
    refine W.seq ?_
    replace S := S.sub [(1, Value.map ways1), (5, Value.map (some m11)), (7, Value.pointer (some p7)), (8, Value.pointer (some p30)), (12, Value.slice l0.a l0.n l0.c), (13, Value.int .i64 ((l0.n : Nat) : Int)), (14, Value.int .i64 x14)] ⟨rfl, rfl, rfl, rfl, rfl, rfl, rfl, trivial⟩
    refine W.region ?_
    refine OL.pure S (Lf.run_move (S.ev rfl)) rfl rfl trivial ?_
    clear S; intro aa S
    refine OL.pure S (Lf.run_fa (S.ev rfl) fa41_1) rfl rfl trivial ?_
    clear S; intro aa S
    obtain ⟨x33, c_4, H⟩ := H
    refine OL.pure S (Lf.run_ld (S.ev rfl) fl3 (S.cl c_4)) rfl rfl trivial ?_
    clear S; intro aa S
    refine OL.pure S (Lf.run_min (S.ev rfl) (S.ev rfl)) rfl rfl trivial ?_
    clear S; intro aa S
    refine OL.pure S (Lf.run_max (S.ev rfl) (S.ev rfl)) rfl rfl trivial ?_
    clear S; intro aa S
    refine OL.pure S (Lf.run_nc (S.ev rfl)) rfl rfl trivial ?_
    clear S; intro aa S
    refine OL.pure S (Lf.run_fa (S.ev rfl) fa66_0) rfl rfl trivial ?_
    clear S; intro aa S
    refine OL.pure S (Lf.run_fa (S.ev rfl) fa41_1) rfl rfl trivial ?_
    clear S; intro aa S
    refine ol_sto S H rfl rfl rfl ti3 trivial ?_
    clear S H aa; intro aa ww h7 H S
    refine OL.nil ?_
    refine W.seq ?_
    refine W.seq ?_
    replace S := S.sub [(1, Value.map ways1), (5, Value.map (some m11)), (7, Value.pointer (some p7)), (8, Value.pointer (some p30)), (12, Value.slice l0.a l0.n l0.c), (13, Value.int .i64 ((l0.n : Nat) : Int)), (14, Value.int .i64 x14)] ⟨rfl, rfl, rfl, rfl, rfl, rfl, rfl, trivial⟩
    refine W.region ?_
    refine OL.pure S (Lf.run_fa (S.ev rfl) fa41_3) rfl rfl trivial ?_
    clear S; intro aa S
    obtain ⟨x40, c_5, H⟩ := H
    refine OL.pure S (Lf.run_ld (S.ev rfl) fl22 (S.cl c_5)) rfl rfl trivial ?_
    clear S; intro aa S
    refine OL.pure S (Lf.run_lens (S.ev rfl) rfl Try.underlying22) rfl rfl trivial ?_
    clear S; intro aa S
    refine OL.pure S (Lf.run_move (S.ev rfl)) rfl rfl trivial ?_
    clear S; intro aa S
    refine OL.nil ?_
    refine W.block ?_
    obtain ⟨I_1, m_1, H, HB⟩ := H
    refine W.loopS (σ := Int × Heap) (fun s aa ww => St 59 [(1, Value.map ways1), (5, Value.map (some m11)), (7, Value.pointer (some p7)), (8, Value.pointer (some p30)), (12, Value.slice l0.a l0.n l0.c), (13, Value.int .i64 ((l0.n : Nat) : Int)), (14, Value.int .i64 x14), (40, Value.slice x40.a x40.n x40.c), (41, Value.int .i64 ((x40.n : Nat) : Int)), (42, Value.int .i64 s.1)] s.2 w0 aa ww ∧ I_1 s.1 s.2) (fun s => m_1 s.1 s.2) (0, h7) ⟨S.sub _ ⟨rfl, rfl, rfl, rfl, rfl, rfl, rfl, rfl, rfl, rfl, trivial⟩, H⟩ ?_
    clear H S aa
    rintro ⟨x42, h8⟩ aa ww ⟨S, HI⟩
    replace S : St 59 [(1, Value.map ways1), (5, Value.map (some m11)), (7, Value.pointer (some p7)), (8, Value.pointer (some p30)), (12, Value.slice l0.a l0.n l0.c), (13, Value.int .i64 ((l0.n : Nat) : Int)), (14, Value.int .i64 x14), (40, Value.slice x40.a x40.n x40.c), (41, Value.int .i64 ((x40.n : Nat) : Int)), (42, Value.int .i64 x42)] h8 w0 aa ww := S
    have H := HB x42 h8 HI
    clear HI
    refine W.seq ?_
    replace S := S.sub [(1, Value.map ways1), (5, Value.map (some m11)), (7, Value.pointer (some p7)), (8, Value.pointer (some p30)), (12, Value.slice l0.a l0.n l0.c), (13, Value.int .i64 ((l0.n : Nat) : Int)), (14, Value.int .i64 x14), (40, Value.slice x40.a x40.n x40.c), (41, Value.int .i64 ((x40.n : Nat) : Int)), (42, Value.int .i64 x42)] ⟨rfl, rfl, rfl, rfl, rfl, rfl, rfl, rfl, rfl, rfl, trivial⟩
    refine W.region ?_
    refine OL.pure S (Lf.run_lss (S.ev rfl) (S.ev rfl)) rfl rfl trivial ?_
    clear S; intro aa S
    refine OL.nil ?_
    refine W.seq ?_
    refine W.cond S (b := (decide (x42 < ((x40.n : Nat) : Int)))) rfl (fun hb_1 => ?_) (fun hb_1 => ?_)
    · replace H := H.1 hb_1
      refine W.skip ?_
      refine W.seq ?_
      refine W.block ?_
      refine W.seq ?_
      replace S := S.sub [(1, Value.map ways1), (5, Value.map (some m11)), (7, Value.pointer (some p7)), (8, Value.pointer (some p30)), (12, Value.slice l0.a l0.n l0.c), (13, Value.int .i64 ((l0.n : Nat) : Int)), (14, Value.int .i64 x14), (40, Value.slice x40.a x40.n x40.c), (41, Value.int .i64 ((x40.n : Nat) : Int)), (42, Value.int .i64 x42)] ⟨rfl, rfl, rfl, rfl, rfl, rfl, rfl, rfl, rfl, rfl, trivial⟩
      refine W.region ?_
      obtain ⟨q44, e_3, e_4, e_5, H⟩ := H
      refine OL.pure S (Lf.run_ixs (S.ev rfl) (S.ev rfl) Try.underlying22 ti32 e_3 e_4 e_5) rfl rfl trivial ?_
      clear S; intro aa S
      obtain ⟨y45, y45_1, y45_2, y45_3, y45_4, y45_5, c_14, c_15, c_16, c_17, c_18, c_19, H⟩ := H
      refine OL.pure S (Lf.run_ldA (cs := [Value.int .i64 y45, Value.string y45_1, Value.bool y45_2, Value.int .i64 y45_3, Value.slice y45_4.a y45_4.n y45_4.c, Value.slice y45_5.a y45_5.n y45_5.c]) (S.ev rfl) ag32 ti32 (by rw [S.heap]; exact RowL.toRow ⟨c_14, c_15, c_16, c_17, c_18, c_19, trivial⟩)) rfl rfl trivial ?_
      clear S; intro aa S
      refine ol_alloc S H ti32 rfl rfl trivial ?_
      clear S H aa; intro p10 aa ww h9 H S
      refine ol_stoA S H rfl rfl ti32 trivial ?_
      clear S H aa; intro aa ww h10 H S
      refine OL.nil ?_
      replace S := S.sub [(1, Value.map ways1), (5, Value.map (some m11)), (7, Value.pointer (some p7)), (8, Value.pointer (some p30)), (10, Value.pointer (some p10)), (12, Value.slice l0.a l0.n l0.c), (13, Value.int .i64 ((l0.n : Nat) : Int)), (14, Value.int .i64 x14), (40, Value.slice x40.a x40.n x40.c), (41, Value.int .i64 ((x40.n : Nat) : Int)), (42, Value.int .i64 x42)] ⟨rfl, rfl, rfl, rfl, rfl, rfl, rfl, rfl, rfl, rfl, rfl, trivial⟩
      refine W.region ?_
      refine OL.pure S (Lf.run_move (S.ev rfl)) rfl rfl trivial ?_
      clear S; intro aa S
      obtain ⟨y47, y47_1, y47_2, y47_3, y47_4, y47_5, c_8, c_9, c_10, c_11, c_12, c_13, H⟩ := H
      refine OL.pure S (Lf.run_ldA (cs := [Value.int .i64 y47, Value.string y47_1, Value.bool y47_2, Value.int .i64 y47_3, Value.slice y47_4.a y47_4.n y47_4.c, Value.slice y47_5.a y47_5.n y47_5.c]) (S.ev rfl) ag32 ti32 (by rw [S.heap]; exact RowL.toRow ⟨c_8, c_9, c_10, c_11, c_12, c_13, trivial⟩)) rfl rfl trivial ?_
      clear S; intro aa S
      refine ol_cal S H isfn23 rfl rfl trivial ?_
      clear S H aa; intro u aa ww h11 H S
      refine OL.nil ?_
      replace S := S.sub [(1, Value.map ways1), (5, Value.map (some m11)), (7, Value.pointer (some p7)), (8, Value.pointer (some p30)), (12, Value.slice l0.a l0.n l0.c), (13, Value.int .i64 ((l0.n : Nat) : Int)), (14, Value.int .i64 x14), (40, Value.slice x40.a x40.n x40.c), (41, Value.int .i64 ((x40.n : Nat) : Int)), (42, Value.int .i64 x42)] ⟨rfl, rfl, rfl, rfl, rfl, rfl, rfl, rfl, rfl, rfl, trivial⟩
      refine W.region ?_
      refine OL.pure S (Lf.run_add (S.ev rfl) (S.ev rfl)) rfl rfl trivial ?_
      clear S; intro aa S
      refine OL.pure S (Lf.run_move (S.ev rfl)) rfl rfl trivial ?_
      clear S; intro aa S
      refine OL.nil ?_
      exact ⟨((IntKind.i64.wrap (x42 + 1)), h11), ⟨S.sub _ ⟨rfl, rfl, rfl, rfl, rfl, rfl, rfl, rfl, rfl, rfl, trivial⟩, H.1⟩, H.2⟩
    · replace H := H.2 hb_1
      refine W.exit_ ?_
      refine xhit ?_
      replace S := S.sub [(1, Value.map ways1), (5, Value.map (some m11)), (7, Value.pointer (some p7)), (8, Value.pointer (some p30)), (12, Value.slice l0.a l0.n l0.c), (13, Value.int .i64 ((l0.n : Nat) : Int)), (14, Value.int .i64 x14)] ⟨rfl, rfl, rfl, rfl, rfl, rfl, rfl, trivial⟩
      refine W.regionD S (by kernel_rfl) ?_
      clear S; intro ww S
      refine AN.pure 0 S rfl (by kernel_rfl) (fun _ => Lf.run_move (S.ev rfl)) rfl rfl trivial ?_
      clear S; intro aa S
      refine AN.pure 1 S rfl (by kernel_rfl) (fun _ => Lf.run_fa (S.ev rfl) fa41_0) rfl rfl trivial ?_
      clear S; intro aa S
      obtain ⟨x52, c_20, H⟩ := H
      refine AN.load 2 S rfl (by kernel_rfl) (fun _ hx => Lf.run_ld (S.ev rfl) fl9 (hx.cell _ _ (S.cl c_20))) rfl rfl trivial ?_
      clear S; intro aa S
      refine AN.pure 3 S rfl (by kernel_rfl) (fun _ => Lf.run_move (S.ev rfl)) rfl rfl trivial ?_
      clear S; intro aa S
      refine AN.pure 4 S rfl (by kernel_rfl) (fun _ => Lf.run_nc (S.ev rfl)) rfl rfl trivial ?_
      clear S; intro aa S
      refine AN.pure 5 S rfl (by kernel_rfl) (fun _ => Lf.run_fa (S.ev rfl) fa66_2) rfl rfl trivial ?_
      clear S; intro aa S
      obtain ⟨x56, c_21, H⟩ := H
      refine AN.load 6 S rfl (by kernel_rfl) (fun _ hx => Lf.run_ld (S.ev rfl) fl30 (hx.cell _ _ (S.cl c_21))) rfl rfl trivial ?_
      clear S; intro aa S
      refine AN.eff 7 rfl (by kernel_rfl) ?_
      refine ol_updS S H Try.underlying37 Try.underlying9 rfl rfl rfl trivial ?_
      clear S H aa; intro aa ww h12 H S
      refine OL.nil ?_
      refine AN.done (by kernel_rfl) ?_
      replace S := S.sub [(1, Value.map ways1), (5, Value.map (some m11)), (12, Value.slice l0.a l0.n l0.c), (13, Value.int .i64 ((l0.n : Nat) : Int)), (14, Value.int .i64 x14)] ⟨rfl, rfl, rfl, rfl, rfl, trivial⟩
      refine W.region ?_
      refine OL.pure S (Lf.run_add (S.ev rfl) (S.ev rfl)) rfl rfl trivial ?_
      clear S; intro aa S
      refine OL.pure S (Lf.run_move (S.ev rfl)) rfl rfl trivial ?_
      clear S; intro aa S
      refine OL.nil ?_
      exact ⟨((IntKind.i64.wrap (x14 + 1)), h12), ⟨S.sub _ ⟨rfl, rfl, rfl, rfl, rfl, trivial⟩, H.1⟩, H.2⟩
  · replace H := H.2 hb
    refine W.exit_ ?_
    refine xhit ?_
    refine W.seq ?_
    replace S := S.sub [(5, Value.map (some m11))] ⟨rfl, trivial⟩
    refine W.region ?_
    refine OL.pure S (Lf.run_move (S.ev rfl)) rfl rfl trivial ?_
    clear S; intro aa S
    refine OL.pure S (Lf.run_assign (S.ev rfl)) rfl rfl trivial ?_
    clear S; intro aa S
    refine OL.nil ?_
    refine W.ret ?_
    exact Ret.one S rfl rfl H

/-- maps.EqualFunc[chattel api.Ways,chattel api.Ways,string,[]int,[]int] -/
def L14 (m10 : Option Nat) (m21 : Option Nat) (eq2 : Value) (h : Heap) (R : Value → Heap → Prop) : Prop :=
  lenM h (Value.map m10) fun n12 =>
  lenM h (Value.map m21) fun n14 =>
  ifb (n12 != n14) (
    R (Value.bool false) h) (
    rngM h (Value.map m10) fun vit h1 =>
    ∃ (I : Heap → Prop) (m : Heap → Nat), I h1 ∧ ∀ h2, I h2 →
    nxtM h2 vit fun V18 h3 =>
    elt V18 0 fun u => asB u fun x19 =>
    ifb x19 (
      entM h3 vit fun u_1 u_2 => asT u_1 fun x20 => asS u_2 fun x20_1 =>
      lkO h3 (Value.map m21) x20 (Value.slice (⟨none, 0, 0⟩ : Sv).a (⟨none, 0, 0⟩ : Sv).n (⟨none, 0, 0⟩ : Sv).c) fun u_3 ok => asS u_3 fun x26 =>
      ∃ J : Bool → Heap → Prop, (orj (!ok) (fun k =>
        calV Try.prog eq2 #[Value.slice x20_1.a x20_1.n x20_1.c, Value.slice x26.a x26.n x26.c] h3 fun u_4 h5 => asB u_4 fun x35 =>
        k (!x35) h5) h3 J) ∧ ∀ x37 h4, J x37 h4 →
      ifb x37 (
        R (Value.bool false) h4) (
        I h4 ∧ m h4 < m h2)) (
      R (Value.bool true) h3))

set_option maxRecDepth 100000 in

theorem F14 {m10 m21 eq2 h : _} {R : Value → Heap → Prop} (H : L14 m10 m21 eq2 h R) : CallsH Try.prog 14 #[Value.map m10, Value.map m21, eq2] h R := by
  refine CallsH.enter (n := 38) Try.func14 rfl rfl rfl rfl ?_
  intro w0 aa ww S
  unfold L14 at H
  refine W.seq ?_
  replace S := S.sub [(0, Value.map m10), (1, Value.map m21), (2, eq2)] ⟨rfl, rfl, rfl, trivial⟩
  refine W.region ?_
  refine OL.pure S (Lf.run_assign (S.ev rfl)) rfl rfl trivial ?_
  clear S; intro aa S
  refine OL.nil ?_
  refine W.seq ?_
  refine W.seq ?_
  replace S := S.sub [(0, Value.map m10), (1, Value.map m21), (2, eq2)] ⟨rfl, rfl, rfl, trivial⟩
  refine W.region ?_
  refine OL.pure S (Lf.run_move (S.ev rfl)) rfl rfl trivial ?_
  clear S; intro aa S
  refine ol_lenM S H Try.underlying37 rfl rfl trivial ?_
  clear S H aa; intro n12 aa H S
  refine OL.pure S (Lf.run_move (S.ev rfl)) rfl rfl trivial ?_
  clear S; intro aa S
  refine ol_lenM S H Try.underlying37 rfl rfl trivial ?_
  clear S H aa; intro n14 aa H S
  refine OL.pure S (Lf.run_neq (S.ev rfl) (S.ev rfl)) rfl rfl trivial ?_
  clear S; intro aa S
  refine OL.nil ?_
  refine W.cond S (b := (n12 != n14)) rfl (fun hb => ?_) (fun hb => ?_)
  · replace H := H.1 hb
    refine W.seq ?_
    replace S := S.sub [] trivial
    refine W.region ?_
    refine OL.pure S (Lf.run_assign (S.ev rfl)) rfl rfl trivial ?_
    clear S; intro aa S
    refine OL.nil ?_
    refine W.ret ?_
    exact Ret.one S rfl rfl H
  · replace H := H.2 hb
    refine W.skip ?_
    refine W.seq ?_
    refine W.seq ?_
    replace S := S.sub [(0, Value.map m10), (1, Value.map m21), (2, eq2)] ⟨rfl, rfl, rfl, trivial⟩
    refine W.region ?_
    refine OL.pure S (Lf.run_move (S.ev rfl)) rfl rfl trivial ?_
    clear S; intro aa S
    refine ol_rngM S H Try.underlying37 rfl rfl trivial ?_
    clear S H aa; intro vit aa ww h1 H S
    refine OL.nil ?_
    refine W.block ?_
    obtain ⟨I, m, H, HB⟩ := H
    refine W.loopS (σ := Heap) (fun s aa ww => St 38 [(1, Value.map m21), (2, eq2), (17, Value.pointer (some (⟨vit, 0, none⟩ : Addr)))] s w0 aa ww ∧ I s) (fun s => m s) (h1) ⟨S.sub _ ⟨rfl, rfl, rfl, trivial⟩, H⟩ ?_
    clear H S aa
    rintro h2 aa ww ⟨S, HI⟩
    replace S : St 38 [(1, Value.map m21), (2, eq2), (17, Value.pointer (some (⟨vit, 0, none⟩ : Addr)))] h2 w0 aa ww := S
    have H := HB h2 HI
    clear HI
    refine W.seq ?_
    replace S := S.sub [(1, Value.map m21), (2, eq2), (17, Value.pointer (some (⟨vit, 0, none⟩ : Addr)))] ⟨rfl, rfl, rfl, trivial⟩
    refine W.region ?_
    refine ol_nxtM S H rfl rfl trivial ?_
    clear S H aa; intro V18 aa ww h3 H S
    obtain ⟨u, e, x19, rfl, H⟩ := H
    refine OL.pure S (Lf.run_ex (S.ev rfl) e) rfl rfl trivial ?_
    clear S; intro aa S
    refine OL.nil ?_
    refine W.seq ?_
    refine W.cond S (b := x19) rfl (fun hb_1 => ?_) (fun hb_1 => ?_)
    · replace H := H.1 hb_1
      refine W.skip ?_
      refine W.block ?_
      refine W.seq ?_
      replace S := S.sub [(1, Value.map m21), (2, eq2), (17, Value.pointer (some (⟨vit, 0, none⟩ : Addr)))] ⟨rfl, rfl, rfl, trivial⟩
      refine W.region ?_
      refine ol_entM S H rfl rfl trivial ?_
      clear S H aa; intro u_1 u_2 aa H S
      obtain ⟨x20, rfl, H⟩ := H
      obtain ⟨x20_1, rfl, H⟩ := H
      refine OL.pure S (Lf.run_ex (S.ev rfl) rfl) rfl rfl trivial ?_
      clear S; intro aa S
      refine OL.pure S (Lf.run_ex (S.ev rfl) rfl) rfl rfl trivial ?_
      clear S; intro aa S
      refine OL.pure S (Lf.run_assign (S.ev rfl)) rfl rfl trivial ?_
      clear S; intro aa S
      refine OL.pure S (Lf.run_assign (S.ev rfl)) rfl rfl trivial ?_
      clear S; intro aa S
      refine OL.nil ?_
      refine W.seq ?_
      replace S := S.sub [(1, Value.map m21), (2, eq2), (7, Value.string x20), (8, Value.slice x20_1.a x20_1.n x20_1.c), (17, Value.pointer (some (⟨vit, 0, none⟩ : Addr)))] ⟨rfl, rfl, rfl, rfl, rfl, trivial⟩
      refine W.region ?_
      refine OL.pure S (Lf.run_move (S.ev rfl)) rfl rfl trivial ?_
      clear S; intro aa S
      refine OL.pure S (Lf.run_move (S.ev rfl)) rfl rfl trivial ?_
      clear S; intro aa S
      refine ol_lkO S H Try.underlying37 Try.underlying9 ti30 rfl rfl rfl trivial ?_
      clear S H aa; intro u_3 ok aa H S
      obtain ⟨x26, rfl, H⟩ := H
      refine OL.pure S (Lf.run_move (S.ev rfl)) rfl rfl trivial ?_
      clear S; intro aa S
      refine OL.pure S (Lf.run_ex (S.ev rfl) rfl) rfl rfl trivial ?_
      clear S; intro aa S
      refine OL.pure S (Lf.run_ex (S.ev rfl) rfl) rfl rfl trivial ?_
      clear S; intro aa S
      refine OL.pure S (Lf.run_assign (S.ev rfl)) rfl rfl trivial ?_
      clear S; intro aa S
      refine OL.pure S (Lf.run_assign (S.ev rfl)) rfl rfl trivial ?_
      clear S; intro aa S
      refine OL.nil ?_
      refine W.seq ?_
      replace S := S.sub [(1, Value.map m21), (2, eq2), (8, Value.slice x20_1.a x20_1.n x20_1.c), (9, Value.slice x26.a x26.n x26.c), (10, Value.bool ok), (17, Value.pointer (some (⟨vit, 0, none⟩ : Addr)))] ⟨rfl, rfl, rfl, rfl, rfl, rfl, trivial⟩
      refine W.region ?_
      refine OL.pure S (Lf.run_move (S.ev rfl)) rfl rfl trivial ?_
      clear S; intro aa S
      refine OL.pure S (Lf.run_not (S.ev rfl)) rfl rfl trivial ?_
      clear S; intro aa S
      refine OL.pure S (Lf.run_move (S.ev rfl)) rfl rfl trivial ?_
      clear S; intro aa S
      obtain ⟨J, H, HK⟩ := H
      refine OL.cutN 6 (fun aa ww => ∃ x37 h4, St 38 ((37, Value.bool x37) :: [(1, Value.map m21), (2, eq2), (8, Value.slice x20_1.a x20_1.n x20_1.c), (9, Value.slice x26.a x26.n x26.c), (10, Value.bool ok), (17, Value.pointer (some (⟨vit, 0, none⟩ : Addr))), (29, Value.bool ok), (30, Value.bool (!ok)), (31, Value.bool (!ok))]) h4 w0 aa ww ∧ J x37 h4) ?_ ?_
      · rcases Bool.eq_false_or_eq_true (!ok) with hb_2 | hb_2
        · replace H := H.1 hb_2
          refine OL.not S rfl rfl (GNo.mk rfl rfl hb_2) ?_
          clear S; intro aa S
          refine OL.not S rfl rfl (GNo.mk rfl rfl hb_2) ?_
          clear S; intro aa S
          refine OL.not S rfl rfl (GNo.mk rfl rfl hb_2) ?_
          clear S; intro aa S
          refine OL.not S rfl rfl (GNo.mk rfl rfl hb_2) ?_
          clear S; intro aa S
          refine OL.not S rfl rfl (GNo.mk rfl rfl hb_2) ?_
          clear S; intro aa S
          refine OL.pure S (Lf.run_pickT (S.ev rfl) hb_2 (S.ev rfl)) rfl rfl trivial ?_
          clear S; intro aa S
          refine OL.nil ?_
          exact ⟨_, _, S.sub _ ⟨rfl, rfl, rfl, rfl, rfl, rfl, rfl, rfl, rfl, rfl, trivial⟩, H⟩
        · replace H := H.2 hb_2
          refine OL.pure S (Lf.run_move (S.ev rfl)) rfl rfl (GOk.mk rfl rfl hb_2) ?_
          clear S; intro aa S
          refine OL.pure S (Lf.run_move (S.ev rfl)) rfl rfl (GOk.mk rfl rfl hb_2) ?_
          clear S; intro aa S
          refine OL.pure S (Lf.run_move (S.ev rfl)) rfl rfl (GOk.mk rfl rfl hb_2) ?_
          clear S; intro aa S
          refine ol_calV S H rfl rfl rfl (GOk.mk rfl rfl hb_2) ?_
          clear S H aa; intro u_4 aa ww h5 H S
          obtain ⟨x35, rfl, H⟩ := H
          refine OL.pure S (Lf.run_not (S.ev rfl)) rfl rfl (GOk.mk rfl rfl hb_2) ?_
          clear S; intro aa S
          refine OL.pure S (Lf.run_pickF (S.ev rfl) hb_2 (S.ev rfl)) rfl rfl trivial ?_
          clear S; intro aa S
          refine OL.nil ?_
          exact ⟨_, _, S.sub _ ⟨rfl, rfl, rfl, rfl, rfl, rfl, rfl, rfl, rfl, rfl, trivial⟩, H⟩
      · clear S aa
        rintro aa ww ⟨x37, h4, S, HJ⟩
        replace H := HK _ _ HJ
        clear HK HJ
        refine OL.nil ?_
        refine W.cond S (b := x37) rfl (fun hb_3 => ?_) (fun hb_3 => ?_)
        · replace H := H.1 hb_3
          refine W.seq ?_
          replace S := S.sub [] trivial
          refine W.region ?_
          refine OL.pure S (Lf.run_assign (S.ev rfl)) rfl rfl trivial ?_
          clear S; intro aa S
          refine OL.nil ?_
          refine W.ret ?_
          exact Ret.one S rfl rfl H
        · replace H := H.2 hb_3
          refine W.skip ?_
          exact ⟨(h4), ⟨S.sub _ ⟨rfl, rfl, rfl, trivial⟩, H.1⟩, H.2⟩
    · replace H := H.2 hb_1
      refine W.exit_ ?_
      refine xhit ?_
      refine W.seq ?_
      replace S := S.sub [] trivial
      refine W.region ?_
      refine OL.pure S (Lf.run_assign (S.ev rfl)) rfl rfl trivial ?_
      clear S; intro aa S
      refine OL.nil ?_
      refine W.ret ?_
      exact Ret.one S rfl rfl H

/-- slices.Equal[[]int,int] -/
def L15 (s10 : Sv) (s21 : Sv) (h : Heap) (R : Value → Heap → Prop) : Prop :=
  ifb (((s10.n : Nat) : Int) != ((s21.n : Nat) : Int)) (
    R (Value.bool false) h) (
    ∃ (I : Int → Prop) (m : Int → Nat), I 0 ∧ ∀ x13, I x13 →
    ifb (decide (x13 < ((s10.n : Nat) : Int))) (
      ixS s10 x13 fun q18 =>
      ldI .i64 h (q18.add ((x13 : Int).toNat * 1)) fun x19 =>
      ixS s21 x13 fun q22 =>
      ldI .i64 h (q22.add ((x13 : Int).toNat * 1)) fun x23 =>
      ifb (x19 != x23) (
        R (Value.bool false) h) (
        I (IntKind.i64.wrap (x13 + 1)) ∧ m (IntKind.i64.wrap (x13 + 1)) < m x13)) (
      R (Value.bool true) h))

set_option maxRecDepth 100000 in

theorem F15 {s10 s21 h : _} {R : Value → Heap → Prop} (H : L15 s10 s21 h R) : CallsH Try.prog 15 #[Value.slice s10.a s10.n s10.c, Value.slice s21.a s21.n s21.c] h R := by
  refine CallsH.enter (n := 26) Try.func15 rfl rfl rfl rfl ?_
  intro w0 aa ww S
  unfold L15 at H
  refine W.seq ?_
  replace S := S.sub [(0, Value.slice s10.a s10.n s10.c), (1, Value.slice s21.a s21.n s21.c)] ⟨rfl, rfl, trivial⟩
  refine W.region ?_
  refine OL.pure S (Lf.run_assign (S.ev rfl)) rfl rfl trivial ?_
  clear S; intro aa S
  refine OL.nil ?_
  refine W.seq ?_
  refine W.seq ?_
  replace S := S.sub [(0, Value.slice s10.a s10.n s10.c), (1, Value.slice s21.a s21.n s21.c)] ⟨rfl, rfl, trivial⟩
  refine W.region ?_
  refine OL.pure S (Lf.run_move (S.ev rfl)) rfl rfl trivial ?_
  clear S; intro aa S
  refine OL.pure S (Lf.run_lens (S.ev rfl) rfl Try.underlying30) rfl rfl trivial ?_
  clear S; intro aa S
  refine OL.pure S (Lf.run_move (S.ev rfl)) rfl rfl trivial ?_
  clear S; intro aa S
  refine OL.pure S (Lf.run_lens (S.ev rfl) rfl Try.underlying30) rfl rfl trivial ?_
  clear S; intro aa S
  refine OL.pure S (Lf.run_neq (S.ev rfl) (S.ev rfl)) rfl rfl trivial ?_
  clear S; intro aa S
  refine OL.nil ?_
  refine W.cond S (b := (((s10.n : Nat) : Int) != ((s21.n : Nat) : Int))) rfl (fun hb => ?_) (fun hb => ?_)
  · replace H := H.1 hb
    refine W.seq ?_
    replace S := S.sub [] trivial
    refine W.region ?_
    refine OL.pure S (Lf.run_assign (S.ev rfl)) rfl rfl trivial ?_
    clear S; intro aa S
    refine OL.nil ?_
    refine W.ret ?_
    exact Ret.one S rfl rfl H
  · replace H := H.2 hb
    refine W.skip ?_
    refine W.seq ?_
    refine W.seq ?_
    replace S := S.sub [(0, Value.slice s10.a s10.n s10.c), (1, Value.slice s21.a s21.n s21.c)] ⟨rfl, rfl, trivial⟩
    refine W.region ?_
    refine OL.pure S (Lf.run_move (S.ev rfl)) rfl rfl trivial ?_
    clear S; intro aa S
    refine OL.pure S (Lf.run_lens (S.ev rfl) rfl Try.underlying30) rfl rfl trivial ?_
    clear S; intro aa S
    refine OL.pure S (Lf.run_move (S.ev rfl)) rfl rfl trivial ?_
    clear S; intro aa S
    refine OL.nil ?_
    refine W.block ?_
    obtain ⟨I, m, H, HB⟩ := H
    refine W.loopS (σ := Int) (fun s aa ww => St 26 [(0, Value.slice s10.a s10.n s10.c), (1, Value.slice s21.a s21.n s21.c), (12, Value.int .i64 ((s10.n : Nat) : Int)), (13, Value.int .i64 s)] h w0 aa ww ∧ I s) (fun s => m s) (0) ⟨S.sub _ ⟨rfl, rfl, rfl, rfl, trivial⟩, H⟩ ?_
    clear H S aa
    rintro x13 aa ww ⟨S, HI⟩
    replace S : St 26 [(0, Value.slice s10.a s10.n s10.c), (1, Value.slice s21.a s21.n s21.c), (12, Value.int .i64 ((s10.n : Nat) : Int)), (13, Value.int .i64 x13)] h w0 aa ww := S
    have H := HB x13 HI
    clear HI
    refine W.seq ?_
    replace S := S.sub [(0, Value.slice s10.a s10.n s10.c), (1, Value.slice s21.a s21.n s21.c), (12, Value.int .i64 ((s10.n : Nat) : Int)), (13, Value.int .i64 x13)] ⟨rfl, rfl, rfl, rfl, trivial⟩
    refine W.region ?_
    refine OL.pure S (Lf.run_lss (S.ev rfl) (S.ev rfl)) rfl rfl trivial ?_
    clear S; intro aa S
    refine OL.nil ?_
    refine W.seq ?_
    refine W.cond S (b := (decide (x13 < ((s10.n : Nat) : Int)))) rfl (fun hb_1 => ?_) (fun hb_1 => ?_)
    · replace H := H.1 hb_1
      refine W.skip ?_
      refine W.seq ?_
      refine W.block ?_
      refine W.seq ?_
      replace S := S.sub [(0, Value.slice s10.a s10.n s10.c), (1, Value.slice s21.a s21.n s21.c), (12, Value.int .i64 ((s10.n : Nat) : Int)), (13, Value.int .i64 x13)] ⟨rfl, rfl, rfl, rfl, trivial⟩
      refine W.region ?_
      refine OL.pure S (Lf.run_move (S.ev rfl)) rfl rfl trivial ?_
      clear S; intro aa S
      refine OL.pure S (Lf.run_assign (S.ev rfl)) rfl rfl trivial ?_
      clear S; intro aa S
      refine OL.nil ?_
      refine W.seq ?_
      replace S := S.sub [(0, Value.slice s10.a s10.n s10.c), (1, Value.slice s21.a s21.n s21.c), (5, Value.int .i64 x13), (12, Value.int .i64 ((s10.n : Nat) : Int)), (13, Value.int .i64 x13)] ⟨rfl, rfl, rfl, rfl, rfl, trivial⟩
      refine W.regionD S (by kernel_rfl) ?_
      clear S; intro ww S
      refine AN.pure 0 S rfl (by kernel_rfl) (fun _ => Lf.run_move (S.ev rfl)) rfl rfl trivial ?_
      clear S; intro aa S
      refine AN.pure 1 S rfl (by kernel_rfl) (fun _ => Lf.run_move (S.ev rfl)) rfl rfl trivial ?_
      clear S; intro aa S
      obtain ⟨q18, e, e_1, e_2, H⟩ := H
      refine AN.pure 2 S rfl (by kernel_rfl) (fun _ => Lf.run_ixs (S.ev rfl) (S.ev rfl) Try.underlying30 ti3 e e_1 e_2) rfl rfl trivial ?_
      clear S; intro aa S
      obtain ⟨x19, c, H⟩ := H
      refine AN.load 3 S rfl (by kernel_rfl) (fun _ hx => Lf.run_ld (S.ev rfl) fl3 (hx.cell _ _ (S.cl c))) rfl rfl trivial ?_
      clear S; intro aa S
      refine AN.pure 4 S rfl (by kernel_rfl) (fun _ => Lf.run_move (S.ev rfl)) rfl rfl trivial ?_
      clear S; intro aa S
      refine AN.pure 5 S rfl (by kernel_rfl) (fun _ => Lf.run_move (S.ev rfl)) rfl rfl trivial ?_
      clear S; intro aa S
      obtain ⟨q22, e_3, e_4, e_5, H⟩ := H
      refine AN.pure 6 S rfl (by kernel_rfl) (fun _ => Lf.run_ixs (S.ev rfl) (S.ev rfl) Try.underlying30 ti3 e_3 e_4 e_5) rfl rfl trivial ?_
      clear S; intro aa S
      obtain ⟨x23, c_1, H⟩ := H
      refine AN.load 7 S rfl (by kernel_rfl) (fun _ hx => Lf.run_ld (S.ev rfl) fl3 (hx.cell _ _ (S.cl c_1))) rfl rfl trivial ?_
      clear S; intro aa S
      refine AN.pure 8 S rfl (by kernel_rfl) (fun _ => Lf.run_neq (S.ev rfl) (S.ev rfl)) rfl rfl trivial ?_
      clear S; intro aa S
      refine AN.done (by kernel_rfl) ?_
      refine W.cond S (b := (x19 != x23)) rfl (fun hb_2 => ?_) (fun hb_2 => ?_)
      · replace H := H.1 hb_2
        refine W.seq ?_
        replace S := S.sub [] trivial
        refine W.region ?_
        refine OL.pure S (Lf.run_assign (S.ev rfl)) rfl rfl trivial ?_
        clear S; intro aa S
        refine OL.nil ?_
        refine W.ret ?_
        exact Ret.one S rfl rfl H
      · replace H := H.2 hb_2
        refine W.skip ?_
        replace S := S.sub [(0, Value.slice s10.a s10.n s10.c), (1, Value.slice s21.a s21.n s21.c), (12, Value.int .i64 ((s10.n : Nat) : Int)), (13, Value.int .i64 x13)] ⟨rfl, rfl, rfl, rfl, trivial⟩
        refine W.region ?_
        refine OL.pure S (Lf.run_add (S.ev rfl) (S.ev rfl)) rfl rfl trivial ?_
        clear S; intro aa S
        refine OL.pure S (Lf.run_move (S.ev rfl)) rfl rfl trivial ?_
        clear S; intro aa S
        refine OL.nil ?_
        exact ⟨((IntKind.i64.wrap (x13 + 1))), ⟨S.sub _ ⟨rfl, rfl, rfl, rfl, trivial⟩, H.1⟩, H.2⟩
    · replace H := H.2 hb_1
      refine W.exit_ ?_
      refine xhit ?_
      refine W.seq ?_
      replace S := S.sub [] trivial
      refine W.region ?_
      refine OL.pure S (Lf.run_assign (S.ev rfl)) rfl rfl trivial ?_
      clear S; intro aa S
      refine OL.nil ?_
      refine W.ret ?_
      exact Ret.one S rfl rfl H

/-- chattel types.Same -/
def L16 (a0 : Int) (a0_1 : ByteArray) (a0_2 : Bool) (a0_3 : Int) (a0_4 : Sv) (a0_5 : Sv) (b1 : Int) (b1_1 : ByteArray) (b1_2 : Bool) (b1_3 : Int) (b1_4 : Sv) (b1_5 : Sv) (h : Heap) (R : Value → Heap → Prop) : Prop :=
  new 32 #[Value.int .i64 a0, Value.string a0_1, Value.bool a0_2, Value.int .i64 a0_3, Value.slice a0_4.a a0_4.n a0_4.c, Value.slice a0_5.a a0_5.n a0_5.c] h fun p2 h1 =>
  new 32 #[Value.int .i64 b1, Value.string b1_1, Value.bool b1_2, Value.int .i64 b1_3, Value.slice b1_4.a b1_4.n b1_4.c, Value.slice b1_5.a b1_5.n b1_5.c] h1 fun p3 h2 =>
  ldI .i64 h2 p2 fun x6 =>
  ldI .i64 h2 p3 fun x8 =>
  ∃ J : Bool → Prop, (orr (x6 != x8) (fun k =>
    ldT h2 (p2.add 1) fun x12 =>
    ldT h2 (p3.add 1) fun x14 =>
    k (x12.toList != x14.toList)) J) ∧ ∀ x16, J x16 →
  ∃ J_1 : Bool → Prop, (orr x16 (fun k_1 =>
    ldB h2 (p2.add 2) fun x19 =>
    ldB h2 (p3.add 2) fun x21 =>
    k_1 (x19 != x21)) J_1) ∧ ∀ x23, J_1 x23 →
  ifb x23 (
    R (Value.bool false) h2) (
    ldI .i64 h2 p2 fun x25 =>
    ∃ J_2 : Bool → Prop, (orr (x25 != 5) (fun k_2 =>
      ldS h2 (p2.add 4) fun x29 =>
      ldS h2 (p3.add 4) fun x32 =>
      k_2 (((x29.n : Nat) : Int) == ((x32.n : Nat) : Int))) J_2) ∧ ∀ x35, J_2 x35 →
    ∃ J_3 : Bool → Heap → Prop, (andj x35 (fun k_3 =>
      ldS h2 (p2.add 5) fun x38 =>
      ldS h2 (p3.add 5) fun x40 =>
      cal Try.prog 24 #[Value.slice x38.a x38.n x38.c, Value.slice x40.a x40.n x40.c, (Value.func (.func 16) #[] #[])] h2 fun u h4 => asB u fun x41 =>
      k_3 x41 h4) h2 J_3) ∧ ∀ x42 h3, J_3 x42 h3 →
    R (Value.bool x42) h3)

set_option maxRecDepth 100000 in

theorem F16 {a0 a0_1 a0_2 a0_3 a0_4 a0_5 b1 b1_1 b1_2 b1_3 b1_4 b1_5 h : _} {R : Value → Heap → Prop} (H : L16 a0 a0_1 a0_2 a0_3 a0_4 a0_5 b1 b1_1 b1_2 b1_3 b1_4 b1_5 h R) : CallsH Try.prog 16 #[Value.agg #[Value.int .i64 a0, Value.string a0_1, Value.bool a0_2, Value.int .i64 a0_3, Value.slice a0_4.a a0_4.n a0_4.c, Value.slice a0_5.a a0_5.n a0_5.c], Value.agg #[Value.int .i64 b1, Value.string b1_1, Value.bool b1_2, Value.int .i64 b1_3, Value.slice b1_4.a b1_4.n b1_4.c, Value.slice b1_5.a b1_5.n b1_5.c]] h R := by
  refine CallsH.enter (n := 43) Try.func16 rfl rfl rfl rfl ?_
  intro w0 aa ww S
  unfold L16 at H
  refine W.seq ?_
  replace S := S.sub [(0, Value.agg #[Value.int .i64 a0, Value.string a0_1, Value.bool a0_2, Value.int .i64 a0_3, Value.slice a0_4.a a0_4.n a0_4.c, Value.slice a0_5.a a0_5.n a0_5.c]), (1, Value.agg #[Value.int .i64 b1, Value.string b1_1, Value.bool b1_2, Value.int .i64 b1_3, Value.slice b1_4.a b1_4.n b1_4.c, Value.slice b1_5.a b1_5.n b1_5.c])] ⟨rfl, rfl, trivial⟩
  refine W.region ?_
  refine ol_box S H rfl rfl rfl trivial ?_
  clear S H aa; intro p2 aa ww h1 H S
  refine ol_box S H rfl rfl rfl trivial ?_
  clear S H aa; intro p3 aa ww h2 H S
  refine OL.pure S (Lf.run_assign (S.ev rfl)) rfl rfl trivial ?_
  clear S; intro aa S
  refine OL.nil ?_
  refine W.seq ?_
  refine W.seq ?_
  replace S := S.sub [(2, Value.pointer (some p2)), (3, Value.pointer (some p3))] ⟨rfl, rfl, trivial⟩
  refine W.region ?_
  refine OL.pure S (Lf.run_fa (S.ev rfl) fa32_0) rfl rfl trivial ?_
  clear S; intro aa S
  obtain ⟨x6, c, H⟩ := H
  refine OL.pure S (Lf.run_ld (S.ev rfl) fl3 (S.cl c)) rfl rfl trivial ?_
  clear S; intro aa S
  refine OL.pure S (Lf.run_fa (S.ev rfl) fa32_0) rfl rfl trivial ?_
  clear S; intro aa S
  obtain ⟨x8, c_1, H⟩ := H
  refine OL.pure S (Lf.run_ld (S.ev rfl) fl3 (S.cl c_1)) rfl rfl trivial ?_
  clear S; intro aa S
  refine OL.pure S (Lf.run_neq (S.ev rfl) (S.ev rfl)) rfl rfl trivial ?_
  clear S; intro aa S
  refine OL.pure S (Lf.run_move (S.ev rfl)) rfl rfl trivial ?_
  clear S; intro aa S
  obtain ⟨J, H, HK⟩ := H
  refine OL.cutN 6 (fun aa ww => ∃ x16, St 43 ((16, Value.bool x16) :: [(2, Value.pointer (some p2)), (3, Value.pointer (some p3)), (5, Value.pointer (some p2)), (6, Value.int .i64 x6), (7, Value.pointer (some p3)), (8, Value.int .i64 x8), (9, Value.bool (x6 != x8)), (10, Value.bool (x6 != x8))]) h2 w0 aa ww ∧ J x16) ?_ ?_
  · rcases Bool.eq_false_or_eq_true (x6 != x8) with hb | hb
    · replace H := H.1 hb
      refine OL.not S rfl rfl (GNo.mk rfl rfl hb) ?_
      clear S; intro aa S
      refine OL.not S rfl rfl (GNo.mk rfl rfl hb) ?_
      clear S; intro aa S
      refine OL.not S rfl rfl (GNo.mk rfl rfl hb) ?_
      clear S; intro aa S
      refine OL.not S rfl rfl (GNo.mk rfl rfl hb) ?_
      clear S; intro aa S
      refine OL.not S rfl rfl (GNo.mk rfl rfl hb) ?_
      clear S; intro aa S
      refine OL.pure S (Lf.run_pickT (S.ev rfl) hb (S.ev rfl)) rfl rfl trivial ?_
      clear S; intro aa S
      refine OL.nil ?_
      exact ⟨_, S.sub _ ⟨rfl, rfl, rfl, rfl, rfl, rfl, rfl, rfl, rfl, trivial⟩, H⟩
    · replace H := H.2 hb
      refine OL.pure S (Lf.run_fa (S.ev rfl) fa32_1) rfl rfl (GOk.mk rfl rfl hb) ?_
      clear S; intro aa S
      obtain ⟨x12, c_2, H⟩ := H
      refine OL.pure S (Lf.run_ld (S.ev rfl) fl9 (S.cl c_2)) rfl rfl (GOk.mk rfl rfl hb) ?_
      clear S; intro aa S
      refine OL.pure S (Lf.run_fa (S.ev rfl) fa32_1) rfl rfl (GOk.mk rfl rfl hb) ?_
      clear S; intro aa S
      obtain ⟨x14, c_3, H⟩ := H
      refine OL.pure S (Lf.run_ld (S.ev rfl) fl9 (S.cl c_3)) rfl rfl (GOk.mk rfl rfl hb) ?_
      clear S; intro aa S
      refine OL.pure S (Lf.run_neqt (S.ev rfl) (S.ev rfl)) rfl rfl (GOk.mk rfl rfl hb) ?_
      clear S; intro aa S
      refine OL.pure S (Lf.run_pickF (S.ev rfl) hb (S.ev rfl)) rfl rfl trivial ?_
      clear S; intro aa S
      refine OL.nil ?_
      exact ⟨_, S.sub _ ⟨rfl, rfl, rfl, rfl, rfl, rfl, rfl, rfl, rfl, trivial⟩, H⟩
  · clear S aa
    rintro aa ww ⟨x16, S, HJ⟩
    replace H := HK _ HJ
    clear HK HJ
    refine OL.pure S (Lf.run_move (S.ev rfl)) rfl rfl trivial ?_
    clear S; intro aa S
    obtain ⟨J_1, H, HK_1⟩ := H
    refine OL.cutN 6 (fun aa ww => ∃ x23, St 43 ((23, Value.bool x23) :: [(2, Value.pointer (some p2)), (3, Value.pointer (some p3)), (5, Value.pointer (some p2)), (6, Value.int .i64 x6), (7, Value.pointer (some p3)), (8, Value.int .i64 x8), (9, Value.bool (x6 != x8)), (10, Value.bool (x6 != x8)), (16, Value.bool x16), (17, Value.bool x16)]) h2 w0 aa ww ∧ J_1 x23) ?_ ?_
    · rcases Bool.eq_false_or_eq_true x16 with hb_1 | hb_1
      · replace H := H.1 hb_1
        refine OL.not S rfl rfl (GNo.mk rfl rfl hb_1) ?_
        clear S; intro aa S
        refine OL.not S rfl rfl (GNo.mk rfl rfl hb_1) ?_
        clear S; intro aa S
        refine OL.not S rfl rfl (GNo.mk rfl rfl hb_1) ?_
        clear S; intro aa S
        refine OL.not S rfl rfl (GNo.mk rfl rfl hb_1) ?_
        clear S; intro aa S
        refine OL.not S rfl rfl (GNo.mk rfl rfl hb_1) ?_
        clear S; intro aa S
        refine OL.pure S (Lf.run_pickT (S.ev rfl) hb_1 (S.ev rfl)) rfl rfl trivial ?_
        clear S; intro aa S
        refine OL.nil ?_
        exact ⟨_, S.sub _ ⟨rfl, rfl, rfl, rfl, rfl, rfl, rfl, rfl, rfl, rfl, rfl, trivial⟩, H⟩
      · replace H := H.2 hb_1
        refine OL.pure S (Lf.run_fa (S.ev rfl) fa32_2) rfl rfl (GOk.mk rfl rfl hb_1) ?_
        clear S; intro aa S
        obtain ⟨x19, c_4, H⟩ := H
        refine OL.pure S (Lf.run_ld (S.ev rfl) fl4 (S.cl c_4)) rfl rfl (GOk.mk rfl rfl hb_1) ?_
        clear S; intro aa S
        refine OL.pure S (Lf.run_fa (S.ev rfl) fa32_2) rfl rfl (GOk.mk rfl rfl hb_1) ?_
        clear S; intro aa S
        obtain ⟨x21, c_5, H⟩ := H
        refine OL.pure S (Lf.run_ld (S.ev rfl) fl4 (S.cl c_5)) rfl rfl (GOk.mk rfl rfl hb_1) ?_
        clear S; intro aa S
        refine OL.pure S (Lf.run_neqb Try.underlying4 (S.ev rfl) (S.ev rfl)) rfl rfl (GOk.mk rfl rfl hb_1) ?_
        clear S; intro aa S
        refine OL.pure S (Lf.run_pickF (S.ev rfl) hb_1 (S.ev rfl)) rfl rfl trivial ?_
        clear S; intro aa S
        refine OL.nil ?_
        exact ⟨_, S.sub _ ⟨rfl, rfl, rfl, rfl, rfl, rfl, rfl, rfl, rfl, rfl, rfl, trivial⟩, H⟩
    · clear S aa
      rintro aa ww ⟨x23, S, HJ⟩
      replace H := HK_1 _ HJ
      clear HK_1 HJ
      refine OL.nil ?_
      refine W.cond S (b := x23) rfl (fun hb_2 => ?_) (fun hb_2 => ?_)
      · replace H := H.1 hb_2
        refine W.seq ?_
        replace S := S.sub [] trivial
        refine W.region ?_
        refine OL.pure S (Lf.run_assign (S.ev rfl)) rfl rfl trivial ?_
        clear S; intro aa S
        refine OL.nil ?_
        refine W.ret ?_
        exact Ret.one S rfl rfl H
      · replace H := H.2 hb_2
        refine W.skip ?_
        refine W.seq ?_
        replace S := S.sub [(2, Value.pointer (some p2)), (3, Value.pointer (some p3))] ⟨rfl, rfl, trivial⟩
        refine W.region ?_
        refine OL.pure S (Lf.run_fa (S.ev rfl) fa32_0) rfl rfl trivial ?_
        clear S; intro aa S
        obtain ⟨x25, c_6, H⟩ := H
        refine OL.pure S (Lf.run_ld (S.ev rfl) fl3 (S.cl c_6)) rfl rfl trivial ?_
        clear S; intro aa S
        refine OL.pure S (Lf.run_neq (S.ev rfl) (S.ev rfl)) rfl rfl trivial ?_
        clear S; intro aa S
        refine OL.pure S (Lf.run_move (S.ev rfl)) rfl rfl trivial ?_
        clear S; intro aa S
        obtain ⟨J_2, H, HK_2⟩ := H
        refine OL.cutN 8 (fun aa ww => ∃ x35, St 43 ((35, Value.bool x35) :: [(2, Value.pointer (some p2)), (3, Value.pointer (some p3)), (24, Value.pointer (some p2)), (25, Value.int .i64 x25), (26, Value.bool (x25 != 5)), (27, Value.bool (x25 != 5))]) h2 w0 aa ww ∧ J_2 x35) ?_ ?_
        · rcases Bool.eq_false_or_eq_true (x25 != 5) with hb_3 | hb_3
          · replace H := H.1 hb_3
            refine OL.not S rfl rfl (GNo.mk rfl rfl hb_3) ?_
            clear S; intro aa S
            refine OL.not S rfl rfl (GNo.mk rfl rfl hb_3) ?_
            clear S; intro aa S
            refine OL.not S rfl rfl (GNo.mk rfl rfl hb_3) ?_
            clear S; intro aa S
            refine OL.not S rfl rfl (GNo.mk rfl rfl hb_3) ?_
            clear S; intro aa S
            refine OL.not S rfl rfl (GNo.mk rfl rfl hb_3) ?_
            clear S; intro aa S
            refine OL.not S rfl rfl (GNo.mk rfl rfl hb_3) ?_
            clear S; intro aa S
            refine OL.not S rfl rfl (GNo.mk rfl rfl hb_3) ?_
            clear S; intro aa S
            refine OL.pure S (Lf.run_pickT (S.ev rfl) hb_3 (S.ev rfl)) rfl rfl trivial ?_
            clear S; intro aa S
            refine OL.nil ?_
            exact ⟨_, S.sub _ ⟨rfl, rfl, rfl, rfl, rfl, rfl, rfl, trivial⟩, H⟩
          · replace H := H.2 hb_3
            refine OL.pure S (Lf.run_fa (S.ev rfl) fa32_4) rfl rfl (GOk.mk rfl rfl hb_3) ?_
            clear S; intro aa S
            obtain ⟨x29, c_7, H⟩ := H
            refine OL.pure S (Lf.run_ld (S.ev rfl) fl30 (S.cl c_7)) rfl rfl (GOk.mk rfl rfl hb_3) ?_
            clear S; intro aa S
            refine OL.pure S (Lf.run_lens (S.ev rfl) rfl Try.underlying30) rfl rfl (GOk.mk rfl rfl hb_3) ?_
            clear S; intro aa S
            refine OL.pure S (Lf.run_fa (S.ev rfl) fa32_4) rfl rfl (GOk.mk rfl rfl hb_3) ?_
            clear S; intro aa S
            obtain ⟨x32, c_8, H⟩ := H
            refine OL.pure S (Lf.run_ld (S.ev rfl) fl30 (S.cl c_8)) rfl rfl (GOk.mk rfl rfl hb_3) ?_
            clear S; intro aa S
            refine OL.pure S (Lf.run_lens (S.ev rfl) rfl Try.underlying30) rfl rfl (GOk.mk rfl rfl hb_3) ?_
            clear S; intro aa S
            refine OL.pure S (Lf.run_eql (S.ev rfl) (S.ev rfl)) rfl rfl (GOk.mk rfl rfl hb_3) ?_
            clear S; intro aa S
            refine OL.pure S (Lf.run_pickF (S.ev rfl) hb_3 (S.ev rfl)) rfl rfl trivial ?_
            clear S; intro aa S
            refine OL.nil ?_
            exact ⟨_, S.sub _ ⟨rfl, rfl, rfl, rfl, rfl, rfl, rfl, trivial⟩, H⟩
        · clear S aa
          rintro aa ww ⟨x35, S, HJ⟩
          replace H := HK_2 _ HJ
          clear HK_2 HJ
          refine OL.pure S (Lf.run_move (S.ev rfl)) rfl rfl trivial ?_
          clear S; intro aa S
          obtain ⟨J_3, H, HK_3⟩ := H
          refine OL.cutN 6 (fun aa ww => ∃ x42 h3, St 43 ((42, Value.bool x42) :: [(2, Value.pointer (some p2)), (3, Value.pointer (some p3)), (24, Value.pointer (some p2)), (25, Value.int .i64 x25), (26, Value.bool (x25 != 5)), (27, Value.bool (x25 != 5)), (35, Value.bool x35), (36, Value.bool x35)]) h3 w0 aa ww ∧ J_3 x42 h3) ?_ ?_
          · rcases Bool.eq_false_or_eq_true x35 with hb_4 | hb_4
            · replace H := H.1 hb_4
              refine OL.pure S (Lf.run_fa (S.ev rfl) fa32_5) rfl rfl (GOk.mk rfl rfl hb_4) ?_
              clear S; intro aa S
              obtain ⟨x38, c_9, H⟩ := H
              refine OL.pure S (Lf.run_ld (S.ev rfl) fl22 (S.cl c_9)) rfl rfl (GOk.mk rfl rfl hb_4) ?_
              clear S; intro aa S
              refine OL.pure S (Lf.run_fa (S.ev rfl) fa32_5) rfl rfl (GOk.mk rfl rfl hb_4) ?_
              clear S; intro aa S
              obtain ⟨x40, c_10, H⟩ := H
              refine OL.pure S (Lf.run_ld (S.ev rfl) fl22 (S.cl c_10)) rfl rfl (GOk.mk rfl rfl hb_4) ?_
              clear S; intro aa S
              refine ol_cal S H isfn24 rfl rfl (GOk.mk rfl rfl hb_4) ?_
              clear S H aa; intro u aa ww h4 H S
              obtain ⟨x41, rfl, H⟩ := H
              refine OL.pure S (Lf.run_pickT (S.ev rfl) hb_4 (S.ev rfl)) rfl rfl trivial ?_
              clear S; intro aa S
              refine OL.nil ?_
              exact ⟨_, _, S.sub _ ⟨rfl, rfl, rfl, rfl, rfl, rfl, rfl, rfl, rfl, trivial⟩, H⟩
            · replace H := H.2 hb_4
              refine OL.not S rfl rfl (GNo.mk rfl rfl hb_4) ?_
              clear S; intro aa S
              refine OL.not S rfl rfl (GNo.mk rfl rfl hb_4) ?_
              clear S; intro aa S
              refine OL.not S rfl rfl (GNo.mk rfl rfl hb_4) ?_
              clear S; intro aa S
              refine OL.not S rfl rfl (GNo.mk rfl rfl hb_4) ?_
              clear S; intro aa S
              refine OL.not S rfl rfl (GNo.mk rfl rfl hb_4) ?_
              clear S; intro aa S
              refine OL.pure S (Lf.run_pickF (S.ev rfl) hb_4 (S.ev rfl)) rfl rfl trivial ?_
              clear S; intro aa S
              refine OL.nil ?_
              exact ⟨_, _, S.sub _ ⟨rfl, rfl, rfl, rfl, rfl, rfl, rfl, rfl, rfl, trivial⟩, H⟩
          · clear S aa
            rintro aa ww ⟨x42, h3, S, HJ⟩
            replace H := HK_3 _ _ HJ
            clear HK_3 HJ
            refine OL.pure S (Lf.run_assign (S.ev rfl)) rfl rfl trivial ?_
            clear S; intro aa S
            refine OL.nil ?_
            refine W.ret ?_
            exact Ret.one S rfl rfl H

/-- (*chattel sub.pairer).see -/
def L17 (p0 : Option Addr) (a1 : Int) (a1_1 : ByteArray) (a1_2 : Bool) (a1_3 : Int) (a1_4 : Sv) (a1_5 : Sv) (b2 : Int) (b2_1 : ByteArray) (b2_2 : Bool) (b2_3 : Int) (b2_4 : Sv) (b2_5 : Sv) (way3 : Int) (h : Heap) (R : Value → Heap → Prop) : Prop :=
  new 32 #[Value.int .i64 a1, Value.string a1_1, Value.bool a1_2, Value.int .i64 a1_3, Value.slice a1_4.a a1_4.n a1_4.c, Value.slice a1_5.a a1_5.n a1_5.c] h fun p5 h1 =>
  new 32 #[Value.int .i64 b2, Value.string b2_1, Value.bool b2_2, Value.int .i64 b2_3, Value.slice b2_4.a b2_4.n b2_4.c, Value.slice b2_5.a b2_5.n b2_5.c] h1 fun p6 h2 =>
  ∃ J : Int → Heap → Prop, (
    ldI .i64 h2 p5 fun x15 =>
    ifb (x15 == 7) (
      ldI .i64 h2 (p5.add 3) fun x20 =>
      ldI .i64 h2 (p6.add 3) fun x22 =>
      cal Try.prog 25 #[Value.pointer p0, Value.int .i64 x20, Value.int .i64 x22, Value.int .i64 way3] h2 fun u h3 =>
      ldB h3 (p5.add 2) fun x26 =>
      ifb x26 (
        cal Try.prog 26 #[Value.int .i64 way3, Value.int .i64 3] h3 fun u_1 h4 => asI .i64 u_1 fun x28 =>
        J x28 h4) (
        J way3 h3)) (
      ifb (x15 == 8) (
        ldI .i64 h2 (p5.add 3) fun x33 =>
        ldI .i64 h2 (p6.add 3) fun x35 =>
        cal Try.prog 25 #[Value.pointer p0, Value.int .i64 x33, Value.int .i64 x35, Value.int .i64 way3] h2 fun u_2 h5 =>
        J way3 h5) (
        ifb (x15 == 5) (
          ldS h2 (p5.add 4) fun x41 =>
          ldS h2 (p5.add 4) fun x44 =>
          ∃ (I : Int → Heap → Prop) (m : Int → Heap → Nat), I 0 h2 ∧ ∀ x46 h6, I x46 h6 →
          ifb (decide (x46 < ((x44.n : Nat) : Int))) (
            ∃ Sq : Heap → Prop, Sq h6 ∧ (
              nn p0 fun p62 =>
              ldM h6 p62 fun x64 =>
              ldT h6 (p5.add 1) fun x66 =>
              hlS Sq (p5.add 4) fun x51 =>
              ixS x51 x46 fun q53 =>
              hlI .i64 Sq (q53.add ((x46 : Int).toNat * 1)) fun x54 =>
              hlS Sq (p6.add 4) fun x56 =>
              ixS x56 x46 fun q58 =>
              hlI .i64 Sq (q58.add ((x46 : Int).toNat * 1)) fun x59 =>
              cal Try.prog 27 #[Value.map x64, Value.string x66, Value.int .i64 x46] h6 fun u_3 h7 => asI .i64 u_3 fun x68 =>
              Sq h7 ∧
              cal Try.prog 26 #[Value.int .i64 way3, Value.int .i64 x68] h7 fun u_4 h8 => asI .i64 u_4 fun x69 =>
              Sq h8 ∧
              cal Try.prog 25 #[Value.pointer p0, Value.int .i64 x54, Value.int .i64 x59, Value.int .i64 x69] h8 fun u_5 h9 =>
              I (IntKind.i64.wrap (x46 + 1)) h9 ∧ m (IntKind.i64.wrap (x46 + 1)) h9 < m x46 h6)) (
            ldS h6 (p5.add 5) fun x73 =>
            ∃ (I_1 : Int → Heap → Prop) (m_1 : Int → Heap → Nat), I_1 0 h6 ∧ ∀ x75 h10, I_1 x75 h10 →
            ifb (decide (x75 < ((x73.n : Nat) : Int))) (
              ∃ Sq_1 : Heap → Prop, Sq_1 h10 ∧ (
                nn p0 fun p91 =>
                ldM h10 p91 fun x93 =>
                ldT h10 (p5.add 1) fun x95 =>
                hlS Sq_1 (p5.add 5) fun x80 =>
                ixS x80 x75 fun q82 =>
                ∃ (y83 : Int) (y83_1 : ByteArray) (y83_2 : Bool) (y83_3 : Int) (y83_4 : Sv) (y83_5 : Sv), hld Sq_1 (q82.add ((x75 : Int).toNat * 6)) (Value.int .i64 y83) ∧ hld Sq_1 ((q82.add ((x75 : Int).toNat * 6)).add 1) (Value.string y83_1) ∧ hld Sq_1 ((q82.add ((x75 : Int).toNat * 6)).add 2) (Value.bool y83_2) ∧ hld Sq_1 ((q82.add ((x75 : Int).toNat * 6)).add 3) (Value.int .i64 y83_3) ∧ hld Sq_1 ((q82.add ((x75 : Int).toNat * 6)).add 4) (Value.slice y83_4.a y83_4.n y83_4.c) ∧ hld Sq_1 ((q82.add ((x75 : Int).toNat * 6)).add 5) (Value.slice y83_5.a y83_5.n y83_5.c) ∧
                hlS Sq_1 (p6.add 5) fun x85 =>
                ixS x85 x75 fun q87 =>
                ∃ (y88 : Int) (y88_1 : ByteArray) (y88_2 : Bool) (y88_3 : Int) (y88_4 : Sv) (y88_5 : Sv), hld Sq_1 (q87.add ((x75 : Int).toNat * 6)) (Value.int .i64 y88) ∧ hld Sq_1 ((q87.add ((x75 : Int).toNat * 6)).add 1) (Value.string y88_1) ∧ hld Sq_1 ((q87.add ((x75 : Int).toNat * 6)).add 2) (Value.bool y88_2) ∧ hld Sq_1 ((q87.add ((x75 : Int).toNat * 6)).add 3) (Value.int .i64 y88_3) ∧ hld Sq_1 ((q87.add ((x75 : Int).toNat * 6)).add 4) (Value.slice y88_4.a y88_4.n y88_4.c) ∧ hld Sq_1 ((q87.add ((x75 : Int).toNat * 6)).add 5) (Value.slice y88_5.a y88_5.n y88_5.c) ∧
                cal Try.prog 27 #[Value.map x93, Value.string x95, Value.int .i64 (IntKind.i64.wrap (((x41.n : Nat) : Int) + x75))] h10 fun u_6 h11 => asI .i64 u_6 fun x99 =>
                Sq_1 h11 ∧
                cal Try.prog 26 #[Value.int .i64 way3, Value.int .i64 x99] h11 fun u_7 h12 => asI .i64 u_7 fun x100 =>
                Sq_1 h12 ∧
                cal Try.prog 17 #[Value.pointer p0, Value.agg #[Value.int .i64 y83, Value.string y83_1, Value.bool y83_2, Value.int .i64 y83_3, Value.slice y83_4.a y83_4.n y83_4.c, Value.slice y83_5.a y83_5.n y83_5.c], Value.agg #[Value.int .i64 y88, Value.string y88_1, Value.bool y88_2, Value.int .i64 y88_3, Value.slice y88_4.a y88_4.n y88_4.c, Value.slice y88_5.a y88_5.n y88_5.c], Value.int .i64 x100] h12 fun u_8 h13 =>
                I_1 (IntKind.i64.wrap (x75 + 1)) h13 ∧ m_1 (IntKind.i64.wrap (x75 + 1)) h13 < m_1 x75 h10)) (
              R (.tuple #[]) h10))) (
          J way3 h2)))) ∧ (∀ inner8 h14, J inner8 h14 →
  ldS h14 (p5.add 5) fun x104 =>
  ∃ (I_2 : Int → Heap → Prop) (m_2 : Int → Heap → Nat), I_2 0 h14 ∧ ∀ x106 h15, I_2 x106 h15 →
  ifb (decide (x106 < ((x104.n : Nat) : Int))) (
    ldS h15 (p5.add 5) fun x111 =>
    ixS x111 x106 fun q113 =>
    ∃ (y114 : Int) (y114_1 : ByteArray) (y114_2 : Bool) (y114_3 : Int) (y114_4 : Sv) (y114_5 : Sv), cl h15 (q113.add ((x106 : Int).toNat * 6)) = some (Value.int .i64 y114) ∧ cl h15 ((q113.add ((x106 : Int).toNat * 6)).add 1) = some (Value.string y114_1) ∧ cl h15 ((q113.add ((x106 : Int).toNat * 6)).add 2) = some (Value.bool y114_2) ∧ cl h15 ((q113.add ((x106 : Int).toNat * 6)).add 3) = some (Value.int .i64 y114_3) ∧ cl h15 ((q113.add ((x106 : Int).toNat * 6)).add 4) = some (Value.slice y114_4.a y114_4.n y114_4.c) ∧ cl h15 ((q113.add ((x106 : Int).toNat * 6)).add 5) = some (Value.slice y114_5.a y114_5.n y114_5.c) ∧
    ldS h15 (p6.add 5) fun x116 =>
    ixS x116 x106 fun q118 =>
    ∃ (y119 : Int) (y119_1 : ByteArray) (y119_2 : Bool) (y119_3 : Int) (y119_4 : Sv) (y119_5 : Sv), cl h15 (q118.add ((x106 : Int).toNat * 6)) = some (Value.int .i64 y119) ∧ cl h15 ((q118.add ((x106 : Int).toNat * 6)).add 1) = some (Value.string y119_1) ∧ cl h15 ((q118.add ((x106 : Int).toNat * 6)).add 2) = some (Value.bool y119_2) ∧ cl h15 ((q118.add ((x106 : Int).toNat * 6)).add 3) = some (Value.int .i64 y119_3) ∧ cl h15 ((q118.add ((x106 : Int).toNat * 6)).add 4) = some (Value.slice y119_4.a y119_4.n y119_4.c) ∧ cl h15 ((q118.add ((x106 : Int).toNat * 6)).add 5) = some (Value.slice y119_5.a y119_5.n y119_5.c) ∧
    cal Try.prog 17 #[Value.pointer p0, Value.agg #[Value.int .i64 y114, Value.string y114_1, Value.bool y114_2, Value.int .i64 y114_3, Value.slice y114_4.a y114_4.n y114_4.c, Value.slice y114_5.a y114_5.n y114_5.c], Value.agg #[Value.int .i64 y119, Value.string y119_1, Value.bool y119_2, Value.int .i64 y119_3, Value.slice y119_4.a y119_4.n y119_4.c, Value.slice y119_5.a y119_5.n y119_5.c], Value.int .i64 inner8] h15 fun u_9 h16 =>
    I_2 (IntKind.i64.wrap (x106 + 1)) h16 ∧ m_2 (IntKind.i64.wrap (x106 + 1)) h16 < m_2 x106 h15) (
    R (.tuple #[]) h15))

set_option maxRecDepth 100000 in

theorem F17 {p0 a1 a1_1 a1_2 a1_3 a1_4 a1_5 b2 b2_1 b2_2 b2_3 b2_4 b2_5 way3 h : _} {R : Value → Heap → Prop} (H : L17 p0 a1 a1_1 a1_2 a1_3 a1_4 a1_5 b2 b2_1 b2_2 b2_3 b2_4 b2_5 way3 h R) : CallsH Try.prog 17 #[Value.pointer p0, Value.agg #[Value.int .i64 a1, Value.string a1_1, Value.bool a1_2, Value.int .i64 a1_3, Value.slice a1_4.a a1_4.n a1_4.c, Value.slice a1_5.a a1_5.n a1_5.c], Value.agg #[Value.int .i64 b2, Value.string b2_1, Value.bool b2_2, Value.int .i64 b2_3, Value.slice b2_4.a b2_4.n b2_4.c, Value.slice b2_5.a b2_5.n b2_5.c], Value.int .i64 way3] h R := by
  refine CallsH.enter (n := 123) Try.func17 rfl rfl rfl rfl ?_
  intro w0 aa ww S
  unfold L17 at H
  refine W.seq ?_
  replace S := S.sub [(0, Value.pointer p0), (1, Value.agg #[Value.int .i64 a1, Value.string a1_1, Value.bool a1_2, Value.int .i64 a1_3, Value.slice a1_4.a a1_4.n a1_4.c, Value.slice a1_5.a a1_5.n a1_5.c]), (2, Value.agg #[Value.int .i64 b2, Value.string b2_1, Value.bool b2_2, Value.int .i64 b2_3, Value.slice b2_4.a b2_4.n b2_4.c, Value.slice b2_5.a b2_5.n b2_5.c]), (3, Value.int .i64 way3)] ⟨rfl, rfl, rfl, rfl, trivial⟩
  refine W.region ?_
  refine ol_box S H rfl rfl rfl trivial ?_
  clear S H aa; intro p5 aa ww h1 H S
  refine ol_box S H rfl rfl rfl trivial ?_
  clear S H aa; intro p6 aa ww h2 H S
  refine OL.nil ?_
  refine W.seq ?_
  replace S := S.sub [(0, Value.pointer p0), (3, Value.int .i64 way3), (5, Value.pointer (some p5)), (6, Value.pointer (some p6))] ⟨rfl, rfl, rfl, rfl, trivial⟩
  refine W.region ?_
  refine OL.pure S (Lf.run_move (S.ev rfl)) rfl rfl trivial ?_
  clear S; intro aa S
  refine OL.pure S (Lf.run_assign (S.ev rfl)) rfl rfl trivial ?_
  clear S; intro aa S
  refine OL.nil ?_
  obtain ⟨J, H, HK⟩ := H
  refine W.seqJ (fun aa ww => ∃ inner8 h14, St 123 [(0, Value.pointer p0), (5, Value.pointer (some p5)), (6, Value.pointer (some p6)), (8, Value.int .i64 inner8)] h14 w0 aa ww ∧ J inner8 h14) ?_ ?_
  · clear HK
    refine W.seq ?_
    replace S := S.sub [(0, Value.pointer p0), (3, Value.int .i64 way3), (5, Value.pointer (some p5)), (6, Value.pointer (some p6)), (8, Value.int .i64 way3)] ⟨rfl, rfl, rfl, rfl, rfl, trivial⟩
    refine W.region ?_
    refine OL.pure S (Lf.run_fa (S.ev rfl) fa32_0) rfl rfl trivial ?_
    clear S; intro aa S
    obtain ⟨x15, c, H⟩ := H
    refine OL.pure S (Lf.run_ld (S.ev rfl) fl3 (S.cl c)) rfl rfl trivial ?_
    clear S; intro aa S
    refine OL.nil ?_
    refine W.block ?_
    refine W.seq ?_
    replace S := S.sub [(0, Value.pointer p0), (3, Value.int .i64 way3), (5, Value.pointer (some p5)), (6, Value.pointer (some p6)), (8, Value.int .i64 way3), (15, Value.int .i64 x15)] ⟨rfl, rfl, rfl, rfl, rfl, rfl, trivial⟩
    refine W.region ?_
    refine OL.pure S (Lf.run_eql (S.ev rfl) (S.ev rfl)) rfl rfl trivial ?_
    clear S; intro aa S
    refine OL.pure S (Lf.run_assign (S.ev rfl)) rfl rfl trivial ?_
    clear S; intro aa S
    refine OL.nil ?_
    refine W.cond S (b := (x15 == 7)) rfl (fun hb => ?_) (fun hb => ?_)
    · replace H := H.1 hb
      refine W.seq ?_
      replace S := S.sub [(0, Value.pointer p0), (3, Value.int .i64 way3), (5, Value.pointer (some p5)), (6, Value.pointer (some p6)), (8, Value.int .i64 way3)] ⟨rfl, rfl, rfl, rfl, rfl, trivial⟩
      refine W.region ?_
      refine OL.pure S (Lf.run_move (S.ev rfl)) rfl rfl trivial ?_
      clear S; intro aa S
      refine OL.pure S (Lf.run_fa (S.ev rfl) fa32_3) rfl rfl trivial ?_
      clear S; intro aa S
      obtain ⟨x20, c_1, H⟩ := H
      refine OL.pure S (Lf.run_ld (S.ev rfl) fl3 (S.cl c_1)) rfl rfl trivial ?_
      clear S; intro aa S
      refine OL.pure S (Lf.run_fa (S.ev rfl) fa32_3) rfl rfl trivial ?_
      clear S; intro aa S
      obtain ⟨x22, c_2, H⟩ := H
      refine OL.pure S (Lf.run_ld (S.ev rfl) fl3 (S.cl c_2)) rfl rfl trivial ?_
      clear S; intro aa S
      refine OL.pure S (Lf.run_move (S.ev rfl)) rfl rfl trivial ?_
      clear S; intro aa S
      refine ol_cal S H isfn25 rfl rfl trivial ?_
      clear S H aa; intro u aa ww h3 H S
      refine OL.nil ?_
      refine W.seq ?_
      replace S := S.sub [(0, Value.pointer p0), (3, Value.int .i64 way3), (5, Value.pointer (some p5)), (6, Value.pointer (some p6)), (8, Value.int .i64 way3)] ⟨rfl, rfl, rfl, rfl, rfl, trivial⟩
      refine W.region ?_
      refine OL.pure S (Lf.run_fa (S.ev rfl) fa32_2) rfl rfl trivial ?_
      clear S; intro aa S
      obtain ⟨x26, c_3, H⟩ := H
      refine OL.pure S (Lf.run_ld (S.ev rfl) fl4 (S.cl c_3)) rfl rfl trivial ?_
      clear S; intro aa S
      refine OL.nil ?_
      refine W.cond S (b := x26) rfl (fun hb_1 => ?_) (fun hb_1 => ?_)
      · replace H := H.1 hb_1
        replace S := S.sub [(0, Value.pointer p0), (3, Value.int .i64 way3), (5, Value.pointer (some p5)), (6, Value.pointer (some p6))] ⟨rfl, rfl, rfl, rfl, trivial⟩
        refine W.region ?_
        refine OL.pure S (Lf.run_move (S.ev rfl)) rfl rfl trivial ?_
        clear S; intro aa S
        refine ol_cal S H isfn26 rfl rfl trivial ?_
        clear S H aa; intro u_1 aa ww h4 H S
        obtain ⟨x28, rfl, H⟩ := H
        refine OL.pure S (Lf.run_assign (S.ev rfl)) rfl rfl trivial ?_
        clear S; intro aa S
        refine OL.nil ?_
        exact ⟨x28, h4, S.sub _ ⟨rfl, rfl, rfl, rfl, trivial⟩, H⟩
      · replace H := H.2 hb_1
        refine W.skip ?_
        exact ⟨way3, h3, S.sub _ ⟨rfl, rfl, rfl, rfl, trivial⟩, H⟩
    · replace H := H.2 hb
      refine W.seq ?_
      replace S := S.sub [(0, Value.pointer p0), (3, Value.int .i64 way3), (5, Value.pointer (some p5)), (6, Value.pointer (some p6)), (8, Value.int .i64 way3), (15, Value.int .i64 x15)] ⟨rfl, rfl, rfl, rfl, rfl, rfl, trivial⟩
      refine W.region ?_
      refine OL.pure S (Lf.run_eql (S.ev rfl) (S.ev rfl)) rfl rfl trivial ?_
      clear S; intro aa S
      refine OL.pure S (Lf.run_assign (S.ev rfl)) rfl rfl trivial ?_
      clear S; intro aa S
      refine OL.nil ?_
      refine W.cond S (b := (x15 == 8)) rfl (fun hb_2 => ?_) (fun hb_2 => ?_)
      · replace H := H.1 hb_2
        replace S := S.sub [(0, Value.pointer p0), (3, Value.int .i64 way3), (5, Value.pointer (some p5)), (6, Value.pointer (some p6)), (8, Value.int .i64 way3)] ⟨rfl, rfl, rfl, rfl, rfl, trivial⟩
        refine W.region ?_
        refine OL.pure S (Lf.run_move (S.ev rfl)) rfl rfl trivial ?_
        clear S; intro aa S
        refine OL.pure S (Lf.run_fa (S.ev rfl) fa32_3) rfl rfl trivial ?_
        clear S; intro aa S
        obtain ⟨x33, c_4, H⟩ := H
        refine OL.pure S (Lf.run_ld (S.ev rfl) fl3 (S.cl c_4)) rfl rfl trivial ?_
        clear S; intro aa S
        refine OL.pure S (Lf.run_fa (S.ev rfl) fa32_3) rfl rfl trivial ?_
        clear S; intro aa S
        obtain ⟨x35, c_5, H⟩ := H
        refine OL.pure S (Lf.run_ld (S.ev rfl) fl3 (S.cl c_5)) rfl rfl trivial ?_
        clear S; intro aa S
        refine OL.pure S (Lf.run_move (S.ev rfl)) rfl rfl trivial ?_
        clear S; intro aa S
        refine ol_cal S H isfn25 rfl rfl trivial ?_
        clear S H aa; intro u_2 aa ww h5 H S
        refine OL.nil ?_
        exact ⟨way3, h5, S.sub _ ⟨rfl, rfl, rfl, rfl, trivial⟩, H⟩
      · replace H := H.2 hb_2
        refine W.seq ?_
        replace S := S.sub [(0, Value.pointer p0), (3, Value.int .i64 way3), (5, Value.pointer (some p5)), (6, Value.pointer (some p6)), (8, Value.int .i64 way3), (15, Value.int .i64 x15)] ⟨rfl, rfl, rfl, rfl, rfl, rfl, trivial⟩
        refine W.region ?_
        refine OL.pure S (Lf.run_eql (S.ev rfl) (S.ev rfl)) rfl rfl trivial ?_
        clear S; intro aa S
        refine OL.pure S (Lf.run_assign (S.ev rfl)) rfl rfl trivial ?_
        clear S; intro aa S
        refine OL.nil ?_
        refine W.cond S (b := (x15 == 5)) rfl (fun hb_3 => ?_) (fun hb_3 => ?_)
        · replace H := H.1 hb_3
          refine W.seq ?_
          replace S := S.sub [(0, Value.pointer p0), (3, Value.int .i64 way3), (5, Value.pointer (some p5)), (6, Value.pointer (some p6))] ⟨rfl, rfl, rfl, rfl, trivial⟩
          refine W.region ?_
          refine OL.pure S (Lf.run_fa (S.ev rfl) fa32_4) rfl rfl trivial ?_
          clear S; intro aa S
          obtain ⟨x41, c_6, H⟩ := H
          refine OL.pure S (Lf.run_ld (S.ev rfl) fl30 (S.cl c_6)) rfl rfl trivial ?_
          clear S; intro aa S
          refine OL.pure S (Lf.run_lens (S.ev rfl) rfl Try.underlying30) rfl rfl trivial ?_
          clear S; intro aa S
          refine OL.pure S (Lf.run_assign (S.ev rfl)) rfl rfl trivial ?_
          clear S; intro aa S
          refine OL.nil ?_
          refine W.seq ?_
          refine W.seq ?_
          replace S := S.sub [(0, Value.pointer p0), (3, Value.int .i64 way3), (5, Value.pointer (some p5)), (6, Value.pointer (some p6)), (9, Value.int .i64 ((x41.n : Nat) : Int))] ⟨rfl, rfl, rfl, rfl, rfl, trivial⟩
          refine W.region ?_
          refine OL.pure S (Lf.run_fa (S.ev rfl) fa32_4) rfl rfl trivial ?_
          clear S; intro aa S
          obtain ⟨x44, c_7, H⟩ := H
          refine OL.pure S (Lf.run_ld (S.ev rfl) fl30 (S.cl c_7)) rfl rfl trivial ?_
          clear S; intro aa S
          refine OL.pure S (Lf.run_lens (S.ev rfl) rfl Try.underlying30) rfl rfl trivial ?_
          clear S; intro aa S
          refine OL.pure S (Lf.run_move (S.ev rfl)) rfl rfl trivial ?_
          clear S; intro aa S
          refine OL.nil ?_
          refine W.block ?_
          obtain ⟨I, m, H, HB_1⟩ := H
          refine W.loopS (σ := Int × Heap) (fun s aa ww => St 123 [(0, Value.pointer p0), (3, Value.int .i64 way3), (5, Value.pointer (some p5)), (6, Value.pointer (some p6)), (9, Value.int .i64 ((x41.n : Nat) : Int)), (45, Value.int .i64 ((x44.n : Nat) : Int)), (46, Value.int .i64 s.1)] s.2 w0 aa ww ∧ I s.1 s.2) (fun s => m s.1 s.2) (0, h2) ⟨S.sub _ ⟨rfl, rfl, rfl, rfl, rfl, rfl, rfl, trivial⟩, H⟩ ?_
          clear H S aa
          rintro ⟨x46, h6⟩ aa ww ⟨S, HI⟩
          replace S : St 123 [(0, Value.pointer p0), (3, Value.int .i64 way3), (5, Value.pointer (some p5)), (6, Value.pointer (some p6)), (9, Value.int .i64 ((x41.n : Nat) : Int)), (45, Value.int .i64 ((x44.n : Nat) : Int)), (46, Value.int .i64 x46)] h6 w0 aa ww := S
          have H := HB_1 x46 h6 HI
          clear HI
          refine W.seq ?_
          replace S := S.sub [(0, Value.pointer p0), (3, Value.int .i64 way3), (5, Value.pointer (some p5)), (6, Value.pointer (some p6)), (9, Value.int .i64 ((x41.n : Nat) : Int)), (45, Value.int .i64 ((x44.n : Nat) : Int)), (46, Value.int .i64 x46)] ⟨rfl, rfl, rfl, rfl, rfl, rfl, rfl, trivial⟩
          refine W.region ?_
          refine OL.pure S (Lf.run_lss (S.ev rfl) (S.ev rfl)) rfl rfl trivial ?_
          clear S; intro aa S
          refine OL.nil ?_
          refine W.seq ?_
          refine W.cond S (b := (decide (x46 < ((x44.n : Nat) : Int)))) rfl (fun hb_4 => ?_) (fun hb_4 => ?_)
          · replace H := H.1 hb_4
            refine W.skip ?_
            refine W.seq ?_
            refine W.block ?_
            refine W.seq ?_
            replace S := S.sub [(0, Value.pointer p0), (3, Value.int .i64 way3), (5, Value.pointer (some p5)), (6, Value.pointer (some p6)), (9, Value.int .i64 ((x41.n : Nat) : Int)), (45, Value.int .i64 ((x44.n : Nat) : Int)), (46, Value.int .i64 x46)] ⟨rfl, rfl, rfl, rfl, rfl, rfl, rfl, trivial⟩
            refine W.region ?_
            refine OL.pure S (Lf.run_move (S.ev rfl)) rfl rfl trivial ?_
            clear S; intro aa S
            refine OL.pure S (Lf.run_assign (S.ev rfl)) rfl rfl trivial ?_
            clear S; intro aa S
            refine OL.nil ?_
            replace S := S.sub [(0, Value.pointer p0), (3, Value.int .i64 way3), (5, Value.pointer (some p5)), (6, Value.pointer (some p6)), (9, Value.int .i64 ((x41.n : Nat) : Int)), (10, Value.int .i64 x46), (45, Value.int .i64 ((x44.n : Nat) : Int)), (46, Value.int .i64 x46)] ⟨rfl, rfl, rfl, rfl, rfl, rfl, rfl, rfl, trivial⟩
            obtain ⟨Sq, HS, H⟩ := H
            refine W.regionN [2, 5, 7, 10] [19, 20, 21] Sq S (by kernel_rfl) ?_
            clear S; intro ww S
            refine BN.pure 0 S (fun _ => HS) rfl (by kernel_rfl) (by kernel_rfl) (fun _ => Lf.run_move (S.ev rfl)) rfl rfl trivial ?_
            clear S; intro aa S
            refine BN.pure 1 S (fun _ => HS) rfl (by kernel_rfl) (by kernel_rfl) (fun _ => Lf.run_fa (S.ev rfl) fa32_4) rfl rfl trivial ?_
            clear S; intro aa S
            refine BN.pure 3 S (fun _ => HS) rfl (by kernel_rfl) (by kernel_rfl) (fun _ => Lf.run_move (S.ev rfl)) rfl rfl trivial ?_
            clear S; intro aa S
            refine BN.pure 6 S (fun _ => HS) rfl (by kernel_rfl) (by kernel_rfl) (fun _ => Lf.run_fa (S.ev rfl) fa32_4) rfl rfl trivial ?_
            clear S; intro aa S
            refine BN.pure 8 S (fun _ => HS) rfl (by kernel_rfl) (by kernel_rfl) (fun _ => Lf.run_move (S.ev rfl)) rfl rfl trivial ?_
            clear S; intro aa S
            refine BN.pure 11 S (fun _ => HS) rfl (by kernel_rfl) (by kernel_rfl) (fun _ => Lf.run_move (S.ev rfl)) rfl rfl trivial ?_
            clear S; intro aa S
            refine BN.pure 12 S (fun _ => HS) rfl (by kernel_rfl) (by kernel_rfl) (fun _ => Lf.run_move (S.ev rfl)) rfl rfl trivial ?_
            clear S; intro aa S
            obtain ⟨p62, e, H⟩ := H
            refine BN.pure 13 S (fun _ => HS) rfl (by kernel_rfl) (by kernel_rfl) (fun _ => Lf.run_nc' (S.ev rfl) e) rfl rfl trivial ?_
            clear S; intro aa S
            refine BN.pure 14 S (fun _ => HS) rfl (by kernel_rfl) (by kernel_rfl) (fun _ => Lf.run_fa (S.ev rfl) fa57_0) rfl rfl trivial ?_
            clear S; intro aa S
            obtain ⟨x64, c_8, H⟩ := H
            refine BN.load 15 S (fun _ => HS) rfl (by kernel_rfl) (by kernel_rfl) (fun _ hx => Lf.run_ld (S.ev rfl) fl37 (hx.cell _ _ (S.cl c_8))) rfl rfl trivial ?_
            clear S; intro aa S
            refine BN.pure 16 S (fun _ => HS) rfl (by kernel_rfl) (by kernel_rfl) (fun _ => Lf.run_fa (S.ev rfl) fa32_1) rfl rfl trivial ?_
            clear S; intro aa S
            obtain ⟨x66, c_9, H⟩ := H
            refine BN.load 17 S (fun _ => HS) rfl (by kernel_rfl) (by kernel_rfl) (fun _ hx => Lf.run_ld (S.ev rfl) fl9 (hx.cell _ _ (S.cl c_9))) rfl rfl trivial ?_
            clear S; intro aa S
            refine BN.pure 18 S (fun _ => HS) rfl (by kernel_rfl) (by kernel_rfl) (fun _ => Lf.run_move (S.ev rfl)) rfl rfl trivial ?_
            clear S; intro aa S
            obtain ⟨x51, c_10, H⟩ := H
            refine BN.held 2 S HS rfl (by kernel_rfl) (fun _ hq => Lf.run_ld (S.ev rfl) fl30 (c_10 _ hq)) rfl rfl trivial ?_
            clear S; intro aa S
            obtain ⟨q53, e_1, e_2, e_3, H⟩ := H
            refine BN.pure 4 S (fun _ => HS) rfl (by kernel_rfl) (by kernel_rfl) (fun _ => Lf.run_ixs (S.ev rfl) (S.ev rfl) Try.underlying30 ti3 e_1 e_2 e_3) rfl rfl trivial ?_
            clear S; intro aa S
            obtain ⟨x54, c_11, H⟩ := H
            refine BN.held 5 S HS rfl (by kernel_rfl) (fun _ hq => Lf.run_ld (S.ev rfl) fl3 (c_11 _ hq)) rfl rfl trivial ?_
            clear S; intro aa S
            obtain ⟨x56, c_12, H⟩ := H
            refine BN.held 7 S HS rfl (by kernel_rfl) (fun _ hq => Lf.run_ld (S.ev rfl) fl30 (c_12 _ hq)) rfl rfl trivial ?_
            clear S; intro aa S
            obtain ⟨q58, e_4, e_5, e_6, H⟩ := H
            refine BN.pure 9 S (fun _ => HS) rfl (by kernel_rfl) (by kernel_rfl) (fun _ => Lf.run_ixs (S.ev rfl) (S.ev rfl) Try.underlying30 ti3 e_4 e_5 e_6) rfl rfl trivial ?_
            clear S; intro aa S
            obtain ⟨x59, c_13, H⟩ := H
            refine BN.held 10 S HS rfl (by kernel_rfl) (fun _ hq => Lf.run_ld (S.ev rfl) fl3 (c_13 _ hq)) rfl rfl trivial ?_
            clear S; intro aa S
            refine BN.eff 19 rfl (by kernel_rfl) ?_
            refine ol_cal S H isfn27 rfl rfl trivial ?_
            clear S H aa; intro u_3 aa ww h7 H S
            obtain ⟨x68, rfl, H⟩ := H
            refine OL.nil ?_
            clear HS; obtain ⟨HS, H⟩ := H
            refine ⟨fun _ => by rw [S.heap]; exact HS, ?_⟩
            refine BN.eff 20 rfl (by kernel_rfl) ?_
            refine ol_cal S H isfn26 rfl rfl trivial ?_
            clear S H aa; intro u_4 aa ww h8 H S
            obtain ⟨x69, rfl, H⟩ := H
            refine OL.nil ?_
            clear HS; obtain ⟨HS, H⟩ := H
            refine ⟨fun _ => by rw [S.heap]; exact HS, ?_⟩
            refine BN.eff 21 rfl (by kernel_rfl) ?_
            refine ol_cal S H isfn25 rfl rfl trivial ?_
            clear S H aa; intro u_5 aa ww h9 H S
            refine OL.nil ?_
            refine ⟨noNeed (by kernel_rfl), ?_⟩
            refine BN.done (by kernel_rfl) ?_
            replace S := S.sub [(0, Value.pointer p0), (3, Value.int .i64 way3), (5, Value.pointer (some p5)), (6, Value.pointer (some p6)), (9, Value.int .i64 ((x41.n : Nat) : Int)), (45, Value.int .i64 ((x44.n : Nat) : Int)), (46, Value.int .i64 x46)] ⟨rfl, rfl, rfl, rfl, rfl, rfl, rfl, trivial⟩
            refine W.region ?_
            refine OL.pure S (Lf.run_add (S.ev rfl) (S.ev rfl)) rfl rfl trivial ?_
            clear S; intro aa S
            refine OL.pure S (Lf.run_move (S.ev rfl)) rfl rfl trivial ?_
            clear S; intro aa S
            refine OL.nil ?_
            exact ⟨((IntKind.i64.wrap (x46 + 1)), h9), ⟨S.sub _ ⟨rfl, rfl, rfl, rfl, rfl, rfl, rfl, trivial⟩, H.1⟩, H.2⟩
          · replace H := H.2 hb_4
            refine W.exit_ ?_
            refine xhit ?_
            refine W.seq ?_
            refine W.seq ?_
            replace S := S.sub [(0, Value.pointer p0), (3, Value.int .i64 way3), (5, Value.pointer (some p5)), (6, Value.pointer (some p6)), (9, Value.int .i64 ((x41.n : Nat) : Int))] ⟨rfl, rfl, rfl, rfl, rfl, trivial⟩
            refine W.region ?_
            refine OL.pure S (Lf.run_fa (S.ev rfl) fa32_5) rfl rfl trivial ?_
            clear S; intro aa S
            obtain ⟨x73, c_14, H⟩ := H
            refine OL.pure S (Lf.run_ld (S.ev rfl) fl22 (S.cl c_14)) rfl rfl trivial ?_
            clear S; intro aa S
            refine OL.pure S (Lf.run_lens (S.ev rfl) rfl Try.underlying22) rfl rfl trivial ?_
            clear S; intro aa S
            refine OL.pure S (Lf.run_move (S.ev rfl)) rfl rfl trivial ?_
            clear S; intro aa S
            refine OL.nil ?_
            refine W.block ?_
            obtain ⟨I_1, m_1, H, HB⟩ := H
            refine W.loopS (σ := Int × Heap) (fun s aa ww => St 123 [(0, Value.pointer p0), (3, Value.int .i64 way3), (5, Value.pointer (some p5)), (6, Value.pointer (some p6)), (9, Value.int .i64 ((x41.n : Nat) : Int)), (74, Value.int .i64 ((x73.n : Nat) : Int)), (75, Value.int .i64 s.1)] s.2 w0 aa ww ∧ I_1 s.1 s.2) (fun s => m_1 s.1 s.2) (0, h6) ⟨S.sub _ ⟨rfl, rfl, rfl, rfl, rfl, rfl, rfl, trivial⟩, H⟩ ?_
            clear H S aa
            rintro ⟨x75, h10⟩ aa ww ⟨S, HI⟩
            replace S : St 123 [(0, Value.pointer p0), (3, Value.int .i64 way3), (5, Value.pointer (some p5)), (6, Value.pointer (some p6)), (9, Value.int .i64 ((x41.n : Nat) : Int)), (74, Value.int .i64 ((x73.n : Nat) : Int)), (75, Value.int .i64 x75)] h10 w0 aa ww := S
            have H := HB x75 h10 HI
            clear HI
            refine W.seq ?_
            replace S := S.sub [(0, Value.pointer p0), (3, Value.int .i64 way3), (5, Value.pointer (some p5)), (6, Value.pointer (some p6)), (9, Value.int .i64 ((x41.n : Nat) : Int)), (74, Value.int .i64 ((x73.n : Nat) : Int)), (75, Value.int .i64 x75)] ⟨rfl, rfl, rfl, rfl, rfl, rfl, rfl, trivial⟩
            refine W.region ?_
            refine OL.pure S (Lf.run_lss (S.ev rfl) (S.ev rfl)) rfl rfl trivial ?_
            clear S; intro aa S
            refine OL.nil ?_
            refine W.seq ?_
            refine W.cond S (b := (decide (x75 < ((x73.n : Nat) : Int)))) rfl (fun hb_5 => ?_) (fun hb_5 => ?_)
            · replace H := H.1 hb_5
              refine W.skip ?_
              refine W.seq ?_
              refine W.block ?_
              refine W.seq ?_
              replace S := S.sub [(0, Value.pointer p0), (3, Value.int .i64 way3), (5, Value.pointer (some p5)), (6, Value.pointer (some p6)), (9, Value.int .i64 ((x41.n : Nat) : Int)), (74, Value.int .i64 ((x73.n : Nat) : Int)), (75, Value.int .i64 x75)] ⟨rfl, rfl, rfl, rfl, rfl, rfl, rfl, trivial⟩
              refine W.region ?_
              refine OL.pure S (Lf.run_move (S.ev rfl)) rfl rfl trivial ?_
              clear S; intro aa S
              refine OL.pure S (Lf.run_assign (S.ev rfl)) rfl rfl trivial ?_
              clear S; intro aa S
              refine OL.nil ?_
              replace S := S.sub [(0, Value.pointer p0), (3, Value.int .i64 way3), (5, Value.pointer (some p5)), (6, Value.pointer (some p6)), (9, Value.int .i64 ((x41.n : Nat) : Int)), (11, Value.int .i64 x75), (74, Value.int .i64 ((x73.n : Nat) : Int)), (75, Value.int .i64 x75)] ⟨rfl, rfl, rfl, rfl, rfl, rfl, rfl, rfl, trivial⟩
              obtain ⟨Sq_1, HS_1, H⟩ := H
              refine W.regionN [2, 5, 7, 10] [21, 22, 23] Sq_1 S (by kernel_rfl) ?_
              clear S; intro ww S
              refine BN.pure 0 S (fun _ => HS_1) rfl (by kernel_rfl) (by kernel_rfl) (fun _ => Lf.run_move (S.ev rfl)) rfl rfl trivial ?_
              clear S; intro aa S
              refine BN.pure 1 S (fun _ => HS_1) rfl (by kernel_rfl) (by kernel_rfl) (fun _ => Lf.run_fa (S.ev rfl) fa32_5) rfl rfl trivial ?_
              clear S; intro aa S
              refine BN.pure 3 S (fun _ => HS_1) rfl (by kernel_rfl) (by kernel_rfl) (fun _ => Lf.run_move (S.ev rfl)) rfl rfl trivial ?_
              clear S; intro aa S
              refine BN.pure 6 S (fun _ => HS_1) rfl (by kernel_rfl) (by kernel_rfl) (fun _ => Lf.run_fa (S.ev rfl) fa32_5) rfl rfl trivial ?_
              clear S; intro aa S
              refine BN.pure 8 S (fun _ => HS_1) rfl (by kernel_rfl) (by kernel_rfl) (fun _ => Lf.run_move (S.ev rfl)) rfl rfl trivial ?_
              clear S; intro aa S
              refine BN.pure 11 S (fun _ => HS_1) rfl (by kernel_rfl) (by kernel_rfl) (fun _ => Lf.run_move (S.ev rfl)) rfl rfl trivial ?_
              clear S; intro aa S
              refine BN.pure 12 S (fun _ => HS_1) rfl (by kernel_rfl) (by kernel_rfl) (fun _ => Lf.run_move (S.ev rfl)) rfl rfl trivial ?_
              clear S; intro aa S
              obtain ⟨p91, e_7, H⟩ := H
              refine BN.pure 13 S (fun _ => HS_1) rfl (by kernel_rfl) (by kernel_rfl) (fun _ => Lf.run_nc' (S.ev rfl) e_7) rfl rfl trivial ?_
              clear S; intro aa S
              refine BN.pure 14 S (fun _ => HS_1) rfl (by kernel_rfl) (by kernel_rfl) (fun _ => Lf.run_fa (S.ev rfl) fa57_0) rfl rfl trivial ?_
              clear S; intro aa S
              obtain ⟨x93, c_15, H⟩ := H
              refine BN.load 15 S (fun _ => HS_1) rfl (by kernel_rfl) (by kernel_rfl) (fun _ hx => Lf.run_ld (S.ev rfl) fl37 (hx.cell _ _ (S.cl c_15))) rfl rfl trivial ?_
              clear S; intro aa S
              refine BN.pure 16 S (fun _ => HS_1) rfl (by kernel_rfl) (by kernel_rfl) (fun _ => Lf.run_fa (S.ev rfl) fa32_1) rfl rfl trivial ?_
              clear S; intro aa S
              obtain ⟨x95, c_16, H⟩ := H
              refine BN.load 17 S (fun _ => HS_1) rfl (by kernel_rfl) (by kernel_rfl) (fun _ hx => Lf.run_ld (S.ev rfl) fl9 (hx.cell _ _ (S.cl c_16))) rfl rfl trivial ?_
              clear S; intro aa S
              refine BN.pure 18 S (fun _ => HS_1) rfl (by kernel_rfl) (by kernel_rfl) (fun _ => Lf.run_move (S.ev rfl)) rfl rfl trivial ?_
              clear S; intro aa S
              refine BN.pure 19 S (fun _ => HS_1) rfl (by kernel_rfl) (by kernel_rfl) (fun _ => Lf.run_move (S.ev rfl)) rfl rfl trivial ?_
              clear S; intro aa S
              refine BN.pure 20 S (fun _ => HS_1) rfl (by kernel_rfl) (by kernel_rfl) (fun _ => Lf.run_add (S.ev rfl) (S.ev rfl)) rfl rfl trivial ?_
              clear S; intro aa S
              obtain ⟨x80, c_17, H⟩ := H
              refine BN.held 2 S HS_1 rfl (by kernel_rfl) (fun _ hq => Lf.run_ld (S.ev rfl) fl22 (c_17 _ hq)) rfl rfl trivial ?_
              clear S; intro aa S
              obtain ⟨q82, e_8, e_9, e_10, H⟩ := H
              refine BN.pure 4 S (fun _ => HS_1) rfl (by kernel_rfl) (by kernel_rfl) (fun _ => Lf.run_ixs (S.ev rfl) (S.ev rfl) Try.underlying22 ti32 e_8 e_9 e_10) rfl rfl trivial ?_
              clear S; intro aa S
              obtain ⟨y83, y83_1, y83_2, y83_3, y83_4, y83_5, c_27, c_28, c_29, c_30, c_31, c_32, H⟩ := H
              refine BN.held 5 S HS_1 rfl (by kernel_rfl) (fun _ hq => Lf.run_ldA (cs := [Value.int .i64 y83, Value.string y83_1, Value.bool y83_2, Value.int .i64 y83_3, Value.slice y83_4.a y83_4.n y83_4.c, Value.slice y83_5.a y83_5.n y83_5.c]) (S.ev rfl) ag32 ti32 (hlRow hq fun h_ hs_ => ⟨c_27 h_ hs_, c_28 h_ hs_, c_29 h_ hs_, c_30 h_ hs_, c_31 h_ hs_, c_32 h_ hs_, trivial⟩)) rfl rfl trivial ?_
              clear S; intro aa S
              obtain ⟨x85, c_19, H⟩ := H
              refine BN.held 7 S HS_1 rfl (by kernel_rfl) (fun _ hq => Lf.run_ld (S.ev rfl) fl22 (c_19 _ hq)) rfl rfl trivial ?_
              clear S; intro aa S
              obtain ⟨q87, e_11, e_12, e_13, H⟩ := H
              refine BN.pure 9 S (fun _ => HS_1) rfl (by kernel_rfl) (by kernel_rfl) (fun _ => Lf.run_ixs (S.ev rfl) (S.ev rfl) Try.underlying22 ti32 e_11 e_12 e_13) rfl rfl trivial ?_
              clear S; intro aa S
              obtain ⟨y88, y88_1, y88_2, y88_3, y88_4, y88_5, c_21, c_22, c_23, c_24, c_25, c_26, H⟩ := H
              refine BN.held 10 S HS_1 rfl (by kernel_rfl) (fun _ hq => Lf.run_ldA (cs := [Value.int .i64 y88, Value.string y88_1, Value.bool y88_2, Value.int .i64 y88_3, Value.slice y88_4.a y88_4.n y88_4.c, Value.slice y88_5.a y88_5.n y88_5.c]) (S.ev rfl) ag32 ti32 (hlRow hq fun h_ hs_ => ⟨c_21 h_ hs_, c_22 h_ hs_, c_23 h_ hs_, c_24 h_ hs_, c_25 h_ hs_, c_26 h_ hs_, trivial⟩)) rfl rfl trivial ?_
              clear S; intro aa S
              refine BN.eff 21 rfl (by kernel_rfl) ?_
              refine ol_cal S H isfn27 rfl rfl trivial ?_
              clear S H aa; intro u_6 aa ww h11 H S
              obtain ⟨x99, rfl, H⟩ := H
              refine OL.nil ?_
              clear HS_1; obtain ⟨HS_1, H⟩ := H
              refine ⟨fun _ => by rw [S.heap]; exact HS_1, ?_⟩
              refine BN.eff 22 rfl (by kernel_rfl) ?_
              refine ol_cal S H isfn26 rfl rfl trivial ?_
              clear S H aa; intro u_7 aa ww h12 H S
              obtain ⟨x100, rfl, H⟩ := H
              refine OL.nil ?_
              clear HS_1; obtain ⟨HS_1, H⟩ := H
              refine ⟨fun _ => by rw [S.heap]; exact HS_1, ?_⟩
              refine BN.eff 23 rfl (by kernel_rfl) ?_
              refine ol_cal S H isfn17 rfl rfl trivial ?_
              clear S H aa; intro u_8 aa ww h13 H S
              refine OL.nil ?_
              refine ⟨noNeed (by kernel_rfl), ?_⟩
              refine BN.done (by kernel_rfl) ?_
              replace S := S.sub [(0, Value.pointer p0), (3, Value.int .i64 way3), (5, Value.pointer (some p5)), (6, Value.pointer (some p6)), (9, Value.int .i64 ((x41.n : Nat) : Int)), (74, Value.int .i64 ((x73.n : Nat) : Int)), (75, Value.int .i64 x75)] ⟨rfl, rfl, rfl, rfl, rfl, rfl, rfl, trivial⟩
              refine W.region ?_
              refine OL.pure S (Lf.run_add (S.ev rfl) (S.ev rfl)) rfl rfl trivial ?_
              clear S; intro aa S
              refine OL.pure S (Lf.run_move (S.ev rfl)) rfl rfl trivial ?_
              clear S; intro aa S
              refine OL.nil ?_
              exact ⟨((IntKind.i64.wrap (x75 + 1)), h13), ⟨S.sub _ ⟨rfl, rfl, rfl, rfl, rfl, rfl, rfl, trivial⟩, H.1⟩, H.2⟩
            · replace H := H.2 hb_5
              refine W.exit_ ?_
              refine xhit ?_
              refine W.ret ?_
              exact Ret.none S rfl H
        · replace H := H.2 hb_3
          refine W.skip ?_
          exact ⟨way3, h2, S.sub _ ⟨rfl, rfl, rfl, rfl, trivial⟩, H⟩
  · clear H S aa
    rintro aa ww ⟨inner8, h14, S, HJ⟩
    have H := HK _ _ HJ
    clear HK HJ
    refine W.seq ?_
    replace S := S.sub [(0, Value.pointer p0), (5, Value.pointer (some p5)), (6, Value.pointer (some p6)), (8, Value.int .i64 inner8)] ⟨rfl, rfl, rfl, rfl, trivial⟩
    refine W.region ?_
    refine OL.pure S (Lf.run_fa (S.ev rfl) fa32_5) rfl rfl trivial ?_
    clear S; intro aa S
    obtain ⟨x104, c_33, H⟩ := H
    refine OL.pure S (Lf.run_ld (S.ev rfl) fl22 (S.cl c_33)) rfl rfl trivial ?_
    clear S; intro aa S
    refine OL.pure S (Lf.run_lens (S.ev rfl) rfl Try.underlying22) rfl rfl trivial ?_
    clear S; intro aa S
    refine OL.pure S (Lf.run_move (S.ev rfl)) rfl rfl trivial ?_
    clear S; intro aa S
    refine OL.nil ?_
    refine W.block ?_
    obtain ⟨I_2, m_2, H, HB_2⟩ := H
    refine W.loopS (σ := Int × Heap) (fun s aa ww => St 123 [(0, Value.pointer p0), (5, Value.pointer (some p5)), (6, Value.pointer (some p6)), (8, Value.int .i64 inner8), (105, Value.int .i64 ((x104.n : Nat) : Int)), (106, Value.int .i64 s.1)] s.2 w0 aa ww ∧ I_2 s.1 s.2) (fun s => m_2 s.1 s.2) (0, h14) ⟨S.sub _ ⟨rfl, rfl, rfl, rfl, rfl, rfl, trivial⟩, H⟩ ?_
    clear H S aa
    rintro ⟨x106, h15⟩ aa ww ⟨S, HI⟩
    replace S : St 123 [(0, Value.pointer p0), (5, Value.pointer (some p5)), (6, Value.pointer (some p6)), (8, Value.int .i64 inner8), (105, Value.int .i64 ((x104.n : Nat) : Int)), (106, Value.int .i64 x106)] h15 w0 aa ww := S
    have H := HB_2 x106 h15 HI
    clear HI
    refine W.seq ?_
    replace S := S.sub [(0, Value.pointer p0), (5, Value.pointer (some p5)), (6, Value.pointer (some p6)), (8, Value.int .i64 inner8), (105, Value.int .i64 ((x104.n : Nat) : Int)), (106, Value.int .i64 x106)] ⟨rfl, rfl, rfl, rfl, rfl, rfl, trivial⟩
    refine W.region ?_
    refine OL.pure S (Lf.run_lss (S.ev rfl) (S.ev rfl)) rfl rfl trivial ?_
    clear S; intro aa S
    refine OL.nil ?_
    refine W.seq ?_
    refine W.cond S (b := (decide (x106 < ((x104.n : Nat) : Int)))) rfl (fun hb_6 => ?_) (fun hb_6 => ?_)
    · replace H := H.1 hb_6
      refine W.skip ?_
      refine W.seq ?_
      refine W.block ?_
      refine W.seq ?_
      replace S := S.sub [(0, Value.pointer p0), (5, Value.pointer (some p5)), (6, Value.pointer (some p6)), (8, Value.int .i64 inner8), (105, Value.int .i64 ((x104.n : Nat) : Int)), (106, Value.int .i64 x106)] ⟨rfl, rfl, rfl, rfl, rfl, rfl, trivial⟩
      refine W.region ?_
      refine OL.pure S (Lf.run_move (S.ev rfl)) rfl rfl trivial ?_
      clear S; intro aa S
      refine OL.pure S (Lf.run_assign (S.ev rfl)) rfl rfl trivial ?_
      clear S; intro aa S
      refine OL.nil ?_
      replace S := S.sub [(0, Value.pointer p0), (5, Value.pointer (some p5)), (6, Value.pointer (some p6)), (8, Value.int .i64 inner8), (12, Value.int .i64 x106), (105, Value.int .i64 ((x104.n : Nat) : Int)), (106, Value.int .i64 x106)] ⟨rfl, rfl, rfl, rfl, rfl, rfl, rfl, trivial⟩
      refine W.regionD S (by kernel_rfl) ?_
      clear S; intro ww S
      refine AN.pure 0 S rfl (by kernel_rfl) (fun _ => Lf.run_move (S.ev rfl)) rfl rfl trivial ?_
      clear S; intro aa S
      refine AN.pure 1 S rfl (by kernel_rfl) (fun _ => Lf.run_fa (S.ev rfl) fa32_5) rfl rfl trivial ?_
      clear S; intro aa S
      obtain ⟨x111, c_34, H⟩ := H
      refine AN.load 2 S rfl (by kernel_rfl) (fun _ hx => Lf.run_ld (S.ev rfl) fl22 (hx.cell _ _ (S.cl c_34))) rfl rfl trivial ?_
      clear S; intro aa S
      refine AN.pure 3 S rfl (by kernel_rfl) (fun _ => Lf.run_move (S.ev rfl)) rfl rfl trivial ?_
      clear S; intro aa S
      obtain ⟨q113, e_14, e_15, e_16, H⟩ := H
      refine AN.pure 4 S rfl (by kernel_rfl) (fun _ => Lf.run_ixs (S.ev rfl) (S.ev rfl) Try.underlying22 ti32 e_14 e_15 e_16) rfl rfl trivial ?_
      clear S; intro aa S
      obtain ⟨y114, y114_1, y114_2, y114_3, y114_4, y114_5, c_44, c_45, c_46, c_47, c_48, c_49, H⟩ := H
      refine AN.load 5 S rfl (by kernel_rfl) (fun _ hx => Lf.run_ldA (cs := [Value.int .i64 y114, Value.string y114_1, Value.bool y114_2, Value.int .i64 y114_3, Value.slice y114_4.a y114_4.n y114_4.c, Value.slice y114_5.a y114_5.n y114_5.c]) (S.ev rfl) ag32 ti32 (hx.row (S.row ⟨c_44, c_45, c_46, c_47, c_48, c_49, trivial⟩))) rfl rfl trivial ?_
      clear S; intro aa S
      refine AN.pure 6 S rfl (by kernel_rfl) (fun _ => Lf.run_fa (S.ev rfl) fa32_5) rfl rfl trivial ?_
      clear S; intro aa S
      obtain ⟨x116, c_36, H⟩ := H
      refine AN.load 7 S rfl (by kernel_rfl) (fun _ hx => Lf.run_ld (S.ev rfl) fl22 (hx.cell _ _ (S.cl c_36))) rfl rfl trivial ?_
      clear S; intro aa S
      refine AN.pure 8 S rfl (by kernel_rfl) (fun _ => Lf.run_move (S.ev rfl)) rfl rfl trivial ?_
      clear S; intro aa S
      obtain ⟨q118, e_17, e_18, e_19, H⟩ := H
      refine AN.pure 9 S rfl (by kernel_rfl) (fun _ => Lf.run_ixs (S.ev rfl) (S.ev rfl) Try.underlying22 ti32 e_17 e_18 e_19) rfl rfl trivial ?_
      clear S; intro aa S
      obtain ⟨y119, y119_1, y119_2, y119_3, y119_4, y119_5, c_38, c_39, c_40, c_41, c_42, c_43, H⟩ := H
      refine AN.load 10 S rfl (by kernel_rfl) (fun _ hx => Lf.run_ldA (cs := [Value.int .i64 y119, Value.string y119_1, Value.bool y119_2, Value.int .i64 y119_3, Value.slice y119_4.a y119_4.n y119_4.c, Value.slice y119_5.a y119_5.n y119_5.c]) (S.ev rfl) ag32 ti32 (hx.row (S.row ⟨c_38, c_39, c_40, c_41, c_42, c_43, trivial⟩))) rfl rfl trivial ?_
      clear S; intro aa S
      refine AN.pure 11 S rfl (by kernel_rfl) (fun _ => Lf.run_move (S.ev rfl)) rfl rfl trivial ?_
      clear S; intro aa S
      refine AN.eff 12 rfl (by kernel_rfl) ?_
      refine ol_cal S H isfn17 rfl rfl trivial ?_
      clear S H aa; intro u_9 aa ww h16 H S
      refine OL.nil ?_
      refine AN.done (by kernel_rfl) ?_
      replace S := S.sub [(0, Value.pointer p0), (5, Value.pointer (some p5)), (6, Value.pointer (some p6)), (8, Value.int .i64 inner8), (105, Value.int .i64 ((x104.n : Nat) : Int)), (106, Value.int .i64 x106)] ⟨rfl, rfl, rfl, rfl, rfl, rfl, trivial⟩
      refine W.region ?_
      refine OL.pure S (Lf.run_add (S.ev rfl) (S.ev rfl)) rfl rfl trivial ?_
      clear S; intro aa S
      refine OL.pure S (Lf.run_move (S.ev rfl)) rfl rfl trivial ?_
      clear S; intro aa S
      refine OL.nil ?_
      exact ⟨((IntKind.i64.wrap (x106 + 1)), h16), ⟨S.sub _ ⟨rfl, rfl, rfl, rfl, rfl, rfl, trivial⟩, H.1⟩, H.2⟩
    · replace H := H.2 hb_6
      refine W.exit_ ?_
      refine xhit ?_
      exact Ret.none S rfl H

/-- slices.Index[[]string,string] -/
def L18 (s0 : Sv) (v1 : ByteArray) (h : Heap) (R : Value → Heap → Prop) : Prop :=
  ∃ (I : Int → Prop) (m : Int → Nat), I 0 ∧ ∀ x8, I x8 →
  ifb (decide (x8 < ((s0.n : Nat) : Int))) (
    ixS s0 x8 fun q14 =>
    ldT h (q14.add ((x8 : Int).toNat * 1)) fun x15 =>
    ifb (v1.toList == x15.toList) (
      R (Value.int .i64 x8) h) (
      I (IntKind.i64.wrap (x8 + 1)) ∧ m (IntKind.i64.wrap (x8 + 1)) < m x8)) (
    R (Value.int .i64 (-1)) h)

set_option maxRecDepth 100000 in

theorem F18 {s0 v1 h : _} {R : Value → Heap → Prop} (H : L18 s0 v1 h R) : CallsH Try.prog 18 #[Value.slice s0.a s0.n s0.c, Value.string v1] h R := by
  refine CallsH.enter (n := 19) Try.func18 rfl rfl rfl rfl ?_
  intro w0 aa ww S
  unfold L18 at H
  refine W.seq ?_
  replace S := S.sub [(0, Value.slice s0.a s0.n s0.c), (1, Value.string v1)] ⟨rfl, rfl, trivial⟩
  refine W.region ?_
  refine OL.pure S (Lf.run_assign (S.ev rfl)) rfl rfl trivial ?_
  clear S; intro aa S
  refine OL.nil ?_
  refine W.seq ?_
  refine W.seq ?_
  replace S := S.sub [(0, Value.slice s0.a s0.n s0.c), (1, Value.string v1)] ⟨rfl, rfl, trivial⟩
  refine W.region ?_
  refine OL.pure S (Lf.run_move (S.ev rfl)) rfl rfl trivial ?_
  clear S; intro aa S
  refine OL.pure S (Lf.run_lens (S.ev rfl) rfl Try.underlying39) rfl rfl trivial ?_
  clear S; intro aa S
  refine OL.pure S (Lf.run_move (S.ev rfl)) rfl rfl trivial ?_
  clear S; intro aa S
  refine OL.nil ?_
  refine W.block ?_
  obtain ⟨I, m, H, HB⟩ := H
  refine W.loopS (σ := Int) (fun s aa ww => St 19 [(0, Value.slice s0.a s0.n s0.c), (1, Value.string v1), (7, Value.int .i64 ((s0.n : Nat) : Int)), (8, Value.int .i64 s)] h w0 aa ww ∧ I s) (fun s => m s) (0) ⟨S.sub _ ⟨rfl, rfl, rfl, rfl, trivial⟩, H⟩ ?_
  clear H S aa
  rintro x8 aa ww ⟨S, HI⟩
  replace S : St 19 [(0, Value.slice s0.a s0.n s0.c), (1, Value.string v1), (7, Value.int .i64 ((s0.n : Nat) : Int)), (8, Value.int .i64 x8)] h w0 aa ww := S
  have H := HB x8 HI
  clear HI
  refine W.seq ?_
  replace S := S.sub [(0, Value.slice s0.a s0.n s0.c), (1, Value.string v1), (7, Value.int .i64 ((s0.n : Nat) : Int)), (8, Value.int .i64 x8)] ⟨rfl, rfl, rfl, rfl, trivial⟩
  refine W.region ?_
  refine OL.pure S (Lf.run_lss (S.ev rfl) (S.ev rfl)) rfl rfl trivial ?_
  clear S; intro aa S
  refine OL.nil ?_
  refine W.seq ?_
  refine W.cond S (b := (decide (x8 < ((s0.n : Nat) : Int)))) rfl (fun hb => ?_) (fun hb => ?_)
  · replace H := H.1 hb
    refine W.skip ?_
    refine W.seq ?_
    refine W.block ?_
    refine W.seq ?_
    replace S := S.sub [(0, Value.slice s0.a s0.n s0.c), (1, Value.string v1), (7, Value.int .i64 ((s0.n : Nat) : Int)), (8, Value.int .i64 x8)] ⟨rfl, rfl, rfl, rfl, trivial⟩
    refine W.region ?_
    refine OL.pure S (Lf.run_move (S.ev rfl)) rfl rfl trivial ?_
    clear S; intro aa S
    refine OL.pure S (Lf.run_assign (S.ev rfl)) rfl rfl trivial ?_
    clear S; intro aa S
    refine OL.nil ?_
    refine W.seq ?_
    replace S := S.sub [(0, Value.slice s0.a s0.n s0.c), (1, Value.string v1), (5, Value.int .i64 x8), (7, Value.int .i64 ((s0.n : Nat) : Int)), (8, Value.int .i64 x8)] ⟨rfl, rfl, rfl, rfl, rfl, trivial⟩
    refine W.region ?_
    refine OL.pure S (Lf.run_move (S.ev rfl)) rfl rfl trivial ?_
    clear S; intro aa S
    refine OL.pure S (Lf.run_move (S.ev rfl)) rfl rfl trivial ?_
    clear S; intro aa S
    refine OL.pure S (Lf.run_move (S.ev rfl)) rfl rfl trivial ?_
    clear S; intro aa S
    obtain ⟨q14, e, e_1, e_2, H⟩ := H
    refine OL.pure S (Lf.run_ixs (S.ev rfl) (S.ev rfl) Try.underlying39 ti9 e e_1 e_2) rfl rfl trivial ?_
    clear S; intro aa S
    obtain ⟨x15, c, H⟩ := H
    refine OL.pure S (Lf.run_ld (S.ev rfl) fl9 (S.cl c)) rfl rfl trivial ?_
    clear S; intro aa S
    refine OL.pure S (Lf.run_eqlt (S.ev rfl) (S.ev rfl)) rfl rfl trivial ?_
    clear S; intro aa S
    refine OL.nil ?_
    refine W.cond S (b := (v1.toList == x15.toList)) rfl (fun hb_1 => ?_) (fun hb_1 => ?_)
    · replace H := H.1 hb_1
      refine W.seq ?_
      replace S := S.sub [(5, Value.int .i64 x8)] ⟨rfl, trivial⟩
      refine W.region ?_
      refine OL.pure S (Lf.run_move (S.ev rfl)) rfl rfl trivial ?_
      clear S; intro aa S
      refine OL.pure S (Lf.run_assign (S.ev rfl)) rfl rfl trivial ?_
      clear S; intro aa S
      refine OL.nil ?_
      refine W.ret ?_
      exact Ret.one S rfl rfl H
    · replace H := H.2 hb_1
      refine W.skip ?_
      replace S := S.sub [(0, Value.slice s0.a s0.n s0.c), (1, Value.string v1), (7, Value.int .i64 ((s0.n : Nat) : Int)), (8, Value.int .i64 x8)] ⟨rfl, rfl, rfl, rfl, trivial⟩
      refine W.region ?_
      refine OL.pure S (Lf.run_add (S.ev rfl) (S.ev rfl)) rfl rfl trivial ?_
      clear S; intro aa S
      refine OL.pure S (Lf.run_move (S.ev rfl)) rfl rfl trivial ?_
      clear S; intro aa S
      refine OL.nil ?_
      exact ⟨((IntKind.i64.wrap (x8 + 1))), ⟨S.sub _ ⟨rfl, rfl, rfl, rfl, trivial⟩, H.1⟩, H.2⟩
  · replace H := H.2 hb
    refine W.exit_ ?_
    refine xhit ?_
    refine W.seq ?_
    replace S := S.sub [] trivial
    refine W.region ?_
    refine OL.pure S (Lf.run_assign (S.ev rfl)) rfl rfl trivial ?_
    clear S; intro aa S
    refine OL.nil ?_
    refine W.ret ?_
    exact Ret.one S rfl rfl H

/-- chattel types.Inst$1 -/
def L19 (r0 : Int) (x1 : Addr) (h : Heap) (R : Value → Heap → Prop) : Prop :=
  ∃ J : Bool → Prop, (andr (decide (1 ≤ r0)) (fun k =>
    ldS h x1 fun x8 =>
    k (decide (r0 ≤ ((x8.n : Nat) : Int)))) J) ∧ ∀ x11, J x11 →
  ifb x11 (
    ldS h x1 fun x12 =>
    ixS x12 (IntKind.i64.wrap (r0 - 1)) fun q15 =>
    ldI .i64 h (q15.add (((IntKind.i64.wrap (r0 - 1)) : Int).toNat * 1)) fun x16 =>
    R (Value.int .i64 x16) h) (
    R (Value.int .i64 r0) h)

set_option maxRecDepth 100000 in

theorem F19 {r0 x1 h : _} {R : Value → Heap → Prop} (H : L19 r0 x1 h R) : CallsH Try.prog 19 #[Value.int .i64 r0, Value.pointer (some x1)] h R := by
  refine CallsH.enter (n := 18) Try.func19 rfl rfl rfl rfl ?_
  intro w0 aa ww S
  unfold L19 at H
  refine W.seq ?_
  replace S := S.sub [(0, Value.int .i64 r0), (1, Value.pointer (some x1))] ⟨rfl, rfl, trivial⟩
  refine W.region ?_
  refine OL.pure S (Lf.run_assign (S.ev rfl)) rfl rfl trivial ?_
  clear S; intro aa S
  refine OL.nil ?_
  refine W.seq ?_
  refine W.seq ?_
  replace S := S.sub [(0, Value.int .i64 r0), (1, Value.pointer (some x1))] ⟨rfl, rfl, trivial⟩
  refine W.region ?_
  refine OL.pure S (Lf.run_move (S.ev rfl)) rfl rfl trivial ?_
  clear S; intro aa S
  refine OL.pure S (Lf.run_geq (S.ev rfl) (S.ev rfl)) rfl rfl trivial ?_
  clear S; intro aa S
  refine OL.pure S (Lf.run_move (S.ev rfl)) rfl rfl trivial ?_
  clear S; intro aa S
  obtain ⟨J, H, HK⟩ := H
  refine OL.cutN 5 (fun aa ww => ∃ x11, St 18 ((11, Value.bool x11) :: [(0, Value.int .i64 r0), (1, Value.pointer (some x1)), (4, Value.int .i64 r0), (5, Value.bool (decide (1 ≤ r0))), (6, Value.bool (decide (1 ≤ r0)))]) h w0 aa ww ∧ J x11) ?_ ?_
  · rcases Bool.eq_false_or_eq_true (decide (1 ≤ r0)) with hb | hb
    · replace H := H.1 hb
      refine OL.pure S (Lf.run_move (S.ev rfl)) rfl rfl (GOk.mk rfl rfl hb) ?_
      clear S; intro aa S
      obtain ⟨x8, c, H⟩ := H
      refine OL.pure S (Lf.run_ld (S.ev rfl) fl30 (S.cl c)) rfl rfl (GOk.mk rfl rfl hb) ?_
      clear S; intro aa S
      refine OL.pure S (Lf.run_lens (S.ev rfl) rfl Try.underlying30) rfl rfl (GOk.mk rfl rfl hb) ?_
      clear S; intro aa S
      refine OL.pure S (Lf.run_leq (S.ev rfl) (S.ev rfl)) rfl rfl (GOk.mk rfl rfl hb) ?_
      clear S; intro aa S
      refine OL.pure S (Lf.run_pickT (S.ev rfl) hb (S.ev rfl)) rfl rfl trivial ?_
      clear S; intro aa S
      refine OL.nil ?_
      exact ⟨_, S.sub _ ⟨rfl, rfl, rfl, rfl, rfl, rfl, trivial⟩, H⟩
    · replace H := H.2 hb
      refine OL.not S rfl rfl (GNo.mk rfl rfl hb) ?_
      clear S; intro aa S
      refine OL.not S rfl rfl (GNo.mk rfl rfl hb) ?_
      clear S; intro aa S
      refine OL.not S rfl rfl (GNo.mk rfl rfl hb) ?_
      clear S; intro aa S
      refine OL.not S rfl rfl (GNo.mk rfl rfl hb) ?_
      clear S; intro aa S
      refine OL.pure S (Lf.run_pickF (S.ev rfl) hb (S.ev rfl)) rfl rfl trivial ?_
      clear S; intro aa S
      refine OL.nil ?_
      exact ⟨_, S.sub _ ⟨rfl, rfl, rfl, rfl, rfl, rfl, trivial⟩, H⟩
  · clear S aa
    rintro aa ww ⟨x11, S, HJ⟩
    replace H := HK _ HJ
    clear HK HJ
    refine OL.nil ?_
    refine W.cond S (b := x11) rfl (fun hb_1 => ?_) (fun hb_1 => ?_)
    · replace H := H.1 hb_1
      refine W.seq ?_
      replace S := S.sub [(0, Value.int .i64 r0), (1, Value.pointer (some x1))] ⟨rfl, rfl, trivial⟩
      refine W.region ?_
      obtain ⟨x12, c_1, H⟩ := H
      refine OL.pure S (Lf.run_ld (S.ev rfl) fl30 (S.cl c_1)) rfl rfl trivial ?_
      clear S; intro aa S
      refine OL.pure S (Lf.run_move (S.ev rfl)) rfl rfl trivial ?_
      clear S; intro aa S
      refine OL.pure S (Lf.run_sub (S.ev rfl) (S.ev rfl)) rfl rfl trivial ?_
      clear S; intro aa S
      obtain ⟨q15, e, e_1, e_2, H⟩ := H
      refine OL.pure S (Lf.run_ixs (S.ev rfl) (S.ev rfl) Try.underlying30 ti3 e e_1 e_2) rfl rfl trivial ?_
      clear S; intro aa S
      obtain ⟨x16, c_2, H⟩ := H
      refine OL.pure S (Lf.run_ld (S.ev rfl) fl3 (S.cl c_2)) rfl rfl trivial ?_
      clear S; intro aa S
      refine OL.pure S (Lf.run_assign (S.ev rfl)) rfl rfl trivial ?_
      clear S; intro aa S
      refine OL.nil ?_
      refine W.ret ?_
      exact Ret.one S rfl rfl H
    · replace H := H.2 hb_1
      refine W.skip ?_
      refine W.seq ?_
      replace S := S.sub [(0, Value.int .i64 r0)] ⟨rfl, trivial⟩
      refine W.region ?_
      refine OL.pure S (Lf.run_move (S.ev rfl)) rfl rfl trivial ?_
      clear S; intro aa S
      refine OL.pure S (Lf.run_assign (S.ev rfl)) rfl rfl trivial ?_
      clear S; intro aa S
      refine OL.nil ?_
      refine W.ret ?_
      exact Ret.one S rfl rfl H

/-- chattel types.own -/
def L20 (x0 : Int) (x0_1 : ByteArray) (x0_2 : Bool) (x0_3 : Int) (x0_4 : Sv) (x0_5 : Sv) (h : Heap) (R : Value → Heap → Prop) : Prop :=
  new 32 #[Value.int .i64 x0, Value.string x0_1, Value.bool x0_2, Value.int .i64 x0_3, Value.slice x0_4.a x0_4.n x0_4.c, Value.slice x0_5.a x0_5.n x0_5.c] h fun p1 h1 =>
  ldI .i64 h1 p1 fun x4 =>
  ∃ J : Bool → Prop, (orr (x4 == 7) (fun k =>
    ldI .i64 h1 p1 fun x8 =>
    k (x8 == 8)) J) ∧ ∀ x10, J x10 →
  ∃ J_1 : Bool → Prop, (orr x10 (fun k_1 =>
    ldI .i64 h1 p1 fun x13 =>
    k_1 (x13 == 9)) J_1) ∧ ∀ x15, J_1 x15 →
  R (Value.bool x15) h1

set_option maxRecDepth 100000 in

theorem F20 {x0 x0_1 x0_2 x0_3 x0_4 x0_5 h : _} {R : Value → Heap → Prop} (H : L20 x0 x0_1 x0_2 x0_3 x0_4 x0_5 h R) : CallsH Try.prog 20 #[Value.agg #[Value.int .i64 x0, Value.string x0_1, Value.bool x0_2, Value.int .i64 x0_3, Value.slice x0_4.a x0_4.n x0_4.c, Value.slice x0_5.a x0_5.n x0_5.c]] h R := by
  refine CallsH.enter (n := 16) Try.func20 rfl rfl rfl rfl ?_
  intro w0 aa ww S
  unfold L20 at H
  refine W.seq ?_
  replace S := S.sub [(0, Value.agg #[Value.int .i64 x0, Value.string x0_1, Value.bool x0_2, Value.int .i64 x0_3, Value.slice x0_4.a x0_4.n x0_4.c, Value.slice x0_5.a x0_5.n x0_5.c])] ⟨rfl, trivial⟩
  refine W.region ?_
  refine ol_box S H rfl rfl rfl trivial ?_
  clear S H aa; intro p1 aa ww h1 H S
  refine OL.pure S (Lf.run_assign (S.ev rfl)) rfl rfl trivial ?_
  clear S; intro aa S
  refine OL.nil ?_
  refine W.seq ?_
  replace S := S.sub [(1, Value.pointer (some p1))] ⟨rfl, trivial⟩
  refine W.region ?_
  refine OL.pure S (Lf.run_fa (S.ev rfl) fa32_0) rfl rfl trivial ?_
  clear S; intro aa S
  obtain ⟨x4, c, H⟩ := H
  refine OL.pure S (Lf.run_ld (S.ev rfl) fl3 (S.cl c)) rfl rfl trivial ?_
  clear S; intro aa S
  refine OL.pure S (Lf.run_eql (S.ev rfl) (S.ev rfl)) rfl rfl trivial ?_
  clear S; intro aa S
  refine OL.pure S (Lf.run_move (S.ev rfl)) rfl rfl trivial ?_
  clear S; intro aa S
  obtain ⟨J, H, HK⟩ := H
  refine OL.cutN 4 (fun aa ww => ∃ x10, St 16 ((10, Value.bool x10) :: [(1, Value.pointer (some p1)), (3, Value.pointer (some p1)), (4, Value.int .i64 x4), (5, Value.bool (x4 == 7)), (6, Value.bool (x4 == 7))]) h1 w0 aa ww ∧ J x10) ?_ ?_
  · rcases Bool.eq_false_or_eq_true (x4 == 7) with hb | hb
    · replace H := H.1 hb
      refine OL.not S rfl rfl (GNo.mk rfl rfl hb) ?_
      clear S; intro aa S
      refine OL.not S rfl rfl (GNo.mk rfl rfl hb) ?_
      clear S; intro aa S
      refine OL.not S rfl rfl (GNo.mk rfl rfl hb) ?_
      clear S; intro aa S
      refine OL.pure S (Lf.run_pickT (S.ev rfl) hb (S.ev rfl)) rfl rfl trivial ?_
      clear S; intro aa S
      refine OL.nil ?_
      exact ⟨_, S.sub _ ⟨rfl, rfl, rfl, rfl, rfl, rfl, trivial⟩, H⟩
    · replace H := H.2 hb
      refine OL.pure S (Lf.run_fa (S.ev rfl) fa32_0) rfl rfl (GOk.mk rfl rfl hb) ?_
      clear S; intro aa S
      obtain ⟨x8, c_1, H⟩ := H
      refine OL.pure S (Lf.run_ld (S.ev rfl) fl3 (S.cl c_1)) rfl rfl (GOk.mk rfl rfl hb) ?_
      clear S; intro aa S
      refine OL.pure S (Lf.run_eql (S.ev rfl) (S.ev rfl)) rfl rfl (GOk.mk rfl rfl hb) ?_
      clear S; intro aa S
      refine OL.pure S (Lf.run_pickF (S.ev rfl) hb (S.ev rfl)) rfl rfl trivial ?_
      clear S; intro aa S
      refine OL.nil ?_
      exact ⟨_, S.sub _ ⟨rfl, rfl, rfl, rfl, rfl, rfl, trivial⟩, H⟩
  · clear S aa
    rintro aa ww ⟨x10, S, HJ⟩
    replace H := HK _ HJ
    clear HK HJ
    refine OL.pure S (Lf.run_move (S.ev rfl)) rfl rfl trivial ?_
    clear S; intro aa S
    obtain ⟨J_1, H, HK_1⟩ := H
    refine OL.cutN 4 (fun aa ww => ∃ x15, St 16 ((15, Value.bool x15) :: [(1, Value.pointer (some p1)), (3, Value.pointer (some p1)), (4, Value.int .i64 x4), (5, Value.bool (x4 == 7)), (6, Value.bool (x4 == 7)), (10, Value.bool x10), (11, Value.bool x10)]) h1 w0 aa ww ∧ J_1 x15) ?_ ?_
    · rcases Bool.eq_false_or_eq_true x10 with hb_1 | hb_1
      · replace H := H.1 hb_1
        refine OL.not S rfl rfl (GNo.mk rfl rfl hb_1) ?_
        clear S; intro aa S
        refine OL.not S rfl rfl (GNo.mk rfl rfl hb_1) ?_
        clear S; intro aa S
        refine OL.not S rfl rfl (GNo.mk rfl rfl hb_1) ?_
        clear S; intro aa S
        refine OL.pure S (Lf.run_pickT (S.ev rfl) hb_1 (S.ev rfl)) rfl rfl trivial ?_
        clear S; intro aa S
        refine OL.nil ?_
        exact ⟨_, S.sub _ ⟨rfl, rfl, rfl, rfl, rfl, rfl, rfl, rfl, trivial⟩, H⟩
      · replace H := H.2 hb_1
        refine OL.pure S (Lf.run_fa (S.ev rfl) fa32_0) rfl rfl (GOk.mk rfl rfl hb_1) ?_
        clear S; intro aa S
        obtain ⟨x13, c_2, H⟩ := H
        refine OL.pure S (Lf.run_ld (S.ev rfl) fl3 (S.cl c_2)) rfl rfl (GOk.mk rfl rfl hb_1) ?_
        clear S; intro aa S
        refine OL.pure S (Lf.run_eql (S.ev rfl) (S.ev rfl)) rfl rfl (GOk.mk rfl rfl hb_1) ?_
        clear S; intro aa S
        refine OL.pure S (Lf.run_pickF (S.ev rfl) hb_1 (S.ev rfl)) rfl rfl trivial ?_
        clear S; intro aa S
        refine OL.nil ?_
        exact ⟨_, S.sub _ ⟨rfl, rfl, rfl, rfl, rfl, rfl, rfl, rfl, trivial⟩, H⟩
    · clear S aa
      rintro aa ww ⟨x15, S, HJ⟩
      replace H := HK_1 _ HJ
      clear HK_1 HJ
      refine OL.pure S (Lf.run_assign (S.ev rfl)) rfl rfl trivial ?_
      clear S; intro aa S
      refine OL.nil ?_
      refine W.ret ?_
      exact Ret.one S rfl rfl H

/-- slices.Clone[[]int,int] -/
def L21 (s0 : Sv) (h : Heap) (R : Value → Heap → Prop) : Prop :=
  ifb (Option.isNone s0.a) (
    R (Value.slice (⟨none, 0, 0⟩ : Sv).a (⟨none, 0, 0⟩ : Sv).n (⟨none, 0, 0⟩ : Sv).c) h) (
    newS 3 #[] 0 h fun s5 h1 =>
    appS 3 (Value.int .i64 0).cells 1 8 h1 s5 s0 fun s7 h2 =>
    R (Value.slice s7.a s7.n s7.c) h2)

set_option maxRecDepth 100000 in

theorem F21 {s0 h : _} {R : Value → Heap → Prop} (H : L21 s0 h R) : CallsH Try.prog 21 #[Value.slice s0.a s0.n s0.c] h R := by
  refine CallsH.enter (n := 8) Try.func21 rfl rfl rfl rfl ?_
  intro w0 aa ww S
  unfold L21 at H
  refine W.seq ?_
  replace S := S.sub [(0, Value.slice s0.a s0.n s0.c)] ⟨rfl, trivial⟩
  refine W.region ?_
  refine OL.pure S (Lf.run_assign (S.ev rfl)) rfl rfl trivial ?_
  clear S; intro aa S
  refine OL.nil ?_
  refine W.seq ?_
  refine W.seq ?_
  replace S := S.sub [(0, Value.slice s0.a s0.n s0.c)] ⟨rfl, trivial⟩
  refine W.region ?_
  refine OL.pure S (Lf.run_move (S.ev rfl)) rfl rfl trivial ?_
  clear S; intro aa S
  refine OL.pure S (Lf.run_eqlsn Try.underlying30 (S.ev rfl) (S.ev rfl)) rfl rfl trivial ?_
  clear S; intro aa S
  refine OL.nil ?_
  refine W.cond S (b := (Option.isNone s0.a)) rfl (fun hb => ?_) (fun hb => ?_)
  · replace H := H.1 hb
    refine W.seq ?_
    replace S := S.sub [] trivial
    refine W.region ?_
    refine OL.pure S (Lf.run_assign (S.ev rfl)) rfl rfl trivial ?_
    clear S; intro aa S
    refine OL.nil ?_
    refine W.ret ?_
    exact Ret.one S rfl rfl H
  · replace H := H.2 hb
    refine W.skip ?_
    refine W.seq ?_
    replace S := S.sub [(0, Value.slice s0.a s0.n s0.c)] ⟨rfl, trivial⟩
    refine W.region ?_
    refine ol_newS0 S H Try.underlying30 ti3 rfl rfl trivial ?_
    clear S H aa; intro s5 aa ww h1 H S
    refine OL.pure S (Lf.run_move (S.ev rfl)) rfl rfl trivial ?_
    clear S; intro aa S
    refine ol_appS S H Try.underlying30 ti3 rfl rfl rfl trivial ?_
    clear S H aa; intro s7 aa ww h2 H S
    refine OL.pure S (Lf.run_assign (S.ev rfl)) rfl rfl trivial ?_
    clear S; intro aa S
    refine OL.nil ?_
    refine W.ret ?_
    exact Ret.one S rfl rfl H

/-- slices.Clone[[]chattel api.Type,chattel api.Type] -/
def L22 (s0 : Sv) (h : Heap) (R : Value → Heap → Prop) : Prop :=
  ifb (Option.isNone s0.a) (
    R (Value.slice (⟨none, 0, 0⟩ : Sv).a (⟨none, 0, 0⟩ : Sv).n (⟨none, 0, 0⟩ : Sv).c) h) (
    newS 32 #[] 0 h fun s5 h1 =>
    appS 32 (Value.agg #[Value.int .i64 0, Value.string (⟨#[]⟩ : ByteArray), Value.bool false, Value.int .i64 0, Value.slice (⟨none, 0, 0⟩ : Sv).a (⟨none, 0, 0⟩ : Sv).n (⟨none, 0, 0⟩ : Sv).c, Value.slice (⟨none, 0, 0⟩ : Sv).a (⟨none, 0, 0⟩ : Sv).n (⟨none, 0, 0⟩ : Sv).c]).cells 6 88 h1 s5 s0 fun s7 h2 =>
    R (Value.slice s7.a s7.n s7.c) h2)

set_option maxRecDepth 100000 in

theorem F22 {s0 h : _} {R : Value → Heap → Prop} (H : L22 s0 h R) : CallsH Try.prog 22 #[Value.slice s0.a s0.n s0.c] h R := by
  refine CallsH.enter (n := 8) Try.func22 rfl rfl rfl rfl ?_
  intro w0 aa ww S
  unfold L22 at H
  refine W.seq ?_
  replace S := S.sub [(0, Value.slice s0.a s0.n s0.c)] ⟨rfl, trivial⟩
  refine W.region ?_
  refine OL.pure S (Lf.run_assign (S.ev rfl)) rfl rfl trivial ?_
  clear S; intro aa S
  refine OL.nil ?_
  refine W.seq ?_
  refine W.seq ?_
  replace S := S.sub [(0, Value.slice s0.a s0.n s0.c)] ⟨rfl, trivial⟩
  refine W.region ?_
  refine OL.pure S (Lf.run_move (S.ev rfl)) rfl rfl trivial ?_
  clear S; intro aa S
  refine OL.pure S (Lf.run_eqlsn Try.underlying22 (S.ev rfl) (S.ev rfl)) rfl rfl trivial ?_
  clear S; intro aa S
  refine OL.nil ?_
  refine W.cond S (b := (Option.isNone s0.a)) rfl (fun hb => ?_) (fun hb => ?_)
  · replace H := H.1 hb
    refine W.seq ?_
    replace S := S.sub [] trivial
    refine W.region ?_
    refine OL.pure S (Lf.run_assign (S.ev rfl)) rfl rfl trivial ?_
    clear S; intro aa S
    refine OL.nil ?_
    refine W.ret ?_
    exact Ret.one S rfl rfl H
  · replace H := H.2 hb
    refine W.skip ?_
    refine W.seq ?_
    replace S := S.sub [(0, Value.slice s0.a s0.n s0.c)] ⟨rfl, trivial⟩
    refine W.region ?_
    refine ol_newS0 S H Try.underlying22 ti32 rfl rfl trivial ?_
    clear S H aa; intro s5 aa ww h1 H S
    refine OL.pure S (Lf.run_move (S.ev rfl)) rfl rfl trivial ?_
    clear S; intro aa S
    refine ol_appS S H Try.underlying22 ti32 rfl rfl rfl trivial ?_
    clear S H aa; intro s7 aa ww h2 H S
    refine OL.pure S (Lf.run_assign (S.ev rfl)) rfl rfl trivial ?_
    clear S; intro aa S
    refine OL.nil ?_
    refine W.ret ?_
    exact Ret.one S rfl rfl H

/-- (*chattel vary.finder).see -/
def L23 (f0 : Option Addr) (x1 : Int) (x1_1 : ByteArray) (x1_2 : Bool) (x1_3 : Int) (x1_4 : Sv) (x1_5 : Sv) (way2 : Int) (h : Heap) (R : Value → Heap → Prop) : Prop :=
  new 32 #[Value.int .i64 x1, Value.string x1_1, Value.bool x1_2, Value.int .i64 x1_3, Value.slice x1_4.a x1_4.n x1_4.c, Value.slice x1_5.a x1_5.n x1_5.c] h fun p4 h1 =>
  ∃ J : Int → Heap → Prop, (
    ldI .i64 h1 p4 fun x12 =>
    ifb (x12 == 9) (
      nn f0 fun p16 =>
      ldS h1 (p16.add 2) fun x19 =>
      ldT h1 (p4.add 1) fun x21 =>
      cal Try.prog 18 #[Value.slice x19.a x19.n x19.c, Value.string x21] h1 fun u h2 => asI .i64 u fun x22 =>
      ifb (decide (0 ≤ x22)) (
        nn f0 fun p26 =>
        ldS h2 (p26.add 5) fun x28 =>
        nn f0 fun p30 =>
        ldI .i64 h2 (p30.add 1) fun x33 =>
        ixS x28 (IntKind.i64.wrap (x33 + x22)) fun q36 =>
        ldI .i64 h2 (q36.add (((IntKind.i64.wrap (x33 + x22)) : Int).toNat * 1)) fun x37 =>
        ixS x28 (IntKind.i64.wrap (x33 + x22)) fun q40 =>
        sto h2 (q40.add (((IntKind.i64.wrap (x33 + x22)) : Int).toNat * 1)) (Value.int .i64 (bitsI .or .i64 x37 way2)) fun h3 =>
        J way2 h3) (
        J way2 h2)) (
      ifb (x12 == 8) (
        ldI .i64 h1 (p4.add 3) fun x45 =>
        cal Try.prog 28 #[Value.pointer f0, Value.int .i64 x45, Value.int .i64 way2] h1 fun u_1 h4 =>
        J way2 h4) (
        ifb (x12 == 7) (
          ldI .i64 h1 (p4.add 3) fun x52 =>
          cal Try.prog 28 #[Value.pointer f0, Value.int .i64 x52, Value.int .i64 way2] h1 fun u_2 h5 =>
          ldB h5 (p4.add 2) fun x56 =>
          ifb x56 (
            cal Try.prog 26 #[Value.int .i64 way2, Value.int .i64 3] h5 fun u_3 h6 => asI .i64 u_3 fun x58 =>
            J x58 h6) (
            J way2 h5)) (
          ifb (x12 == 5) (
            ∃ (y62 : Int) (y62_1 : ByteArray) (y62_2 : Bool) (y62_3 : Int) (y62_4 : Sv) (y62_5 : Sv), cl h1 p4 = some (Value.int .i64 y62) ∧ cl h1 (p4.add 1) = some (Value.string y62_1) ∧ cl h1 (p4.add 2) = some (Value.bool y62_2) ∧ cl h1 (p4.add 3) = some (Value.int .i64 y62_3) ∧ cl h1 (p4.add 4) = some (Value.slice y62_4.a y62_4.n y62_4.c) ∧ cl h1 (p4.add 5) = some (Value.slice y62_5.a y62_5.n y62_5.c) ∧
            cal Try.prog 29 #[Value.pointer f0, Value.agg #[Value.int .i64 y62, Value.string y62_1, Value.bool y62_2, Value.int .i64 y62_3, Value.slice y62_4.a y62_4.n y62_4.c, Value.slice y62_5.a y62_5.n y62_5.c], Value.int .i64 way2] h1 fun u_4 h7 =>
            R (.tuple #[]) h7) (
            J way2 h1))))) ∧ (∀ inner6 h8, J inner6 h8 →
  ldS h8 (p4.add 5) fun x66 =>
  ∃ (I : Int → Heap → Prop) (m : Int → Heap → Nat), I 0 h8 ∧ ∀ x68 h9, I x68 h9 →
  ifb (decide (x68 < ((x66.n : Nat) : Int))) (
    ixS x66 x68 fun q70 =>
    ∃ (y71 : Int) (y71_1 : ByteArray) (y71_2 : Bool) (y71_3 : Int) (y71_4 : Sv) (y71_5 : Sv), cl h9 (q70.add ((x68 : Int).toNat * 6)) = some (Value.int .i64 y71) ∧ cl h9 ((q70.add ((x68 : Int).toNat * 6)).add 1) = some (Value.string y71_1) ∧ cl h9 ((q70.add ((x68 : Int).toNat * 6)).add 2) = some (Value.bool y71_2) ∧ cl h9 ((q70.add ((x68 : Int).toNat * 6)).add 3) = some (Value.int .i64 y71_3) ∧ cl h9 ((q70.add ((x68 : Int).toNat * 6)).add 4) = some (Value.slice y71_4.a y71_4.n y71_4.c) ∧ cl h9 ((q70.add ((x68 : Int).toNat * 6)).add 5) = some (Value.slice y71_5.a y71_5.n y71_5.c) ∧
    new 32 #[Value.int .i64 0, Value.string (⟨#[]⟩ : ByteArray), Value.bool false, Value.int .i64 0, Value.slice (⟨none, 0, 0⟩ : Sv).a (⟨none, 0, 0⟩ : Sv).n (⟨none, 0, 0⟩ : Sv).c, Value.slice (⟨none, 0, 0⟩ : Sv).a (⟨none, 0, 0⟩ : Sv).n (⟨none, 0, 0⟩ : Sv).c] h9 fun p9 h10 =>
    stoA h10 p9 [Value.int .i64 y71, Value.string y71_1, Value.bool y71_2, Value.int .i64 y71_3, Value.slice y71_4.a y71_4.n y71_4.c, Value.slice y71_5.a y71_5.n y71_5.c] fun h11 =>
    ∃ (y73 : Int) (y73_1 : ByteArray) (y73_2 : Bool) (y73_3 : Int) (y73_4 : Sv) (y73_5 : Sv), cl h11 p9 = some (Value.int .i64 y73) ∧ cl h11 (p9.add 1) = some (Value.string y73_1) ∧ cl h11 (p9.add 2) = some (Value.bool y73_2) ∧ cl h11 (p9.add 3) = some (Value.int .i64 y73_3) ∧ cl h11 (p9.add 4) = some (Value.slice y73_4.a y73_4.n y73_4.c) ∧ cl h11 (p9.add 5) = some (Value.slice y73_5.a y73_5.n y73_5.c) ∧
    cal Try.prog 23 #[Value.pointer f0, Value.agg #[Value.int .i64 y73, Value.string y73_1, Value.bool y73_2, Value.int .i64 y73_3, Value.slice y73_4.a y73_4.n y73_4.c, Value.slice y73_5.a y73_5.n y73_5.c], Value.int .i64 inner6] h11 fun u_5 h12 =>
    I (IntKind.i64.wrap (x68 + 1)) h12 ∧ m (IntKind.i64.wrap (x68 + 1)) h12 < m x68 h9) (
    R (.tuple #[]) h9))

set_option maxRecDepth 100000 in

theorem F23 {f0 x1 x1_1 x1_2 x1_3 x1_4 x1_5 way2 h : _} {R : Value → Heap → Prop} (H : L23 f0 x1 x1_1 x1_2 x1_3 x1_4 x1_5 way2 h R) : CallsH Try.prog 23 #[Value.pointer f0, Value.agg #[Value.int .i64 x1, Value.string x1_1, Value.bool x1_2, Value.int .i64 x1_3, Value.slice x1_4.a x1_4.n x1_4.c, Value.slice x1_5.a x1_5.n x1_5.c], Value.int .i64 way2] h R := by
  refine CallsH.enter (n := 77) Try.func23 rfl rfl rfl rfl ?_
  intro w0 aa ww S
  unfold L23 at H
  refine W.seq ?_
  replace S := S.sub [(0, Value.pointer f0), (1, Value.agg #[Value.int .i64 x1, Value.string x1_1, Value.bool x1_2, Value.int .i64 x1_3, Value.slice x1_4.a x1_4.n x1_4.c, Value.slice x1_5.a x1_5.n x1_5.c]), (2, Value.int .i64 way2)] ⟨rfl, rfl, rfl, trivial⟩
  refine W.region ?_
  refine ol_box S H rfl rfl rfl trivial ?_
  clear S H aa; intro p4 aa ww h1 H S
  refine OL.nil ?_
  refine W.seq ?_
  replace S := S.sub [(0, Value.pointer f0), (2, Value.int .i64 way2), (4, Value.pointer (some p4))] ⟨rfl, rfl, rfl, trivial⟩
  refine W.region ?_
  refine OL.pure S (Lf.run_move (S.ev rfl)) rfl rfl trivial ?_
  clear S; intro aa S
  refine OL.pure S (Lf.run_assign (S.ev rfl)) rfl rfl trivial ?_
  clear S; intro aa S
  refine OL.nil ?_
  obtain ⟨J, H, HK⟩ := H
  refine W.seqJ (fun aa ww => ∃ inner6 h8, St 77 [(0, Value.pointer f0), (4, Value.pointer (some p4)), (6, Value.int .i64 inner6)] h8 w0 aa ww ∧ J inner6 h8) ?_ ?_
  · clear HK
    refine W.seq ?_
    replace S := S.sub [(0, Value.pointer f0), (2, Value.int .i64 way2), (4, Value.pointer (some p4)), (6, Value.int .i64 way2)] ⟨rfl, rfl, rfl, rfl, trivial⟩
    refine W.region ?_
    refine OL.pure S (Lf.run_fa (S.ev rfl) fa32_0) rfl rfl trivial ?_
    clear S; intro aa S
    obtain ⟨x12, c, H⟩ := H
    refine OL.pure S (Lf.run_ld (S.ev rfl) fl3 (S.cl c)) rfl rfl trivial ?_
    clear S; intro aa S
    refine OL.nil ?_
    refine W.block ?_
    refine W.seq ?_
    replace S := S.sub [(0, Value.pointer f0), (2, Value.int .i64 way2), (4, Value.pointer (some p4)), (6, Value.int .i64 way2), (12, Value.int .i64 x12)] ⟨rfl, rfl, rfl, rfl, rfl, trivial⟩
    refine W.region ?_
    refine OL.pure S (Lf.run_eql (S.ev rfl) (S.ev rfl)) rfl rfl trivial ?_
    clear S; intro aa S
    refine OL.pure S (Lf.run_assign (S.ev rfl)) rfl rfl trivial ?_
    clear S; intro aa S
    refine OL.nil ?_
    refine W.cond S (b := (x12 == 9)) rfl (fun hb => ?_) (fun hb => ?_)
    · replace H := H.1 hb
      refine W.seq ?_
      replace S := S.sub [(0, Value.pointer f0), (2, Value.int .i64 way2), (4, Value.pointer (some p4)), (6, Value.int .i64 way2)] ⟨rfl, rfl, rfl, rfl, trivial⟩
      refine W.regionD S (by kernel_rfl) ?_
      clear S; intro ww S
      refine AN.pure 0 S rfl (by kernel_rfl) (fun _ => Lf.run_move (S.ev rfl)) rfl rfl trivial ?_
      clear S; intro aa S
      obtain ⟨p16, e, H⟩ := H
      refine AN.pure 1 S rfl (by kernel_rfl) (fun _ => Lf.run_nc' (S.ev rfl) e) rfl rfl trivial ?_
      clear S; intro aa S
      refine AN.pure 2 S rfl (by kernel_rfl) (fun _ => Lf.run_fa (S.ev rfl) fa66_0) rfl rfl trivial ?_
      clear S; intro aa S
      refine AN.pure 3 S rfl (by kernel_rfl) (fun _ => Lf.run_fa (S.ev rfl) fa41_2) rfl rfl trivial ?_
      clear S; intro aa S
      obtain ⟨x19, c_1, H⟩ := H
      refine AN.load 4 S rfl (by kernel_rfl) (fun _ hx => Lf.run_ld (S.ev rfl) fl39 (hx.cell _ _ (S.cl c_1))) rfl rfl trivial ?_
      clear S; intro aa S
      refine AN.pure 5 S rfl (by kernel_rfl) (fun _ => Lf.run_fa (S.ev rfl) fa32_1) rfl rfl trivial ?_
      clear S; intro aa S
      obtain ⟨x21, c_2, H⟩ := H
      refine AN.load 6 S rfl (by kernel_rfl) (fun _ hx => Lf.run_ld (S.ev rfl) fl9 (hx.cell _ _ (S.cl c_2))) rfl rfl trivial ?_
      clear S; intro aa S
      refine AN.eff 7 rfl (by kernel_rfl) ?_
      refine ol_cal S H isfn18 rfl rfl trivial ?_
      clear S H aa; intro u aa ww h2 H S
      obtain ⟨x22, rfl, H⟩ := H
      refine OL.nil ?_
      refine AN.pure 8 S rfl (by kernel_rfl) (fun _ => Lf.run_assign (S.ev rfl)) rfl rfl trivial ?_
      clear S; intro aa S
      refine AN.done (by kernel_rfl) ?_
      refine W.seq ?_
      replace S := S.sub [(0, Value.pointer f0), (2, Value.int .i64 way2), (4, Value.pointer (some p4)), (6, Value.int .i64 way2), (7, Value.int .i64 x22)] ⟨rfl, rfl, rfl, rfl, rfl, trivial⟩
      refine W.region ?_
      refine OL.pure S (Lf.run_move (S.ev rfl)) rfl rfl trivial ?_
      clear S; intro aa S
      refine OL.pure S (Lf.run_geq (S.ev rfl) (S.ev rfl)) rfl rfl trivial ?_
      clear S; intro aa S
      refine OL.nil ?_
      refine W.cond S (b := (decide (0 ≤ x22))) rfl (fun hb_1 => ?_) (fun hb_1 => ?_)
      · replace H := H.1 hb_1
        replace S := S.sub [(0, Value.pointer f0), (2, Value.int .i64 way2), (4, Value.pointer (some p4)), (6, Value.int .i64 way2), (7, Value.int .i64 x22)] ⟨rfl, rfl, rfl, rfl, rfl, trivial⟩
        refine W.regionD S (by kernel_rfl) ?_
        clear S; intro ww S
        refine AN.pure 0 S rfl (by kernel_rfl) (fun _ => Lf.run_move (S.ev rfl)) rfl rfl trivial ?_
        clear S; intro aa S
        obtain ⟨p26, e_1, H⟩ := H
        refine AN.pure 1 S rfl (by kernel_rfl) (fun _ => Lf.run_nc' (S.ev rfl) e_1) rfl rfl trivial ?_
        clear S; intro aa S
        refine AN.pure 2 S rfl (by kernel_rfl) (fun _ => Lf.run_fa (S.ev rfl) fa66_2) rfl rfl trivial ?_
        clear S; intro aa S
        obtain ⟨x28, c_3, H⟩ := H
        refine AN.load 3 S rfl (by kernel_rfl) (fun _ hx => Lf.run_ld (S.ev rfl) fl30 (hx.cell _ _ (S.cl c_3))) rfl rfl trivial ?_
        clear S; intro aa S
        refine AN.pure 4 S rfl (by kernel_rfl) (fun _ => Lf.run_move (S.ev rfl)) rfl rfl trivial ?_
        clear S; intro aa S
        obtain ⟨p30, e_2, H⟩ := H
        refine AN.pure 5 S rfl (by kernel_rfl) (fun _ => Lf.run_nc' (S.ev rfl) e_2) rfl rfl trivial ?_
        clear S; intro aa S
        refine AN.pure 6 S rfl (by kernel_rfl) (fun _ => Lf.run_fa (S.ev rfl) fa66_0) rfl rfl trivial ?_
        clear S; intro aa S
        refine AN.pure 7 S rfl (by kernel_rfl) (fun _ => Lf.run_fa (S.ev rfl) fa41_1) rfl rfl trivial ?_
        clear S; intro aa S
        obtain ⟨x33, c_4, H⟩ := H
        refine AN.load 8 S rfl (by kernel_rfl) (fun _ hx => Lf.run_ld (S.ev rfl) fl3 (hx.cell _ _ (S.cl c_4))) rfl rfl trivial ?_
        clear S; intro aa S
        refine AN.pure 9 S rfl (by kernel_rfl) (fun _ => Lf.run_move (S.ev rfl)) rfl rfl trivial ?_
        clear S; intro aa S
        refine AN.pure 10 S rfl (by kernel_rfl) (fun _ => Lf.run_add (S.ev rfl) (S.ev rfl)) rfl rfl trivial ?_
        clear S; intro aa S
        obtain ⟨q36, e_3, e_4, e_5, H⟩ := H
        refine AN.pure 11 S rfl (by kernel_rfl) (fun _ => Lf.run_ixs (S.ev rfl) (S.ev rfl) Try.underlying30 ti3 e_3 e_4 e_5) rfl rfl trivial ?_
        clear S; intro aa S
        obtain ⟨x37, c_5, H⟩ := H
        refine AN.load 12 S rfl (by kernel_rfl) (fun _ hx => Lf.run_ld (S.ev rfl) fl3 (hx.cell _ _ (S.cl c_5))) rfl rfl trivial ?_
        clear S; intro aa S
        refine AN.pure 13 S rfl (by kernel_rfl) (fun _ => Lf.run_move (S.ev rfl)) rfl rfl trivial ?_
        clear S; intro aa S
        refine AN.pure 14 S rfl (by kernel_rfl) (fun _ => Lf.run_bits (op := .or) (by simp) (S.ev rfl) (S.ev rfl)) rfl rfl trivial ?_
        clear S; intro aa S
        obtain ⟨q40, e_6, e_7, e_8, H⟩ := H
        refine AN.pure 15 S rfl (by kernel_rfl) (fun _ => Lf.run_ixs (S.ev rfl) (S.ev rfl) Try.underlying30 ti3 e_6 e_7 e_8) rfl rfl trivial ?_
        clear S; intro aa S
        refine AN.eff 16 rfl (by kernel_rfl) ?_
        refine ol_sto S H rfl rfl rfl ti3 trivial ?_
        clear S H aa; intro aa ww h3 H S
        refine OL.nil ?_
        refine AN.done (by kernel_rfl) ?_
        exact ⟨way2, h3, S.sub _ ⟨rfl, rfl, rfl, trivial⟩, H⟩
      · replace H := H.2 hb_1
        refine W.skip ?_
        exact ⟨way2, h2, S.sub _ ⟨rfl, rfl, rfl, trivial⟩, H⟩
    · replace H := H.2 hb
      refine W.seq ?_
      replace S := S.sub [(0, Value.pointer f0), (2, Value.int .i64 way2), (4, Value.pointer (some p4)), (6, Value.int .i64 way2), (12, Value.int .i64 x12)] ⟨rfl, rfl, rfl, rfl, rfl, trivial⟩
      refine W.region ?_
      refine OL.pure S (Lf.run_eql (S.ev rfl) (S.ev rfl)) rfl rfl trivial ?_
      clear S; intro aa S
      refine OL.pure S (Lf.run_assign (S.ev rfl)) rfl rfl trivial ?_
      clear S; intro aa S
      refine OL.nil ?_
      refine W.cond S (b := (x12 == 8)) rfl (fun hb_2 => ?_) (fun hb_2 => ?_)
      · replace H := H.1 hb_2
        replace S := S.sub [(0, Value.pointer f0), (2, Value.int .i64 way2), (4, Value.pointer (some p4)), (6, Value.int .i64 way2)] ⟨rfl, rfl, rfl, rfl, trivial⟩
        refine W.region ?_
        refine OL.pure S (Lf.run_move (S.ev rfl)) rfl rfl trivial ?_
        clear S; intro aa S
        refine OL.pure S (Lf.run_fa (S.ev rfl) fa32_3) rfl rfl trivial ?_
        clear S; intro aa S
        obtain ⟨x45, c_6, H⟩ := H
        refine OL.pure S (Lf.run_ld (S.ev rfl) fl3 (S.cl c_6)) rfl rfl trivial ?_
        clear S; intro aa S
        refine OL.pure S (Lf.run_move (S.ev rfl)) rfl rfl trivial ?_
        clear S; intro aa S
        refine ol_cal S H isfn28 rfl rfl trivial ?_
        clear S H aa; intro u_1 aa ww h4 H S
        refine OL.nil ?_
        exact ⟨way2, h4, S.sub _ ⟨rfl, rfl, rfl, trivial⟩, H⟩
      · replace H := H.2 hb_2
        refine W.seq ?_
        replace S := S.sub [(0, Value.pointer f0), (2, Value.int .i64 way2), (4, Value.pointer (some p4)), (6, Value.int .i64 way2), (12, Value.int .i64 x12)] ⟨rfl, rfl, rfl, rfl, rfl, trivial⟩
        refine W.region ?_
        refine OL.pure S (Lf.run_eql (S.ev rfl) (S.ev rfl)) rfl rfl trivial ?_
        clear S; intro aa S
        refine OL.pure S (Lf.run_assign (S.ev rfl)) rfl rfl trivial ?_
        clear S; intro aa S
        refine OL.nil ?_
        refine W.cond S (b := (x12 == 7)) rfl (fun hb_3 => ?_) (fun hb_3 => ?_)
        · replace H := H.1 hb_3
          refine W.seq ?_
          replace S := S.sub [(0, Value.pointer f0), (2, Value.int .i64 way2), (4, Value.pointer (some p4)), (6, Value.int .i64 way2)] ⟨rfl, rfl, rfl, rfl, trivial⟩
          refine W.region ?_
          refine OL.pure S (Lf.run_move (S.ev rfl)) rfl rfl trivial ?_
          clear S; intro aa S
          refine OL.pure S (Lf.run_fa (S.ev rfl) fa32_3) rfl rfl trivial ?_
          clear S; intro aa S
          obtain ⟨x52, c_7, H⟩ := H
          refine OL.pure S (Lf.run_ld (S.ev rfl) fl3 (S.cl c_7)) rfl rfl trivial ?_
          clear S; intro aa S
          refine OL.pure S (Lf.run_move (S.ev rfl)) rfl rfl trivial ?_
          clear S; intro aa S
          refine ol_cal S H isfn28 rfl rfl trivial ?_
          clear S H aa; intro u_2 aa ww h5 H S
          refine OL.nil ?_
          refine W.seq ?_
          replace S := S.sub [(0, Value.pointer f0), (2, Value.int .i64 way2), (4, Value.pointer (some p4)), (6, Value.int .i64 way2)] ⟨rfl, rfl, rfl, rfl, trivial⟩
          refine W.region ?_
          refine OL.pure S (Lf.run_fa (S.ev rfl) fa32_2) rfl rfl trivial ?_
          clear S; intro aa S
          obtain ⟨x56, c_8, H⟩ := H
          refine OL.pure S (Lf.run_ld (S.ev rfl) fl4 (S.cl c_8)) rfl rfl trivial ?_
          clear S; intro aa S
          refine OL.nil ?_
          refine W.cond S (b := x56) rfl (fun hb_4 => ?_) (fun hb_4 => ?_)
          · replace H := H.1 hb_4
            replace S := S.sub [(0, Value.pointer f0), (2, Value.int .i64 way2), (4, Value.pointer (some p4))] ⟨rfl, rfl, rfl, trivial⟩
            refine W.region ?_
            refine OL.pure S (Lf.run_move (S.ev rfl)) rfl rfl trivial ?_
            clear S; intro aa S
            refine ol_cal S H isfn26 rfl rfl trivial ?_
            clear S H aa; intro u_3 aa ww h6 H S
            obtain ⟨x58, rfl, H⟩ := H
            refine OL.pure S (Lf.run_assign (S.ev rfl)) rfl rfl trivial ?_
            clear S; intro aa S
            refine OL.nil ?_
            exact ⟨x58, h6, S.sub _ ⟨rfl, rfl, rfl, trivial⟩, H⟩
          · replace H := H.2 hb_4
            refine W.skip ?_
            exact ⟨way2, h5, S.sub _ ⟨rfl, rfl, rfl, trivial⟩, H⟩
        · replace H := H.2 hb_3
          refine W.seq ?_
          replace S := S.sub [(0, Value.pointer f0), (2, Value.int .i64 way2), (4, Value.pointer (some p4)), (6, Value.int .i64 way2), (12, Value.int .i64 x12)] ⟨rfl, rfl, rfl, rfl, rfl, trivial⟩
          refine W.region ?_
          refine OL.pure S (Lf.run_eql (S.ev rfl) (S.ev rfl)) rfl rfl trivial ?_
          clear S; intro aa S
          refine OL.pure S (Lf.run_assign (S.ev rfl)) rfl rfl trivial ?_
          clear S; intro aa S
          refine OL.nil ?_
          refine W.cond S (b := (x12 == 5)) rfl (fun hb_5 => ?_) (fun hb_5 => ?_)
          · replace H := H.1 hb_5
            refine W.seq ?_
            replace S := S.sub [(0, Value.pointer f0), (2, Value.int .i64 way2), (4, Value.pointer (some p4))] ⟨rfl, rfl, rfl, trivial⟩
            refine W.region ?_
            refine OL.pure S (Lf.run_move (S.ev rfl)) rfl rfl trivial ?_
            clear S; intro aa S
            obtain ⟨y62, y62_1, y62_2, y62_3, y62_4, y62_5, c_10, c_11, c_12, c_13, c_14, c_15, H⟩ := H
            refine OL.pure S (Lf.run_ldA (cs := [Value.int .i64 y62, Value.string y62_1, Value.bool y62_2, Value.int .i64 y62_3, Value.slice y62_4.a y62_4.n y62_4.c, Value.slice y62_5.a y62_5.n y62_5.c]) (S.ev rfl) ag32 ti32 (by rw [S.heap]; exact RowL.toRow ⟨c_10, c_11, c_12, c_13, c_14, c_15, trivial⟩)) rfl rfl trivial ?_
            clear S; intro aa S
            refine OL.pure S (Lf.run_move (S.ev rfl)) rfl rfl trivial ?_
            clear S; intro aa S
            refine ol_cal S H isfn29 rfl rfl trivial ?_
            clear S H aa; intro u_4 aa ww h7 H S
            refine OL.nil ?_
            refine W.ret ?_
            exact Ret.none S rfl H
          · replace H := H.2 hb_5
            refine W.skip ?_
            exact ⟨way2, h1, S.sub _ ⟨rfl, rfl, rfl, trivial⟩, H⟩
  · clear H S aa
    rintro aa ww ⟨inner6, h8, S, HJ⟩
    have H := HK _ _ HJ
    clear HK HJ
    refine W.seq ?_
    replace S := S.sub [(0, Value.pointer f0), (4, Value.pointer (some p4)), (6, Value.int .i64 inner6)] ⟨rfl, rfl, rfl, trivial⟩
    refine W.region ?_
    refine OL.pure S (Lf.run_fa (S.ev rfl) fa32_5) rfl rfl trivial ?_
    clear S; intro aa S
    obtain ⟨x66, c_16, H⟩ := H
    refine OL.pure S (Lf.run_ld (S.ev rfl) fl22 (S.cl c_16)) rfl rfl trivial ?_
    clear S; intro aa S
    refine OL.pure S (Lf.run_lens (S.ev rfl) rfl Try.underlying22) rfl rfl trivial ?_
    clear S; intro aa S
    refine OL.pure S (Lf.run_move (S.ev rfl)) rfl rfl trivial ?_
    clear S; intro aa S
    refine OL.nil ?_
    refine W.block ?_
    obtain ⟨I, m, H, HB⟩ := H
    refine W.loopS (σ := Int × Heap) (fun s aa ww => St 77 [(0, Value.pointer f0), (6, Value.int .i64 inner6), (66, Value.slice x66.a x66.n x66.c), (67, Value.int .i64 ((x66.n : Nat) : Int)), (68, Value.int .i64 s.1)] s.2 w0 aa ww ∧ I s.1 s.2) (fun s => m s.1 s.2) (0, h8) ⟨S.sub _ ⟨rfl, rfl, rfl, rfl, rfl, trivial⟩, H⟩ ?_
    clear H S aa
    rintro ⟨x68, h9⟩ aa ww ⟨S, HI⟩
    replace S : St 77 [(0, Value.pointer f0), (6, Value.int .i64 inner6), (66, Value.slice x66.a x66.n x66.c), (67, Value.int .i64 ((x66.n : Nat) : Int)), (68, Value.int .i64 x68)] h9 w0 aa ww := S
    have H := HB x68 h9 HI
    clear HI
    refine W.seq ?_
    replace S := S.sub [(0, Value.pointer f0), (6, Value.int .i64 inner6), (66, Value.slice x66.a x66.n x66.c), (67, Value.int .i64 ((x66.n : Nat) : Int)), (68, Value.int .i64 x68)] ⟨rfl, rfl, rfl, rfl, rfl, trivial⟩
    refine W.region ?_
    refine OL.pure S (Lf.run_lss (S.ev rfl) (S.ev rfl)) rfl rfl trivial ?_
    clear S; intro aa S
    refine OL.nil ?_
    refine W.seq ?_
    refine W.cond S (b := (decide (x68 < ((x66.n : Nat) : Int)))) rfl (fun hb_6 => ?_) (fun hb_6 => ?_)
    · replace H := H.1 hb_6
      refine W.skip ?_
      refine W.seq ?_
      refine W.block ?_
      refine W.seq ?_
      replace S := S.sub [(0, Value.pointer f0), (6, Value.int .i64 inner6), (66, Value.slice x66.a x66.n x66.c), (67, Value.int .i64 ((x66.n : Nat) : Int)), (68, Value.int .i64 x68)] ⟨rfl, rfl, rfl, rfl, rfl, trivial⟩
      refine W.region ?_
      obtain ⟨q70, e_9, e_10, e_11, H⟩ := H
      refine OL.pure S (Lf.run_ixs (S.ev rfl) (S.ev rfl) Try.underlying22 ti32 e_9 e_10 e_11) rfl rfl trivial ?_
      clear S; intro aa S
      obtain ⟨y71, y71_1, y71_2, y71_3, y71_4, y71_5, c_25, c_26, c_27, c_28, c_29, c_30, H⟩ := H
      refine OL.pure S (Lf.run_ldA (cs := [Value.int .i64 y71, Value.string y71_1, Value.bool y71_2, Value.int .i64 y71_3, Value.slice y71_4.a y71_4.n y71_4.c, Value.slice y71_5.a y71_5.n y71_5.c]) (S.ev rfl) ag32 ti32 (by rw [S.heap]; exact RowL.toRow ⟨c_25, c_26, c_27, c_28, c_29, c_30, trivial⟩)) rfl rfl trivial ?_
      clear S; intro aa S
      refine ol_alloc S H ti32 rfl rfl trivial ?_
      clear S H aa; intro p9 aa ww h10 H S
      refine ol_stoA S H rfl rfl ti32 trivial ?_
      clear S H aa; intro aa ww h11 H S
      refine OL.nil ?_
      replace S := S.sub [(0, Value.pointer f0), (6, Value.int .i64 inner6), (9, Value.pointer (some p9)), (66, Value.slice x66.a x66.n x66.c), (67, Value.int .i64 ((x66.n : Nat) : Int)), (68, Value.int .i64 x68)] ⟨rfl, rfl, rfl, rfl, rfl, rfl, trivial⟩
      refine W.region ?_
      refine OL.pure S (Lf.run_move (S.ev rfl)) rfl rfl trivial ?_
      clear S; intro aa S
      obtain ⟨y73, y73_1, y73_2, y73_3, y73_4, y73_5, c_19, c_20, c_21, c_22, c_23, c_24, H⟩ := H
      refine OL.pure S (Lf.run_ldA (cs := [Value.int .i64 y73, Value.string y73_1, Value.bool y73_2, Value.int .i64 y73_3, Value.slice y73_4.a y73_4.n y73_4.c, Value.slice y73_5.a y73_5.n y73_5.c]) (S.ev rfl) ag32 ti32 (by rw [S.heap]; exact RowL.toRow ⟨c_19, c_20, c_21, c_22, c_23, c_24, trivial⟩)) rfl rfl trivial ?_
      clear S; intro aa S
      refine OL.pure S (Lf.run_move (S.ev rfl)) rfl rfl trivial ?_
      clear S; intro aa S
      refine ol_cal S H isfn23 rfl rfl trivial ?_
      clear S H aa; intro u_5 aa ww h12 H S
      refine OL.nil ?_
      replace S := S.sub [(0, Value.pointer f0), (6, Value.int .i64 inner6), (66, Value.slice x66.a x66.n x66.c), (67, Value.int .i64 ((x66.n : Nat) : Int)), (68, Value.int .i64 x68)] ⟨rfl, rfl, rfl, rfl, rfl, trivial⟩
      refine W.region ?_
      refine OL.pure S (Lf.run_add (S.ev rfl) (S.ev rfl)) rfl rfl trivial ?_
      clear S; intro aa S
      refine OL.pure S (Lf.run_move (S.ev rfl)) rfl rfl trivial ?_
      clear S; intro aa S
      refine OL.nil ?_
      exact ⟨((IntKind.i64.wrap (x68 + 1)), h12), ⟨S.sub _ ⟨rfl, rfl, rfl, rfl, rfl, trivial⟩, H.1⟩, H.2⟩
    · replace H := H.2 hb_6
      refine W.exit_ ?_
      refine xhit ?_
      exact Ret.none S rfl H

/-- slices.EqualFunc[[]chattel api.Type,[]chattel api.Type,chattel api.Type,chattel api.Type] -/
def L24 (s10 : Sv) (s21 : Sv) (eq2 : Value) (h : Heap) (R : Value → Heap → Prop) : Prop :=
  ifb (((s10.n : Nat) : Int) != ((s21.n : Nat) : Int)) (
    R (Value.bool false) h) (
    ∃ (I : Int → Heap → Prop) (m : Int → Heap → Nat), I 0 h ∧ ∀ x17 h1, I x17 h1 →
    ifb (decide (x17 < ((s10.n : Nat) : Int))) (
      ixS s10 x17 fun q20 =>
      ∃ (y21 : Int) (y21_1 : ByteArray) (y21_2 : Bool) (y21_3 : Int) (y21_4 : Sv) (y21_5 : Sv), cl h1 (q20.add ((x17 : Int).toNat * 6)) = some (Value.int .i64 y21) ∧ cl h1 ((q20.add ((x17 : Int).toNat * 6)).add 1) = some (Value.string y21_1) ∧ cl h1 ((q20.add ((x17 : Int).toNat * 6)).add 2) = some (Value.bool y21_2) ∧ cl h1 ((q20.add ((x17 : Int).toNat * 6)).add 3) = some (Value.int .i64 y21_3) ∧ cl h1 ((q20.add ((x17 : Int).toNat * 6)).add 4) = some (Value.slice y21_4.a y21_4.n y21_4.c) ∧ cl h1 ((q20.add ((x17 : Int).toNat * 6)).add 5) = some (Value.slice y21_5.a y21_5.n y21_5.c) ∧
      new 32 #[Value.int .i64 0, Value.string (⟨#[]⟩ : ByteArray), Value.bool false, Value.int .i64 0, Value.slice (⟨none, 0, 0⟩ : Sv).a (⟨none, 0, 0⟩ : Sv).n (⟨none, 0, 0⟩ : Sv).c, Value.slice (⟨none, 0, 0⟩ : Sv).a (⟨none, 0, 0⟩ : Sv).n (⟨none, 0, 0⟩ : Sv).c] h1 fun p8 h2 =>
      stoA h2 p8 [Value.int .i64 y21, Value.string y21_1, Value.bool y21_2, Value.int .i64 y21_3, Value.slice y21_4.a y21_4.n y21_4.c, Value.slice y21_5.a y21_5.n y21_5.c] fun h3 =>
      ixS s21 x17 fun q24 =>
      ∃ (y25 : Int) (y25_1 : ByteArray) (y25_2 : Bool) (y25_3 : Int) (y25_4 : Sv) (y25_5 : Sv), cl h3 (q24.add ((x17 : Int).toNat * 6)) = some (Value.int .i64 y25) ∧ cl h3 ((q24.add ((x17 : Int).toNat * 6)).add 1) = some (Value.string y25_1) ∧ cl h3 ((q24.add ((x17 : Int).toNat * 6)).add 2) = some (Value.bool y25_2) ∧ cl h3 ((q24.add ((x17 : Int).toNat * 6)).add 3) = some (Value.int .i64 y25_3) ∧ cl h3 ((q24.add ((x17 : Int).toNat * 6)).add 4) = some (Value.slice y25_4.a y25_4.n y25_4.c) ∧ cl h3 ((q24.add ((x17 : Int).toNat * 6)).add 5) = some (Value.slice y25_5.a y25_5.n y25_5.c) ∧
      new 32 #[Value.int .i64 0, Value.string (⟨#[]⟩ : ByteArray), Value.bool false, Value.int .i64 0, Value.slice (⟨none, 0, 0⟩ : Sv).a (⟨none, 0, 0⟩ : Sv).n (⟨none, 0, 0⟩ : Sv).c, Value.slice (⟨none, 0, 0⟩ : Sv).a (⟨none, 0, 0⟩ : Sv).n (⟨none, 0, 0⟩ : Sv).c] h3 fun p9 h4 =>
      stoA h4 p9 [Value.int .i64 y25, Value.string y25_1, Value.bool y25_2, Value.int .i64 y25_3, Value.slice y25_4.a y25_4.n y25_4.c, Value.slice y25_5.a y25_5.n y25_5.c] fun h5 =>
      ∃ (y27 : Int) (y27_1 : ByteArray) (y27_2 : Bool) (y27_3 : Int) (y27_4 : Sv) (y27_5 : Sv), cl h5 p8 = some (Value.int .i64 y27) ∧ cl h5 (p8.add 1) = some (Value.string y27_1) ∧ cl h5 (p8.add 2) = some (Value.bool y27_2) ∧ cl h5 (p8.add 3) = some (Value.int .i64 y27_3) ∧ cl h5 (p8.add 4) = some (Value.slice y27_4.a y27_4.n y27_4.c) ∧ cl h5 (p8.add 5) = some (Value.slice y27_5.a y27_5.n y27_5.c) ∧
      ∃ (y28 : Int) (y28_1 : ByteArray) (y28_2 : Bool) (y28_3 : Int) (y28_4 : Sv) (y28_5 : Sv), cl h5 p9 = some (Value.int .i64 y28) ∧ cl h5 (p9.add 1) = some (Value.string y28_1) ∧ cl h5 (p9.add 2) = some (Value.bool y28_2) ∧ cl h5 (p9.add 3) = some (Value.int .i64 y28_3) ∧ cl h5 (p9.add 4) = some (Value.slice y28_4.a y28_4.n y28_4.c) ∧ cl h5 (p9.add 5) = some (Value.slice y28_5.a y28_5.n y28_5.c) ∧
      calV Try.prog eq2 #[Value.agg #[Value.int .i64 y27, Value.string y27_1, Value.bool y27_2, Value.int .i64 y27_3, Value.slice y27_4.a y27_4.n y27_4.c, Value.slice y27_5.a y27_5.n y27_5.c], Value.agg #[Value.int .i64 y28, Value.string y28_1, Value.bool y28_2, Value.int .i64 y28_3, Value.slice y28_4.a y28_4.n y28_4.c, Value.slice y28_5.a y28_5.n y28_5.c]] h5 fun u h6 => asB u fun x29 =>
      ifb (!x29) (
        R (Value.bool false) h6) (
        I (IntKind.i64.wrap (x17 + 1)) h6 ∧ m (IntKind.i64.wrap (x17 + 1)) h6 < m x17 h1)) (
      R (Value.bool true) h1))

set_option maxRecDepth 100000 in

theorem F24 {s10 s21 eq2 h : _} {R : Value → Heap → Prop} (H : L24 s10 s21 eq2 h R) : CallsH Try.prog 24 #[Value.slice s10.a s10.n s10.c, Value.slice s21.a s21.n s21.c, eq2] h R := by
  refine CallsH.enter (n := 32) Try.func24 rfl rfl rfl rfl ?_
  intro w0 aa ww S
  unfold L24 at H
  refine W.seq ?_
  replace S := S.sub [(0, Value.slice s10.a s10.n s10.c), (1, Value.slice s21.a s21.n s21.c), (2, eq2)] ⟨rfl, rfl, rfl, trivial⟩
  refine W.region ?_
  refine OL.pure S (Lf.run_assign (S.ev rfl)) rfl rfl trivial ?_
  clear S; intro aa S
  refine OL.nil ?_
  refine W.seq ?_
  refine W.seq ?_
  replace S := S.sub [(0, Value.slice s10.a s10.n s10.c), (1, Value.slice s21.a s21.n s21.c), (2, eq2)] ⟨rfl, rfl, rfl, trivial⟩
  refine W.region ?_
  refine OL.pure S (Lf.run_move (S.ev rfl)) rfl rfl trivial ?_
  clear S; intro aa S
  refine OL.pure S (Lf.run_lens (S.ev rfl) rfl Try.underlying22) rfl rfl trivial ?_
  clear S; intro aa S
  refine OL.pure S (Lf.run_move (S.ev rfl)) rfl rfl trivial ?_
  clear S; intro aa S
  refine OL.pure S (Lf.run_lens (S.ev rfl) rfl Try.underlying22) rfl rfl trivial ?_
  clear S; intro aa S
  refine OL.pure S (Lf.run_neq (S.ev rfl) (S.ev rfl)) rfl rfl trivial ?_
  clear S; intro aa S
  refine OL.nil ?_
  refine W.cond S (b := (((s10.n : Nat) : Int) != ((s21.n : Nat) : Int))) rfl (fun hb => ?_) (fun hb => ?_)
  · replace H := H.1 hb
    refine W.seq ?_
    replace S := S.sub [] trivial
    refine W.region ?_
    refine OL.pure S (Lf.run_assign (S.ev rfl)) rfl rfl trivial ?_
    clear S; intro aa S
    refine OL.nil ?_
    refine W.ret ?_
    exact Ret.one S rfl rfl H
  · replace H := H.2 hb
    refine W.skip ?_
    refine W.seq ?_
    refine W.seq ?_
    replace S := S.sub [(0, Value.slice s10.a s10.n s10.c), (1, Value.slice s21.a s21.n s21.c), (2, eq2)] ⟨rfl, rfl, rfl, trivial⟩
    refine W.region ?_
    refine OL.pure S (Lf.run_move (S.ev rfl)) rfl rfl trivial ?_
    clear S; intro aa S
    refine OL.pure S (Lf.run_lens (S.ev rfl) rfl Try.underlying22) rfl rfl trivial ?_
    clear S; intro aa S
    refine OL.pure S (Lf.run_move (S.ev rfl)) rfl rfl trivial ?_
    clear S; intro aa S
    refine OL.nil ?_
    refine W.block ?_
    obtain ⟨I, m, H, HB⟩ := H
    refine W.loopS (σ := Int × Heap) (fun s aa ww => St 32 [(1, Value.slice s21.a s21.n s21.c), (2, eq2), (15, Value.slice s10.a s10.n s10.c), (16, Value.int .i64 ((s10.n : Nat) : Int)), (17, Value.int .i64 s.1)] s.2 w0 aa ww ∧ I s.1 s.2) (fun s => m s.1 s.2) (0, h) ⟨S.sub _ ⟨rfl, rfl, rfl, rfl, rfl, trivial⟩, H⟩ ?_
    clear H S aa
    rintro ⟨x17, h1⟩ aa ww ⟨S, HI⟩
    replace S : St 32 [(1, Value.slice s21.a s21.n s21.c), (2, eq2), (15, Value.slice s10.a s10.n s10.c), (16, Value.int .i64 ((s10.n : Nat) : Int)), (17, Value.int .i64 x17)] h1 w0 aa ww := S
    have H := HB x17 h1 HI
    clear HI
    refine W.seq ?_
    replace S := S.sub [(1, Value.slice s21.a s21.n s21.c), (2, eq2), (15, Value.slice s10.a s10.n s10.c), (16, Value.int .i64 ((s10.n : Nat) : Int)), (17, Value.int .i64 x17)] ⟨rfl, rfl, rfl, rfl, rfl, trivial⟩
    refine W.region ?_
    refine OL.pure S (Lf.run_lss (S.ev rfl) (S.ev rfl)) rfl rfl trivial ?_
    clear S; intro aa S
    refine OL.nil ?_
    refine W.seq ?_
    refine W.cond S (b := (decide (x17 < ((s10.n : Nat) : Int)))) rfl (fun hb_1 => ?_) (fun hb_1 => ?_)
    · replace H := H.1 hb_1
      refine W.skip ?_
      refine W.seq ?_
      refine W.block ?_
      refine W.seq ?_
      replace S := S.sub [(1, Value.slice s21.a s21.n s21.c), (2, eq2), (15, Value.slice s10.a s10.n s10.c), (16, Value.int .i64 ((s10.n : Nat) : Int)), (17, Value.int .i64 x17)] ⟨rfl, rfl, rfl, rfl, rfl, trivial⟩
      refine W.region ?_
      refine OL.pure S (Lf.run_move (S.ev rfl)) rfl rfl trivial ?_
      clear S; intro aa S
      obtain ⟨q20, e, e_1, e_2, H⟩ := H
      refine OL.pure S (Lf.run_ixs (S.ev rfl) (S.ev rfl) Try.underlying22 ti32 e e_1 e_2) rfl rfl trivial ?_
      clear S; intro aa S
      obtain ⟨y21, y21_1, y21_2, y21_3, y21_4, y21_5, c_22, c_23, c_24, c_25, c_26, c_27, H⟩ := H
      refine OL.pure S (Lf.run_ldA (cs := [Value.int .i64 y21, Value.string y21_1, Value.bool y21_2, Value.int .i64 y21_3, Value.slice y21_4.a y21_4.n y21_4.c, Value.slice y21_5.a y21_5.n y21_5.c]) (S.ev rfl) ag32 ti32 (by rw [S.heap]; exact RowL.toRow ⟨c_22, c_23, c_24, c_25, c_26, c_27, trivial⟩)) rfl rfl trivial ?_
      clear S; intro aa S
      refine ol_alloc S H ti32 rfl rfl trivial ?_
      clear S H aa; intro p8 aa ww h2 H S
      refine OL.pure S (Lf.run_assign (S.ev rfl)) rfl rfl trivial ?_
      clear S; intro aa S
      refine ol_stoA S H rfl rfl ti32 trivial ?_
      clear S H aa; intro aa ww h3 H S
      refine OL.nil ?_
      refine W.seq ?_
      replace S := S.sub [(1, Value.slice s21.a s21.n s21.c), (2, eq2), (7, Value.int .i64 x17), (8, Value.pointer (some p8)), (15, Value.slice s10.a s10.n s10.c), (16, Value.int .i64 ((s10.n : Nat) : Int)), (17, Value.int .i64 x17)] ⟨rfl, rfl, rfl, rfl, rfl, rfl, rfl, trivial⟩
      refine W.region ?_
      refine OL.pure S (Lf.run_move (S.ev rfl)) rfl rfl trivial ?_
      clear S; intro aa S
      refine OL.pure S (Lf.run_move (S.ev rfl)) rfl rfl trivial ?_
      clear S; intro aa S
      obtain ⟨q24, e_3, e_4, e_5, H⟩ := H
      refine OL.pure S (Lf.run_ixs (S.ev rfl) (S.ev rfl) Try.underlying22 ti32 e_3 e_4 e_5) rfl rfl trivial ?_
      clear S; intro aa S
      obtain ⟨y25, y25_1, y25_2, y25_3, y25_4, y25_5, c_16, c_17, c_18, c_19, c_20, c_21, H⟩ := H
      refine OL.pure S (Lf.run_ldA (cs := [Value.int .i64 y25, Value.string y25_1, Value.bool y25_2, Value.int .i64 y25_3, Value.slice y25_4.a y25_4.n y25_4.c, Value.slice y25_5.a y25_5.n y25_5.c]) (S.ev rfl) ag32 ti32 (by rw [S.heap]; exact RowL.toRow ⟨c_16, c_17, c_18, c_19, c_20, c_21, trivial⟩)) rfl rfl trivial ?_
      clear S; intro aa S
      refine ol_alloc S H ti32 rfl rfl trivial ?_
      clear S H aa; intro p9 aa ww h4 H S
      refine ol_stoA S H rfl rfl ti32 trivial ?_
      clear S H aa; intro aa ww h5 H S
      refine OL.nil ?_
      refine W.seq ?_
      replace S := S.sub [(1, Value.slice s21.a s21.n s21.c), (2, eq2), (8, Value.pointer (some p8)), (9, Value.pointer (some p9)), (15, Value.slice s10.a s10.n s10.c), (16, Value.int .i64 ((s10.n : Nat) : Int)), (17, Value.int .i64 x17)] ⟨rfl, rfl, rfl, rfl, rfl, rfl, rfl, trivial⟩
      refine W.region ?_
      refine OL.pure S (Lf.run_move (S.ev rfl)) rfl rfl trivial ?_
      clear S; intro aa S
      obtain ⟨y27, y27_1, y27_2, y27_3, y27_4, y27_5, c_10, c_11, c_12, c_13, c_14, c_15, H⟩ := H
      refine OL.pure S (Lf.run_ldA (cs := [Value.int .i64 y27, Value.string y27_1, Value.bool y27_2, Value.int .i64 y27_3, Value.slice y27_4.a y27_4.n y27_4.c, Value.slice y27_5.a y27_5.n y27_5.c]) (S.ev rfl) ag32 ti32 (by rw [S.heap]; exact RowL.toRow ⟨c_10, c_11, c_12, c_13, c_14, c_15, trivial⟩)) rfl rfl trivial ?_
      clear S; intro aa S
      obtain ⟨y28, y28_1, y28_2, y28_3, y28_4, y28_5, c_4, c_5, c_6, c_7, c_8, c_9, H⟩ := H
      refine OL.pure S (Lf.run_ldA (cs := [Value.int .i64 y28, Value.string y28_1, Value.bool y28_2, Value.int .i64 y28_3, Value.slice y28_4.a y28_4.n y28_4.c, Value.slice y28_5.a y28_5.n y28_5.c]) (S.ev rfl) ag32 ti32 (by rw [S.heap]; exact RowL.toRow ⟨c_4, c_5, c_6, c_7, c_8, c_9, trivial⟩)) rfl rfl trivial ?_
      clear S; intro aa S
      refine ol_calV S H rfl rfl rfl trivial ?_
      clear S H aa; intro u aa ww h6 H S
      obtain ⟨x29, rfl, H⟩ := H
      refine OL.pure S (Lf.run_not (S.ev rfl)) rfl rfl trivial ?_
      clear S; intro aa S
      refine OL.nil ?_
      refine W.cond S (b := (!x29)) rfl (fun hb_2 => ?_) (fun hb_2 => ?_)
      · replace H := H.1 hb_2
        refine W.seq ?_
        replace S := S.sub [] trivial
        refine W.region ?_
        refine OL.pure S (Lf.run_assign (S.ev rfl)) rfl rfl trivial ?_
        clear S; intro aa S
        refine OL.nil ?_
        refine W.ret ?_
        exact Ret.one S rfl rfl H
      · replace H := H.2 hb_2
        refine W.skip ?_
        replace S := S.sub [(1, Value.slice s21.a s21.n s21.c), (2, eq2), (15, Value.slice s10.a s10.n s10.c), (16, Value.int .i64 ((s10.n : Nat) : Int)), (17, Value.int .i64 x17)] ⟨rfl, rfl, rfl, rfl, rfl, trivial⟩
        refine W.region ?_
        refine OL.pure S (Lf.run_add (S.ev rfl) (S.ev rfl)) rfl rfl trivial ?_
        clear S; intro aa S
        refine OL.pure S (Lf.run_move (S.ev rfl)) rfl rfl trivial ?_
        clear S; intro aa S
        refine OL.nil ?_
        exact ⟨((IntKind.i64.wrap (x17 + 1)), h6), ⟨S.sub _ ⟨rfl, rfl, rfl, rfl, rfl, trivial⟩, H.1⟩, H.2⟩
    · replace H := H.2 hb_1
      refine W.exit_ ?_
      refine xhit ?_
      refine W.seq ?_
      replace S := S.sub [] trivial
      refine W.region ?_
      refine OL.pure S (Lf.run_assign (S.ev rfl)) rfl rfl trivial ?_
      clear S; intro aa S
      refine OL.nil ?_
      refine W.ret ?_
      exact Ret.one S rfl rfl H

/-- (*chattel sub.pairer).life -/
def L25 (p0 : Option Addr) (a1 : Int) (b2 : Int) (way3 : Int) (h : Heap) (R : Value → Heap → Prop) : Prop :=
  ∃ J : Heap → Prop, (
    ifb ((bitsI .and .i64 way3 1) != 0) (
      nn p0 fun p13 =>
      ldS h (p13.add 1) fun x15 =>
      newS 50 #[Value.int .i64 a1, Value.int .i64 b2] 1 h fun s19 h1 =>
      appS 50 (Value.agg #[Value.int .i64 0, Value.int .i64 0]).cells 2 16 h1 x15 s19 fun s20 h2 =>
      nn p0 fun p21 =>
      sto h2 (p21.add 1) (Value.slice s20.a s20.n s20.c) fun h3 =>
      J h3) (
      J h)) ∧ (∀ h4, J h4 →
  ifb ((bitsI .and .i64 way3 2) != 0) (
    nn p0 fun p28 =>
    ldS h4 (p28.add 1) fun x30 =>
    newS 50 #[Value.int .i64 b2, Value.int .i64 a1] 1 h4 fun s34 h5 =>
    appS 50 (Value.agg #[Value.int .i64 0, Value.int .i64 0]).cells 2 16 h5 x30 s34 fun s35 h6 =>
    nn p0 fun p36 =>
    sto h6 (p36.add 1) (Value.slice s35.a s35.n s35.c) fun h7 =>
    R (.tuple #[]) h7) (
    R (.tuple #[]) h4))

set_option maxRecDepth 100000 in

theorem F25 {p0 a1 b2 way3 h : _} {R : Value → Heap → Prop} (H : L25 p0 a1 b2 way3 h R) : CallsH Try.prog 25 #[Value.pointer p0, Value.int .i64 a1, Value.int .i64 b2, Value.int .i64 way3] h R := by
  refine CallsH.enter (n := 38) Try.func25 rfl rfl rfl rfl ?_
  intro w0 aa ww S
  unfold L25 at H
  obtain ⟨J, H, HK⟩ := H
  refine W.seqJ (fun aa ww => ∃ h4, St 38 [(0, Value.pointer p0), (1, Value.int .i64 a1), (2, Value.int .i64 b2), (3, Value.int .i64 way3)] h4 w0 aa ww ∧ J h4) ?_ ?_
  · clear HK
    refine W.seq ?_
    replace S := S.sub [(0, Value.pointer p0), (1, Value.int .i64 a1), (2, Value.int .i64 b2), (3, Value.int .i64 way3)] ⟨rfl, rfl, rfl, rfl, trivial⟩
    refine W.region ?_
    refine OL.pure S (Lf.run_move (S.ev rfl)) rfl rfl trivial ?_
    clear S; intro aa S
    refine OL.pure S (Lf.run_bits (op := .and) (by simp) (S.ev rfl) (S.ev rfl)) rfl rfl trivial ?_
    clear S; intro aa S
    refine OL.pure S (Lf.run_neq (S.ev rfl) (S.ev rfl)) rfl rfl trivial ?_
    clear S; intro aa S
    refine OL.nil ?_
    refine W.cond S (b := ((bitsI .and .i64 way3 1) != 0)) rfl (fun hb => ?_) (fun hb => ?_)
    · replace H := H.1 hb
      replace S := S.sub [(0, Value.pointer p0), (1, Value.int .i64 a1), (2, Value.int .i64 b2), (3, Value.int .i64 way3)] ⟨rfl, rfl, rfl, rfl, trivial⟩
      refine W.region ?_
      refine OL.pure S (Lf.run_move (S.ev rfl)) rfl rfl trivial ?_
      clear S; intro aa S
      refine OL.pure S (Lf.run_move (S.ev rfl)) rfl rfl trivial ?_
      clear S; intro aa S
      obtain ⟨p13, e, H⟩ := H
      refine OL.pure S (Lf.run_nc' (S.ev rfl) e) rfl rfl trivial ?_
      clear S; intro aa S
      refine OL.pure S (Lf.run_fa (S.ev rfl) fa57_1) rfl rfl trivial ?_
      clear S; intro aa S
      obtain ⟨x15, c, H⟩ := H
      refine OL.pure S (Lf.run_ld (S.ev rfl) fl43 (S.cl c)) rfl rfl trivial ?_
      clear S; intro aa S
      refine OL.pure S (Lf.run_move (S.ev rfl)) rfl rfl trivial ?_
      clear S; intro aa S
      refine OL.pure S (Lf.run_move (S.ev rfl)) rfl rfl trivial ?_
      clear S; intro aa S
      refine OL.pure S (Lf.run_buildArr (cs := #[Value.int .i64 a1, Value.int .i64 b2]) Try.underlying50 ti3 ti50 (parts_map S rfl) (by kernel_rfl)) rfl rfl trivial ?_
      clear S; intro aa S
      refine ol_newS S H Try.underlying43 ti50 (by decide) (parts_map S rfl) (by kernel_rfl) (by decide) rfl trivial ?_
      clear S H aa; intro s19 aa ww h1 H S
      refine ol_appS S H Try.underlying43 ti50 rfl rfl rfl trivial ?_
      clear S H aa; intro s20 aa ww h2 H S
      obtain ⟨p21, e_1, H⟩ := H
      refine OL.pure S (Lf.run_nc' (S.ev rfl) e_1) rfl rfl trivial ?_
      clear S; intro aa S
      refine OL.pure S (Lf.run_fa (S.ev rfl) fa57_1) rfl rfl trivial ?_
      clear S; intro aa S
      refine ol_sto S H rfl rfl rfl ti43 trivial ?_
      clear S H aa; intro aa ww h3 H S
      refine OL.nil ?_
      exact ⟨h3, S.sub _ ⟨rfl, rfl, rfl, rfl, trivial⟩, H⟩
    · replace H := H.2 hb
      refine W.skip ?_
      exact ⟨h, S.sub _ ⟨rfl, rfl, rfl, rfl, trivial⟩, H⟩
  · clear H S aa
    rintro aa ww ⟨h4, S, HJ⟩
    have H := HK _ HJ
    clear HK HJ
    refine W.seq ?_
    replace S := S.sub [(0, Value.pointer p0), (1, Value.int .i64 a1), (2, Value.int .i64 b2), (3, Value.int .i64 way3)] ⟨rfl, rfl, rfl, rfl, trivial⟩
    refine W.region ?_
    refine OL.pure S (Lf.run_move (S.ev rfl)) rfl rfl trivial ?_
    clear S; intro aa S
    refine OL.pure S (Lf.run_bits (op := .and) (by simp) (S.ev rfl) (S.ev rfl)) rfl rfl trivial ?_
    clear S; intro aa S
    refine OL.pure S (Lf.run_neq (S.ev rfl) (S.ev rfl)) rfl rfl trivial ?_
    clear S; intro aa S
    refine OL.nil ?_
    refine W.cond S (b := ((bitsI .and .i64 way3 2) != 0)) rfl (fun hb_1 => ?_) (fun hb_1 => ?_)
    · replace H := H.1 hb_1
      replace S := S.sub [(0, Value.pointer p0), (1, Value.int .i64 a1), (2, Value.int .i64 b2)] ⟨rfl, rfl, rfl, trivial⟩
      refine W.region ?_
      refine OL.pure S (Lf.run_move (S.ev rfl)) rfl rfl trivial ?_
      clear S; intro aa S
      refine OL.pure S (Lf.run_move (S.ev rfl)) rfl rfl trivial ?_
      clear S; intro aa S
      obtain ⟨p28, e_2, H⟩ := H
      refine OL.pure S (Lf.run_nc' (S.ev rfl) e_2) rfl rfl trivial ?_
      clear S; intro aa S
      refine OL.pure S (Lf.run_fa (S.ev rfl) fa57_1) rfl rfl trivial ?_
      clear S; intro aa S
      obtain ⟨x30, c_1, H⟩ := H
      refine OL.pure S (Lf.run_ld (S.ev rfl) fl43 (S.cl c_1)) rfl rfl trivial ?_
      clear S; intro aa S
      refine OL.pure S (Lf.run_move (S.ev rfl)) rfl rfl trivial ?_
      clear S; intro aa S
      refine OL.pure S (Lf.run_move (S.ev rfl)) rfl rfl trivial ?_
      clear S; intro aa S
      refine OL.pure S (Lf.run_buildArr (cs := #[Value.int .i64 b2, Value.int .i64 a1]) Try.underlying50 ti3 ti50 (parts_map S rfl) (by kernel_rfl)) rfl rfl trivial ?_
      clear S; intro aa S
      refine ol_newS S H Try.underlying43 ti50 (by decide) (parts_map S rfl) (by kernel_rfl) (by decide) rfl trivial ?_
      clear S H aa; intro s34 aa ww h5 H S
      refine ol_appS S H Try.underlying43 ti50 rfl rfl rfl trivial ?_
      clear S H aa; intro s35 aa ww h6 H S
      obtain ⟨p36, e_3, H⟩ := H
      refine OL.pure S (Lf.run_nc' (S.ev rfl) e_3) rfl rfl trivial ?_
      clear S; intro aa S
      refine OL.pure S (Lf.run_fa (S.ev rfl) fa57_1) rfl rfl trivial ?_
      clear S; intro aa S
      refine ol_sto S H rfl rfl rfl ti43 trivial ?_
      clear S H aa; intro aa ww h7 H S
      refine OL.nil ?_
      exact Ret.none S rfl H
    · replace H := H.2 hb_1
      refine W.skip ?_
      exact Ret.none S rfl H

/-- chattel vary.Through -/
def L26 (outer0 : Int) (inner1 : Int) (h : Heap) (R : Value → Heap → Prop) : Prop :=
  ifb ((outer0 == 0) || (inner1 == 0)) (
    R (Value.int .i64 0) h) (
    ifb (outer0 == 1) (
      R (Value.int .i64 (bitsI .and .i64 inner1 3)) h) (
      ifb ((outer0 == 3) || (inner1 == 3)) (
        R (Value.int .i64 3) h) (
        ifb (outer0 == inner1) (
          R (Value.int .i64 1) h) (
          R (Value.int .i64 2) h))))

set_option maxRecDepth 100000 in

theorem F26 {outer0 inner1 h : _} {R : Value → Heap → Prop} (H : L26 outer0 inner1 h R) : CallsH Try.prog 26 #[Value.int .i64 outer0, Value.int .i64 inner1] h R := by
  refine CallsH.enter (n := 28) Try.func26 rfl rfl rfl rfl ?_
  intro w0 aa ww S
  unfold L26 at H
  refine W.seq ?_
  replace S := S.sub [(0, Value.int .i64 outer0), (1, Value.int .i64 inner1)] ⟨rfl, rfl, trivial⟩
  refine W.region ?_
  refine OL.pure S (Lf.run_assign (S.ev rfl)) rfl rfl trivial ?_
  clear S; intro aa S
  refine OL.nil ?_
  refine W.seq ?_
  refine W.block ?_
  refine W.seq ?_
  replace S := S.sub [(0, Value.int .i64 outer0), (1, Value.int .i64 inner1)] ⟨rfl, rfl, trivial⟩
  refine W.region ?_
  refine OL.pure S (Lf.run_move (S.ev rfl)) rfl rfl trivial ?_
  clear S; intro aa S
  refine OL.pure S (Lf.run_eql (S.ev rfl) (S.ev rfl)) rfl rfl trivial ?_
  clear S; intro aa S
  refine OL.pure S (Lf.run_move (S.ev rfl)) rfl rfl trivial ?_
  clear S; intro aa S
  refine OL.cutN 3 (fun aa ww => St 28 ((11, Value.bool ((outer0 == 0) || (inner1 == 0))) :: [(0, Value.int .i64 outer0), (1, Value.int .i64 inner1), (6, Value.int .i64 outer0), (7, Value.bool (outer0 == 0)), (8, Value.bool (outer0 == 0))]) h w0 aa ww) ?_ ?_
  · rcases Bool.eq_false_or_eq_true (outer0 == 0) with hb | hb
    · refine OL.not S rfl rfl (GNo.mk rfl rfl hb) ?_
      clear S; intro aa S
      refine OL.not S rfl rfl (GNo.mk rfl rfl hb) ?_
      clear S; intro aa S
      refine OL.pure S (Lf.run_pickT (S.ev rfl) hb (S.ev rfl)) rfl rfl trivial ?_
      clear S; intro aa S
      refine OL.nil ?_
      exact (S.hd (by rw [hb, Bool.true_or])).sub _ ⟨rfl, rfl, rfl, rfl, rfl, rfl, trivial⟩
    · refine OL.pure S (Lf.run_move (S.ev rfl)) rfl rfl (GOk.mk rfl rfl hb) ?_
      clear S; intro aa S
      refine OL.pure S (Lf.run_eql (S.ev rfl) (S.ev rfl)) rfl rfl (GOk.mk rfl rfl hb) ?_
      clear S; intro aa S
      refine OL.pure S (Lf.run_pickF (S.ev rfl) hb (S.ev rfl)) rfl rfl trivial ?_
      clear S; intro aa S
      refine OL.nil ?_
      exact (S.hd (by rw [hb, Bool.false_or])).sub _ ⟨rfl, rfl, rfl, rfl, rfl, rfl, trivial⟩
  · clear S aa
    intro aa ww S
    refine OL.pure S (Lf.run_assign (S.ev rfl)) rfl rfl trivial ?_
    clear S; intro aa S
    refine OL.nil ?_
    refine W.cond S (b := ((outer0 == 0) || (inner1 == 0))) rfl (fun hb_1 => ?_) (fun hb_1 => ?_)
    · replace H := H.1 hb_1
      refine W.seq ?_
      replace S := S.sub [] trivial
      refine W.region ?_
      refine OL.pure S (Lf.run_assign (S.ev rfl)) rfl rfl trivial ?_
      clear S; intro aa S
      refine OL.nil ?_
      refine W.ret ?_
      exact Ret.one S rfl rfl H
    · replace H := H.2 hb_1
      refine W.seq ?_
      replace S := S.sub [(0, Value.int .i64 outer0), (1, Value.int .i64 inner1)] ⟨rfl, rfl, trivial⟩
      refine W.region ?_
      refine OL.pure S (Lf.run_move (S.ev rfl)) rfl rfl trivial ?_
      clear S; intro aa S
      refine OL.pure S (Lf.run_eql (S.ev rfl) (S.ev rfl)) rfl rfl trivial ?_
      clear S; intro aa S
      refine OL.pure S (Lf.run_assign (S.ev rfl)) rfl rfl trivial ?_
      clear S; intro aa S
      refine OL.nil ?_
      refine W.cond S (b := (outer0 == 1)) rfl (fun hb_2 => ?_) (fun hb_2 => ?_)
      · replace H := H.1 hb_2
        refine W.seq ?_
        replace S := S.sub [(1, Value.int .i64 inner1)] ⟨rfl, trivial⟩
        refine W.region ?_
        refine OL.pure S (Lf.run_move (S.ev rfl)) rfl rfl trivial ?_
        clear S; intro aa S
        refine OL.pure S (Lf.run_bits (op := .and) (by simp) (S.ev rfl) (S.ev rfl)) rfl rfl trivial ?_
        clear S; intro aa S
        refine OL.pure S (Lf.run_assign (S.ev rfl)) rfl rfl trivial ?_
        clear S; intro aa S
        refine OL.nil ?_
        refine W.ret ?_
        exact Ret.one S rfl rfl H
      · replace H := H.2 hb_2
        refine W.seq ?_
        replace S := S.sub [(0, Value.int .i64 outer0), (1, Value.int .i64 inner1)] ⟨rfl, rfl, trivial⟩
        refine W.region ?_
        refine OL.pure S (Lf.run_move (S.ev rfl)) rfl rfl trivial ?_
        clear S; intro aa S
        refine OL.pure S (Lf.run_eql (S.ev rfl) (S.ev rfl)) rfl rfl trivial ?_
        clear S; intro aa S
        refine OL.pure S (Lf.run_move (S.ev rfl)) rfl rfl trivial ?_
        clear S; intro aa S
        refine OL.cutN 3 (fun aa ww => St 28 ((23, Value.bool ((outer0 == 3) || (inner1 == 3))) :: [(0, Value.int .i64 outer0), (1, Value.int .i64 inner1), (18, Value.int .i64 outer0), (19, Value.bool (outer0 == 3)), (20, Value.bool (outer0 == 3))]) h w0 aa ww) ?_ ?_
        · rcases Bool.eq_false_or_eq_true (outer0 == 3) with hb_3 | hb_3
          · refine OL.not S rfl rfl (GNo.mk rfl rfl hb_3) ?_
            clear S; intro aa S
            refine OL.not S rfl rfl (GNo.mk rfl rfl hb_3) ?_
            clear S; intro aa S
            refine OL.pure S (Lf.run_pickT (S.ev rfl) hb_3 (S.ev rfl)) rfl rfl trivial ?_
            clear S; intro aa S
            refine OL.nil ?_
            exact (S.hd (by rw [hb_3, Bool.true_or])).sub _ ⟨rfl, rfl, rfl, rfl, rfl, rfl, trivial⟩
          · refine OL.pure S (Lf.run_move (S.ev rfl)) rfl rfl (GOk.mk rfl rfl hb_3) ?_
            clear S; intro aa S
            refine OL.pure S (Lf.run_eql (S.ev rfl) (S.ev rfl)) rfl rfl (GOk.mk rfl rfl hb_3) ?_
            clear S; intro aa S
            refine OL.pure S (Lf.run_pickF (S.ev rfl) hb_3 (S.ev rfl)) rfl rfl trivial ?_
            clear S; intro aa S
            refine OL.nil ?_
            exact (S.hd (by rw [hb_3, Bool.false_or])).sub _ ⟨rfl, rfl, rfl, rfl, rfl, rfl, trivial⟩
        · clear S aa
          intro aa ww S
          refine OL.pure S (Lf.run_assign (S.ev rfl)) rfl rfl trivial ?_
          clear S; intro aa S
          refine OL.nil ?_
          refine W.cond S (b := ((outer0 == 3) || (inner1 == 3))) rfl (fun hb_4 => ?_) (fun hb_4 => ?_)
          · replace H := H.1 hb_4
            refine W.seq ?_
            replace S := S.sub [] trivial
            refine W.region ?_
            refine OL.pure S (Lf.run_assign (S.ev rfl)) rfl rfl trivial ?_
            clear S; intro aa S
            refine OL.nil ?_
            refine W.ret ?_
            exact Ret.one S rfl rfl H
          · replace H := H.2 hb_4
            refine W.seq ?_
            replace S := S.sub [(0, Value.int .i64 outer0), (1, Value.int .i64 inner1)] ⟨rfl, rfl, trivial⟩
            refine W.region ?_
            refine OL.pure S (Lf.run_move (S.ev rfl)) rfl rfl trivial ?_
            clear S; intro aa S
            refine OL.pure S (Lf.run_move (S.ev rfl)) rfl rfl trivial ?_
            clear S; intro aa S
            refine OL.pure S (Lf.run_eql (S.ev rfl) (S.ev rfl)) rfl rfl trivial ?_
            clear S; intro aa S
            refine OL.pure S (Lf.run_assign (S.ev rfl)) rfl rfl trivial ?_
            clear S; intro aa S
            refine OL.nil ?_
            refine W.cond S (b := (outer0 == inner1)) rfl (fun hb_5 => ?_) (fun hb_5 => ?_)
            · replace H := H.1 hb_5
              refine W.seq ?_
              replace S := S.sub [] trivial
              refine W.region ?_
              refine OL.pure S (Lf.run_assign (S.ev rfl)) rfl rfl trivial ?_
              clear S; intro aa S
              refine OL.nil ?_
              refine W.ret ?_
              exact Ret.one S rfl rfl H
            · replace H := H.2 hb_5
              refine W.skip ?_
              refine W.seq ?_
              replace S := S.sub [] trivial
              refine W.region ?_
              refine OL.pure S (Lf.run_assign (S.ev rfl)) rfl rfl trivial ?_
              clear S; intro aa S
              refine OL.nil ?_
              refine W.ret ?_
              exact Ret.one S rfl rfl H

/-- chattel vary.Of -/
def L27 (vw0 : Option Nat) (name1 : ByteArray) (slot2 : Int) (h : Heap) (R : Value → Heap → Prop) : Prop :=
  lkS h (Value.map vw0) name1 (Value.slice (⟨none, 0, 0⟩ : Sv).a (⟨none, 0, 0⟩ : Sv).n (⟨none, 0, 0⟩ : Sv).c) fun u => asS u fun x10 =>
  ifb ((decide (slot2 < 0)) || (decide (((x10.n : Nat) : Int) ≤ slot2))) (
    R (Value.int .i64 3) h) (
    ixS x10 slot2 fun q21 =>
    ldI .i64 h (q21.add ((slot2 : Int).toNat * 1)) fun x22 =>
    R (Value.int .i64 x22) h)

set_option maxRecDepth 100000 in

theorem F27 {vw0 name1 slot2 h : _} {R : Value → Heap → Prop} (H : L27 vw0 name1 slot2 h R) : CallsH Try.prog 27 #[Value.map vw0, Value.string name1, Value.int .i64 slot2] h R := by
  refine CallsH.enter (n := 23) Try.func27 rfl rfl rfl rfl ?_
  intro w0 aa ww S
  unfold L27 at H
  refine W.seq ?_
  replace S := S.sub [(0, Value.map vw0), (1, Value.string name1), (2, Value.int .i64 slot2)] ⟨rfl, rfl, rfl, trivial⟩
  refine W.region ?_
  refine OL.pure S (Lf.run_assign (S.ev rfl)) rfl rfl trivial ?_
  clear S; intro aa S
  refine OL.nil ?_
  refine W.seq ?_
  replace S := S.sub [(0, Value.map vw0), (1, Value.string name1), (2, Value.int .i64 slot2)] ⟨rfl, rfl, rfl, trivial⟩
  refine W.region ?_
  refine OL.pure S (Lf.run_move (S.ev rfl)) rfl rfl trivial ?_
  clear S; intro aa S
  refine OL.pure S (Lf.run_move (S.ev rfl)) rfl rfl trivial ?_
  clear S; intro aa S
  refine ol_lkS S H Try.underlying37 Try.underlying9 ti30 rfl rfl rfl trivial ?_
  clear S H aa; intro u aa H S
  obtain ⟨x10, rfl, H⟩ := H
  refine OL.pure S (Lf.run_assign (S.ev rfl)) rfl rfl trivial ?_
  clear S; intro aa S
  refine OL.nil ?_
  refine W.seq ?_
  refine W.seq ?_
  replace S := S.sub [(2, Value.int .i64 slot2), (7, Value.slice x10.a x10.n x10.c)] ⟨rfl, rfl, trivial⟩
  refine W.region ?_
  refine OL.pure S (Lf.run_move (S.ev rfl)) rfl rfl trivial ?_
  clear S; intro aa S
  refine OL.pure S (Lf.run_lss (S.ev rfl) (S.ev rfl)) rfl rfl trivial ?_
  clear S; intro aa S
  refine OL.pure S (Lf.run_move (S.ev rfl)) rfl rfl trivial ?_
  clear S; intro aa S
  refine OL.cutN 5 (fun aa ww => St 23 ((18, Value.bool ((decide (slot2 < 0)) || (decide (((x10.n : Nat) : Int) ≤ slot2)))) :: [(2, Value.int .i64 slot2), (7, Value.slice x10.a x10.n x10.c), (11, Value.int .i64 slot2), (12, Value.bool (decide (slot2 < 0))), (13, Value.bool (decide (slot2 < 0)))]) h w0 aa ww) ?_ ?_
  · rcases Bool.eq_false_or_eq_true (decide (slot2 < 0)) with hb | hb
    · refine OL.not S rfl rfl (GNo.mk rfl rfl hb) ?_
      clear S; intro aa S
      refine OL.not S rfl rfl (GNo.mk rfl rfl hb) ?_
      clear S; intro aa S
      refine OL.not S rfl rfl (GNo.mk rfl rfl hb) ?_
      clear S; intro aa S
      refine OL.not S rfl rfl (GNo.mk rfl rfl hb) ?_
      clear S; intro aa S
      refine OL.pure S (Lf.run_pickT (S.ev rfl) hb (S.ev rfl)) rfl rfl trivial ?_
      clear S; intro aa S
      refine OL.nil ?_
      exact (S.hd (by rw [hb, Bool.true_or])).sub _ ⟨rfl, rfl, rfl, rfl, rfl, rfl, trivial⟩
    · refine OL.pure S (Lf.run_move (S.ev rfl)) rfl rfl (GOk.mk rfl rfl hb) ?_
      clear S; intro aa S
      refine OL.pure S (Lf.run_move (S.ev rfl)) rfl rfl (GOk.mk rfl rfl hb) ?_
      clear S; intro aa S
      refine OL.pure S (Lf.run_lens (S.ev rfl) rfl Try.underlying30) rfl rfl (GOk.mk rfl rfl hb) ?_
      clear S; intro aa S
      refine OL.pure S (Lf.run_geq (S.ev rfl) (S.ev rfl)) rfl rfl (GOk.mk rfl rfl hb) ?_
      clear S; intro aa S
      refine OL.pure S (Lf.run_pickF (S.ev rfl) hb (S.ev rfl)) rfl rfl trivial ?_
      clear S; intro aa S
      refine OL.nil ?_
      exact (S.hd (by rw [hb, Bool.false_or])).sub _ ⟨rfl, rfl, rfl, rfl, rfl, rfl, trivial⟩
  · clear S aa
    intro aa ww S
    refine OL.nil ?_
    refine W.cond S (b := ((decide (slot2 < 0)) || (decide (((x10.n : Nat) : Int) ≤ slot2)))) rfl (fun hb_1 => ?_) (fun hb_1 => ?_)
    · replace H := H.1 hb_1
      refine W.seq ?_
      replace S := S.sub [] trivial
      refine W.region ?_
      refine OL.pure S (Lf.run_assign (S.ev rfl)) rfl rfl trivial ?_
      clear S; intro aa S
      refine OL.nil ?_
      refine W.ret ?_
      exact Ret.one S rfl rfl H
    · replace H := H.2 hb_1
      refine W.skip ?_
      refine W.seq ?_
      replace S := S.sub [(2, Value.int .i64 slot2), (7, Value.slice x10.a x10.n x10.c)] ⟨rfl, rfl, trivial⟩
      refine W.region ?_
      refine OL.pure S (Lf.run_move (S.ev rfl)) rfl rfl trivial ?_
      clear S; intro aa S
      refine OL.pure S (Lf.run_move (S.ev rfl)) rfl rfl trivial ?_
      clear S; intro aa S
      obtain ⟨q21, e, e_1, e_2, H⟩ := H
      refine OL.pure S (Lf.run_ixs (S.ev rfl) (S.ev rfl) Try.underlying30 ti3 e e_1 e_2) rfl rfl trivial ?_
      clear S; intro aa S
      obtain ⟨x22, c, H⟩ := H
      refine OL.pure S (Lf.run_ld (S.ev rfl) fl3 (S.cl c)) rfl rfl trivial ?_
      clear S; intro aa S
      refine OL.pure S (Lf.run_assign (S.ev rfl)) rfl rfl trivial ?_
      clear S; intro aa S
      refine OL.nil ?_
      refine W.ret ?_
      exact Ret.one S rfl rfl H

/-- (*chattel vary.finder).life -/
def L28 (f0 : Option Addr) (r1 : Int) (way2 : Int) (h : Heap) (R : Value → Heap → Prop) : Prop :=
  ∃ J : Bool → Prop, (andr (decide (1 ≤ r1)) (fun k =>
    nn f0 fun p11 =>
    ldI .i64 h (p11.add 1) fun x14 =>
    k (decide (r1 ≤ x14))) J) ∧ ∀ x16, J x16 →
  ifb x16 (
    nn f0 fun p18 =>
    ldS h (p18.add 5) fun x20 =>
    ixS x20 (IntKind.i64.wrap (r1 - 1)) fun q23 =>
    ldI .i64 h (q23.add (((IntKind.i64.wrap (r1 - 1)) : Int).toNat * 1)) fun x24 =>
    ixS x20 (IntKind.i64.wrap (r1 - 1)) fun q27 =>
    sto h (q27.add (((IntKind.i64.wrap (r1 - 1)) : Int).toNat * 1)) (Value.int .i64 (bitsI .or .i64 x24 way2)) fun h1 =>
    R (.tuple #[]) h1) (
    R (.tuple #[]) h)

set_option maxRecDepth 100000 in

theorem F28 {f0 r1 way2 h : _} {R : Value → Heap → Prop} (H : L28 f0 r1 way2 h R) : CallsH Try.prog 28 #[Value.pointer f0, Value.int .i64 r1, Value.int .i64 way2] h R := by
  refine CallsH.enter (n := 28) Try.func28 rfl rfl rfl rfl ?_
  intro w0 aa ww S
  unfold L28 at H
  refine W.seq ?_
  replace S := S.sub [(0, Value.pointer f0), (1, Value.int .i64 r1), (2, Value.int .i64 way2)] ⟨rfl, rfl, rfl, trivial⟩
  refine W.region ?_
  refine OL.pure S (Lf.run_move (S.ev rfl)) rfl rfl trivial ?_
  clear S; intro aa S
  refine OL.pure S (Lf.run_geq (S.ev rfl) (S.ev rfl)) rfl rfl trivial ?_
  clear S; intro aa S
  refine OL.pure S (Lf.run_move (S.ev rfl)) rfl rfl trivial ?_
  clear S; intro aa S
  obtain ⟨J, H, HK⟩ := H
  refine OL.cutN 8 (fun aa ww => ∃ x16, St 28 ((16, Value.bool x16) :: [(0, Value.pointer f0), (1, Value.int .i64 r1), (2, Value.int .i64 way2), (6, Value.int .i64 r1), (7, Value.bool (decide (1 ≤ r1))), (8, Value.bool (decide (1 ≤ r1)))]) h w0 aa ww ∧ J x16) ?_ ?_
  · rcases Bool.eq_false_or_eq_true (decide (1 ≤ r1)) with hb | hb
    · replace H := H.1 hb
      refine OL.pure S (Lf.run_move (S.ev rfl)) rfl rfl (GOk.mk rfl rfl hb) ?_
      clear S; intro aa S
      refine OL.pure S (Lf.run_move (S.ev rfl)) rfl rfl (GOk.mk rfl rfl hb) ?_
      clear S; intro aa S
      obtain ⟨p11, e, H⟩ := H
      refine OL.pure S (Lf.run_nc' (S.ev rfl) e) rfl rfl (GOk.mk rfl rfl hb) ?_
      clear S; intro aa S
      refine OL.pure S (Lf.run_fa (S.ev rfl) fa66_0) rfl rfl (GOk.mk rfl rfl hb) ?_
      clear S; intro aa S
      refine OL.pure S (Lf.run_fa (S.ev rfl) fa41_1) rfl rfl (GOk.mk rfl rfl hb) ?_
      clear S; intro aa S
      obtain ⟨x14, c, H⟩ := H
      refine OL.pure S (Lf.run_ld (S.ev rfl) fl3 (S.cl c)) rfl rfl (GOk.mk rfl rfl hb) ?_
      clear S; intro aa S
      refine OL.pure S (Lf.run_leq (S.ev rfl) (S.ev rfl)) rfl rfl (GOk.mk rfl rfl hb) ?_
      clear S; intro aa S
      refine OL.pure S (Lf.run_pickT (S.ev rfl) hb (S.ev rfl)) rfl rfl trivial ?_
      clear S; intro aa S
      refine OL.nil ?_
      exact ⟨_, S.sub _ ⟨rfl, rfl, rfl, rfl, rfl, rfl, rfl, trivial⟩, H⟩
    · replace H := H.2 hb
      refine OL.not S rfl rfl (GNo.mk rfl rfl hb) ?_
      clear S; intro aa S
      refine OL.not S rfl rfl (GNo.mk rfl rfl hb) ?_
      clear S; intro aa S
      refine OL.not S rfl rfl (GNo.mk rfl rfl hb) ?_
      clear S; intro aa S
      refine OL.not S rfl rfl (GNo.mk rfl rfl hb) ?_
      clear S; intro aa S
      refine OL.not S rfl rfl (GNo.mk rfl rfl hb) ?_
      clear S; intro aa S
      refine OL.not S rfl rfl (GNo.mk rfl rfl hb) ?_
      clear S; intro aa S
      refine OL.not S rfl rfl (GNo.mk rfl rfl hb) ?_
      clear S; intro aa S
      refine OL.pure S (Lf.run_pickF (S.ev rfl) hb (S.ev rfl)) rfl rfl trivial ?_
      clear S; intro aa S
      refine OL.nil ?_
      exact ⟨_, S.sub _ ⟨rfl, rfl, rfl, rfl, rfl, rfl, rfl, trivial⟩, H⟩
  · clear S aa
    rintro aa ww ⟨x16, S, HJ⟩
    replace H := HK _ HJ
    clear HK HJ
    refine OL.nil ?_
    refine W.cond S (b := x16) rfl (fun hb_1 => ?_) (fun hb_1 => ?_)
    · replace H := H.1 hb_1
      replace S := S.sub [(0, Value.pointer f0), (1, Value.int .i64 r1), (2, Value.int .i64 way2)] ⟨rfl, rfl, rfl, trivial⟩
      refine W.region ?_
      refine OL.pure S (Lf.run_move (S.ev rfl)) rfl rfl trivial ?_
      clear S; intro aa S
      obtain ⟨p18, e_1, H⟩ := H
      refine OL.pure S (Lf.run_nc' (S.ev rfl) e_1) rfl rfl trivial ?_
      clear S; intro aa S
      refine OL.pure S (Lf.run_fa (S.ev rfl) fa66_2) rfl rfl trivial ?_
      clear S; intro aa S
      obtain ⟨x20, c_1, H⟩ := H
      refine OL.pure S (Lf.run_ld (S.ev rfl) fl30 (S.cl c_1)) rfl rfl trivial ?_
      clear S; intro aa S
      refine OL.pure S (Lf.run_move (S.ev rfl)) rfl rfl trivial ?_
      clear S; intro aa S
      refine OL.pure S (Lf.run_sub (S.ev rfl) (S.ev rfl)) rfl rfl trivial ?_
      clear S; intro aa S
      obtain ⟨q23, e_2, e_3, e_4, H⟩ := H
      refine OL.pure S (Lf.run_ixs (S.ev rfl) (S.ev rfl) Try.underlying30 ti3 e_2 e_3 e_4) rfl rfl trivial ?_
      clear S; intro aa S
      obtain ⟨x24, c_2, H⟩ := H
      refine OL.pure S (Lf.run_ld (S.ev rfl) fl3 (S.cl c_2)) rfl rfl trivial ?_
      clear S; intro aa S
      refine OL.pure S (Lf.run_move (S.ev rfl)) rfl rfl trivial ?_
      clear S; intro aa S
      refine OL.pure S (Lf.run_bits (op := .or) (by simp) (S.ev rfl) (S.ev rfl)) rfl rfl trivial ?_
      clear S; intro aa S
      obtain ⟨q27, e_5, e_6, e_7, H⟩ := H
      refine OL.pure S (Lf.run_ixs (S.ev rfl) (S.ev rfl) Try.underlying30 ti3 e_5 e_6 e_7) rfl rfl trivial ?_
      clear S; intro aa S
      refine ol_sto S H rfl rfl rfl ti3 trivial ?_
      clear S H aa; intro aa ww h1 H S
      refine OL.nil ?_
      exact Ret.none S rfl H
    · replace H := H.2 hb_1
      refine W.skip ?_
      exact Ret.none S rfl H

end Go.Proofs.Yteaidgpiolakcaa

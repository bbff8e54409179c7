/- Lifted by program off the elaborated code: each Go function, read as a proposition over typed variables and the heap. -/
import Derived.Test.YtohlfkomjmjheaaG0
namespace Go.Proofs.Ytohlfkomjmjheaa
open Go Go.Lf
set_option linter.unusedVariables false
set_option maxRecDepth 100000

/-- chattel types.Inst -/
def L21 (x0 : Int) (x0_1 : ByteArray) (x0_2 : Bool) (x0_3 : Int) (x0_4 : Sv) (x0_5 : Sv) (lifes1 : Sv) (names2 : Sv) (args3 : Sv) (h : Heap) (R : Value → Heap → Prop) : Prop :=
  new 25 #[Value.int .i64 x0, Value.string x0_1, Value.bool x0_2, Value.int .i64 x0_3, Value.slice x0_4.a x0_4.n x0_4.c, Value.slice x0_5.a x0_5.n x0_5.c] h fun p4 h1 =>
  new 22 #[Value.slice lifes1.a lifes1.n lifes1.c] h1 fun p5 h2 =>
  new 25 #[Value.int .i64 0, Value.string (⟨#[]⟩ : ByteArray), Value.bool false, Value.int .i64 0, Value.slice (⟨none, 0, 0⟩ : Sv).a (⟨none, 0, 0⟩ : Sv).n (⟨none, 0, 0⟩ : Sv).c, Value.slice (⟨none, 0, 0⟩ : Sv).a (⟨none, 0, 0⟩ : Sv).n (⟨none, 0, 0⟩ : Sv).c] h2 fun p8 h3 =>
  ∃ J : Heap → Prop, (
    ldI .i64 h3 p4 fun x16 =>
    ifb (x16 == 9) (
      ldT h3 (p4.add 1) fun x20 =>
      cal Try.prog 38 #[Value.slice names2.a names2.n names2.c, Value.string x20] h3 fun u h4 => asI .i64 u fun x21 =>
      ifb ((decide (0 ≤ x21)) && (decide (x21 < ((args3.n : Nat) : Int)))) (
        ixS args3 x21 fun q32 =>
        ∃ (y33 : Int) (y33_1 : ByteArray) (y33_2 : Bool) (y33_3 : Int) (y33_4 : Sv) (y33_5 : Sv), cl h4 (q32.add ((x21 : Int).toNat * 6)) = some (Value.int .i64 y33) ∧ cl h4 ((q32.add ((x21 : Int).toNat * 6)).add 1) = some (Value.string y33_1) ∧ cl h4 ((q32.add ((x21 : Int).toNat * 6)).add 2) = some (Value.bool y33_2) ∧ cl h4 ((q32.add ((x21 : Int).toNat * 6)).add 3) = some (Value.int .i64 y33_3) ∧ cl h4 ((q32.add ((x21 : Int).toNat * 6)).add 4) = some (Value.slice y33_4.a y33_4.n y33_4.c) ∧ cl h4 ((q32.add ((x21 : Int).toNat * 6)).add 5) = some (Value.slice y33_5.a y33_5.n y33_5.c) ∧
        stoA h4 p8 [Value.int .i64 y33, Value.string y33_1, Value.bool y33_2, Value.int .i64 y33_3, Value.slice y33_4.a y33_4.n y33_4.c, Value.slice y33_5.a y33_5.n y33_5.c] fun h5 =>
        ∃ (y : Int) (y_1 : ByteArray) (y_2 : Bool) (y_3 : Int) (y_4 : Sv) (y_5 : Sv), cl h5 p8 = some (Value.int .i64 y) ∧ cl h5 (p8.add 1) = some (Value.string y_1) ∧ cl h5 (p8.add 2) = some (Value.bool y_2) ∧ cl h5 (p8.add 3) = some (Value.int .i64 y_3) ∧ cl h5 (p8.add 4) = some (Value.slice y_4.a y_4.n y_4.c) ∧ cl h5 (p8.add 5) = some (Value.slice y_5.a y_5.n y_5.c) ∧
        R (Value.agg #[Value.int .i64 y, Value.string y_1, Value.bool y_2, Value.int .i64 y_3, Value.slice y_4.a y_4.n y_4.c, Value.slice y_5.a y_5.n y_5.c]) h5) (
        J h4)) (
      J h3)) ∧ (∀ h6, J h6 →
  ∃ J_1 : Heap → Prop, (
    ∃ (y35 : Int) (y35_1 : ByteArray) (y35_2 : Bool) (y35_3 : Int) (y35_4 : Sv) (y35_5 : Sv), cl h6 p4 = some (Value.int .i64 y35) ∧ cl h6 (p4.add 1) = some (Value.string y35_1) ∧ cl h6 (p4.add 2) = some (Value.bool y35_2) ∧ cl h6 (p4.add 3) = some (Value.int .i64 y35_3) ∧ cl h6 (p4.add 4) = some (Value.slice y35_4.a y35_4.n y35_4.c) ∧ cl h6 (p4.add 5) = some (Value.slice y35_5.a y35_5.n y35_5.c) ∧
    cal Try.prog 33 #[Value.agg #[Value.int .i64 y35, Value.string y35_1, Value.bool y35_2, Value.int .i64 y35_3, Value.slice y35_4.a y35_4.n y35_4.c, Value.slice y35_5.a y35_5.n y35_5.c]] h6 fun u_1 h7 => asB u_1 fun x36 =>
    ∃ J_2 : Bool → Prop, (andr x36 (fun k =>
      ldI .i64 h7 p4 fun x39 =>
      k (x39 != 9)) J_2) ∧ ∀ x41, J_2 x41 →
    ifb x41 (
      ldI .i64 h7 (p4.add 3) fun x44 =>
      calV Try.prog (Value.func (.func 39) #[] #[Value.pointer (some p5)]) #[Value.int .i64 x44] h7 fun u_2 h8 => asI .i64 u_2 fun x45 =>
      sto h8 (p4.add 3) (Value.int .i64 x45) fun h9 =>
      J_1 h9) (
      J_1 h7)) ∧ (∀ h10, J_1 h10 →
  ∃ J_3 : Heap → Prop, (
    ldI .i64 h10 p4 fun x48 =>
    ifb (x48 == 5) (
      ldS h10 (p4.add 4) fun x51 =>
      cal Try.prog 34 #[Value.slice x51.a x51.n x51.c] h10 fun u_3 h11 => asS u_3 fun x52 =>
      sto h11 (p4.add 4) (Value.slice x52.a x52.n x52.c) fun h12 =>
      ldS h12 (p4.add 4) fun x55 =>
      ∃ (I : Int → Heap → Prop) (m : Int → Heap → Nat), I 0 h12 ∧ ∀ x57 h13, I x57 h13 →
      ifb (decide (x57 < ((x55.n : Nat) : Int))) (
        ixS x55 x57 fun q60 =>
        ldI .i64 h13 (q60.add ((x57 : Int).toNat * 1)) fun x61 =>
        ∃ Sq : Heap → Prop, Sq h13 ∧ (
          hlS Sq (p4.add 4) fun x63 =>
          calV Try.prog (Value.func (.func 39) #[] #[Value.pointer (some p5)]) #[Value.int .i64 x61] h13 fun u_4 h14 => asI .i64 u_4 fun x67 =>
          Sq h14 ∧
          ixS x63 x57 fun q68 =>
          sto h14 (q68.add ((x57 : Int).toNat * 1)) (Value.int .i64 x67) fun h15 =>
          I (IntKind.i64.wrap (x57 + 1)) h15 ∧ m (IntKind.i64.wrap (x57 + 1)) h15 < m x57 h13)) (
        J_3 h13)) (
      J_3 h10)) ∧ (∀ h16, J_3 h16 →
  ldS h16 (p4.add 5) fun x71 =>
  cal Try.prog 35 #[Value.slice x71.a x71.n x71.c] h16 fun u_5 h17 => asS u_5 fun x72 =>
  sto h17 (p4.add 5) (Value.slice x72.a x72.n x72.c) fun h18 =>
  ldS h18 (p4.add 5) fun x75 =>
  ∃ (I_1 : Int → Heap → Prop) (m_1 : Int → Heap → Nat), I_1 0 h18 ∧ ∀ x77 h19, I_1 x77 h19 →
  ifb (decide (x77 < ((x75.n : Nat) : Int))) (
    ixS x75 x77 fun q80 =>
    ∃ (y81 : Int) (y81_1 : ByteArray) (y81_2 : Bool) (y81_3 : Int) (y81_4 : Sv) (y81_5 : Sv), cl h19 (q80.add ((x77 : Int).toNat * 6)) = some (Value.int .i64 y81) ∧ cl h19 ((q80.add ((x77 : Int).toNat * 6)).add 1) = some (Value.string y81_1) ∧ cl h19 ((q80.add ((x77 : Int).toNat * 6)).add 2) = some (Value.bool y81_2) ∧ cl h19 ((q80.add ((x77 : Int).toNat * 6)).add 3) = some (Value.int .i64 y81_3) ∧ cl h19 ((q80.add ((x77 : Int).toNat * 6)).add 4) = some (Value.slice y81_4.a y81_4.n y81_4.c) ∧ cl h19 ((q80.add ((x77 : Int).toNat * 6)).add 5) = some (Value.slice y81_5.a y81_5.n y81_5.c) ∧
    new 25 #[Value.int .i64 0, Value.string (⟨#[]⟩ : ByteArray), Value.bool false, Value.int .i64 0, Value.slice (⟨none, 0, 0⟩ : Sv).a (⟨none, 0, 0⟩ : Sv).n (⟨none, 0, 0⟩ : Sv).c, Value.slice (⟨none, 0, 0⟩ : Sv).a (⟨none, 0, 0⟩ : Sv).n (⟨none, 0, 0⟩ : Sv).c] h19 fun p14 h20 =>
    stoA h20 p14 [Value.int .i64 y81, Value.string y81_1, Value.bool y81_2, Value.int .i64 y81_3, Value.slice y81_4.a y81_4.n y81_4.c, Value.slice y81_5.a y81_5.n y81_5.c] fun h21 =>
    ∃ Sq_1 : Heap → Prop, Sq_1 h21 ∧ (
      ∃ (y85 : Int) (y85_1 : ByteArray) (y85_2 : Bool) (y85_3 : Int) (y85_4 : Sv) (y85_5 : Sv), cl h21 p14 = some (Value.int .i64 y85) ∧ cl h21 (p14.add 1) = some (Value.string y85_1) ∧ cl h21 (p14.add 2) = some (Value.bool y85_2) ∧ cl h21 (p14.add 3) = some (Value.int .i64 y85_3) ∧ cl h21 (p14.add 4) = some (Value.slice y85_4.a y85_4.n y85_4.c) ∧ cl h21 (p14.add 5) = some (Value.slice y85_5.a y85_5.n y85_5.c) ∧
      ldS h21 p5 fun x86 =>
      hlS Sq_1 (p4.add 5) fun x83 =>
      cal Try.prog 21 #[Value.agg #[Value.int .i64 y85, Value.string y85_1, Value.bool y85_2, Value.int .i64 y85_3, Value.slice y85_4.a y85_4.n y85_4.c, Value.slice y85_5.a y85_5.n y85_5.c], Value.slice x86.a x86.n x86.c, Value.slice names2.a names2.n names2.c, Value.slice args3.a args3.n args3.c] h21 fun u_6 h22 => ∃ (y89 : Int) (y89_1 : ByteArray) (y89_2 : Bool) (y89_3 : Int) (y89_4 : Sv) (y89_5 : Sv), u_6 = Value.agg #[Value.int .i64 y89, Value.string y89_1, Value.bool y89_2, Value.int .i64 y89_3, Value.slice y89_4.a y89_4.n y89_4.c, Value.slice y89_5.a y89_5.n y89_5.c] ∧
      Sq_1 h22 ∧
      ixS x83 x77 fun q90 =>
      stoA h22 (q90.add ((x77 : Int).toNat * 6)) [Value.int .i64 y89, Value.string y89_1, Value.bool y89_2, Value.int .i64 y89_3, Value.slice y89_4.a y89_4.n y89_4.c, Value.slice y89_5.a y89_5.n y89_5.c] fun h23 =>
      I_1 (IntKind.i64.wrap (x77 + 1)) h23 ∧ m_1 (IntKind.i64.wrap (x77 + 1)) h23 < m_1 x77 h19)) (
    ∃ (y92 : Int) (y92_1 : ByteArray) (y92_2 : Bool) (y92_3 : Int) (y92_4 : Sv) (y92_5 : Sv), cl h19 p4 = some (Value.int .i64 y92) ∧ cl h19 (p4.add 1) = some (Value.string y92_1) ∧ cl h19 (p4.add 2) = some (Value.bool y92_2) ∧ cl h19 (p4.add 3) = some (Value.int .i64 y92_3) ∧ cl h19 (p4.add 4) = some (Value.slice y92_4.a y92_4.n y92_4.c) ∧ cl h19 (p4.add 5) = some (Value.slice y92_5.a y92_5.n y92_5.c) ∧
    stoA h19 p8 [Value.int .i64 y92, Value.string y92_1, Value.bool y92_2, Value.int .i64 y92_3, Value.slice y92_4.a y92_4.n y92_4.c, Value.slice y92_5.a y92_5.n y92_5.c] fun h24 =>
    ∃ (y_6 : Int) (y_7 : ByteArray) (y_8 : Bool) (y_9 : Int) (y_10 : Sv) (y_11 : Sv), cl h24 p8 = some (Value.int .i64 y_6) ∧ cl h24 (p8.add 1) = some (Value.string y_7) ∧ cl h24 (p8.add 2) = some (Value.bool y_8) ∧ cl h24 (p8.add 3) = some (Value.int .i64 y_9) ∧ cl h24 (p8.add 4) = some (Value.slice y_10.a y_10.n y_10.c) ∧ cl h24 (p8.add 5) = some (Value.slice y_11.a y_11.n y_11.c) ∧
    R (Value.agg #[Value.int .i64 y_6, Value.string y_7, Value.bool y_8, Value.int .i64 y_9, Value.slice y_10.a y_10.n y_10.c, Value.slice y_11.a y_11.n y_11.c]) h24))))

set_option maxRecDepth 100000 in

theorem F21 {x0 x0_1 x0_2 x0_3 x0_4 x0_5 lifes1 names2 args3 h : _} {R : Value → Heap → Prop} (H : L21 x0 x0_1 x0_2 x0_3 x0_4 x0_5 lifes1 names2 args3 h R) : CallsH Try.prog 21 #[Value.agg #[Value.int .i64 x0, Value.string x0_1, Value.bool x0_2, Value.int .i64 x0_3, Value.slice x0_4.a x0_4.n x0_4.c, Value.slice x0_5.a x0_5.n x0_5.c], Value.slice lifes1.a lifes1.n lifes1.c, Value.slice names2.a names2.n names2.c, Value.slice args3.a args3.n args3.c] h R := by
  refine CallsH.enter (n := 93) Try.func21 rfl rfl rfl rfl ?_
  intro w0 aa ww S
  unfold L21 at H
  refine W.seq ?_
  replace S := S.sub [(0, Value.agg #[Value.int .i64 x0, Value.string x0_1, Value.bool x0_2, Value.int .i64 x0_3, Value.slice x0_4.a x0_4.n x0_4.c, Value.slice x0_5.a x0_5.n x0_5.c]), (1, Value.slice lifes1.a lifes1.n lifes1.c), (2, Value.slice names2.a names2.n names2.c), (3, Value.slice args3.a args3.n args3.c)] ⟨rfl, rfl, rfl, rfl, trivial⟩
  refine W.region ?_
  refine ol_box S H rfl rfl rfl trivial ?_
  clear S H aa; intro p4 aa ww h1 H S
  refine ol_box S H rfl rfl rfl trivial ?_
  clear S H aa; intro p5 aa ww h2 H S
  refine ol_alloc S H ti25 rfl rfl trivial ?_
  clear S H aa; intro p8 aa ww h3 H S
  refine OL.nil ?_
  obtain ⟨J, H, HK⟩ := H
  refine W.seqJ (fun aa ww => ∃ h6, St 93 [(2, Value.slice names2.a names2.n names2.c), (3, Value.slice args3.a args3.n args3.c), (4, Value.pointer (some p4)), (5, Value.pointer (some p5)), (8, Value.pointer (some p8))] h6 w0 aa ww ∧ J h6) ?_ ?_
  · clear HK
    refine W.seq ?_
    replace S := S.sub [(2, Value.slice names2.a names2.n names2.c), (3, Value.slice args3.a args3.n args3.c), (4, Value.pointer (some p4)), (5, Value.pointer (some p5)), (8, Value.pointer (some p8))] ⟨rfl, rfl, rfl, rfl, rfl, trivial⟩
    refine W.region ?_
    refine OL.pure S (Lf.run_fa (S.ev rfl) fa25_0) rfl rfl trivial ?_
    clear S; intro aa S
    obtain ⟨x16, c, H⟩ := H
    refine OL.pure S (Lf.run_ld (S.ev rfl) fl3 (S.cl c)) rfl rfl trivial ?_
    clear S; intro aa S
    refine OL.pure S (Lf.run_eql (S.ev rfl) (S.ev rfl)) rfl rfl trivial ?_
    clear S; intro aa S
    refine OL.nil ?_
    refine W.cond S (b := (x16 == 9)) rfl (fun hb => ?_) (fun hb => ?_)
    · replace H := H.1 hb
      refine W.seq ?_
      replace S := S.sub [(2, Value.slice names2.a names2.n names2.c), (3, Value.slice args3.a args3.n args3.c), (4, Value.pointer (some p4)), (5, Value.pointer (some p5)), (8, Value.pointer (some p8))] ⟨rfl, rfl, rfl, rfl, rfl, trivial⟩
      refine W.region ?_
      refine OL.pure S (Lf.run_move (S.ev rfl)) rfl rfl trivial ?_
      clear S; intro aa S
      refine OL.pure S (Lf.run_fa (S.ev rfl) fa25_1) rfl rfl trivial ?_
      clear S; intro aa S
      obtain ⟨x20, c_1, H⟩ := H
      refine OL.pure S (Lf.run_ld (S.ev rfl) fl9 (S.cl c_1)) rfl rfl trivial ?_
      clear S; intro aa S
      refine ol_cal S H isfn38 rfl rfl trivial ?_
      clear S H aa; intro u aa ww h4 H S
      obtain ⟨x21, rfl, H⟩ := H
      refine OL.pure S (Lf.run_assign (S.ev rfl)) rfl rfl trivial ?_
      clear S; intro aa S
      refine OL.nil ?_
      refine W.seq ?_
      replace S := S.sub [(2, Value.slice names2.a names2.n names2.c), (3, Value.slice args3.a args3.n args3.c), (4, Value.pointer (some p4)), (5, Value.pointer (some p5)), (8, Value.pointer (some p8)), (9, Value.int .i64 x21)] ⟨rfl, rfl, rfl, rfl, rfl, rfl, trivial⟩
      refine W.region ?_
      refine OL.pure S (Lf.run_move (S.ev rfl)) rfl rfl trivial ?_
      clear S; intro aa S
      refine OL.pure S (Lf.run_geq (S.ev rfl) (S.ev rfl)) rfl rfl trivial ?_
      clear S; intro aa S
      refine OL.pure S (Lf.run_move (S.ev rfl)) rfl rfl trivial ?_
      clear S; intro aa S
      refine OL.cutN 5 (fun aa ww => St 93 ((29, Value.bool ((decide (0 ≤ x21)) && (decide (x21 < ((args3.n : Nat) : Int))))) :: [(2, Value.slice names2.a names2.n names2.c), (3, Value.slice args3.a args3.n args3.c), (4, Value.pointer (some p4)), (5, Value.pointer (some p5)), (8, Value.pointer (some p8)), (9, Value.int .i64 x21), (22, Value.int .i64 x21), (23, Value.bool (decide (0 ≤ x21))), (24, Value.bool (decide (0 ≤ x21)))]) h4 w0 aa ww) ?_ ?_
      · rcases Bool.eq_false_or_eq_true (decide (0 ≤ x21)) with hb_1 | hb_1
        · refine OL.pure S (Lf.run_move (S.ev rfl)) rfl rfl (GOk.mk rfl rfl hb_1) ?_
          clear S; intro aa S
          refine OL.pure S (Lf.run_move (S.ev rfl)) rfl rfl (GOk.mk rfl rfl hb_1) ?_
          clear S; intro aa S
          refine OL.pure S (Lf.run_lens (S.ev rfl) rfl Try.underlying23) rfl rfl (GOk.mk rfl rfl hb_1) ?_
          clear S; intro aa S
          refine OL.pure S (Lf.run_lss (S.ev rfl) (S.ev rfl)) rfl rfl (GOk.mk rfl rfl hb_1) ?_
          clear S; intro aa S
          refine OL.pure S (Lf.run_pickT (S.ev rfl) hb_1 (S.ev rfl)) rfl rfl trivial ?_
          clear S; intro aa S
          refine OL.nil ?_
          exact (S.hd (by rw [hb_1, Bool.true_and])).sub _ ⟨rfl, rfl, rfl, rfl, rfl, rfl, rfl, rfl, rfl, rfl, trivial⟩
        · refine OL.not S rfl rfl (GNo.mk rfl rfl hb_1) ?_
          clear S; intro aa S
          refine OL.not S rfl rfl (GNo.mk rfl rfl hb_1) ?_
          clear S; intro aa S
          refine OL.not S rfl rfl (GNo.mk rfl rfl hb_1) ?_
          clear S; intro aa S
          refine OL.not S rfl rfl (GNo.mk rfl rfl hb_1) ?_
          clear S; intro aa S
          refine OL.pure S (Lf.run_pickF (S.ev rfl) hb_1 (S.ev rfl)) rfl rfl trivial ?_
          clear S; intro aa S
          refine OL.nil ?_
          exact (S.hd (by rw [hb_1, Bool.false_and])).sub _ ⟨rfl, rfl, rfl, rfl, rfl, rfl, rfl, rfl, rfl, rfl, trivial⟩
      · clear S aa
        intro aa ww S
        refine OL.nil ?_
        refine W.cond S (b := ((decide (0 ≤ x21)) && (decide (x21 < ((args3.n : Nat) : Int))))) rfl (fun hb_2 => ?_) (fun hb_2 => ?_)
        · replace H := H.1 hb_2
          refine W.seq ?_
          replace S := S.sub [(3, Value.slice args3.a args3.n args3.c), (8, Value.pointer (some p8)), (9, Value.int .i64 x21)] ⟨rfl, rfl, rfl, trivial⟩
          refine W.region ?_
          refine OL.pure S (Lf.run_move (S.ev rfl)) rfl rfl trivial ?_
          clear S; intro aa S
          refine OL.pure S (Lf.run_move (S.ev rfl)) rfl rfl trivial ?_
          clear S; intro aa S
          obtain ⟨q32, e, e_1, e_2, H⟩ := H
          refine OL.pure S (Lf.run_ixs (S.ev rfl) (S.ev rfl) Try.underlying23 ti25 e e_1 e_2) rfl rfl trivial ?_
          clear S; intro aa S
          obtain ⟨y33, y33_1, y33_2, y33_3, y33_4, y33_5, c_9, c_10, c_11, c_12, c_13, c_14, H⟩ := H
          refine OL.pure S (Lf.run_ldA (cs := [Value.int .i64 y33, Value.string y33_1, Value.bool y33_2, Value.int .i64 y33_3, Value.slice y33_4.a y33_4.n y33_4.c, Value.slice y33_5.a y33_5.n y33_5.c]) (S.ev rfl) ag25 ti25 (by rw [S.heap]; exact RowL.toRow ⟨c_9, c_10, c_11, c_12, c_13, c_14, trivial⟩)) rfl rfl trivial ?_
          clear S; intro aa S
          refine ol_stoA S H rfl rfl ti25 trivial ?_
          clear S H aa; intro aa ww h5 H S
          refine OL.nil ?_
          refine W.ret ?_
          obtain ⟨y, y_1, y_2, y_3, y_4, y_5, c_3, c_4, c_5, c_6, c_7, c_8, H⟩ := H
          exact Ret.gen S rfl (RV.cellA (cs := [Value.int .i64 y, Value.string y_1, Value.bool y_2, Value.int .i64 y_3, Value.slice y_4.a y_4.n y_4.c, Value.slice y_5.a y_5.n y_5.c]) rfl ag25 ti25 ⟨c_3, c_4, c_5, c_6, c_7, c_8, trivial⟩ RV.nil) rfl H
        · replace H := H.2 hb_2
          refine W.skip ?_
          exact ⟨h4, S.sub _ ⟨rfl, rfl, rfl, rfl, rfl, trivial⟩, H⟩
    · replace H := H.2 hb
      refine W.skip ?_
      exact ⟨h3, S.sub _ ⟨rfl, rfl, rfl, rfl, rfl, trivial⟩, H⟩
  · clear H S aa
    rintro aa ww ⟨h6, S, HJ⟩
    have H := HK _ HJ
    clear HK HJ
    refine W.seq ?_
    replace S := S.sub [(2, Value.slice names2.a names2.n names2.c), (3, Value.slice args3.a args3.n args3.c), (4, Value.pointer (some p4)), (5, Value.pointer (some p5)), (8, Value.pointer (some p8))] ⟨rfl, rfl, rfl, rfl, rfl, trivial⟩
    refine W.region ?_
    refine OL.pure S (Lf.run_mf (evs_map S rfl)) rfl rfl trivial ?_
    clear S; intro aa S
    refine OL.pure S (Lf.run_assign (S.ev rfl)) rfl rfl trivial ?_
    clear S; intro aa S
    refine OL.nil ?_
    obtain ⟨J_1, H, HK_1⟩ := H
    refine W.seqJ (fun aa ww => ∃ h10, St 93 [(2, Value.slice names2.a names2.n names2.c), (3, Value.slice args3.a args3.n args3.c), (4, Value.pointer (some p4)), (5, Value.pointer (some p5)), (8, Value.pointer (some p8)), (10, (Value.func (.func 39) #[] #[Value.pointer (some p5)]))] h10 w0 aa ww ∧ J_1 h10) ?_ ?_
    · clear HK_1
      refine W.seq ?_
      replace S := S.sub [(2, Value.slice names2.a names2.n names2.c), (3, Value.slice args3.a args3.n args3.c), (4, Value.pointer (some p4)), (5, Value.pointer (some p5)), (8, Value.pointer (some p8)), (10, (Value.func (.func 39) #[] #[Value.pointer (some p5)]))] ⟨rfl, rfl, rfl, rfl, rfl, rfl, trivial⟩
      refine W.region ?_
      obtain ⟨y35, y35_1, y35_2, y35_3, y35_4, y35_5, c_18, c_19, c_20, c_21, c_22, c_23, H⟩ := H
      refine OL.pure S (Lf.run_ldA (cs := [Value.int .i64 y35, Value.string y35_1, Value.bool y35_2, Value.int .i64 y35_3, Value.slice y35_4.a y35_4.n y35_4.c, Value.slice y35_5.a y35_5.n y35_5.c]) (S.ev rfl) ag25 ti25 (by rw [S.heap]; exact RowL.toRow ⟨c_18, c_19, c_20, c_21, c_22, c_23, trivial⟩)) rfl rfl trivial ?_
      clear S; intro aa S
      refine ol_cal S H isfn33 rfl rfl trivial ?_
      clear S H aa; intro u_1 aa ww h7 H S
      obtain ⟨x36, rfl, H⟩ := H
      refine OL.pure S (Lf.run_move (S.ev rfl)) rfl rfl trivial ?_
      clear S; intro aa S
      obtain ⟨J_2, H, HK_2⟩ := H
      refine OL.cutN 4 (fun aa ww => ∃ x41, St 93 ((41, Value.bool x41) :: [(2, Value.slice names2.a names2.n names2.c), (3, Value.slice args3.a args3.n args3.c), (4, Value.pointer (some p4)), (5, Value.pointer (some p5)), (8, Value.pointer (some p8)), (10, (Value.func (.func 39) #[] #[Value.pointer (some p5)])), (35, Value.agg #[Value.int .i64 y35, Value.string y35_1, Value.bool y35_2, Value.int .i64 y35_3, Value.slice y35_4.a y35_4.n y35_4.c, Value.slice y35_5.a y35_5.n y35_5.c]), (36, Value.bool x36), (37, Value.bool x36)]) h7 w0 aa ww ∧ J_2 x41) ?_ ?_
      · rcases Bool.eq_false_or_eq_true x36 with hb_3 | hb_3
        · replace H := H.1 hb_3
          refine OL.pure S (Lf.run_fa (S.ev rfl) fa25_0) rfl rfl (GOk.mk rfl rfl hb_3) ?_
          clear S; intro aa S
          obtain ⟨x39, c_16, H⟩ := H
          refine OL.pure S (Lf.run_ld (S.ev rfl) fl3 (S.cl c_16)) rfl rfl (GOk.mk rfl rfl hb_3) ?_
          clear S; intro aa S
          refine OL.pure S (Lf.run_neq (S.ev rfl) (S.ev rfl)) rfl rfl (GOk.mk rfl rfl hb_3) ?_
          clear S; intro aa S
          refine OL.pure S (Lf.run_pickT (S.ev rfl) hb_3 (S.ev rfl)) rfl rfl trivial ?_
          clear S; intro aa S
          refine OL.nil ?_
          exact ⟨_, S.sub _ ⟨rfl, rfl, rfl, rfl, rfl, rfl, rfl, rfl, rfl, rfl, trivial⟩, H⟩
        · replace H := H.2 hb_3
          refine OL.not S rfl rfl (GNo.mk rfl rfl hb_3) ?_
          clear S; intro aa S
          refine OL.not S rfl rfl (GNo.mk rfl rfl hb_3) ?_
          clear S; intro aa S
          refine OL.not S rfl rfl (GNo.mk rfl rfl hb_3) ?_
          clear S; intro aa S
          refine OL.pure S (Lf.run_pickF (S.ev rfl) hb_3 (S.ev rfl)) rfl rfl trivial ?_
          clear S; intro aa S
          refine OL.nil ?_
          exact ⟨_, S.sub _ ⟨rfl, rfl, rfl, rfl, rfl, rfl, rfl, rfl, rfl, rfl, trivial⟩, H⟩
      · clear S aa
        rintro aa ww ⟨x41, S, HJ⟩
        replace H := HK_2 _ HJ
        clear HK_2 HJ
        refine OL.nil ?_
        refine W.cond S (b := x41) rfl (fun hb_4 => ?_) (fun hb_4 => ?_)
        · replace H := H.1 hb_4
          replace S := S.sub [(2, Value.slice names2.a names2.n names2.c), (3, Value.slice args3.a args3.n args3.c), (4, Value.pointer (some p4)), (5, Value.pointer (some p5)), (8, Value.pointer (some p8)), (10, (Value.func (.func 39) #[] #[Value.pointer (some p5)]))] ⟨rfl, rfl, rfl, rfl, rfl, rfl, trivial⟩
          refine W.region ?_
          refine OL.pure S (Lf.run_move (S.ev rfl)) rfl rfl trivial ?_
          clear S; intro aa S
          refine OL.pure S (Lf.run_fa (S.ev rfl) fa25_3) rfl rfl trivial ?_
          clear S; intro aa S
          obtain ⟨x44, c_17, H⟩ := H
          refine OL.pure S (Lf.run_ld (S.ev rfl) fl3 (S.cl c_17)) rfl rfl trivial ?_
          clear S; intro aa S
          refine ol_calV S H rfl rfl rfl trivial ?_
          clear S H aa; intro u_2 aa ww h8 H S
          obtain ⟨x45, rfl, H⟩ := H
          refine OL.pure S (Lf.run_fa (S.ev rfl) fa25_3) rfl rfl trivial ?_
          clear S; intro aa S
          refine ol_sto S H rfl rfl rfl ti3 trivial ?_
          clear S H aa; intro aa ww h9 H S
          refine OL.nil ?_
          exact ⟨h9, S.sub _ ⟨rfl, rfl, rfl, rfl, rfl, rfl, trivial⟩, H⟩
        · replace H := H.2 hb_4
          refine W.skip ?_
          exact ⟨h7, S.sub _ ⟨rfl, rfl, rfl, rfl, rfl, rfl, trivial⟩, H⟩
    · clear H S aa
      rintro aa ww ⟨h10, S, HJ⟩
      have H := HK_1 _ HJ
      clear HK_1 HJ
      obtain ⟨J_3, H, HK_3⟩ := H
      refine W.seqJ (fun aa ww => ∃ h16, St 93 [(2, Value.slice names2.a names2.n names2.c), (3, Value.slice args3.a args3.n args3.c), (4, Value.pointer (some p4)), (5, Value.pointer (some p5)), (8, Value.pointer (some p8))] h16 w0 aa ww ∧ J_3 h16) ?_ ?_
      · clear HK_3
        refine W.seq ?_
        replace S := S.sub [(2, Value.slice names2.a names2.n names2.c), (3, Value.slice args3.a args3.n args3.c), (4, Value.pointer (some p4)), (5, Value.pointer (some p5)), (8, Value.pointer (some p8)), (10, (Value.func (.func 39) #[] #[Value.pointer (some p5)]))] ⟨rfl, rfl, rfl, rfl, rfl, rfl, trivial⟩
        refine W.region ?_
        refine OL.pure S (Lf.run_fa (S.ev rfl) fa25_0) rfl rfl trivial ?_
        clear S; intro aa S
        obtain ⟨x48, c_24, H⟩ := H
        refine OL.pure S (Lf.run_ld (S.ev rfl) fl3 (S.cl c_24)) rfl rfl trivial ?_
        clear S; intro aa S
        refine OL.pure S (Lf.run_eql (S.ev rfl) (S.ev rfl)) rfl rfl trivial ?_
        clear S; intro aa S
        refine OL.nil ?_
        refine W.cond S (b := (x48 == 5)) rfl (fun hb_5 => ?_) (fun hb_5 => ?_)
        · replace H := H.1 hb_5
          refine W.seq ?_
          replace S := S.sub [(2, Value.slice names2.a names2.n names2.c), (3, Value.slice args3.a args3.n args3.c), (4, Value.pointer (some p4)), (5, Value.pointer (some p5)), (8, Value.pointer (some p8)), (10, (Value.func (.func 39) #[] #[Value.pointer (some p5)]))] ⟨rfl, rfl, rfl, rfl, rfl, rfl, trivial⟩
          refine W.region ?_
          refine OL.pure S (Lf.run_fa (S.ev rfl) fa25_4) rfl rfl trivial ?_
          clear S; intro aa S
          obtain ⟨x51, c_25, H⟩ := H
          refine OL.pure S (Lf.run_ld (S.ev rfl) fl22 (S.cl c_25)) rfl rfl trivial ?_
          clear S; intro aa S
          refine ol_cal S H isfn34 rfl rfl trivial ?_
          clear S H aa; intro u_3 aa ww h11 H S
          obtain ⟨x52, rfl, H⟩ := H
          refine OL.pure S (Lf.run_fa (S.ev rfl) fa25_4) rfl rfl trivial ?_
          clear S; intro aa S
          refine ol_sto S H rfl rfl rfl ti22 trivial ?_
          clear S H aa; intro aa ww h12 H S
          refine OL.nil ?_
          refine W.seq ?_
          replace S := S.sub [(2, Value.slice names2.a names2.n names2.c), (3, Value.slice args3.a args3.n args3.c), (4, Value.pointer (some p4)), (5, Value.pointer (some p5)), (8, Value.pointer (some p8)), (10, (Value.func (.func 39) #[] #[Value.pointer (some p5)]))] ⟨rfl, rfl, rfl, rfl, rfl, rfl, trivial⟩
          refine W.region ?_
          refine OL.pure S (Lf.run_fa (S.ev rfl) fa25_4) rfl rfl trivial ?_
          clear S; intro aa S
          obtain ⟨x55, c_26, H⟩ := H
          refine OL.pure S (Lf.run_ld (S.ev rfl) fl22 (S.cl c_26)) rfl rfl trivial ?_
          clear S; intro aa S
          refine OL.pure S (Lf.run_lens (S.ev rfl) rfl Try.underlying22) rfl rfl trivial ?_
          clear S; intro aa S
          refine OL.pure S (Lf.run_move (S.ev rfl)) rfl rfl trivial ?_
          clear S; intro aa S
          refine OL.nil ?_
          refine W.block ?_
          obtain ⟨I, m, H, HB⟩ := H
          refine W.loopS (σ := Int × Heap) (fun s aa ww => St 93 [(2, Value.slice names2.a names2.n names2.c), (3, Value.slice args3.a args3.n args3.c), (4, Value.pointer (some p4)), (5, Value.pointer (some p5)), (8, Value.pointer (some p8)), (10, (Value.func (.func 39) #[] #[Value.pointer (some p5)])), (55, Value.slice x55.a x55.n x55.c), (56, Value.int .i64 ((x55.n : Nat) : Int)), (57, Value.int .i64 s.1)] s.2 w0 aa ww ∧ I s.1 s.2) (fun s => m s.1 s.2) (0, h12) ⟨S.sub _ ⟨rfl, rfl, rfl, rfl, rfl, rfl, rfl, rfl, rfl, trivial⟩, H⟩ ?_
          clear H S aa
          rintro ⟨x57, h13⟩ aa ww ⟨S, HI⟩
          replace S : St 93 [(2, Value.slice names2.a names2.n names2.c), (3, Value.slice args3.a args3.n args3.c), (4, Value.pointer (some p4)), (5, Value.pointer (some p5)), (8, Value.pointer (some p8)), (10, (Value.func (.func 39) #[] #[Value.pointer (some p5)])), (55, Value.slice x55.a x55.n x55.c), (56, Value.int .i64 ((x55.n : Nat) : Int)), (57, Value.int .i64 x57)] h13 w0 aa ww := S
          have H := HB x57 h13 HI
          clear HI
          refine W.seq ?_
          replace S := S.sub [(2, Value.slice names2.a names2.n names2.c), (3, Value.slice args3.a args3.n args3.c), (4, Value.pointer (some p4)), (5, Value.pointer (some p5)), (8, Value.pointer (some p8)), (10, (Value.func (.func 39) #[] #[Value.pointer (some p5)])), (55, Value.slice x55.a x55.n x55.c), (56, Value.int .i64 ((x55.n : Nat) : Int)), (57, Value.int .i64 x57)] ⟨rfl, rfl, rfl, rfl, rfl, rfl, rfl, rfl, rfl, trivial⟩
          refine W.region ?_
          refine OL.pure S (Lf.run_lss (S.ev rfl) (S.ev rfl)) rfl rfl trivial ?_
          clear S; intro aa S
          refine OL.nil ?_
          refine W.seq ?_
          refine W.cond S (b := (decide (x57 < ((x55.n : Nat) : Int)))) rfl (fun hb_6 => ?_) (fun hb_6 => ?_)
          · replace H := H.1 hb_6
            refine W.skip ?_
            refine W.seq ?_
            refine W.block ?_
            refine W.seq ?_
            replace S := S.sub [(2, Value.slice names2.a names2.n names2.c), (3, Value.slice args3.a args3.n args3.c), (4, Value.pointer (some p4)), (5, Value.pointer (some p5)), (8, Value.pointer (some p8)), (10, (Value.func (.func 39) #[] #[Value.pointer (some p5)])), (55, Value.slice x55.a x55.n x55.c), (56, Value.int .i64 ((x55.n : Nat) : Int)), (57, Value.int .i64 x57)] ⟨rfl, rfl, rfl, rfl, rfl, rfl, rfl, rfl, rfl, trivial⟩
            refine W.region ?_
            refine OL.pure S (Lf.run_move (S.ev rfl)) rfl rfl trivial ?_
            clear S; intro aa S
            obtain ⟨q60, e_3, e_4, e_5, H⟩ := H
            refine OL.pure S (Lf.run_ixs (S.ev rfl) (S.ev rfl) Try.underlying22 ti3 e_3 e_4 e_5) rfl rfl trivial ?_
            clear S; intro aa S
            obtain ⟨x61, c_27, H⟩ := H
            refine OL.pure S (Lf.run_ld (S.ev rfl) fl3 (S.cl c_27)) rfl rfl trivial ?_
            clear S; intro aa S
            refine OL.pure S (Lf.run_assign (S.ev rfl)) rfl rfl trivial ?_
            clear S; intro aa S
            refine OL.pure S (Lf.run_assign (S.ev rfl)) rfl rfl trivial ?_
            clear S; intro aa S
            refine OL.nil ?_
            replace S := S.sub [(2, Value.slice names2.a names2.n names2.c), (3, Value.slice args3.a args3.n args3.c), (4, Value.pointer (some p4)), (5, Value.pointer (some p5)), (8, Value.pointer (some p8)), (10, (Value.func (.func 39) #[] #[Value.pointer (some p5)])), (11, Value.int .i64 x57), (12, Value.int .i64 x61), (55, Value.slice x55.a x55.n x55.c), (56, Value.int .i64 ((x55.n : Nat) : Int)), (57, Value.int .i64 x57)] ⟨rfl, rfl, rfl, rfl, rfl, rfl, rfl, rfl, rfl, rfl, rfl, trivial⟩
            obtain ⟨Sq, HS, H⟩ := H
            refine W.regionN [1] [5, 7] Sq S (by kernel_rfl) ?_
            clear S; intro ww S
            refine BN.pure 0 S (fun _ => HS) rfl (by kernel_rfl) (by kernel_rfl) (fun _ => Lf.run_fa (S.ev rfl) fa25_4) rfl rfl trivial ?_
            clear S; intro aa S
            refine BN.pure 2 S (fun _ => HS) rfl (by kernel_rfl) (by kernel_rfl) (fun _ => Lf.run_move (S.ev rfl)) rfl rfl trivial ?_
            clear S; intro aa S
            refine BN.pure 3 S (fun _ => HS) rfl (by kernel_rfl) (by kernel_rfl) (fun _ => Lf.run_move (S.ev rfl)) rfl rfl trivial ?_
            clear S; intro aa S
            refine BN.pure 4 S (fun _ => HS) rfl (by kernel_rfl) (by kernel_rfl) (fun _ => Lf.run_move (S.ev rfl)) rfl rfl trivial ?_
            clear S; intro aa S
            obtain ⟨x63, c_28, H⟩ := H
            refine BN.held 1 S HS rfl (by kernel_rfl) (fun _ hq => Lf.run_ld (S.ev rfl) fl22 (c_28 _ hq)) rfl rfl trivial ?_
            clear S; intro aa S
            refine BN.eff 5 rfl (by kernel_rfl) ?_
            refine ol_calV S H rfl rfl rfl trivial ?_
            clear S H aa; intro u_4 aa ww h14 H S
            obtain ⟨x67, rfl, H⟩ := H
            refine OL.nil ?_
            clear HS; obtain ⟨HS, H⟩ := H
            refine ⟨fun _ => by rw [S.heap]; exact HS, ?_⟩
            obtain ⟨q68, e_6, e_7, e_8, H⟩ := H
            refine BN.pure 6 S (fun _ => HS) rfl (by kernel_rfl) (by kernel_rfl) (fun _ => Lf.run_ixs (S.ev rfl) (S.ev rfl) Try.underlying22 ti3 e_6 e_7 e_8) rfl rfl trivial ?_
            clear S; intro aa S
            refine BN.eff 7 rfl (by kernel_rfl) ?_
            refine ol_sto S H rfl rfl rfl ti3 trivial ?_
            clear S H aa; intro aa ww h15 H S
            refine OL.nil ?_
            refine ⟨noNeed (by kernel_rfl), ?_⟩
            refine BN.done (by kernel_rfl) ?_
            replace S := S.sub [(2, Value.slice names2.a names2.n names2.c), (3, Value.slice args3.a args3.n args3.c), (4, Value.pointer (some p4)), (5, Value.pointer (some p5)), (8, Value.pointer (some p8)), (10, (Value.func (.func 39) #[] #[Value.pointer (some p5)])), (55, Value.slice x55.a x55.n x55.c), (56, Value.int .i64 ((x55.n : Nat) : Int)), (57, Value.int .i64 x57)] ⟨rfl, rfl, rfl, rfl, rfl, rfl, rfl, rfl, rfl, trivial⟩
            refine W.region ?_
            refine OL.pure S (Lf.run_add (S.ev rfl) (S.ev rfl)) rfl rfl trivial ?_
            clear S; intro aa S
            refine OL.pure S (Lf.run_move (S.ev rfl)) rfl rfl trivial ?_
            clear S; intro aa S
            refine OL.nil ?_
            exact ⟨((IntKind.i64.wrap (x57 + 1)), h15), ⟨S.sub _ ⟨rfl, rfl, rfl, rfl, rfl, rfl, rfl, rfl, rfl, trivial⟩, H.1⟩, H.2⟩
          · replace H := H.2 hb_6
            refine W.exit_ ?_
            refine xhit ?_
            exact ⟨h13, S.sub _ ⟨rfl, rfl, rfl, rfl, rfl, trivial⟩, H⟩
        · replace H := H.2 hb_5
          refine W.skip ?_
          exact ⟨h10, S.sub _ ⟨rfl, rfl, rfl, rfl, rfl, trivial⟩, H⟩
      · clear H S aa
        rintro aa ww ⟨h16, S, HJ⟩
        have H := HK_3 _ HJ
        clear HK_3 HJ
        refine W.seq ?_
        replace S := S.sub [(2, Value.slice names2.a names2.n names2.c), (3, Value.slice args3.a args3.n args3.c), (4, Value.pointer (some p4)), (5, Value.pointer (some p5)), (8, Value.pointer (some p8))] ⟨rfl, rfl, rfl, rfl, rfl, trivial⟩
        refine W.region ?_
        refine OL.pure S (Lf.run_fa (S.ev rfl) fa25_5) rfl rfl trivial ?_
        clear S; intro aa S
        obtain ⟨x71, c_29, H⟩ := H
        refine OL.pure S (Lf.run_ld (S.ev rfl) fl23 (S.cl c_29)) rfl rfl trivial ?_
        clear S; intro aa S
        refine ol_cal S H isfn35 rfl rfl trivial ?_
        clear S H aa; intro u_5 aa ww h17 H S
        obtain ⟨x72, rfl, H⟩ := H
        refine OL.pure S (Lf.run_fa (S.ev rfl) fa25_5) rfl rfl trivial ?_
        clear S; intro aa S
        refine ol_sto S H rfl rfl rfl ti23 trivial ?_
        clear S H aa; intro aa ww h18 H S
        refine OL.nil ?_
        refine W.seq ?_
        refine W.seq ?_
        replace S := S.sub [(2, Value.slice names2.a names2.n names2.c), (3, Value.slice args3.a args3.n args3.c), (4, Value.pointer (some p4)), (5, Value.pointer (some p5)), (8, Value.pointer (some p8))] ⟨rfl, rfl, rfl, rfl, rfl, trivial⟩
        refine W.region ?_
        refine OL.pure S (Lf.run_fa (S.ev rfl) fa25_5) rfl rfl trivial ?_
        clear S; intro aa S
        obtain ⟨x75, c_30, H⟩ := H
        refine OL.pure S (Lf.run_ld (S.ev rfl) fl23 (S.cl c_30)) rfl rfl trivial ?_
        clear S; intro aa S
        refine OL.pure S (Lf.run_lens (S.ev rfl) rfl Try.underlying23) rfl rfl trivial ?_
        clear S; intro aa S
        refine OL.pure S (Lf.run_move (S.ev rfl)) rfl rfl trivial ?_
        clear S; intro aa S
        refine OL.nil ?_
        refine W.block ?_
        obtain ⟨I_1, m_1, H, HB_1⟩ := H
        refine W.loopS (σ := Int × Heap) (fun s aa ww => St 93 [(2, Value.slice names2.a names2.n names2.c), (3, Value.slice args3.a args3.n args3.c), (4, Value.pointer (some p4)), (5, Value.pointer (some p5)), (8, Value.pointer (some p8)), (75, Value.slice x75.a x75.n x75.c), (76, Value.int .i64 ((x75.n : Nat) : Int)), (77, Value.int .i64 s.1)] s.2 w0 aa ww ∧ I_1 s.1 s.2) (fun s => m_1 s.1 s.2) (0, h18) ⟨S.sub _ ⟨rfl, rfl, rfl, rfl, rfl, rfl, rfl, rfl, trivial⟩, H⟩ ?_
        clear H S aa
        rintro ⟨x77, h19⟩ aa ww ⟨S, HI⟩
        replace S : St 93 [(2, Value.slice names2.a names2.n names2.c), (3, Value.slice args3.a args3.n args3.c), (4, Value.pointer (some p4)), (5, Value.pointer (some p5)), (8, Value.pointer (some p8)), (75, Value.slice x75.a x75.n x75.c), (76, Value.int .i64 ((x75.n : Nat) : Int)), (77, Value.int .i64 x77)] h19 w0 aa ww := S
        have H := HB_1 x77 h19 HI
        clear HI
        refine W.seq ?_
        replace S := S.sub [(2, Value.slice names2.a names2.n names2.c), (3, Value.slice args3.a args3.n args3.c), (4, Value.pointer (some p4)), (5, Value.pointer (some p5)), (8, Value.pointer (some p8)), (75, Value.slice x75.a x75.n x75.c), (76, Value.int .i64 ((x75.n : Nat) : Int)), (77, Value.int .i64 x77)] ⟨rfl, rfl, rfl, rfl, rfl, rfl, rfl, rfl, trivial⟩
        refine W.region ?_
        refine OL.pure S (Lf.run_lss (S.ev rfl) (S.ev rfl)) rfl rfl trivial ?_
        clear S; intro aa S
        refine OL.nil ?_
        refine W.seq ?_
        refine W.cond S (b := (decide (x77 < ((x75.n : Nat) : Int)))) rfl (fun hb_7 => ?_) (fun hb_7 => ?_)
        · replace H := H.1 hb_7
          refine W.skip ?_
          refine W.seq ?_
          refine W.block ?_
          refine W.seq ?_
          replace S := S.sub [(2, Value.slice names2.a names2.n names2.c), (3, Value.slice args3.a args3.n args3.c), (4, Value.pointer (some p4)), (5, Value.pointer (some p5)), (8, Value.pointer (some p8)), (75, Value.slice x75.a x75.n x75.c), (76, Value.int .i64 ((x75.n : Nat) : Int)), (77, Value.int .i64 x77)] ⟨rfl, rfl, rfl, rfl, rfl, rfl, rfl, rfl, trivial⟩
          refine W.region ?_
          refine OL.pure S (Lf.run_move (S.ev rfl)) rfl rfl trivial ?_
          clear S; intro aa S
          obtain ⟨q80, e_9, e_10, e_11, H⟩ := H
          refine OL.pure S (Lf.run_ixs (S.ev rfl) (S.ev rfl) Try.underlying23 ti25 e_9 e_10 e_11) rfl rfl trivial ?_
          clear S; intro aa S
          obtain ⟨y81, y81_1, y81_2, y81_3, y81_4, y81_5, c_41, c_42, c_43, c_44, c_45, c_46, H⟩ := H
          refine OL.pure S (Lf.run_ldA (cs := [Value.int .i64 y81, Value.string y81_1, Value.bool y81_2, Value.int .i64 y81_3, Value.slice y81_4.a y81_4.n y81_4.c, Value.slice y81_5.a y81_5.n y81_5.c]) (S.ev rfl) ag25 ti25 (by rw [S.heap]; exact RowL.toRow ⟨c_41, c_42, c_43, c_44, c_45, c_46, trivial⟩)) rfl rfl trivial ?_
          clear S; intro aa S
          refine ol_alloc S H ti25 rfl rfl trivial ?_
          clear S H aa; intro p14 aa ww h20 H S
          refine OL.pure S (Lf.run_assign (S.ev rfl)) rfl rfl trivial ?_
          clear S; intro aa S
          refine ol_stoA S H rfl rfl ti25 trivial ?_
          clear S H aa; intro aa ww h21 H S
          refine OL.nil ?_
          replace S := S.sub [(2, Value.slice names2.a names2.n names2.c), (3, Value.slice args3.a args3.n args3.c), (4, Value.pointer (some p4)), (5, Value.pointer (some p5)), (8, Value.pointer (some p8)), (13, Value.int .i64 x77), (14, Value.pointer (some p14)), (75, Value.slice x75.a x75.n x75.c), (76, Value.int .i64 ((x75.n : Nat) : Int)), (77, Value.int .i64 x77)] ⟨rfl, rfl, rfl, rfl, rfl, rfl, rfl, rfl, rfl, rfl, trivial⟩
          obtain ⟨Sq_1, HS_1, H⟩ := H
          refine W.regionN [1] [7, 9] Sq_1 S (by kernel_rfl) ?_
          clear S; intro ww S
          refine BN.pure 0 S (fun _ => HS_1) rfl (by kernel_rfl) (by kernel_rfl) (fun _ => Lf.run_fa (S.ev rfl) fa25_5) rfl rfl trivial ?_
          clear S; intro aa S
          refine BN.pure 2 S (fun _ => HS_1) rfl (by kernel_rfl) (by kernel_rfl) (fun _ => Lf.run_move (S.ev rfl)) rfl rfl trivial ?_
          clear S; intro aa S
          obtain ⟨y85, y85_1, y85_2, y85_3, y85_4, y85_5, c_35, c_36, c_37, c_38, c_39, c_40, H⟩ := H
          refine BN.load 3 S (fun _ => HS_1) rfl (by kernel_rfl) (by kernel_rfl) (fun _ hx => Lf.run_ldA (cs := [Value.int .i64 y85, Value.string y85_1, Value.bool y85_2, Value.int .i64 y85_3, Value.slice y85_4.a y85_4.n y85_4.c, Value.slice y85_5.a y85_5.n y85_5.c]) (S.ev rfl) ag25 ti25 (hx.row (S.row ⟨c_35, c_36, c_37, c_38, c_39, c_40, trivial⟩))) rfl rfl trivial ?_
          clear S; intro aa S
          obtain ⟨x86, c_33, H⟩ := H
          refine BN.load 4 S (fun _ => HS_1) rfl (by kernel_rfl) (by kernel_rfl) (fun _ hx => Lf.run_ld (S.ev rfl) fl22 (hx.cell _ _ (S.cl c_33))) rfl rfl trivial ?_
          clear S; intro aa S
          refine BN.pure 5 S (fun _ => HS_1) rfl (by kernel_rfl) (by kernel_rfl) (fun _ => Lf.run_move (S.ev rfl)) rfl rfl trivial ?_
          clear S; intro aa S
          refine BN.pure 6 S (fun _ => HS_1) rfl (by kernel_rfl) (by kernel_rfl) (fun _ => Lf.run_move (S.ev rfl)) rfl rfl trivial ?_
          clear S; intro aa S
          obtain ⟨x83, c_34, H⟩ := H
          refine BN.held 1 S HS_1 rfl (by kernel_rfl) (fun _ hq => Lf.run_ld (S.ev rfl) fl23 (c_34 _ hq)) rfl rfl trivial ?_
          clear S; intro aa S
          refine BN.eff 7 rfl (by kernel_rfl) ?_
          refine ol_cal S H isfn21 rfl rfl trivial ?_
          clear S H aa; intro u_6 aa ww h22 H S
          obtain ⟨y89, y89_1, y89_2, y89_3, y89_4, y89_5, rfl, H⟩ := H
          refine OL.nil ?_
          clear HS_1; obtain ⟨HS_1, H⟩ := H
          refine ⟨fun _ => by rw [S.heap]; exact HS_1, ?_⟩
          obtain ⟨q90, e_12, e_13, e_14, H⟩ := H
          refine BN.pure 8 S (fun _ => HS_1) rfl (by kernel_rfl) (by kernel_rfl) (fun _ => Lf.run_ixs (S.ev rfl) (S.ev rfl) Try.underlying23 ti25 e_12 e_13 e_14) rfl rfl trivial ?_
          clear S; intro aa S
          refine BN.eff 9 rfl (by kernel_rfl) ?_
          refine ol_stoA S H rfl rfl ti25 trivial ?_
          clear S H aa; intro aa ww h23 H S
          refine OL.nil ?_
          refine ⟨noNeed (by kernel_rfl), ?_⟩
          refine BN.done (by kernel_rfl) ?_
          replace S := S.sub [(2, Value.slice names2.a names2.n names2.c), (3, Value.slice args3.a args3.n args3.c), (4, Value.pointer (some p4)), (5, Value.pointer (some p5)), (8, Value.pointer (some p8)), (75, Value.slice x75.a x75.n x75.c), (76, Value.int .i64 ((x75.n : Nat) : Int)), (77, Value.int .i64 x77)] ⟨rfl, rfl, rfl, rfl, rfl, rfl, rfl, rfl, trivial⟩
          refine W.region ?_
          refine OL.pure S (Lf.run_add (S.ev rfl) (S.ev rfl)) rfl rfl trivial ?_
          clear S; intro aa S
          refine OL.pure S (Lf.run_move (S.ev rfl)) rfl rfl trivial ?_
          clear S; intro aa S
          refine OL.nil ?_
          exact ⟨((IntKind.i64.wrap (x77 + 1)), h23), ⟨S.sub _ ⟨rfl, rfl, rfl, rfl, rfl, rfl, rfl, rfl, trivial⟩, H.1⟩, H.2⟩
        · replace H := H.2 hb_7
          refine W.exit_ ?_
          refine xhit ?_
          refine W.seq ?_
          replace S := S.sub [(4, Value.pointer (some p4)), (8, Value.pointer (some p8))] ⟨rfl, rfl, trivial⟩
          refine W.region ?_
          obtain ⟨y92, y92_1, y92_2, y92_3, y92_4, y92_5, c_54, c_55, c_56, c_57, c_58, c_59, H⟩ := H
          refine OL.pure S (Lf.run_ldA (cs := [Value.int .i64 y92, Value.string y92_1, Value.bool y92_2, Value.int .i64 y92_3, Value.slice y92_4.a y92_4.n y92_4.c, Value.slice y92_5.a y92_5.n y92_5.c]) (S.ev rfl) ag25 ti25 (by rw [S.heap]; exact RowL.toRow ⟨c_54, c_55, c_56, c_57, c_58, c_59, trivial⟩)) rfl rfl trivial ?_
          clear S; intro aa S
          refine ol_stoA S H rfl rfl ti25 trivial ?_
          clear S H aa; intro aa ww h24 H S
          refine OL.nil ?_
          refine W.ret ?_
          obtain ⟨y_6, y_7, y_8, y_9, y_10, y_11, c_48, c_49, c_50, c_51, c_52, c_53, H⟩ := H
          exact Ret.gen S rfl (RV.cellA (cs := [Value.int .i64 y_6, Value.string y_7, Value.bool y_8, Value.int .i64 y_9, Value.slice y_10.a y_10.n y_10.c, Value.slice y_11.a y_11.n y_11.c]) rfl ag25 ti25 ⟨c_48, c_49, c_50, c_51, c_52, c_53, trivial⟩ RV.nil) rfl H

/-- chattel chattelref07.Inst -/
def L22 (x0 : Int) (x0_1 : ByteArray) (x0_2 : Bool) (x0_3 : Int) (x0_4 : Sv) (x0_5 : Sv) (lifes1 : Sv) (names2 : Sv) (args3 : Sv) (h : Heap) (R : Value → Heap → Prop) : Prop :=
  new 25 #[Value.int .i64 x0, Value.string x0_1, Value.bool x0_2, Value.int .i64 x0_3, Value.slice x0_4.a x0_4.n x0_4.c, Value.slice x0_5.a x0_5.n x0_5.c] h fun p4 h1 =>
  new 25 #[Value.int .i64 0, Value.string (⟨#[]⟩ : ByteArray), Value.bool false, Value.int .i64 0, Value.slice (⟨none, 0, 0⟩ : Sv).a (⟨none, 0, 0⟩ : Sv).n (⟨none, 0, 0⟩ : Sv).c, Value.slice (⟨none, 0, 0⟩ : Sv).a (⟨none, 0, 0⟩ : Sv).n (⟨none, 0, 0⟩ : Sv).c] h1 fun p8 h2 =>
  ∃ J : Heap → Prop, (
    ldI .i64 h2 p4 fun x19 =>
    ifb (x19 == 9) (
      ∃ (I : Int → Heap → Prop) (m : Int → Heap → Nat), I 0 h2 ∧ ∀ i9 h3, I i9 h3 →
      ifb (decide (i9 < ((names2.n : Nat) : Int))) (
        ixS names2 i9 fun q29 =>
        ldT h3 (q29.add ((i9 : Int).toNat * 1)) fun x30 =>
        ldT h3 (p4.add 1) fun x32 =>
        ifb (x30.toList == x32.toList) (
          ifb (decide (i9 < ((args3.n : Nat) : Int))) (
            ixS args3 i9 fun q40 =>
            ∃ (y41 : Int) (y41_1 : ByteArray) (y41_2 : Bool) (y41_3 : Int) (y41_4 : Sv) (y41_5 : Sv), cl h3 (q40.add ((i9 : Int).toNat * 6)) = some (Value.int .i64 y41) ∧ cl h3 ((q40.add ((i9 : Int).toNat * 6)).add 1) = some (Value.string y41_1) ∧ cl h3 ((q40.add ((i9 : Int).toNat * 6)).add 2) = some (Value.bool y41_2) ∧ cl h3 ((q40.add ((i9 : Int).toNat * 6)).add 3) = some (Value.int .i64 y41_3) ∧ cl h3 ((q40.add ((i9 : Int).toNat * 6)).add 4) = some (Value.slice y41_4.a y41_4.n y41_4.c) ∧ cl h3 ((q40.add ((i9 : Int).toNat * 6)).add 5) = some (Value.slice y41_5.a y41_5.n y41_5.c) ∧
            stoA h3 p8 [Value.int .i64 y41, Value.string y41_1, Value.bool y41_2, Value.int .i64 y41_3, Value.slice y41_4.a y41_4.n y41_4.c, Value.slice y41_5.a y41_5.n y41_5.c] fun h4 =>
            ∃ (y : Int) (y_1 : ByteArray) (y_2 : Bool) (y_3 : Int) (y_4 : Sv) (y_5 : Sv), cl h4 p8 = some (Value.int .i64 y) ∧ cl h4 (p8.add 1) = some (Value.string y_1) ∧ cl h4 (p8.add 2) = some (Value.bool y_2) ∧ cl h4 (p8.add 3) = some (Value.int .i64 y_3) ∧ cl h4 (p8.add 4) = some (Value.slice y_4.a y_4.n y_4.c) ∧ cl h4 (p8.add 5) = some (Value.slice y_5.a y_5.n y_5.c) ∧
            R (Value.agg #[Value.int .i64 y, Value.string y_1, Value.bool y_2, Value.int .i64 y_3, Value.slice y_4.a y_4.n y_4.c, Value.slice y_5.a y_5.n y_5.c]) h4) (
            J h3)) (
          I (IntKind.i64.wrap (i9 + 1)) h3 ∧ m (IntKind.i64.wrap (i9 + 1)) h3 < m i9 h3)) (
        J h3)) (
      J h2)) ∧ (∀ h5, J h5 →
  ∃ (y42 : Int) (y42_1 : ByteArray) (y42_2 : Bool) (y42_3 : Int) (y42_4 : Sv) (y42_5 : Sv), cl h5 p4 = some (Value.int .i64 y42) ∧ cl h5 (p4.add 1) = some (Value.string y42_1) ∧ cl h5 (p4.add 2) = some (Value.bool y42_2) ∧ cl h5 (p4.add 3) = some (Value.int .i64 y42_3) ∧ cl h5 (p4.add 4) = some (Value.slice y42_4.a y42_4.n y42_4.c) ∧ cl h5 (p4.add 5) = some (Value.slice y42_5.a y42_5.n y42_5.c) ∧
  cal Try.prog 36 #[Value.agg #[Value.int .i64 y42, Value.string y42_1, Value.bool y42_2, Value.int .i64 y42_3, Value.slice y42_4.a y42_4.n y42_4.c, Value.slice y42_5.a y42_5.n y42_5.c]] h5 fun u h6 => asS u fun x43 =>
  ∃ (I_1 : Sv → Int → Heap → Prop) (m_1 : Sv → Int → Heap → Nat), I_1 (⟨none, 0, 0⟩ : Sv) 0 h6 ∧ ∀ l10 i12 h7, I_1 l10 i12 h7 →
  ifb (decide (i12 < ((x43.n : Nat) : Int))) (
    ixS x43 i12 fun q52 =>
    ldI .i64 h7 (q52.add ((i12 : Int).toNat * 1)) fun x53 =>
    ∃ J_1 : Int → Prop, (
      ldI .i64 h7 p4 fun x55 =>
      ifb (((x55 != 9) && (decide (1 ≤ x53))) && (decide (x53 ≤ ((lifes1.n : Nat) : Int)))) (
        ixS lifes1 (IntKind.i64.wrap (x53 - 1)) fun q70 =>
        ldI .i64 h7 (q70.add (((IntKind.i64.wrap (x53 - 1)) : Int).toNat * 1)) fun x71 =>
        J_1 x71) (
        J_1 x53)) ∧ (∀ r13, J_1 r13 →
    newS 3 #[Value.int .i64 r13] 1 h7 fun s74 h8 =>
    appS 3 (Value.int .i64 0).cells 1 8 h8 l10 s74 fun s75 h9 =>
    I_1 s75 (IntKind.i64.wrap (i12 + 1)) h9 ∧ m_1 s75 (IntKind.i64.wrap (i12 + 1)) h9 < m_1 l10 i12 h7)) (
    ldI .i64 h7 p4 fun x77 =>
    ldT h7 (p4.add 1) fun x79 =>
    ldB h7 (p4.add 2) fun x81 =>
    ldI .i64 h7 (p4.add 3) fun x83 =>
    ldS h7 (p4.add 4) fun x85 =>
    new 25 #[Value.int .i64 0, Value.string (⟨#[]⟩ : ByteArray), Value.bool false, Value.int .i64 0, Value.slice (⟨none, 0, 0⟩ : Sv).a (⟨none, 0, 0⟩ : Sv).n (⟨none, 0, 0⟩ : Sv).c, Value.slice (⟨none, 0, 0⟩ : Sv).a (⟨none, 0, 0⟩ : Sv).n (⟨none, 0, 0⟩ : Sv).c] h7 fun p14 h10 =>
    stoA h10 p14 [Value.int .i64 x77, Value.string x79, Value.bool x81, Value.int .i64 x83, Value.slice x85.a x85.n x85.c, Value.slice (⟨none, 0, 0⟩ : Sv).a (⟨none, 0, 0⟩ : Sv).n (⟨none, 0, 0⟩ : Sv).c] fun h11 =>
    ∃ (y88 : Int) (y88_1 : ByteArray) (y88_2 : Bool) (y88_3 : Int) (y88_4 : Sv) (y88_5 : Sv), cl h11 p14 = some (Value.int .i64 y88) ∧ cl h11 (p14.add 1) = some (Value.string y88_1) ∧ cl h11 (p14.add 2) = some (Value.bool y88_2) ∧ cl h11 (p14.add 3) = some (Value.int .i64 y88_3) ∧ cl h11 (p14.add 4) = some (Value.slice y88_4.a y88_4.n y88_4.c) ∧ cl h11 (p14.add 5) = some (Value.slice y88_5.a y88_5.n y88_5.c) ∧
    cal Try.prog 40 #[Value.agg #[Value.int .i64 y88, Value.string y88_1, Value.bool y88_2, Value.int .i64 y88_3, Value.slice y88_4.a y88_4.n y88_4.c, Value.slice y88_5.a y88_5.n y88_5.c], Value.slice l10.a l10.n l10.c] h11 fun u_1 h12 => ∃ (y90 : Int) (y90_1 : ByteArray) (y90_2 : Bool) (y90_3 : Int) (y90_4 : Sv) (y90_5 : Sv) (x90 : Sv), u_1 = Value.tuple #[Value.agg #[Value.int .i64 y90, Value.string y90_1, Value.bool y90_2, Value.int .i64 y90_3, Value.slice y90_4.a y90_4.n y90_4.c, Value.slice y90_5.a y90_5.n y90_5.c], Value.slice x90.a x90.n x90.c] ∧
    new 25 #[Value.int .i64 0, Value.string (⟨#[]⟩ : ByteArray), Value.bool false, Value.int .i64 0, Value.slice (⟨none, 0, 0⟩ : Sv).a (⟨none, 0, 0⟩ : Sv).n (⟨none, 0, 0⟩ : Sv).c, Value.slice (⟨none, 0, 0⟩ : Sv).a (⟨none, 0, 0⟩ : Sv).n (⟨none, 0, 0⟩ : Sv).c] h12 fun p15 h13 =>
    stoA h13 p15 [Value.int .i64 y90, Value.string y90_1, Value.bool y90_2, Value.int .i64 y90_3, Value.slice y90_4.a y90_4.n y90_4.c, Value.slice y90_5.a y90_5.n y90_5.c] fun h14 =>
    ∃ (I_2 : Int → Heap → Prop) (m_2 : Int → Heap → Nat), I_2 0 h14 ∧ ∀ i17 h15, I_2 i17 h15 →
    ldS h15 (p4.add 5) fun x95 =>
    ifb (decide (i17 < ((x95.n : Nat) : Int))) (
      ∃ Sq : Heap → Prop, Sq h15 ∧ (
        ldS h15 (p4.add 5) fun x103 =>
        ixS x103 i17 fun q105 =>
        ∃ (y106 : Int) (y106_1 : ByteArray) (y106_2 : Bool) (y106_3 : Int) (y106_4 : Sv) (y106_5 : Sv), cl h15 (q105.add ((i17 : Int).toNat * 6)) = some (Value.int .i64 y106) ∧ cl h15 ((q105.add ((i17 : Int).toNat * 6)).add 1) = some (Value.string y106_1) ∧ cl h15 ((q105.add ((i17 : Int).toNat * 6)).add 2) = some (Value.bool y106_2) ∧ cl h15 ((q105.add ((i17 : Int).toNat * 6)).add 3) = some (Value.int .i64 y106_3) ∧ cl h15 ((q105.add ((i17 : Int).toNat * 6)).add 4) = some (Value.slice y106_4.a y106_4.n y106_4.c) ∧ cl h15 ((q105.add ((i17 : Int).toNat * 6)).add 5) = some (Value.slice y106_5.a y106_5.n y106_5.c) ∧
        hlS Sq (p15.add 5) fun x101 =>
        cal Try.prog 22 #[Value.agg #[Value.int .i64 y106, Value.string y106_1, Value.bool y106_2, Value.int .i64 y106_3, Value.slice y106_4.a y106_4.n y106_4.c, Value.slice y106_5.a y106_5.n y106_5.c], Value.slice lifes1.a lifes1.n lifes1.c, Value.slice names2.a names2.n names2.c, Value.slice args3.a args3.n args3.c] h15 fun u_2 h16 => ∃ (y110 : Int) (y110_1 : ByteArray) (y110_2 : Bool) (y110_3 : Int) (y110_4 : Sv) (y110_5 : Sv), u_2 = Value.agg #[Value.int .i64 y110, Value.string y110_1, Value.bool y110_2, Value.int .i64 y110_3, Value.slice y110_4.a y110_4.n y110_4.c, Value.slice y110_5.a y110_5.n y110_5.c] ∧
        Sq h16 ∧
        newS 25 #[Value.int .i64 y110, Value.string y110_1, Value.bool y110_2, Value.int .i64 y110_3, Value.slice y110_4.a y110_4.n y110_4.c, Value.slice y110_5.a y110_5.n y110_5.c] 1 h16 fun s111 h17 =>
        Sq h17 ∧
        appS 25 (Value.agg #[Value.int .i64 0, Value.string (⟨#[]⟩ : ByteArray), Value.bool false, Value.int .i64 0, Value.slice (⟨none, 0, 0⟩ : Sv).a (⟨none, 0, 0⟩ : Sv).n (⟨none, 0, 0⟩ : Sv).c, Value.slice (⟨none, 0, 0⟩ : Sv).a (⟨none, 0, 0⟩ : Sv).n (⟨none, 0, 0⟩ : Sv).c]).cells 6 88 h17 x101 s111 fun s112 h18 =>
        sto h18 (p15.add 5) (Value.slice s112.a s112.n s112.c) fun h19 =>
        I_2 (IntKind.i64.wrap (i17 + 1)) h19 ∧ m_2 (IntKind.i64.wrap (i17 + 1)) h19 < m_2 i17 h15)) (
      ∃ (y114 : Int) (y114_1 : ByteArray) (y114_2 : Bool) (y114_3 : Int) (y114_4 : Sv) (y114_5 : Sv), cl h15 p15 = some (Value.int .i64 y114) ∧ cl h15 (p15.add 1) = some (Value.string y114_1) ∧ cl h15 (p15.add 2) = some (Value.bool y114_2) ∧ cl h15 (p15.add 3) = some (Value.int .i64 y114_3) ∧ cl h15 (p15.add 4) = some (Value.slice y114_4.a y114_4.n y114_4.c) ∧ cl h15 (p15.add 5) = some (Value.slice y114_5.a y114_5.n y114_5.c) ∧
      stoA h15 p8 [Value.int .i64 y114, Value.string y114_1, Value.bool y114_2, Value.int .i64 y114_3, Value.slice y114_4.a y114_4.n y114_4.c, Value.slice y114_5.a y114_5.n y114_5.c] fun h20 =>
      ∃ (y_6 : Int) (y_7 : ByteArray) (y_8 : Bool) (y_9 : Int) (y_10 : Sv) (y_11 : Sv), cl h20 p8 = some (Value.int .i64 y_6) ∧ cl h20 (p8.add 1) = some (Value.string y_7) ∧ cl h20 (p8.add 2) = some (Value.bool y_8) ∧ cl h20 (p8.add 3) = some (Value.int .i64 y_9) ∧ cl h20 (p8.add 4) = some (Value.slice y_10.a y_10.n y_10.c) ∧ cl h20 (p8.add 5) = some (Value.slice y_11.a y_11.n y_11.c) ∧
      R (Value.agg #[Value.int .i64 y_6, Value.string y_7, Value.bool y_8, Value.int .i64 y_9, Value.slice y_10.a y_10.n y_10.c, Value.slice y_11.a y_11.n y_11.c]) h20)))

set_option maxRecDepth 100000 in

theorem F22 {x0 x0_1 x0_2 x0_3 x0_4 x0_5 lifes1 names2 args3 h : _} {R : Value → Heap → Prop} (H : L22 x0 x0_1 x0_2 x0_3 x0_4 x0_5 lifes1 names2 args3 h R) : CallsH Try.prog 22 #[Value.agg #[Value.int .i64 x0, Value.string x0_1, Value.bool x0_2, Value.int .i64 x0_3, Value.slice x0_4.a x0_4.n x0_4.c, Value.slice x0_5.a x0_5.n x0_5.c], Value.slice lifes1.a lifes1.n lifes1.c, Value.slice names2.a names2.n names2.c, Value.slice args3.a args3.n args3.c] h R := by
  refine CallsH.enter (n := 115) Try.func22 rfl rfl rfl rfl ?_
  intro w0 aa ww S
  unfold L22 at H
  refine W.seq ?_
  replace S := S.sub [(0, Value.agg #[Value.int .i64 x0, Value.string x0_1, Value.bool x0_2, Value.int .i64 x0_3, Value.slice x0_4.a x0_4.n x0_4.c, Value.slice x0_5.a x0_5.n x0_5.c]), (1, Value.slice lifes1.a lifes1.n lifes1.c), (2, Value.slice names2.a names2.n names2.c), (3, Value.slice args3.a args3.n args3.c)] ⟨rfl, rfl, rfl, rfl, trivial⟩
  refine W.region ?_
  refine ol_box S H rfl rfl rfl trivial ?_
  clear S H aa; intro p4 aa ww h1 H S
  refine ol_alloc S H ti25 rfl rfl trivial ?_
  clear S H aa; intro p8 aa ww h2 H S
  refine OL.nil ?_
  obtain ⟨J, H, HK⟩ := H
  refine W.seqJ (fun aa ww => ∃ h5, St 115 [(1, Value.slice lifes1.a lifes1.n lifes1.c), (2, Value.slice names2.a names2.n names2.c), (3, Value.slice args3.a args3.n args3.c), (4, Value.pointer (some p4)), (8, Value.pointer (some p8))] h5 w0 aa ww ∧ J h5) ?_ ?_
  · clear HK
    refine W.seq ?_
    replace S := S.sub [(1, Value.slice lifes1.a lifes1.n lifes1.c), (2, Value.slice names2.a names2.n names2.c), (3, Value.slice args3.a args3.n args3.c), (4, Value.pointer (some p4)), (8, Value.pointer (some p8))] ⟨rfl, rfl, rfl, rfl, rfl, trivial⟩
    refine W.region ?_
    refine OL.pure S (Lf.run_fa (S.ev rfl) fa25_0) rfl rfl trivial ?_
    clear S; intro aa S
    obtain ⟨x19, c, H⟩ := H
    refine OL.pure S (Lf.run_ld (S.ev rfl) fl3 (S.cl c)) rfl rfl trivial ?_
    clear S; intro aa S
    refine OL.pure S (Lf.run_eql (S.ev rfl) (S.ev rfl)) rfl rfl trivial ?_
    clear S; intro aa S
    refine OL.nil ?_
    refine W.cond S (b := (x19 == 9)) rfl (fun hb => ?_) (fun hb => ?_)
    · replace H := H.1 hb
      refine W.seq ?_
      replace S := S.sub [(1, Value.slice lifes1.a lifes1.n lifes1.c), (2, Value.slice names2.a names2.n names2.c), (3, Value.slice args3.a args3.n args3.c), (4, Value.pointer (some p4)), (8, Value.pointer (some p8))] ⟨rfl, rfl, rfl, rfl, rfl, trivial⟩
      refine W.region ?_
      refine OL.pure S (Lf.run_assign (S.ev rfl)) rfl rfl trivial ?_
      clear S; intro aa S
      refine OL.nil ?_
      refine W.block ?_
      obtain ⟨I, m, H, HB⟩ := H
      refine W.loopS (σ := Int × Heap) (fun s aa ww => St 115 [(1, Value.slice lifes1.a lifes1.n lifes1.c), (2, Value.slice names2.a names2.n names2.c), (3, Value.slice args3.a args3.n args3.c), (4, Value.pointer (some p4)), (8, Value.pointer (some p8)), (9, Value.int .i64 s.1)] s.2 w0 aa ww ∧ I s.1 s.2) (fun s => m s.1 s.2) (0, h2) ⟨S.sub _ ⟨rfl, rfl, rfl, rfl, rfl, rfl, trivial⟩, H⟩ ?_
      clear H S aa
      rintro ⟨i9, h3⟩ aa ww ⟨S, HI⟩
      replace S : St 115 [(1, Value.slice lifes1.a lifes1.n lifes1.c), (2, Value.slice names2.a names2.n names2.c), (3, Value.slice args3.a args3.n args3.c), (4, Value.pointer (some p4)), (8, Value.pointer (some p8)), (9, Value.int .i64 i9)] h3 w0 aa ww := S
      have H := HB i9 h3 HI
      clear HI
      refine W.seq ?_
      refine W.seq ?_
      replace S := S.sub [(1, Value.slice lifes1.a lifes1.n lifes1.c), (2, Value.slice names2.a names2.n names2.c), (3, Value.slice args3.a args3.n args3.c), (4, Value.pointer (some p4)), (8, Value.pointer (some p8)), (9, Value.int .i64 i9)] ⟨rfl, rfl, rfl, rfl, rfl, rfl, trivial⟩
      refine W.region ?_
      refine OL.pure S (Lf.run_move (S.ev rfl)) rfl rfl trivial ?_
      clear S; intro aa S
      refine OL.pure S (Lf.run_move (S.ev rfl)) rfl rfl trivial ?_
      clear S; intro aa S
      refine OL.pure S (Lf.run_lens (S.ev rfl) rfl Try.underlying41) rfl rfl trivial ?_
      clear S; intro aa S
      refine OL.pure S (Lf.run_lss (S.ev rfl) (S.ev rfl)) rfl rfl trivial ?_
      clear S; intro aa S
      refine OL.nil ?_
      refine W.cond S (b := (decide (i9 < ((names2.n : Nat) : Int)))) rfl (fun hb_1 => ?_) (fun hb_1 => ?_)
      · replace H := H.1 hb_1
        refine W.skip ?_
        refine W.seq ?_
        refine W.block ?_
        refine W.seq ?_
        replace S := S.sub [(1, Value.slice lifes1.a lifes1.n lifes1.c), (2, Value.slice names2.a names2.n names2.c), (3, Value.slice args3.a args3.n args3.c), (4, Value.pointer (some p4)), (8, Value.pointer (some p8)), (9, Value.int .i64 i9)] ⟨rfl, rfl, rfl, rfl, rfl, rfl, trivial⟩
        refine W.regionD S (by kernel_rfl) ?_
        clear S; intro ww S
        refine AN.pure 0 S rfl (by kernel_rfl) (fun _ => Lf.run_move (S.ev rfl)) rfl rfl trivial ?_
        clear S; intro aa S
        refine AN.pure 1 S rfl (by kernel_rfl) (fun _ => Lf.run_move (S.ev rfl)) rfl rfl trivial ?_
        clear S; intro aa S
        obtain ⟨q29, e, e_1, e_2, H⟩ := H
        refine AN.pure 2 S rfl (by kernel_rfl) (fun _ => Lf.run_ixs (S.ev rfl) (S.ev rfl) Try.underlying41 ti9 e e_1 e_2) rfl rfl trivial ?_
        clear S; intro aa S
        obtain ⟨x30, c_1, H⟩ := H
        refine AN.load 3 S rfl (by kernel_rfl) (fun _ hx => Lf.run_ld (S.ev rfl) fl9 (hx.cell _ _ (S.cl c_1))) rfl rfl trivial ?_
        clear S; intro aa S
        refine AN.pure 4 S rfl (by kernel_rfl) (fun _ => Lf.run_fa (S.ev rfl) fa25_1) rfl rfl trivial ?_
        clear S; intro aa S
        obtain ⟨x32, c_2, H⟩ := H
        refine AN.load 5 S rfl (by kernel_rfl) (fun _ hx => Lf.run_ld (S.ev rfl) fl9 (hx.cell _ _ (S.cl c_2))) rfl rfl trivial ?_
        clear S; intro aa S
        refine AN.pure 6 S rfl (by kernel_rfl) (fun _ => Lf.run_eqlt (S.ev rfl) (S.ev rfl)) rfl rfl trivial ?_
        clear S; intro aa S
        refine AN.done (by kernel_rfl) ?_
        refine W.cond S (b := (x30.toList == x32.toList)) rfl (fun hb_2 => ?_) (fun hb_2 => ?_)
        · replace H := H.1 hb_2
          refine W.seq ?_
          refine W.seq ?_
          replace S := S.sub [(1, Value.slice lifes1.a lifes1.n lifes1.c), (2, Value.slice names2.a names2.n names2.c), (3, Value.slice args3.a args3.n args3.c), (4, Value.pointer (some p4)), (8, Value.pointer (some p8)), (9, Value.int .i64 i9)] ⟨rfl, rfl, rfl, rfl, rfl, rfl, trivial⟩
          refine W.region ?_
          refine OL.pure S (Lf.run_move (S.ev rfl)) rfl rfl trivial ?_
          clear S; intro aa S
          refine OL.pure S (Lf.run_move (S.ev rfl)) rfl rfl trivial ?_
          clear S; intro aa S
          refine OL.pure S (Lf.run_lens (S.ev rfl) rfl Try.underlying23) rfl rfl trivial ?_
          clear S; intro aa S
          refine OL.pure S (Lf.run_lss (S.ev rfl) (S.ev rfl)) rfl rfl trivial ?_
          clear S; intro aa S
          refine OL.nil ?_
          refine W.cond S (b := (decide (i9 < ((args3.n : Nat) : Int)))) rfl (fun hb_3 => ?_) (fun hb_3 => ?_)
          · replace H := H.1 hb_3
            refine W.seq ?_
            replace S := S.sub [(3, Value.slice args3.a args3.n args3.c), (8, Value.pointer (some p8)), (9, Value.int .i64 i9)] ⟨rfl, rfl, rfl, trivial⟩
            refine W.region ?_
            refine OL.pure S (Lf.run_move (S.ev rfl)) rfl rfl trivial ?_
            clear S; intro aa S
            refine OL.pure S (Lf.run_move (S.ev rfl)) rfl rfl trivial ?_
            clear S; intro aa S
            obtain ⟨q40, e_3, e_4, e_5, H⟩ := H
            refine OL.pure S (Lf.run_ixs (S.ev rfl) (S.ev rfl) Try.underlying23 ti25 e_3 e_4 e_5) rfl rfl trivial ?_
            clear S; intro aa S
            obtain ⟨y41, y41_1, y41_2, y41_3, y41_4, y41_5, c_10, c_11, c_12, c_13, c_14, c_15, H⟩ := H
            refine OL.pure S (Lf.run_ldA (cs := [Value.int .i64 y41, Value.string y41_1, Value.bool y41_2, Value.int .i64 y41_3, Value.slice y41_4.a y41_4.n y41_4.c, Value.slice y41_5.a y41_5.n y41_5.c]) (S.ev rfl) ag25 ti25 (by rw [S.heap]; exact RowL.toRow ⟨c_10, c_11, c_12, c_13, c_14, c_15, trivial⟩)) rfl rfl trivial ?_
            clear S; intro aa S
            refine ol_stoA S H rfl rfl ti25 trivial ?_
            clear S H aa; intro aa ww h4 H S
            refine OL.nil ?_
            refine W.ret ?_
            obtain ⟨y, y_1, y_2, y_3, y_4, y_5, c_4, c_5, c_6, c_7, c_8, c_9, H⟩ := H
            exact Ret.gen S rfl (RV.cellA (cs := [Value.int .i64 y, Value.string y_1, Value.bool y_2, Value.int .i64 y_3, Value.slice y_4.a y_4.n y_4.c, Value.slice y_5.a y_5.n y_5.c]) rfl ag25 ti25 ⟨c_4, c_5, c_6, c_7, c_8, c_9, trivial⟩ RV.nil) rfl H
          · replace H := H.2 hb_3
            refine W.skip ?_
            refine W.exit_ ?_
            refine xmiss rfl ?_
            refine xhit ?_
            exact ⟨h3, S.sub _ ⟨rfl, rfl, rfl, rfl, rfl, trivial⟩, H⟩
        · replace H := H.2 hb_2
          refine W.skip ?_
          replace S := S.sub [(1, Value.slice lifes1.a lifes1.n lifes1.c), (2, Value.slice names2.a names2.n names2.c), (3, Value.slice args3.a args3.n args3.c), (4, Value.pointer (some p4)), (8, Value.pointer (some p8)), (9, Value.int .i64 i9)] ⟨rfl, rfl, rfl, rfl, rfl, rfl, trivial⟩
          refine W.region ?_
          refine OL.pure S (Lf.run_move (S.ev rfl)) rfl rfl trivial ?_
          clear S; intro aa S
          refine OL.pure S (Lf.run_add (S.ev rfl) (S.ev rfl)) rfl rfl trivial ?_
          clear S; intro aa S
          refine OL.pure S (Lf.run_assign (S.ev rfl)) rfl rfl trivial ?_
          clear S; intro aa S
          refine OL.nil ?_
          exact ⟨((IntKind.i64.wrap (i9 + 1)), h3), ⟨S.sub _ ⟨rfl, rfl, rfl, rfl, rfl, rfl, trivial⟩, H.1⟩, H.2⟩
      · replace H := H.2 hb_1
        refine W.exit_ ?_
        refine xhit ?_
        exact ⟨h3, S.sub _ ⟨rfl, rfl, rfl, rfl, rfl, trivial⟩, H⟩
    · replace H := H.2 hb
      refine W.skip ?_
      exact ⟨h2, S.sub _ ⟨rfl, rfl, rfl, rfl, rfl, trivial⟩, H⟩
  · clear H S aa
    rintro aa ww ⟨h5, S, HJ⟩
    have H := HK _ HJ
    clear HK HJ
    refine W.seq ?_
    replace S := S.sub [(1, Value.slice lifes1.a lifes1.n lifes1.c), (2, Value.slice names2.a names2.n names2.c), (3, Value.slice args3.a args3.n args3.c), (4, Value.pointer (some p4)), (8, Value.pointer (some p8))] ⟨rfl, rfl, rfl, rfl, rfl, trivial⟩
    refine W.region ?_
    refine OL.pure S (Lf.run_assign (S.ev rfl)) rfl rfl trivial ?_
    clear S; intro aa S
    refine OL.nil ?_
    refine W.seq ?_
    replace S := S.sub [(1, Value.slice lifes1.a lifes1.n lifes1.c), (2, Value.slice names2.a names2.n names2.c), (3, Value.slice args3.a args3.n args3.c), (4, Value.pointer (some p4)), (8, Value.pointer (some p8)), (10, Value.slice (⟨none, 0, 0⟩ : Sv).a (⟨none, 0, 0⟩ : Sv).n (⟨none, 0, 0⟩ : Sv).c)] ⟨rfl, rfl, rfl, rfl, rfl, rfl, trivial⟩
    refine W.region ?_
    obtain ⟨y42, y42_1, y42_2, y42_3, y42_4, y42_5, c_55, c_56, c_57, c_58, c_59, c_60, H⟩ := H
    refine OL.pure S (Lf.run_ldA (cs := [Value.int .i64 y42, Value.string y42_1, Value.bool y42_2, Value.int .i64 y42_3, Value.slice y42_4.a y42_4.n y42_4.c, Value.slice y42_5.a y42_5.n y42_5.c]) (S.ev rfl) ag25 ti25 (by rw [S.heap]; exact RowL.toRow ⟨c_55, c_56, c_57, c_58, c_59, c_60, trivial⟩)) rfl rfl trivial ?_
    clear S; intro aa S
    refine ol_cal S H isfn36 rfl rfl trivial ?_
    clear S H aa; intro u aa ww h6 H S
    obtain ⟨x43, rfl, H⟩ := H
    refine OL.pure S (Lf.run_assign (S.ev rfl)) rfl rfl trivial ?_
    clear S; intro aa S
    refine OL.nil ?_
    refine W.seq ?_
    refine W.seq ?_
    replace S := S.sub [(1, Value.slice lifes1.a lifes1.n lifes1.c), (2, Value.slice names2.a names2.n names2.c), (3, Value.slice args3.a args3.n args3.c), (4, Value.pointer (some p4)), (8, Value.pointer (some p8)), (10, Value.slice (⟨none, 0, 0⟩ : Sv).a (⟨none, 0, 0⟩ : Sv).n (⟨none, 0, 0⟩ : Sv).c), (11, Value.slice x43.a x43.n x43.c)] ⟨rfl, rfl, rfl, rfl, rfl, rfl, rfl, trivial⟩
    refine W.region ?_
    refine OL.pure S (Lf.run_assign (S.ev rfl)) rfl rfl trivial ?_
    clear S; intro aa S
    refine OL.nil ?_
    refine W.block ?_
    obtain ⟨I_1, m_1, H, HB_2⟩ := H
    refine W.loopS (σ := Sv × Int × Heap) (fun s aa ww => St 115 [(1, Value.slice lifes1.a lifes1.n lifes1.c), (2, Value.slice names2.a names2.n names2.c), (3, Value.slice args3.a args3.n args3.c), (4, Value.pointer (some p4)), (8, Value.pointer (some p8)), (10, Value.slice s.1.a s.1.n s.1.c), (11, Value.slice x43.a x43.n x43.c), (12, Value.int .i64 s.2.1)] s.2.2 w0 aa ww ∧ I_1 s.1 s.2.1 s.2.2) (fun s => m_1 s.1 s.2.1 s.2.2) ((⟨none, 0, 0⟩ : Sv), 0, h6) ⟨S.sub _ ⟨rfl, rfl, rfl, rfl, rfl, rfl, rfl, rfl, trivial⟩, H⟩ ?_
    clear H S aa
    rintro ⟨l10, i12, h7⟩ aa ww ⟨S, HI⟩
    replace S : St 115 [(1, Value.slice lifes1.a lifes1.n lifes1.c), (2, Value.slice names2.a names2.n names2.c), (3, Value.slice args3.a args3.n args3.c), (4, Value.pointer (some p4)), (8, Value.pointer (some p8)), (10, Value.slice l10.a l10.n l10.c), (11, Value.slice x43.a x43.n x43.c), (12, Value.int .i64 i12)] h7 w0 aa ww := S
    have H := HB_2 l10 i12 h7 HI
    clear HI
    refine W.seq ?_
    refine W.seq ?_
    replace S := S.sub [(1, Value.slice lifes1.a lifes1.n lifes1.c), (2, Value.slice names2.a names2.n names2.c), (3, Value.slice args3.a args3.n args3.c), (4, Value.pointer (some p4)), (8, Value.pointer (some p8)), (10, Value.slice l10.a l10.n l10.c), (11, Value.slice x43.a x43.n x43.c), (12, Value.int .i64 i12)] ⟨rfl, rfl, rfl, rfl, rfl, rfl, rfl, rfl, trivial⟩
    refine W.region ?_
    refine OL.pure S (Lf.run_move (S.ev rfl)) rfl rfl trivial ?_
    clear S; intro aa S
    refine OL.pure S (Lf.run_move (S.ev rfl)) rfl rfl trivial ?_
    clear S; intro aa S
    refine OL.pure S (Lf.run_lens (S.ev rfl) rfl Try.underlying22) rfl rfl trivial ?_
    clear S; intro aa S
    refine OL.pure S (Lf.run_lss (S.ev rfl) (S.ev rfl)) rfl rfl trivial ?_
    clear S; intro aa S
    refine OL.nil ?_
    refine W.cond S (b := (decide (i12 < ((x43.n : Nat) : Int)))) rfl (fun hb_4 => ?_) (fun hb_4 => ?_)
    · replace H := H.1 hb_4
      refine W.skip ?_
      refine W.seq ?_
      refine W.block ?_
      refine W.seq ?_
      replace S := S.sub [(1, Value.slice lifes1.a lifes1.n lifes1.c), (2, Value.slice names2.a names2.n names2.c), (3, Value.slice args3.a args3.n args3.c), (4, Value.pointer (some p4)), (8, Value.pointer (some p8)), (10, Value.slice l10.a l10.n l10.c), (11, Value.slice x43.a x43.n x43.c), (12, Value.int .i64 i12)] ⟨rfl, rfl, rfl, rfl, rfl, rfl, rfl, rfl, trivial⟩
      refine W.region ?_
      refine OL.pure S (Lf.run_move (S.ev rfl)) rfl rfl trivial ?_
      clear S; intro aa S
      refine OL.pure S (Lf.run_move (S.ev rfl)) rfl rfl trivial ?_
      clear S; intro aa S
      obtain ⟨q52, e_6, e_7, e_8, H⟩ := H
      refine OL.pure S (Lf.run_ixs (S.ev rfl) (S.ev rfl) Try.underlying22 ti3 e_6 e_7 e_8) rfl rfl trivial ?_
      clear S; intro aa S
      obtain ⟨x53, c_17, H⟩ := H
      refine OL.pure S (Lf.run_ld (S.ev rfl) fl3 (S.cl c_17)) rfl rfl trivial ?_
      clear S; intro aa S
      refine OL.pure S (Lf.run_assign (S.ev rfl)) rfl rfl trivial ?_
      clear S; intro aa S
      refine OL.nil ?_
      obtain ⟨J_1, H, HK_1⟩ := H
      refine W.seqJ (fun aa ww => ∃ r13, St 115 [(1, Value.slice lifes1.a lifes1.n lifes1.c), (2, Value.slice names2.a names2.n names2.c), (3, Value.slice args3.a args3.n args3.c), (4, Value.pointer (some p4)), (8, Value.pointer (some p8)), (10, Value.slice l10.a l10.n l10.c), (11, Value.slice x43.a x43.n x43.c), (12, Value.int .i64 i12), (13, Value.int .i64 r13)] h7 w0 aa ww ∧ J_1 r13) ?_ ?_
      · clear HK_1
        refine W.seq ?_
        replace S := S.sub [(1, Value.slice lifes1.a lifes1.n lifes1.c), (2, Value.slice names2.a names2.n names2.c), (3, Value.slice args3.a args3.n args3.c), (4, Value.pointer (some p4)), (8, Value.pointer (some p8)), (10, Value.slice l10.a l10.n l10.c), (11, Value.slice x43.a x43.n x43.c), (12, Value.int .i64 i12), (13, Value.int .i64 x53)] ⟨rfl, rfl, rfl, rfl, rfl, rfl, rfl, rfl, rfl, trivial⟩
        refine W.region ?_
        refine OL.pure S (Lf.run_fa (S.ev rfl) fa25_0) rfl rfl trivial ?_
        clear S; intro aa S
        obtain ⟨x55, c_18, H⟩ := H
        refine OL.pure S (Lf.run_ld (S.ev rfl) fl3 (S.cl c_18)) rfl rfl trivial ?_
        clear S; intro aa S
        refine OL.pure S (Lf.run_neq (S.ev rfl) (S.ev rfl)) rfl rfl trivial ?_
        clear S; intro aa S
        refine OL.pure S (Lf.run_move (S.ev rfl)) rfl rfl trivial ?_
        clear S; intro aa S
        refine OL.cutN 3 (fun aa ww => St 115 ((60, Value.bool ((x55 != 9) && (decide (1 ≤ x53)))) :: [(1, Value.slice lifes1.a lifes1.n lifes1.c), (2, Value.slice names2.a names2.n names2.c), (3, Value.slice args3.a args3.n args3.c), (4, Value.pointer (some p4)), (8, Value.pointer (some p8)), (10, Value.slice l10.a l10.n l10.c), (11, Value.slice x43.a x43.n x43.c), (12, Value.int .i64 i12), (13, Value.int .i64 x53), (54, Value.pointer (some p4)), (55, Value.int .i64 x55), (56, Value.bool (x55 != 9)), (57, Value.bool (x55 != 9))]) h7 w0 aa ww) ?_ ?_
        · rcases Bool.eq_false_or_eq_true (x55 != 9) with hb_5 | hb_5
          · refine OL.pure S (Lf.run_move (S.ev rfl)) rfl rfl (GOk.mk rfl rfl hb_5) ?_
            clear S; intro aa S
            refine OL.pure S (Lf.run_geq (S.ev rfl) (S.ev rfl)) rfl rfl (GOk.mk rfl rfl hb_5) ?_
            clear S; intro aa S
            refine OL.pure S (Lf.run_pickT (S.ev rfl) hb_5 (S.ev rfl)) rfl rfl trivial ?_
            clear S; intro aa S
            refine OL.nil ?_
            exact (S.hd (by rw [hb_5, Bool.true_and])).sub _ ⟨rfl, rfl, rfl, rfl, rfl, rfl, rfl, rfl, rfl, rfl, rfl, rfl, rfl, rfl, trivial⟩
          · refine OL.not S rfl rfl (GNo.mk rfl rfl hb_5) ?_
            clear S; intro aa S
            refine OL.not S rfl rfl (GNo.mk rfl rfl hb_5) ?_
            clear S; intro aa S
            refine OL.pure S (Lf.run_pickF (S.ev rfl) hb_5 (S.ev rfl)) rfl rfl trivial ?_
            clear S; intro aa S
            refine OL.nil ?_
            exact (S.hd (by rw [hb_5, Bool.false_and])).sub _ ⟨rfl, rfl, rfl, rfl, rfl, rfl, rfl, rfl, rfl, rfl, rfl, rfl, rfl, rfl, trivial⟩
        · clear S aa
          intro aa ww S
          refine OL.pure S (Lf.run_move (S.ev rfl)) rfl rfl trivial ?_
          clear S; intro aa S
          refine OL.cutN 5 (fun aa ww => St 115 ((66, Value.bool (((x55 != 9) && (decide (1 ≤ x53))) && (decide (x53 ≤ ((lifes1.n : Nat) : Int))))) :: [(1, Value.slice lifes1.a lifes1.n lifes1.c), (2, Value.slice names2.a names2.n names2.c), (3, Value.slice args3.a args3.n args3.c), (4, Value.pointer (some p4)), (8, Value.pointer (some p8)), (10, Value.slice l10.a l10.n l10.c), (11, Value.slice x43.a x43.n x43.c), (12, Value.int .i64 i12), (13, Value.int .i64 x53), (54, Value.pointer (some p4)), (55, Value.int .i64 x55), (56, Value.bool (x55 != 9)), (57, Value.bool (x55 != 9)), (60, Value.bool ((x55 != 9) && (decide (1 ≤ x53)))), (61, Value.bool ((x55 != 9) && (decide (1 ≤ x53))))]) h7 w0 aa ww) ?_ ?_
          · rcases Bool.eq_false_or_eq_true ((x55 != 9) && (decide (1 ≤ x53))) with hb_6 | hb_6
            · refine OL.pure S (Lf.run_move (S.ev rfl)) rfl rfl (GOk.mk rfl rfl hb_6) ?_
              clear S; intro aa S
              refine OL.pure S (Lf.run_move (S.ev rfl)) rfl rfl (GOk.mk rfl rfl hb_6) ?_
              clear S; intro aa S
              refine OL.pure S (Lf.run_lens (S.ev rfl) rfl Try.underlying22) rfl rfl (GOk.mk rfl rfl hb_6) ?_
              clear S; intro aa S
              refine OL.pure S (Lf.run_leq (S.ev rfl) (S.ev rfl)) rfl rfl (GOk.mk rfl rfl hb_6) ?_
              clear S; intro aa S
              refine OL.pure S (Lf.run_pickT (S.ev rfl) hb_6 (S.ev rfl)) rfl rfl trivial ?_
              clear S; intro aa S
              refine OL.nil ?_
              exact (S.hd (by rw [hb_6, Bool.true_and])).sub _ ⟨rfl, rfl, rfl, rfl, rfl, rfl, rfl, rfl, rfl, rfl, rfl, rfl, rfl, rfl, rfl, rfl, trivial⟩
            · refine OL.not S rfl rfl (GNo.mk rfl rfl hb_6) ?_
              clear S; intro aa S
              refine OL.not S rfl rfl (GNo.mk rfl rfl hb_6) ?_
              clear S; intro aa S
              refine OL.not S rfl rfl (GNo.mk rfl rfl hb_6) ?_
              clear S; intro aa S
              refine OL.not S rfl rfl (GNo.mk rfl rfl hb_6) ?_
              clear S; intro aa S
              refine OL.pure S (Lf.run_pickF (S.ev rfl) hb_6 (S.ev rfl)) rfl rfl trivial ?_
              clear S; intro aa S
              refine OL.nil ?_
              exact (S.hd (by rw [hb_6, Bool.false_and])).sub _ ⟨rfl, rfl, rfl, rfl, rfl, rfl, rfl, rfl, rfl, rfl, rfl, rfl, rfl, rfl, rfl, rfl, trivial⟩
          · clear S aa
            intro aa ww S
            refine OL.nil ?_
            refine W.cond S (b := (((x55 != 9) && (decide (1 ≤ x53))) && (decide (x53 ≤ ((lifes1.n : Nat) : Int))))) rfl (fun hb_7 => ?_) (fun hb_7 => ?_)
            · replace H := H.1 hb_7
              replace S := S.sub [(1, Value.slice lifes1.a lifes1.n lifes1.c), (2, Value.slice names2.a names2.n names2.c), (3, Value.slice args3.a args3.n args3.c), (4, Value.pointer (some p4)), (8, Value.pointer (some p8)), (10, Value.slice l10.a l10.n l10.c), (11, Value.slice x43.a x43.n x43.c), (12, Value.int .i64 i12), (13, Value.int .i64 x53)] ⟨rfl, rfl, rfl, rfl, rfl, rfl, rfl, rfl, rfl, trivial⟩
              refine W.region ?_
              refine OL.pure S (Lf.run_move (S.ev rfl)) rfl rfl trivial ?_
              clear S; intro aa S
              refine OL.pure S (Lf.run_move (S.ev rfl)) rfl rfl trivial ?_
              clear S; intro aa S
              refine OL.pure S (Lf.run_sub (S.ev rfl) (S.ev rfl)) rfl rfl trivial ?_
              clear S; intro aa S
              obtain ⟨q70, e_9, e_10, e_11, H⟩ := H
              refine OL.pure S (Lf.run_ixs (S.ev rfl) (S.ev rfl) Try.underlying22 ti3 e_9 e_10 e_11) rfl rfl trivial ?_
              clear S; intro aa S
              obtain ⟨x71, c_19, H⟩ := H
              refine OL.pure S (Lf.run_ld (S.ev rfl) fl3 (S.cl c_19)) rfl rfl trivial ?_
              clear S; intro aa S
              refine OL.pure S (Lf.run_assign (S.ev rfl)) rfl rfl trivial ?_
              clear S; intro aa S
              refine OL.nil ?_
              exact ⟨x71, S.sub _ ⟨rfl, rfl, rfl, rfl, rfl, rfl, rfl, rfl, rfl, trivial⟩, H⟩
            · replace H := H.2 hb_7
              refine W.skip ?_
              exact ⟨x53, S.sub _ ⟨rfl, rfl, rfl, rfl, rfl, rfl, rfl, rfl, rfl, trivial⟩, H⟩
      · clear H S aa
        rintro aa ww ⟨r13, S, HJ⟩
        have H := HK_1 _ HJ
        clear HK_1 HJ
        replace S := S.sub [(1, Value.slice lifes1.a lifes1.n lifes1.c), (2, Value.slice names2.a names2.n names2.c), (3, Value.slice args3.a args3.n args3.c), (4, Value.pointer (some p4)), (8, Value.pointer (some p8)), (10, Value.slice l10.a l10.n l10.c), (11, Value.slice x43.a x43.n x43.c), (12, Value.int .i64 i12), (13, Value.int .i64 r13)] ⟨rfl, rfl, rfl, rfl, rfl, rfl, rfl, rfl, rfl, trivial⟩
        refine W.region ?_
        refine OL.pure S (Lf.run_move (S.ev rfl)) rfl rfl trivial ?_
        clear S; intro aa S
        refine OL.pure S (Lf.run_move (S.ev rfl)) rfl rfl trivial ?_
        clear S; intro aa S
        refine ol_newS S H Try.underlying22 ti3 (by decide) (parts_map S rfl) (by kernel_rfl) (by decide) rfl trivial ?_
        clear S H aa; intro s74 aa ww h8 H S
        refine ol_appS S H Try.underlying22 ti3 rfl rfl rfl trivial ?_
        clear S H aa; intro s75 aa ww h9 H S
        refine OL.pure S (Lf.run_assign (S.ev rfl)) rfl rfl trivial ?_
        clear S; intro aa S
        refine OL.nil ?_
        replace S := S.sub [(1, Value.slice lifes1.a lifes1.n lifes1.c), (2, Value.slice names2.a names2.n names2.c), (3, Value.slice args3.a args3.n args3.c), (4, Value.pointer (some p4)), (8, Value.pointer (some p8)), (10, Value.slice s75.a s75.n s75.c), (11, Value.slice x43.a x43.n x43.c), (12, Value.int .i64 i12)] ⟨rfl, rfl, rfl, rfl, rfl, rfl, rfl, rfl, trivial⟩
        refine W.region ?_
        refine OL.pure S (Lf.run_move (S.ev rfl)) rfl rfl trivial ?_
        clear S; intro aa S
        refine OL.pure S (Lf.run_add (S.ev rfl) (S.ev rfl)) rfl rfl trivial ?_
        clear S; intro aa S
        refine OL.pure S (Lf.run_assign (S.ev rfl)) rfl rfl trivial ?_
        clear S; intro aa S
        refine OL.nil ?_
        exact ⟨(s75, (IntKind.i64.wrap (i12 + 1)), h9), ⟨S.sub _ ⟨rfl, rfl, rfl, rfl, rfl, rfl, rfl, rfl, trivial⟩, H.1⟩, H.2⟩
    · replace H := H.2 hb_4
      refine W.exit_ ?_
      refine xhit ?_
      refine W.seq ?_
      replace S := S.sub [(1, Value.slice lifes1.a lifes1.n lifes1.c), (2, Value.slice names2.a names2.n names2.c), (3, Value.slice args3.a args3.n args3.c), (4, Value.pointer (some p4)), (8, Value.pointer (some p8)), (10, Value.slice l10.a l10.n l10.c)] ⟨rfl, rfl, rfl, rfl, rfl, rfl, trivial⟩
      refine W.region ?_
      refine OL.pure S (Lf.run_fa (S.ev rfl) fa25_0) rfl rfl trivial ?_
      clear S; intro aa S
      obtain ⟨x77, c_20, H⟩ := H
      refine OL.pure S (Lf.run_ld (S.ev rfl) fl3 (S.cl c_20)) rfl rfl trivial ?_
      clear S; intro aa S
      refine OL.pure S (Lf.run_fa (S.ev rfl) fa25_1) rfl rfl trivial ?_
      clear S; intro aa S
      obtain ⟨x79, c_21, H⟩ := H
      refine OL.pure S (Lf.run_ld (S.ev rfl) fl9 (S.cl c_21)) rfl rfl trivial ?_
      clear S; intro aa S
      refine OL.pure S (Lf.run_fa (S.ev rfl) fa25_2) rfl rfl trivial ?_
      clear S; intro aa S
      obtain ⟨x81, c_22, H⟩ := H
      refine OL.pure S (Lf.run_ld (S.ev rfl) fl4 (S.cl c_22)) rfl rfl trivial ?_
      clear S; intro aa S
      refine OL.pure S (Lf.run_fa (S.ev rfl) fa25_3) rfl rfl trivial ?_
      clear S; intro aa S
      obtain ⟨x83, c_23, H⟩ := H
      refine OL.pure S (Lf.run_ld (S.ev rfl) fl3 (S.cl c_23)) rfl rfl trivial ?_
      clear S; intro aa S
      refine OL.pure S (Lf.run_fa (S.ev rfl) fa25_4) rfl rfl trivial ?_
      clear S; intro aa S
      obtain ⟨x85, c_24, H⟩ := H
      refine OL.pure S (Lf.run_ld (S.ev rfl) fl22 (S.cl c_24)) rfl rfl trivial ?_
      clear S; intro aa S
      refine OL.pure S (Lf.run_build (cs := #[Value.int .i64 x77, Value.string x79, Value.bool x81, Value.int .i64 x83, Value.slice x85.a x85.n x85.c, Value.slice (⟨none, 0, 0⟩ : Sv).a (⟨none, 0, 0⟩ : Sv).n (⟨none, 0, 0⟩ : Sv).c]) pl25 ti25 (parts_map S rfl) (by kernel_rfl)) rfl rfl trivial ?_
      clear S; intro aa S
      refine ol_alloc S H ti25 rfl rfl trivial ?_
      clear S H aa; intro p14 aa ww h10 H S
      refine ol_stoA S H rfl rfl ti25 trivial ?_
      clear S H aa; intro aa ww h11 H S
      refine OL.nil ?_
      refine W.seq ?_
      replace S := S.sub [(1, Value.slice lifes1.a lifes1.n lifes1.c), (2, Value.slice names2.a names2.n names2.c), (3, Value.slice args3.a args3.n args3.c), (4, Value.pointer (some p4)), (8, Value.pointer (some p8)), (10, Value.slice l10.a l10.n l10.c), (14, Value.pointer (some p14))] ⟨rfl, rfl, rfl, rfl, rfl, rfl, rfl, trivial⟩
      refine W.region ?_
      obtain ⟨y88, y88_1, y88_2, y88_3, y88_4, y88_5, c_49, c_50, c_51, c_52, c_53, c_54, H⟩ := H
      refine OL.pure S (Lf.run_ldA (cs := [Value.int .i64 y88, Value.string y88_1, Value.bool y88_2, Value.int .i64 y88_3, Value.slice y88_4.a y88_4.n y88_4.c, Value.slice y88_5.a y88_5.n y88_5.c]) (S.ev rfl) ag25 ti25 (by rw [S.heap]; exact RowL.toRow ⟨c_49, c_50, c_51, c_52, c_53, c_54, trivial⟩)) rfl rfl trivial ?_
      clear S; intro aa S
      refine OL.pure S (Lf.run_move (S.ev rfl)) rfl rfl trivial ?_
      clear S; intro aa S
      refine ol_cal S H isfn40 rfl rfl trivial ?_
      clear S H aa; intro u_1 aa ww h12 H S
      obtain ⟨y90, y90_1, y90_2, y90_3, y90_4, y90_5, x90, rfl, H⟩ := H
      refine OL.pure S (Lf.run_move (S.ev rfl)) rfl rfl trivial ?_
      clear S; intro aa S
      refine OL.pure S (Lf.run_ex (S.ev rfl) rfl) rfl rfl trivial ?_
      clear S; intro aa S
      refine OL.pure S (Lf.run_ex (S.ev rfl) rfl) rfl rfl trivial ?_
      clear S; intro aa S
      refine ol_alloc S H ti25 rfl rfl trivial ?_
      clear S H aa; intro p15 aa ww h13 H S
      refine ol_stoA S H rfl rfl ti25 trivial ?_
      clear S H aa; intro aa ww h14 H S
      refine OL.pure S (Lf.run_assign (S.ev rfl)) rfl rfl trivial ?_
      clear S; intro aa S
      refine OL.nil ?_
      refine W.seq ?_
      refine W.seq ?_
      replace S := S.sub [(1, Value.slice lifes1.a lifes1.n lifes1.c), (2, Value.slice names2.a names2.n names2.c), (3, Value.slice args3.a args3.n args3.c), (4, Value.pointer (some p4)), (8, Value.pointer (some p8)), (15, Value.pointer (some p15))] ⟨rfl, rfl, rfl, rfl, rfl, rfl, trivial⟩
      refine W.region ?_
      refine OL.pure S (Lf.run_assign (S.ev rfl)) rfl rfl trivial ?_
      clear S; intro aa S
      refine OL.nil ?_
      refine W.block ?_
      obtain ⟨I_2, m_2, H, HB_1⟩ := H
      refine W.loopS (σ := Int × Heap) (fun s aa ww => St 115 [(1, Value.slice lifes1.a lifes1.n lifes1.c), (2, Value.slice names2.a names2.n names2.c), (3, Value.slice args3.a args3.n args3.c), (4, Value.pointer (some p4)), (8, Value.pointer (some p8)), (15, Value.pointer (some p15)), (17, Value.int .i64 s.1)] s.2 w0 aa ww ∧ I_2 s.1 s.2) (fun s => m_2 s.1 s.2) (0, h14) ⟨S.sub _ ⟨rfl, rfl, rfl, rfl, rfl, rfl, rfl, trivial⟩, H⟩ ?_
      clear H S aa
      rintro ⟨i17, h15⟩ aa ww ⟨S, HI⟩
      replace S : St 115 [(1, Value.slice lifes1.a lifes1.n lifes1.c), (2, Value.slice names2.a names2.n names2.c), (3, Value.slice args3.a args3.n args3.c), (4, Value.pointer (some p4)), (8, Value.pointer (some p8)), (15, Value.pointer (some p15)), (17, Value.int .i64 i17)] h15 w0 aa ww := S
      have H := HB_1 i17 h15 HI
      clear HI
      refine W.seq ?_
      refine W.seq ?_
      replace S := S.sub [(1, Value.slice lifes1.a lifes1.n lifes1.c), (2, Value.slice names2.a names2.n names2.c), (3, Value.slice args3.a args3.n args3.c), (4, Value.pointer (some p4)), (8, Value.pointer (some p8)), (15, Value.pointer (some p15)), (17, Value.int .i64 i17)] ⟨rfl, rfl, rfl, rfl, rfl, rfl, rfl, trivial⟩
      refine W.region ?_
      refine OL.pure S (Lf.run_move (S.ev rfl)) rfl rfl trivial ?_
      clear S; intro aa S
      refine OL.pure S (Lf.run_fa (S.ev rfl) fa25_5) rfl rfl trivial ?_
      clear S; intro aa S
      obtain ⟨x95, c_26, H⟩ := H
      refine OL.pure S (Lf.run_ld (S.ev rfl) fl23 (S.cl c_26)) rfl rfl trivial ?_
      clear S; intro aa S
      refine OL.pure S (Lf.run_lens (S.ev rfl) rfl Try.underlying23) rfl rfl trivial ?_
      clear S; intro aa S
      refine OL.pure S (Lf.run_lss (S.ev rfl) (S.ev rfl)) rfl rfl trivial ?_
      clear S; intro aa S
      refine OL.nil ?_
      refine W.cond S (b := (decide (i17 < ((x95.n : Nat) : Int)))) rfl (fun hb_8 => ?_) (fun hb_8 => ?_)
      · replace H := H.1 hb_8
        refine W.skip ?_
        refine W.seq ?_
        refine W.block ?_
        replace S := S.sub [(1, Value.slice lifes1.a lifes1.n lifes1.c), (2, Value.slice names2.a names2.n names2.c), (3, Value.slice args3.a args3.n args3.c), (4, Value.pointer (some p4)), (8, Value.pointer (some p8)), (15, Value.pointer (some p15)), (17, Value.int .i64 i17)] ⟨rfl, rfl, rfl, rfl, rfl, rfl, rfl, trivial⟩
        obtain ⟨Sq, HS, H⟩ := H
        refine W.regionN [1] [10, 11, 12, 14] Sq S (by kernel_rfl) ?_
        clear S; intro ww S
        refine BN.pure 0 S (fun _ => HS) rfl (by kernel_rfl) (by kernel_rfl) (fun _ => Lf.run_fa (S.ev rfl) fa25_5) rfl rfl trivial ?_
        clear S; intro aa S
        refine BN.pure 2 S (fun _ => HS) rfl (by kernel_rfl) (by kernel_rfl) (fun _ => Lf.run_fa (S.ev rfl) fa25_5) rfl rfl trivial ?_
        clear S; intro aa S
        obtain ⟨x103, c_27, H⟩ := H
        refine BN.load 3 S (fun _ => HS) rfl (by kernel_rfl) (by kernel_rfl) (fun _ hx => Lf.run_ld (S.ev rfl) fl23 (hx.cell _ _ (S.cl c_27))) rfl rfl trivial ?_
        clear S; intro aa S
        refine BN.pure 4 S (fun _ => HS) rfl (by kernel_rfl) (by kernel_rfl) (fun _ => Lf.run_move (S.ev rfl)) rfl rfl trivial ?_
        clear S; intro aa S
        obtain ⟨q105, e_12, e_13, e_14, H⟩ := H
        refine BN.pure 5 S (fun _ => HS) rfl (by kernel_rfl) (by kernel_rfl) (fun _ => Lf.run_ixs (S.ev rfl) (S.ev rfl) Try.underlying23 ti25 e_12 e_13 e_14) rfl rfl trivial ?_
        clear S; intro aa S
        obtain ⟨y106, y106_1, y106_2, y106_3, y106_4, y106_5, c_30, c_31, c_32, c_33, c_34, c_35, H⟩ := H
        refine BN.load 6 S (fun _ => HS) rfl (by kernel_rfl) (by kernel_rfl) (fun _ hx => Lf.run_ldA (cs := [Value.int .i64 y106, Value.string y106_1, Value.bool y106_2, Value.int .i64 y106_3, Value.slice y106_4.a y106_4.n y106_4.c, Value.slice y106_5.a y106_5.n y106_5.c]) (S.ev rfl) ag25 ti25 (hx.row (S.row ⟨c_30, c_31, c_32, c_33, c_34, c_35, trivial⟩))) rfl rfl trivial ?_
        clear S; intro aa S
        refine BN.pure 7 S (fun _ => HS) rfl (by kernel_rfl) (by kernel_rfl) (fun _ => Lf.run_move (S.ev rfl)) rfl rfl trivial ?_
        clear S; intro aa S
        refine BN.pure 8 S (fun _ => HS) rfl (by kernel_rfl) (by kernel_rfl) (fun _ => Lf.run_move (S.ev rfl)) rfl rfl trivial ?_
        clear S; intro aa S
        refine BN.pure 9 S (fun _ => HS) rfl (by kernel_rfl) (by kernel_rfl) (fun _ => Lf.run_move (S.ev rfl)) rfl rfl trivial ?_
        clear S; intro aa S
        obtain ⟨x101, c_29, H⟩ := H
        refine BN.held 1 S HS rfl (by kernel_rfl) (fun _ hq => Lf.run_ld (S.ev rfl) fl23 (c_29 _ hq)) rfl rfl trivial ?_
        clear S; intro aa S
        refine BN.eff 10 rfl (by kernel_rfl) ?_
        refine ol_cal S H isfn22 rfl rfl trivial ?_
        clear S H aa; intro u_2 aa ww h16 H S
        obtain ⟨y110, y110_1, y110_2, y110_3, y110_4, y110_5, rfl, H⟩ := H
        refine OL.nil ?_
        clear HS; obtain ⟨HS, H⟩ := H
        refine ⟨fun _ => by rw [S.heap]; exact HS, ?_⟩
        refine BN.eff 11 rfl (by kernel_rfl) ?_
        refine ol_newS S H Try.underlying23 ti25 (by decide) (parts_map S rfl) (by kernel_rfl) (by decide) rfl trivial ?_
        clear S H aa; intro s111 aa ww h17 H S
        refine OL.nil ?_
        clear HS; obtain ⟨HS, H⟩ := H
        refine ⟨fun _ => by rw [S.heap]; exact HS, ?_⟩
        refine BN.eff 12 rfl (by kernel_rfl) ?_
        refine ol_appS S H Try.underlying23 ti25 rfl rfl rfl trivial ?_
        clear S H aa; intro s112 aa ww h18 H S
        refine OL.nil ?_
        refine ⟨noNeed (by kernel_rfl), ?_⟩
        refine BN.pure 13 S (noNeed (by kernel_rfl)) rfl (by kernel_rfl) (by kernel_rfl) (fun _ => Lf.run_fa (S.ev rfl) fa25_5) rfl rfl trivial ?_
        clear S; intro aa S
        refine BN.eff 14 rfl (by kernel_rfl) ?_
        refine ol_sto S H rfl rfl rfl ti23 trivial ?_
        clear S H aa; intro aa ww h19 H S
        refine OL.nil ?_
        refine ⟨noNeed (by kernel_rfl), ?_⟩
        refine BN.done (by kernel_rfl) ?_
        replace S := S.sub [(1, Value.slice lifes1.a lifes1.n lifes1.c), (2, Value.slice names2.a names2.n names2.c), (3, Value.slice args3.a args3.n args3.c), (4, Value.pointer (some p4)), (8, Value.pointer (some p8)), (15, Value.pointer (some p15)), (17, Value.int .i64 i17)] ⟨rfl, rfl, rfl, rfl, rfl, rfl, rfl, trivial⟩
        refine W.region ?_
        refine OL.pure S (Lf.run_move (S.ev rfl)) rfl rfl trivial ?_
        clear S; intro aa S
        refine OL.pure S (Lf.run_add (S.ev rfl) (S.ev rfl)) rfl rfl trivial ?_
        clear S; intro aa S
        refine OL.pure S (Lf.run_assign (S.ev rfl)) rfl rfl trivial ?_
        clear S; intro aa S
        refine OL.nil ?_
        exact ⟨((IntKind.i64.wrap (i17 + 1)), h19), ⟨S.sub _ ⟨rfl, rfl, rfl, rfl, rfl, rfl, rfl, trivial⟩, H.1⟩, H.2⟩
      · replace H := H.2 hb_8
        refine W.exit_ ?_
        refine xhit ?_
        refine W.seq ?_
        replace S := S.sub [(8, Value.pointer (some p8)), (15, Value.pointer (some p15))] ⟨rfl, rfl, trivial⟩
        refine W.region ?_
        obtain ⟨y114, y114_1, y114_2, y114_3, y114_4, y114_5, c_43, c_44, c_45, c_46, c_47, c_48, H⟩ := H
        refine OL.pure S (Lf.run_ldA (cs := [Value.int .i64 y114, Value.string y114_1, Value.bool y114_2, Value.int .i64 y114_3, Value.slice y114_4.a y114_4.n y114_4.c, Value.slice y114_5.a y114_5.n y114_5.c]) (S.ev rfl) ag25 ti25 (by rw [S.heap]; exact RowL.toRow ⟨c_43, c_44, c_45, c_46, c_47, c_48, trivial⟩)) rfl rfl trivial ?_
        clear S; intro aa S
        refine ol_stoA S H rfl rfl ti25 trivial ?_
        clear S H aa; intro aa ww h20 H S
        refine OL.nil ?_
        refine W.ret ?_
        obtain ⟨y_6, y_7, y_8, y_9, y_10, y_11, c_37, c_38, c_39, c_40, c_41, c_42, H⟩ := H
        exact Ret.gen S rfl (RV.cellA (cs := [Value.int .i64 y_6, Value.string y_7, Value.bool y_8, Value.int .i64 y_9, Value.slice y_10.a y_10.n y_10.c, Value.slice y_11.a y_11.n y_11.c]) rfl ag25 ti25 ⟨c_37, c_38, c_39, c_40, c_41, c_42, trivial⟩ RV.nil) rfl H

/-- chattel types.Same -/
def L23 (a0 : Int) (a0_1 : ByteArray) (a0_2 : Bool) (a0_3 : Int) (a0_4 : Sv) (a0_5 : Sv) (b1 : Int) (b1_1 : ByteArray) (b1_2 : Bool) (b1_3 : Int) (b1_4 : Sv) (b1_5 : Sv) (h : Heap) (R : Value → Heap → Prop) : Prop :=
  new 25 #[Value.int .i64 a0, Value.string a0_1, Value.bool a0_2, Value.int .i64 a0_3, Value.slice a0_4.a a0_4.n a0_4.c, Value.slice a0_5.a a0_5.n a0_5.c] h fun p2 h1 =>
  new 25 #[Value.int .i64 b1, Value.string b1_1, Value.bool b1_2, Value.int .i64 b1_3, Value.slice b1_4.a b1_4.n b1_4.c, Value.slice b1_5.a b1_5.n b1_5.c] h1 fun p3 h2 =>
  ldI .i64 h2 p2 fun x6 =>
  ldI .i64 h2 p3 fun x8 =>
  ∃ J : Bool → Prop, (orr (x6 != x8) (fun k =>
    ldT h2 (p2.add 1) fun x12 =>
    ldT h2 (p3.add 1) fun x14 =>
    k (x12.toList != x14.toList)) J) ∧ ∀ x16, J x16 →
  ∃ J_1 : Bool → Prop, (orr x16 (fun k_1 =>
    ldB h2 (p2.add 2) fun x19 =>
    ldB h2 (p3.add 2) fun x21 =>
    k_1 (x19 != x21)) J_1) ∧ ∀ x23, J_1 x23 →
  ifb x23 (
    R (Value.bool false) h2) (
    ldI .i64 h2 p2 fun x25 =>
    ∃ J_2 : Bool → Prop, (orr (x25 != 5) (fun k_2 =>
      ldS h2 (p2.add 4) fun x29 =>
      ldS h2 (p3.add 4) fun x32 =>
      k_2 (((x29.n : Nat) : Int) == ((x32.n : Nat) : Int))) J_2) ∧ ∀ x35, J_2 x35 →
    ∃ J_3 : Bool → Heap → Prop, (andj x35 (fun k_3 =>
      ldS h2 (p2.add 5) fun x38 =>
      ldS h2 (p3.add 5) fun x40 =>
      cal Try.prog 41 #[Value.slice x38.a x38.n x38.c, Value.slice x40.a x40.n x40.c, (Value.func (.func 23) #[] #[])] h2 fun u h4 => asB u fun x41 =>
      k_3 x41 h4) h2 J_3) ∧ ∀ x42 h3, J_3 x42 h3 →
    R (Value.bool x42) h3)

set_option maxRecDepth 100000 in

theorem F23 {a0 a0_1 a0_2 a0_3 a0_4 a0_5 b1 b1_1 b1_2 b1_3 b1_4 b1_5 h : _} {R : Value → Heap → Prop} (H : L23 a0 a0_1 a0_2 a0_3 a0_4 a0_5 b1 b1_1 b1_2 b1_3 b1_4 b1_5 h R) : CallsH Try.prog 23 #[Value.agg #[Value.int .i64 a0, Value.string a0_1, Value.bool a0_2, Value.int .i64 a0_3, Value.slice a0_4.a a0_4.n a0_4.c, Value.slice a0_5.a a0_5.n a0_5.c], Value.agg #[Value.int .i64 b1, Value.string b1_1, Value.bool b1_2, Value.int .i64 b1_3, Value.slice b1_4.a b1_4.n b1_4.c, Value.slice b1_5.a b1_5.n b1_5.c]] h R := by
  refine CallsH.enter (n := 43) Try.func23 rfl rfl rfl rfl ?_
  intro w0 aa ww S
  unfold L23 at H
  refine W.seq ?_
  replace S := S.sub [(0, Value.agg #[Value.int .i64 a0, Value.string a0_1, Value.bool a0_2, Value.int .i64 a0_3, Value.slice a0_4.a a0_4.n a0_4.c, Value.slice a0_5.a a0_5.n a0_5.c]), (1, Value.agg #[Value.int .i64 b1, Value.string b1_1, Value.bool b1_2, Value.int .i64 b1_3, Value.slice b1_4.a b1_4.n b1_4.c, Value.slice b1_5.a b1_5.n b1_5.c])] ⟨rfl, rfl, trivial⟩
  refine W.region ?_
  refine ol_box S H rfl rfl rfl trivial ?_
  clear S H aa; intro p2 aa ww h1 H S
  refine ol_box S H rfl rfl rfl trivial ?_
  clear S H aa; intro p3 aa ww h2 H S
  refine OL.pure S (Lf.run_assign (S.ev rfl)) rfl rfl trivial ?_
  clear S; intro aa S
  refine OL.nil ?_
  refine W.seq ?_
  refine W.seq ?_
  replace S := S.sub [(2, Value.pointer (some p2)), (3, Value.pointer (some p3))] ⟨rfl, rfl, trivial⟩
  refine W.region ?_
  refine OL.pure S (Lf.run_fa (S.ev rfl) fa25_0) rfl rfl trivial ?_
  clear S; intro aa S
  obtain ⟨x6, c, H⟩ := H
  refine OL.pure S (Lf.run_ld (S.ev rfl) fl3 (S.cl c)) rfl rfl trivial ?_
  clear S; intro aa S
  refine OL.pure S (Lf.run_fa (S.ev rfl) fa25_0) rfl rfl trivial ?_
  clear S; intro aa S
  obtain ⟨x8, c_1, H⟩ := H
  refine OL.pure S (Lf.run_ld (S.ev rfl) fl3 (S.cl c_1)) rfl rfl trivial ?_
  clear S; intro aa S
  refine OL.pure S (Lf.run_neq (S.ev rfl) (S.ev rfl)) rfl rfl trivial ?_
  clear S; intro aa S
  refine OL.pure S (Lf.run_move (S.ev rfl)) rfl rfl trivial ?_
  clear S; intro aa S
  obtain ⟨J, H, HK⟩ := H
  refine OL.cutN 6 (fun aa ww => ∃ x16, St 43 ((16, Value.bool x16) :: [(2, Value.pointer (some p2)), (3, Value.pointer (some p3)), (5, Value.pointer (some p2)), (6, Value.int .i64 x6), (7, Value.pointer (some p3)), (8, Value.int .i64 x8), (9, Value.bool (x6 != x8)), (10, Value.bool (x6 != x8))]) h2 w0 aa ww ∧ J x16) ?_ ?_
  · rcases Bool.eq_false_or_eq_true (x6 != x8) with hb | hb
    · replace H := H.1 hb
      refine OL.not S rfl rfl (GNo.mk rfl rfl hb) ?_
      clear S; intro aa S
      refine OL.not S rfl rfl (GNo.mk rfl rfl hb) ?_
      clear S; intro aa S
      refine OL.not S rfl rfl (GNo.mk rfl rfl hb) ?_
      clear S; intro aa S
      refine OL.not S rfl rfl (GNo.mk rfl rfl hb) ?_
      clear S; intro aa S
      refine OL.not S rfl rfl (GNo.mk rfl rfl hb) ?_
      clear S; intro aa S
      refine OL.pure S (Lf.run_pickT (S.ev rfl) hb (S.ev rfl)) rfl rfl trivial ?_
      clear S; intro aa S
      refine OL.nil ?_
      exact ⟨_, S.sub _ ⟨rfl, rfl, rfl, rfl, rfl, rfl, rfl, rfl, rfl, trivial⟩, H⟩
    · replace H := H.2 hb
      refine OL.pure S (Lf.run_fa (S.ev rfl) fa25_1) rfl rfl (GOk.mk rfl rfl hb) ?_
      clear S; intro aa S
      obtain ⟨x12, c_2, H⟩ := H
      refine OL.pure S (Lf.run_ld (S.ev rfl) fl9 (S.cl c_2)) rfl rfl (GOk.mk rfl rfl hb) ?_
      clear S; intro aa S
      refine OL.pure S (Lf.run_fa (S.ev rfl) fa25_1) rfl rfl (GOk.mk rfl rfl hb) ?_
      clear S; intro aa S
      obtain ⟨x14, c_3, H⟩ := H
      refine OL.pure S (Lf.run_ld (S.ev rfl) fl9 (S.cl c_3)) rfl rfl (GOk.mk rfl rfl hb) ?_
      clear S; intro aa S
      refine OL.pure S (Lf.run_neqt (S.ev rfl) (S.ev rfl)) rfl rfl (GOk.mk rfl rfl hb) ?_
      clear S; intro aa S
      refine OL.pure S (Lf.run_pickF (S.ev rfl) hb (S.ev rfl)) rfl rfl trivial ?_
      clear S; intro aa S
      refine OL.nil ?_
      exact ⟨_, S.sub _ ⟨rfl, rfl, rfl, rfl, rfl, rfl, rfl, rfl, rfl, trivial⟩, H⟩
  · clear S aa
    rintro aa ww ⟨x16, S, HJ⟩
    replace H := HK _ HJ
    clear HK HJ
    refine OL.pure S (Lf.run_move (S.ev rfl)) rfl rfl trivial ?_
    clear S; intro aa S
    obtain ⟨J_1, H, HK_1⟩ := H
    refine OL.cutN 6 (fun aa ww => ∃ x23, St 43 ((23, Value.bool x23) :: [(2, Value.pointer (some p2)), (3, Value.pointer (some p3)), (5, Value.pointer (some p2)), (6, Value.int .i64 x6), (7, Value.pointer (some p3)), (8, Value.int .i64 x8), (9, Value.bool (x6 != x8)), (10, Value.bool (x6 != x8)), (16, Value.bool x16), (17, Value.bool x16)]) h2 w0 aa ww ∧ J_1 x23) ?_ ?_
    · rcases Bool.eq_false_or_eq_true x16 with hb_1 | hb_1
      · replace H := H.1 hb_1
        refine OL.not S rfl rfl (GNo.mk rfl rfl hb_1) ?_
        clear S; intro aa S
        refine OL.not S rfl rfl (GNo.mk rfl rfl hb_1) ?_
        clear S; intro aa S
        refine OL.not S rfl rfl (GNo.mk rfl rfl hb_1) ?_
        clear S; intro aa S
        refine OL.not S rfl rfl (GNo.mk rfl rfl hb_1) ?_
        clear S; intro aa S
        refine OL.not S rfl rfl (GNo.mk rfl rfl hb_1) ?_
        clear S; intro aa S
        refine OL.pure S (Lf.run_pickT (S.ev rfl) hb_1 (S.ev rfl)) rfl rfl trivial ?_
        clear S; intro aa S
        refine OL.nil ?_
        exact ⟨_, S.sub _ ⟨rfl, rfl, rfl, rfl, rfl, rfl, rfl, rfl, rfl, rfl, rfl, trivial⟩, H⟩
      · replace H := H.2 hb_1
        refine OL.pure S (Lf.run_fa (S.ev rfl) fa25_2) rfl rfl (GOk.mk rfl rfl hb_1) ?_
        clear S; intro aa S
        obtain ⟨x19, c_4, H⟩ := H
        refine OL.pure S (Lf.run_ld (S.ev rfl) fl4 (S.cl c_4)) rfl rfl (GOk.mk rfl rfl hb_1) ?_
        clear S; intro aa S
        refine OL.pure S (Lf.run_fa (S.ev rfl) fa25_2) rfl rfl (GOk.mk rfl rfl hb_1) ?_
        clear S; intro aa S
        obtain ⟨x21, c_5, H⟩ := H
        refine OL.pure S (Lf.run_ld (S.ev rfl) fl4 (S.cl c_5)) rfl rfl (GOk.mk rfl rfl hb_1) ?_
        clear S; intro aa S
        refine OL.pure S (Lf.run_neqb Try.underlying4 (S.ev rfl) (S.ev rfl)) rfl rfl (GOk.mk rfl rfl hb_1) ?_
        clear S; intro aa S
        refine OL.pure S (Lf.run_pickF (S.ev rfl) hb_1 (S.ev rfl)) rfl rfl trivial ?_
        clear S; intro aa S
        refine OL.nil ?_
        exact ⟨_, S.sub _ ⟨rfl, rfl, rfl, rfl, rfl, rfl, rfl, rfl, rfl, rfl, rfl, trivial⟩, H⟩
    · clear S aa
      rintro aa ww ⟨x23, S, HJ⟩
      replace H := HK_1 _ HJ
      clear HK_1 HJ
      refine OL.nil ?_
      refine W.cond S (b := x23) rfl (fun hb_2 => ?_) (fun hb_2 => ?_)
      · replace H := H.1 hb_2
        refine W.seq ?_
        replace S := S.sub [] trivial
        refine W.region ?_
        refine OL.pure S (Lf.run_assign (S.ev rfl)) rfl rfl trivial ?_
        clear S; intro aa S
        refine OL.nil ?_
        refine W.ret ?_
        exact Ret.one S rfl rfl H
      · replace H := H.2 hb_2
        refine W.skip ?_
        refine W.seq ?_
        replace S := S.sub [(2, Value.pointer (some p2)), (3, Value.pointer (some p3))] ⟨rfl, rfl, trivial⟩
        refine W.region ?_
        refine OL.pure S (Lf.run_fa (S.ev rfl) fa25_0) rfl rfl trivial ?_
        clear S; intro aa S
        obtain ⟨x25, c_6, H⟩ := H
        refine OL.pure S (Lf.run_ld (S.ev rfl) fl3 (S.cl c_6)) rfl rfl trivial ?_
        clear S; intro aa S
        refine OL.pure S (Lf.run_neq (S.ev rfl) (S.ev rfl)) rfl rfl trivial ?_
        clear S; intro aa S
        refine OL.pure S (Lf.run_move (S.ev rfl)) rfl rfl trivial ?_
        clear S; intro aa S
        obtain ⟨J_2, H, HK_2⟩ := H
        refine OL.cutN 8 (fun aa ww => ∃ x35, St 43 ((35, Value.bool x35) :: [(2, Value.pointer (some p2)), (3, Value.pointer (some p3)), (24, Value.pointer (some p2)), (25, Value.int .i64 x25), (26, Value.bool (x25 != 5)), (27, Value.bool (x25 != 5))]) h2 w0 aa ww ∧ J_2 x35) ?_ ?_
        · rcases Bool.eq_false_or_eq_true (x25 != 5) with hb_3 | hb_3
          · replace H := H.1 hb_3
            refine OL.not S rfl rfl (GNo.mk rfl rfl hb_3) ?_
            clear S; intro aa S
            refine OL.not S rfl rfl (GNo.mk rfl rfl hb_3) ?_
            clear S; intro aa S
            refine OL.not S rfl rfl (GNo.mk rfl rfl hb_3) ?_
            clear S; intro aa S
            refine OL.not S rfl rfl (GNo.mk rfl rfl hb_3) ?_
            clear S; intro aa S
            refine OL.not S rfl rfl (GNo.mk rfl rfl hb_3) ?_
            clear S; intro aa S
            refine OL.not S rfl rfl (GNo.mk rfl rfl hb_3) ?_
            clear S; intro aa S
            refine OL.not S rfl rfl (GNo.mk rfl rfl hb_3) ?_
            clear S; intro aa S
            refine OL.pure S (Lf.run_pickT (S.ev rfl) hb_3 (S.ev rfl)) rfl rfl trivial ?_
            clear S; intro aa S
            refine OL.nil ?_
            exact ⟨_, S.sub _ ⟨rfl, rfl, rfl, rfl, rfl, rfl, rfl, trivial⟩, H⟩
          · replace H := H.2 hb_3
            refine OL.pure S (Lf.run_fa (S.ev rfl) fa25_4) rfl rfl (GOk.mk rfl rfl hb_3) ?_
            clear S; intro aa S
            obtain ⟨x29, c_7, H⟩ := H
            refine OL.pure S (Lf.run_ld (S.ev rfl) fl22 (S.cl c_7)) rfl rfl (GOk.mk rfl rfl hb_3) ?_
            clear S; intro aa S
            refine OL.pure S (Lf.run_lens (S.ev rfl) rfl Try.underlying22) rfl rfl (GOk.mk rfl rfl hb_3) ?_
            clear S; intro aa S
            refine OL.pure S (Lf.run_fa (S.ev rfl) fa25_4) rfl rfl (GOk.mk rfl rfl hb_3) ?_
            clear S; intro aa S
            obtain ⟨x32, c_8, H⟩ := H
            refine OL.pure S (Lf.run_ld (S.ev rfl) fl22 (S.cl c_8)) rfl rfl (GOk.mk rfl rfl hb_3) ?_
            clear S; intro aa S
            refine OL.pure S (Lf.run_lens (S.ev rfl) rfl Try.underlying22) rfl rfl (GOk.mk rfl rfl hb_3) ?_
            clear S; intro aa S
            refine OL.pure S (Lf.run_eql (S.ev rfl) (S.ev rfl)) rfl rfl (GOk.mk rfl rfl hb_3) ?_
            clear S; intro aa S
            refine OL.pure S (Lf.run_pickF (S.ev rfl) hb_3 (S.ev rfl)) rfl rfl trivial ?_
            clear S; intro aa S
            refine OL.nil ?_
            exact ⟨_, S.sub _ ⟨rfl, rfl, rfl, rfl, rfl, rfl, rfl, trivial⟩, H⟩
        · clear S aa
          rintro aa ww ⟨x35, S, HJ⟩
          replace H := HK_2 _ HJ
          clear HK_2 HJ
          refine OL.pure S (Lf.run_move (S.ev rfl)) rfl rfl trivial ?_
          clear S; intro aa S
          obtain ⟨J_3, H, HK_3⟩ := H
          refine OL.cutN 6 (fun aa ww => ∃ x42 h3, St 43 ((42, Value.bool x42) :: [(2, Value.pointer (some p2)), (3, Value.pointer (some p3)), (24, Value.pointer (some p2)), (25, Value.int .i64 x25), (26, Value.bool (x25 != 5)), (27, Value.bool (x25 != 5)), (35, Value.bool x35), (36, Value.bool x35)]) h3 w0 aa ww ∧ J_3 x42 h3) ?_ ?_
          · rcases Bool.eq_false_or_eq_true x35 with hb_4 | hb_4
            · replace H := H.1 hb_4
              refine OL.pure S (Lf.run_fa (S.ev rfl) fa25_5) rfl rfl (GOk.mk rfl rfl hb_4) ?_
              clear S; intro aa S
              obtain ⟨x38, c_9, H⟩ := H
              refine OL.pure S (Lf.run_ld (S.ev rfl) fl23 (S.cl c_9)) rfl rfl (GOk.mk rfl rfl hb_4) ?_
              clear S; intro aa S
              refine OL.pure S (Lf.run_fa (S.ev rfl) fa25_5) rfl rfl (GOk.mk rfl rfl hb_4) ?_
              clear S; intro aa S
              obtain ⟨x40, c_10, H⟩ := H
              refine OL.pure S (Lf.run_ld (S.ev rfl) fl23 (S.cl c_10)) rfl rfl (GOk.mk rfl rfl hb_4) ?_
              clear S; intro aa S
              refine ol_cal S H isfn41 rfl rfl (GOk.mk rfl rfl hb_4) ?_
              clear S H aa; intro u aa ww h4 H S
              obtain ⟨x41, rfl, H⟩ := H
              refine OL.pure S (Lf.run_pickT (S.ev rfl) hb_4 (S.ev rfl)) rfl rfl trivial ?_
              clear S; intro aa S
              refine OL.nil ?_
              exact ⟨_, _, S.sub _ ⟨rfl, rfl, rfl, rfl, rfl, rfl, rfl, rfl, rfl, trivial⟩, H⟩
            · replace H := H.2 hb_4
              refine OL.not S rfl rfl (GNo.mk rfl rfl hb_4) ?_
              clear S; intro aa S
              refine OL.not S rfl rfl (GNo.mk rfl rfl hb_4) ?_
              clear S; intro aa S
              refine OL.not S rfl rfl (GNo.mk rfl rfl hb_4) ?_
              clear S; intro aa S
              refine OL.not S rfl rfl (GNo.mk rfl rfl hb_4) ?_
              clear S; intro aa S
              refine OL.not S rfl rfl (GNo.mk rfl rfl hb_4) ?_
              clear S; intro aa S
              refine OL.pure S (Lf.run_pickF (S.ev rfl) hb_4 (S.ev rfl)) rfl rfl trivial ?_
              clear S; intro aa S
              refine OL.nil ?_
              exact ⟨_, _, S.sub _ ⟨rfl, rfl, rfl, rfl, rfl, rfl, rfl, rfl, rfl, trivial⟩, H⟩
          · clear S aa
            rintro aa ww ⟨x42, h3, S, HJ⟩
            replace H := HK_3 _ _ HJ
            clear HK_3 HJ
            refine OL.pure S (Lf.run_assign (S.ev rfl)) rfl rfl trivial ?_
            clear S; intro aa S
            refine OL.nil ?_
            refine W.ret ?_
            exact Ret.one S rfl rfl H

/-- chattel types.Equal -/
def L24 (a0 : Int) (a0_1 : ByteArray) (a0_2 : Bool) (a0_3 : Int) (a0_4 : Sv) (a0_5 : Sv) (b1 : Int) (b1_1 : ByteArray) (b1_2 : Bool) (b1_3 : Int) (b1_4 : Sv) (b1_5 : Sv) (h : Heap) (R : Value → Heap → Prop) : Prop :=
  new 25 #[Value.int .i64 a0, Value.string a0_1, Value.bool a0_2, Value.int .i64 a0_3, Value.slice a0_4.a a0_4.n a0_4.c, Value.slice a0_5.a a0_5.n a0_5.c] h fun p2 h1 =>
  new 25 #[Value.int .i64 b1, Value.string b1_1, Value.bool b1_2, Value.int .i64 b1_3, Value.slice b1_4.a b1_4.n b1_4.c, Value.slice b1_5.a b1_5.n b1_5.c] h1 fun p3 h2 =>
  ∃ J : Bool → Heap → Prop, (
    ∃ Sq : Heap → Prop, Sq h2 ∧ (
      ∃ (y5 : Int) (y5_1 : ByteArray) (y5_2 : Bool) (y5_3 : Int) (y5_4 : Sv) (y5_5 : Sv), cl h2 p2 = some (Value.int .i64 y5) ∧ cl h2 (p2.add 1) = some (Value.string y5_1) ∧ cl h2 (p2.add 2) = some (Value.bool y5_2) ∧ cl h2 (p2.add 3) = some (Value.int .i64 y5_3) ∧ cl h2 (p2.add 4) = some (Value.slice y5_4.a y5_4.n y5_4.c) ∧ cl h2 (p2.add 5) = some (Value.slice y5_5.a y5_5.n y5_5.c) ∧
      ∃ (y6 : Int) (y6_1 : ByteArray) (y6_2 : Bool) (y6_3 : Int) (y6_4 : Sv) (y6_5 : Sv), cl h2 p3 = some (Value.int .i64 y6) ∧ cl h2 (p3.add 1) = some (Value.string y6_1) ∧ cl h2 (p3.add 2) = some (Value.bool y6_2) ∧ cl h2 (p3.add 3) = some (Value.int .i64 y6_3) ∧ cl h2 (p3.add 4) = some (Value.slice y6_4.a y6_4.n y6_4.c) ∧ cl h2 (p3.add 5) = some (Value.slice y6_5.a y6_5.n y6_5.c) ∧
      cal Try.prog 23 #[Value.agg #[Value.int .i64 y5, Value.string y5_1, Value.bool y5_2, Value.int .i64 y5_3, Value.slice y5_4.a y5_4.n y5_4.c, Value.slice y5_5.a y5_5.n y5_5.c], Value.agg #[Value.int .i64 y6, Value.string y6_1, Value.bool y6_2, Value.int .i64 y6_3, Value.slice y6_4.a y6_4.n y6_4.c, Value.slice y6_5.a y6_5.n y6_5.c]] h2 fun u h3 => asB u fun x7 =>
      Sq h3 ∧
      ifb x7 (
        ∃ (y9 : Int) (y9_1 : ByteArray) (y9_2 : Bool) (y9_3 : Int) (y9_4 : Sv) (y9_5 : Sv), cl h3 p2 = some (Value.int .i64 y9) ∧ cl h3 (p2.add 1) = some (Value.string y9_1) ∧ cl h3 (p2.add 2) = some (Value.bool y9_2) ∧ cl h3 (p2.add 3) = some (Value.int .i64 y9_3) ∧ cl h3 (p2.add 4) = some (Value.slice y9_4.a y9_4.n y9_4.c) ∧ cl h3 (p2.add 5) = some (Value.slice y9_5.a y9_5.n y9_5.c) ∧
        ∃ Sq_1 : Heap → Prop, (∀ h, Sq_1 h → Sq h) ∧ Sq_1 h3 ∧
        ∃ (y11 : Int) (y11_1 : ByteArray) (y11_2 : Bool) (y11_3 : Int) (y11_4 : Sv) (y11_5 : Sv), hld Sq_1 p3 (Value.int .i64 y11) ∧ hld Sq_1 (p3.add 1) (Value.string y11_1) ∧ hld Sq_1 (p3.add 2) (Value.bool y11_2) ∧ hld Sq_1 (p3.add 3) (Value.int .i64 y11_3) ∧ hld Sq_1 (p3.add 4) (Value.slice y11_4.a y11_4.n y11_4.c) ∧ hld Sq_1 (p3.add 5) (Value.slice y11_5.a y11_5.n y11_5.c) ∧
        cal Try.prog 26 #[Value.agg #[Value.int .i64 y9, Value.string y9_1, Value.bool y9_2, Value.int .i64 y9_3, Value.slice y9_4.a y9_4.n y9_4.c, Value.slice y9_5.a y9_5.n y9_5.c]] h3 fun u_1 h4 => asS u_1 fun x10 =>
        Sq_1 h4 ∧
        cal Try.prog 26 #[Value.agg #[Value.int .i64 y11, Value.string y11_1, Value.bool y11_2, Value.int .i64 y11_3, Value.slice y11_4.a y11_4.n y11_4.c, Value.slice y11_5.a y11_5.n y11_5.c]] h4 fun u_2 h5 => asS u_2 fun x12 =>
        cal Try.prog 42 #[Value.slice x10.a x10.n x10.c, Value.slice x12.a x12.n x12.c] h5 fun u_3 h6 => asB u_3 fun x13 =>
        J x13 h6) (
        J false h3))) ∧ (∀ x4 h7, J x4 h7 →
  R (Value.bool x4) h7)

set_option maxRecDepth 100000 in

theorem F24 {a0 a0_1 a0_2 a0_3 a0_4 a0_5 b1 b1_1 b1_2 b1_3 b1_4 b1_5 h : _} {R : Value → Heap → Prop} (H : L24 a0 a0_1 a0_2 a0_3 a0_4 a0_5 b1 b1_1 b1_2 b1_3 b1_4 b1_5 h R) : CallsH Try.prog 24 #[Value.agg #[Value.int .i64 a0, Value.string a0_1, Value.bool a0_2, Value.int .i64 a0_3, Value.slice a0_4.a a0_4.n a0_4.c, Value.slice a0_5.a a0_5.n a0_5.c], Value.agg #[Value.int .i64 b1, Value.string b1_1, Value.bool b1_2, Value.int .i64 b1_3, Value.slice b1_4.a b1_4.n b1_4.c, Value.slice b1_5.a b1_5.n b1_5.c]] h R := by
  refine CallsH.enter (n := 15) Try.func24 rfl rfl rfl rfl ?_
  intro w0 aa ww S
  unfold L24 at H
  refine W.seq ?_
  replace S := S.sub [(0, Value.agg #[Value.int .i64 a0, Value.string a0_1, Value.bool a0_2, Value.int .i64 a0_3, Value.slice a0_4.a a0_4.n a0_4.c, Value.slice a0_5.a a0_5.n a0_5.c]), (1, Value.agg #[Value.int .i64 b1, Value.string b1_1, Value.bool b1_2, Value.int .i64 b1_3, Value.slice b1_4.a b1_4.n b1_4.c, Value.slice b1_5.a b1_5.n b1_5.c])] ⟨rfl, rfl, trivial⟩
  refine W.region ?_
  refine ol_box S H rfl rfl rfl trivial ?_
  clear S H aa; intro p2 aa ww h1 H S
  refine ol_box S H rfl rfl rfl trivial ?_
  clear S H aa; intro p3 aa ww h2 H S
  refine OL.pure S (Lf.run_assign (S.ev rfl)) rfl rfl trivial ?_
  clear S; intro aa S
  refine OL.nil ?_
  refine W.seq ?_
  replace S := S.sub [(2, Value.pointer (some p2)), (3, Value.pointer (some p3))] ⟨rfl, rfl, trivial⟩
  obtain ⟨J, H, HK⟩ := H
  refine W.mono (N' := fun aa ww => ∃ x4 h7, St 15 [(4, Value.bool x4)] h7 w0 aa ww ∧ J x4 h7) ?_ ?_
  · obtain ⟨Sq, HS, H⟩ := H
    refine W.regionN [6] [2, 5, 7, 8] Sq S (by kernel_rfl) ?_
    clear S; intro ww S
    obtain ⟨y5, y5_1, y5_2, y5_3, y5_4, y5_5, c_22, c_23, c_24, c_25, c_26, c_27, H⟩ := H
    refine BN.load 0 S (fun _ => HS) rfl (by kernel_rfl) (by kernel_rfl) (fun _ hx => Lf.run_ldA (cs := [Value.int .i64 y5, Value.string y5_1, Value.bool y5_2, Value.int .i64 y5_3, Value.slice y5_4.a y5_4.n y5_4.c, Value.slice y5_5.a y5_5.n y5_5.c]) (S.ev rfl) ag25 ti25 (hx.row (S.row ⟨c_22, c_23, c_24, c_25, c_26, c_27, trivial⟩))) rfl rfl trivial ?_
    clear S; intro aa S
    obtain ⟨y6, y6_1, y6_2, y6_3, y6_4, y6_5, c_16, c_17, c_18, c_19, c_20, c_21, H⟩ := H
    refine BN.load 1 S (fun _ => HS) rfl (by kernel_rfl) (by kernel_rfl) (fun _ hx => Lf.run_ldA (cs := [Value.int .i64 y6, Value.string y6_1, Value.bool y6_2, Value.int .i64 y6_3, Value.slice y6_4.a y6_4.n y6_4.c, Value.slice y6_5.a y6_5.n y6_5.c]) (S.ev rfl) ag25 ti25 (hx.row (S.row ⟨c_16, c_17, c_18, c_19, c_20, c_21, trivial⟩))) rfl rfl trivial ?_
    clear S; intro aa S
    refine BN.eff 2 rfl (by kernel_rfl) ?_
    refine ol_cal S H isfn23 rfl rfl trivial ?_
    clear S H aa; intro u aa ww h3 H S
    obtain ⟨x7, rfl, H⟩ := H
    refine OL.nil ?_
    clear HS; obtain ⟨HS, H⟩ := H
    refine ⟨fun _ => by rw [S.heap]; exact HS, ?_⟩
    refine BN.pure 3 S (fun _ => HS) rfl (by kernel_rfl) (by kernel_rfl) (fun _ => Lf.run_move (S.ev rfl)) rfl rfl trivial ?_
    clear S; intro aa S
    rcases Bool.eq_false_or_eq_true x7 with hb | hb
    · replace H := H.1 hb
      obtain ⟨y9, y9_1, y9_2, y9_3, y9_4, y9_5, c_10, c_11, c_12, c_13, c_14, c_15, H⟩ := H
      refine BN.load 4 S (fun _ => HS) rfl (by kernel_rfl) (by kernel_rfl) (fun _ hx => Lf.run_ldA (cs := [Value.int .i64 y9, Value.string y9_1, Value.bool y9_2, Value.int .i64 y9_3, Value.slice y9_4.a y9_4.n y9_4.c, Value.slice y9_5.a y9_5.n y9_5.c]) (S.ev rfl) ag25 ti25 (hx.row (S.row ⟨c_10, c_11, c_12, c_13, c_14, c_15, trivial⟩))) rfl rfl (GOk.mk rfl rfl hb) ?_
      clear S; intro aa S
      clear HS; obtain ⟨Sq_1, HI, HS, H⟩ := H
      refine BN.stronger HI ?_
      obtain ⟨y11, y11_1, y11_2, y11_3, y11_4, y11_5, c_4, c_5, c_6, c_7, c_8, c_9, H⟩ := H
      refine BN.held 6 S HS rfl (by kernel_rfl) (fun _ hq => Lf.run_ldA (cs := [Value.int .i64 y11, Value.string y11_1, Value.bool y11_2, Value.int .i64 y11_3, Value.slice y11_4.a y11_4.n y11_4.c, Value.slice y11_5.a y11_5.n y11_5.c]) (S.ev rfl) ag25 ti25 (hlRow hq fun h_ hs_ => ⟨c_4 h_ hs_, c_5 h_ hs_, c_6 h_ hs_, c_7 h_ hs_, c_8 h_ hs_, c_9 h_ hs_, trivial⟩)) rfl rfl (GOk.mk rfl rfl hb) ?_
      clear S; intro aa S
      refine BN.eff 5 rfl (by kernel_rfl) ?_
      refine ol_cal S H isfn26 rfl rfl (GOk.mk rfl rfl hb) ?_
      clear S H aa; intro u_1 aa ww h4 H S
      obtain ⟨x10, rfl, H⟩ := H
      refine OL.nil ?_
      clear HS; obtain ⟨HS, H⟩ := H
      refine ⟨fun _ => by rw [S.heap]; exact HS, ?_⟩
      refine BN.eff 7 rfl (by kernel_rfl) ?_
      refine ol_cal S H isfn26 rfl rfl (GOk.mk rfl rfl hb) ?_
      clear S H aa; intro u_2 aa ww h5 H S
      obtain ⟨x12, rfl, H⟩ := H
      refine OL.nil ?_
      refine ⟨noNeed (by kernel_rfl), ?_⟩
      refine BN.eff 8 rfl (by kernel_rfl) ?_
      refine ol_cal S H isfn42 rfl rfl (GOk.mk rfl rfl hb) ?_
      clear S H aa; intro u_3 aa ww h6 H S
      obtain ⟨x13, rfl, H⟩ := H
      refine OL.nil ?_
      refine ⟨noNeed (by kernel_rfl), ?_⟩
      refine BN.pure 9 S (noNeed (by kernel_rfl)) rfl (by kernel_rfl) (by kernel_rfl) (fun _ => run_pickT (S.ev rfl) hb (S.ev rfl)) rfl rfl trivial ?_
      clear S; intro aa S
      refine BN.pure 10 S (noNeed (by kernel_rfl)) rfl (by kernel_rfl) (by kernel_rfl) (fun _ => Lf.run_assign (S.ev rfl)) rfl rfl trivial ?_
      clear S; intro aa S
      refine BN.done (by kernel_rfl) ?_
      exact ⟨x13, h6, S.sub _ ⟨rfl, trivial⟩, H⟩
    · replace H := H.2 hb
      refine BN.not 4 S (fun _ => HS) rfl (by kernel_rfl) (by kernel_rfl) rfl rfl (GNo.mk rfl rfl hb) ?_
      clear S; intro aa S
      refine BN.not 6 S (fun _ => HS) rfl (by kernel_rfl) (by kernel_rfl) rfl rfl (GNo.mk rfl rfl hb) ?_
      clear S; intro aa S
      refine BN.eff 5 rfl (by kernel_rfl) ?_
      refine OL.not S rfl rfl (GNo.mk rfl rfl hb) ?_
      clear S; intro aa S
      refine OL.nil ?_
      refine ⟨fun _ => by rw [S.heap]; exact HS, ?_⟩
      refine BN.eff 7 rfl (by kernel_rfl) ?_
      refine OL.not S rfl rfl (GNo.mk rfl rfl hb) ?_
      clear S; intro aa S
      refine OL.nil ?_
      refine ⟨noNeed (by kernel_rfl), ?_⟩
      refine BN.eff 8 rfl (by kernel_rfl) ?_
      refine OL.not S rfl rfl (GNo.mk rfl rfl hb) ?_
      clear S; intro aa S
      refine OL.nil ?_
      refine ⟨noNeed (by kernel_rfl), ?_⟩
      refine BN.pure 9 S (noNeed (by kernel_rfl)) rfl (by kernel_rfl) (by kernel_rfl) (fun _ => run_pickF (S.ev rfl) hb (S.ev rfl)) rfl rfl trivial ?_
      clear S; intro aa S
      refine BN.pure 10 S (noNeed (by kernel_rfl)) rfl (by kernel_rfl) (by kernel_rfl) (fun _ => Lf.run_assign (S.ev rfl)) rfl rfl trivial ?_
      clear S; intro aa S
      refine BN.done (by kernel_rfl) ?_
      exact ⟨false, h3, S.sub _ ⟨rfl, trivial⟩, H⟩
  · clear H S aa
    rintro aa ww ⟨x4, h7, S, HJ⟩
    have H := HK _ _ HJ
    clear HK HJ
    refine W.ret ?_
    exact Ret.one S rfl rfl H

/-- chattel types.Copies -/
def L25 (x0 : Int) (x0_1 : ByteArray) (x0_2 : Bool) (x0_3 : Int) (x0_4 : Sv) (x0_5 : Sv) (h : Heap) (R : Value → Heap → Prop) : Prop :=
  new 25 #[Value.int .i64 x0, Value.string x0_1, Value.bool x0_2, Value.int .i64 x0_3, Value.slice x0_4.a x0_4.n x0_4.c, Value.slice x0_5.a x0_5.n x0_5.c] h fun p1 h1 =>
  ldI .i64 h1 p1 fun x4 =>
  ∃ J : Bool → Prop, (andr (decide (1 ≤ x4)) (fun k =>
    ldI .i64 h1 p1 fun x8 =>
    k (decide (x8 ≤ 4))) J) ∧ ∀ x10, J x10 →
  ∃ J_1 : Bool → Prop, (orr x10 (fun k_1 =>
    ldI .i64 h1 p1 fun x13 =>
    ∃ J_2 : Bool → Prop, (andr (x13 == 7) (fun k_2 =>
      ldB h1 (p1.add 2) fun x17 =>
      k_2 (!x17)) J_2) ∧ ∀ x19, J_2 x19 →
    k_1 x19) J_1) ∧ ∀ x20, J_1 x20 →
  R (Value.bool x20) h1

set_option maxRecDepth 100000 in

theorem F25 {x0 x0_1 x0_2 x0_3 x0_4 x0_5 h : _} {R : Value → Heap → Prop} (H : L25 x0 x0_1 x0_2 x0_3 x0_4 x0_5 h R) : CallsH Try.prog 25 #[Value.agg #[Value.int .i64 x0, Value.string x0_1, Value.bool x0_2, Value.int .i64 x0_3, Value.slice x0_4.a x0_4.n x0_4.c, Value.slice x0_5.a x0_5.n x0_5.c]] h R := by
  refine CallsH.enter (n := 21) Try.func25 rfl rfl rfl rfl ?_
  intro w0 aa ww S
  unfold L25 at H
  refine W.seq ?_
  replace S := S.sub [(0, Value.agg #[Value.int .i64 x0, Value.string x0_1, Value.bool x0_2, Value.int .i64 x0_3, Value.slice x0_4.a x0_4.n x0_4.c, Value.slice x0_5.a x0_5.n x0_5.c])] ⟨rfl, trivial⟩
  refine W.region ?_
  refine ol_box S H rfl rfl rfl trivial ?_
  clear S H aa; intro p1 aa ww h1 H S
  refine OL.pure S (Lf.run_assign (S.ev rfl)) rfl rfl trivial ?_
  clear S; intro aa S
  refine OL.nil ?_
  refine W.seq ?_
  replace S := S.sub [(1, Value.pointer (some p1))] ⟨rfl, trivial⟩
  refine W.region ?_
  refine OL.pure S (Lf.run_fa (S.ev rfl) fa25_0) rfl rfl trivial ?_
  clear S; intro aa S
  obtain ⟨x4, c, H⟩ := H
  refine OL.pure S (Lf.run_ld (S.ev rfl) fl3 (S.cl c)) rfl rfl trivial ?_
  clear S; intro aa S
  refine OL.pure S (Lf.run_geq (S.ev rfl) (S.ev rfl)) rfl rfl trivial ?_
  clear S; intro aa S
  refine OL.pure S (Lf.run_move (S.ev rfl)) rfl rfl trivial ?_
  clear S; intro aa S
  obtain ⟨J, H, HK⟩ := H
  refine OL.cutN 4 (fun aa ww => ∃ x10, St 21 ((10, Value.bool x10) :: [(1, Value.pointer (some p1)), (3, Value.pointer (some p1)), (4, Value.int .i64 x4), (5, Value.bool (decide (1 ≤ x4))), (6, Value.bool (decide (1 ≤ x4)))]) h1 w0 aa ww ∧ J x10) ?_ ?_
  · rcases Bool.eq_false_or_eq_true (decide (1 ≤ x4)) with hb | hb
    · replace H := H.1 hb
      refine OL.pure S (Lf.run_fa (S.ev rfl) fa25_0) rfl rfl (GOk.mk rfl rfl hb) ?_
      clear S; intro aa S
      obtain ⟨x8, c_1, H⟩ := H
      refine OL.pure S (Lf.run_ld (S.ev rfl) fl3 (S.cl c_1)) rfl rfl (GOk.mk rfl rfl hb) ?_
      clear S; intro aa S
      refine OL.pure S (Lf.run_leq (S.ev rfl) (S.ev rfl)) rfl rfl (GOk.mk rfl rfl hb) ?_
      clear S; intro aa S
      refine OL.pure S (Lf.run_pickT (S.ev rfl) hb (S.ev rfl)) rfl rfl trivial ?_
      clear S; intro aa S
      refine OL.nil ?_
      exact ⟨_, S.sub _ ⟨rfl, rfl, rfl, rfl, rfl, rfl, trivial⟩, H⟩
    · replace H := H.2 hb
      refine OL.not S rfl rfl (GNo.mk rfl rfl hb) ?_
      clear S; intro aa S
      refine OL.not S rfl rfl (GNo.mk rfl rfl hb) ?_
      clear S; intro aa S
      refine OL.not S rfl rfl (GNo.mk rfl rfl hb) ?_
      clear S; intro aa S
      refine OL.pure S (Lf.run_pickF (S.ev rfl) hb (S.ev rfl)) rfl rfl trivial ?_
      clear S; intro aa S
      refine OL.nil ?_
      exact ⟨_, S.sub _ ⟨rfl, rfl, rfl, rfl, rfl, rfl, trivial⟩, H⟩
  · clear S aa
    rintro aa ww ⟨x10, S, HJ⟩
    replace H := HK _ HJ
    clear HK HJ
    refine OL.pure S (Lf.run_move (S.ev rfl)) rfl rfl trivial ?_
    clear S; intro aa S
    obtain ⟨J_1, H, HK_1⟩ := H
    refine OL.cutN 9 (fun aa ww => ∃ x20, St 21 ((20, Value.bool x20) :: [(1, Value.pointer (some p1)), (3, Value.pointer (some p1)), (4, Value.int .i64 x4), (5, Value.bool (decide (1 ≤ x4))), (6, Value.bool (decide (1 ≤ x4))), (10, Value.bool x10), (11, Value.bool x10)]) h1 w0 aa ww ∧ J_1 x20) ?_ ?_
    · rcases Bool.eq_false_or_eq_true x10 with hb_1 | hb_1
      · replace H := H.1 hb_1
        refine OL.not S rfl rfl (GNo.mk rfl rfl hb_1) ?_
        clear S; intro aa S
        refine OL.not S rfl rfl (GNo.mk rfl rfl hb_1) ?_
        clear S; intro aa S
        refine OL.not S rfl rfl (GNo.mk rfl rfl hb_1) ?_
        clear S; intro aa S
        refine OL.not S rfl rfl (GNo.mk rfl rfl hb_1) ?_
        clear S; intro aa S
        refine OL.not S rfl rfl (GNo.un rfl rfl) ?_
        clear S; intro aa S
        refine OL.not S rfl rfl (GNo.un rfl rfl) ?_
        clear S; intro aa S
        refine OL.not S rfl rfl (GNo.un rfl rfl) ?_
        clear S; intro aa S
        refine OL.not S rfl rfl (GNo.mk rfl rfl hb_1) ?_
        clear S; intro aa S
        refine OL.pure S (Lf.run_pickT (S.ev rfl) hb_1 (S.ev rfl)) rfl rfl trivial ?_
        clear S; intro aa S
        refine OL.nil ?_
        exact ⟨_, S.sub _ ⟨rfl, rfl, rfl, rfl, rfl, rfl, rfl, rfl, trivial⟩, H⟩
      · replace H := H.2 hb_1
        refine OL.pure S (Lf.run_fa (S.ev rfl) fa25_0) rfl rfl (GOk.mk rfl rfl hb_1) ?_
        clear S; intro aa S
        obtain ⟨x13, c_2, H⟩ := H
        refine OL.pure S (Lf.run_ld (S.ev rfl) fl3 (S.cl c_2)) rfl rfl (GOk.mk rfl rfl hb_1) ?_
        clear S; intro aa S
        refine OL.pure S (Lf.run_eql (S.ev rfl) (S.ev rfl)) rfl rfl (GOk.mk rfl rfl hb_1) ?_
        clear S; intro aa S
        refine OL.pure S (Lf.run_move (S.ev rfl)) rfl rfl (GOk.mk rfl rfl hb_1) ?_
        clear S; intro aa S
        obtain ⟨J_2, H, HK_2⟩ := H
        refine OL.cutN 4 (fun aa ww => ∃ x19, St 21 ((19, Value.bool x19) :: [(1, Value.pointer (some p1)), (3, Value.pointer (some p1)), (4, Value.int .i64 x4), (5, Value.bool (decide (1 ≤ x4))), (6, Value.bool (decide (1 ≤ x4))), (10, Value.bool x10), (11, Value.bool x10), (12, Value.pointer (some p1)), (13, Value.int .i64 x13), (14, Value.bool (x13 == 7)), (15, Value.bool (x13 == 7))]) h1 w0 aa ww ∧ J_2 x19) ?_ ?_
        · rcases Bool.eq_false_or_eq_true (x13 == 7) with hb_2 | hb_2
          · replace H := H.1 hb_2
            refine OL.pure S (Lf.run_fa (S.ev rfl) fa25_2) rfl rfl (GOk.mk rfl rfl hb_2) ?_
            clear S; intro aa S
            obtain ⟨x17, c_3, H⟩ := H
            refine OL.pure S (Lf.run_ld (S.ev rfl) fl4 (S.cl c_3)) rfl rfl (GOk.mk rfl rfl hb_2) ?_
            clear S; intro aa S
            refine OL.pure S (Lf.run_not (S.ev rfl)) rfl rfl (GOk.mk rfl rfl hb_2) ?_
            clear S; intro aa S
            refine OL.pure S (Lf.run_pickT (S.ev rfl) hb_2 (S.ev rfl)) rfl rfl (GOk.mk rfl rfl hb_1) ?_
            clear S; intro aa S
            refine OL.nil ?_
            exact ⟨_, S.sub _ ⟨rfl, rfl, rfl, rfl, rfl, rfl, rfl, rfl, rfl, rfl, rfl, rfl, trivial⟩, H⟩
          · replace H := H.2 hb_2
            refine OL.not S rfl rfl (GNo.mk rfl rfl hb_2) ?_
            clear S; intro aa S
            refine OL.not S rfl rfl (GNo.mk rfl rfl hb_2) ?_
            clear S; intro aa S
            refine OL.not S rfl rfl (GNo.mk rfl rfl hb_2) ?_
            clear S; intro aa S
            refine OL.pure S (Lf.run_pickF (S.ev rfl) hb_2 (S.ev rfl)) rfl rfl (GOk.mk rfl rfl hb_1) ?_
            clear S; intro aa S
            refine OL.nil ?_
            exact ⟨_, S.sub _ ⟨rfl, rfl, rfl, rfl, rfl, rfl, rfl, rfl, rfl, rfl, rfl, rfl, trivial⟩, H⟩
        · clear S aa
          rintro aa ww ⟨x19, S, HJ⟩
          replace H := HK_2 _ HJ
          clear HK_2 HJ
          refine OL.pure S (Lf.run_pickF (S.ev rfl) hb_1 (S.ev rfl)) rfl rfl trivial ?_
          clear S; intro aa S
          refine OL.nil ?_
          exact ⟨_, S.sub _ ⟨rfl, rfl, rfl, rfl, rfl, rfl, rfl, rfl, trivial⟩, H⟩
    · clear S aa
      rintro aa ww ⟨x20, S, HJ⟩
      replace H := HK_1 _ HJ
      clear HK_1 HJ
      refine OL.pure S (Lf.run_assign (S.ev rfl)) rfl rfl trivial ?_
      clear S; intro aa S
      refine OL.nil ?_
      refine W.ret ?_
      exact Ret.one S rfl rfl H

/-- chattel types.All -/
def L26 (x0 : Int) (x0_1 : ByteArray) (x0_2 : Bool) (x0_3 : Int) (x0_4 : Sv) (x0_5 : Sv) (h : Heap) (R : Value → Heap → Prop) : Prop :=
  new 25 #[Value.int .i64 x0, Value.string x0_1, Value.bool x0_2, Value.int .i64 x0_3, Value.slice x0_4.a x0_4.n x0_4.c, Value.slice x0_5.a x0_5.n x0_5.c] h fun p1 h1 =>
  ∃ J : Sv → Heap → Prop, (
    ∃ (y6 : Int) (y6_1 : ByteArray) (y6_2 : Bool) (y6_3 : Int) (y6_4 : Sv) (y6_5 : Sv), cl h1 p1 = some (Value.int .i64 y6) ∧ cl h1 (p1.add 1) = some (Value.string y6_1) ∧ cl h1 (p1.add 2) = some (Value.bool y6_2) ∧ cl h1 (p1.add 3) = some (Value.int .i64 y6_3) ∧ cl h1 (p1.add 4) = some (Value.slice y6_4.a y6_4.n y6_4.c) ∧ cl h1 (p1.add 5) = some (Value.slice y6_5.a y6_5.n y6_5.c) ∧
    cal Try.prog 33 #[Value.agg #[Value.int .i64 y6, Value.string y6_1, Value.bool y6_2, Value.int .i64 y6_3, Value.slice y6_4.a y6_4.n y6_4.c, Value.slice y6_5.a y6_5.n y6_5.c]] h1 fun u h2 => asB u fun x7 =>
    ifb x7 (
      ldI .i64 h2 (p1.add 3) fun x10 =>
      newS 3 #[Value.int .i64 x10] 1 h2 fun s11 h3 =>
      appS 3 (Value.int .i64 0).cells 1 8 h3 (⟨none, 0, 0⟩ : Sv) s11 fun s12 h4 =>
      J s12 h4) (
      J (⟨none, 0, 0⟩ : Sv) h2)) ∧ (∀ l3 h5, J l3 h5 →
  ∃ J_1 : Sv → Heap → Prop, (
    ldI .i64 h5 p1 fun x14 =>
    ifb (x14 == 5) (
      ldS h5 (p1.add 4) fun x18 =>
      appS 3 (Value.int .i64 0).cells 1 8 h5 l3 x18 fun s19 h6 =>
      J_1 s19 h6) (
      J_1 l3 h5)) ∧ (∀ l3_1 h7, J_1 l3_1 h7 →
  ldS h7 (p1.add 5) fun x21 =>
  ∃ (I : Sv → Int → Heap → Prop) (m : Sv → Int → Heap → Nat), I l3_1 0 h7 ∧ ∀ l3_2 x23 h8, I l3_2 x23 h8 →
  ifb (decide (x23 < ((x21.n : Nat) : Int))) (
    ixS x21 x23 fun q25 =>
    ∃ (y26 : Int) (y26_1 : ByteArray) (y26_2 : Bool) (y26_3 : Int) (y26_4 : Sv) (y26_5 : Sv), cl h8 (q25.add ((x23 : Int).toNat * 6)) = some (Value.int .i64 y26) ∧ cl h8 ((q25.add ((x23 : Int).toNat * 6)).add 1) = some (Value.string y26_1) ∧ cl h8 ((q25.add ((x23 : Int).toNat * 6)).add 2) = some (Value.bool y26_2) ∧ cl h8 ((q25.add ((x23 : Int).toNat * 6)).add 3) = some (Value.int .i64 y26_3) ∧ cl h8 ((q25.add ((x23 : Int).toNat * 6)).add 4) = some (Value.slice y26_4.a y26_4.n y26_4.c) ∧ cl h8 ((q25.add ((x23 : Int).toNat * 6)).add 5) = some (Value.slice y26_5.a y26_5.n y26_5.c) ∧
    new 25 #[Value.int .i64 0, Value.string (⟨#[]⟩ : ByteArray), Value.bool false, Value.int .i64 0, Value.slice (⟨none, 0, 0⟩ : Sv).a (⟨none, 0, 0⟩ : Sv).n (⟨none, 0, 0⟩ : Sv).c, Value.slice (⟨none, 0, 0⟩ : Sv).a (⟨none, 0, 0⟩ : Sv).n (⟨none, 0, 0⟩ : Sv).c] h8 fun p5 h9 =>
    stoA h9 p5 [Value.int .i64 y26, Value.string y26_1, Value.bool y26_2, Value.int .i64 y26_3, Value.slice y26_4.a y26_4.n y26_4.c, Value.slice y26_5.a y26_5.n y26_5.c] fun h10 =>
    ∃ (y28 : Int) (y28_1 : ByteArray) (y28_2 : Bool) (y28_3 : Int) (y28_4 : Sv) (y28_5 : Sv), cl h10 p5 = some (Value.int .i64 y28) ∧ cl h10 (p5.add 1) = some (Value.string y28_1) ∧ cl h10 (p5.add 2) = some (Value.bool y28_2) ∧ cl h10 (p5.add 3) = some (Value.int .i64 y28_3) ∧ cl h10 (p5.add 4) = some (Value.slice y28_4.a y28_4.n y28_4.c) ∧ cl h10 (p5.add 5) = some (Value.slice y28_5.a y28_5.n y28_5.c) ∧
    cal Try.prog 26 #[Value.agg #[Value.int .i64 y28, Value.string y28_1, Value.bool y28_2, Value.int .i64 y28_3, Value.slice y28_4.a y28_4.n y28_4.c, Value.slice y28_5.a y28_5.n y28_5.c]] h10 fun u_1 h11 => asS u_1 fun x29 =>
    appS 3 (Value.int .i64 0).cells 1 8 h11 l3_2 x29 fun s30 h12 =>
    I s30 (IntKind.i64.wrap (x23 + 1)) h12 ∧ m s30 (IntKind.i64.wrap (x23 + 1)) h12 < m l3_2 x23 h8) (
    R (Value.slice l3_2.a l3_2.n l3_2.c) h8)))

set_option maxRecDepth 100000 in

theorem F26 {x0 x0_1 x0_2 x0_3 x0_4 x0_5 h : _} {R : Value → Heap → Prop} (H : L26 x0 x0_1 x0_2 x0_3 x0_4 x0_5 h R) : CallsH Try.prog 26 #[Value.agg #[Value.int .i64 x0, Value.string x0_1, Value.bool x0_2, Value.int .i64 x0_3, Value.slice x0_4.a x0_4.n x0_4.c, Value.slice x0_5.a x0_5.n x0_5.c]] h R := by
  refine CallsH.enter (n := 33) Try.func26 rfl rfl rfl rfl ?_
  intro w0 aa ww S
  unfold L26 at H
  refine W.seq ?_
  replace S := S.sub [(0, Value.agg #[Value.int .i64 x0, Value.string x0_1, Value.bool x0_2, Value.int .i64 x0_3, Value.slice x0_4.a x0_4.n x0_4.c, Value.slice x0_5.a x0_5.n x0_5.c])] ⟨rfl, trivial⟩
  refine W.region ?_
  refine ol_box S H rfl rfl rfl trivial ?_
  clear S H aa; intro p1 aa ww h1 H S
  refine OL.pure S (Lf.run_assign (S.ev rfl)) rfl rfl trivial ?_
  clear S; intro aa S
  refine OL.nil ?_
  refine W.seq ?_
  replace S := S.sub [(1, Value.pointer (some p1))] ⟨rfl, trivial⟩
  refine W.region ?_
  refine OL.pure S (Lf.run_assign (S.ev rfl)) rfl rfl trivial ?_
  clear S; intro aa S
  refine OL.nil ?_
  obtain ⟨J, H, HK⟩ := H
  refine W.seqJ (fun aa ww => ∃ l3 h5, St 33 [(1, Value.pointer (some p1)), (3, Value.slice l3.a l3.n l3.c)] h5 w0 aa ww ∧ J l3 h5) ?_ ?_
  · clear HK
    refine W.seq ?_
    replace S := S.sub [(1, Value.pointer (some p1)), (3, Value.slice (⟨none, 0, 0⟩ : Sv).a (⟨none, 0, 0⟩ : Sv).n (⟨none, 0, 0⟩ : Sv).c)] ⟨rfl, rfl, trivial⟩
    refine W.region ?_
    obtain ⟨y6, y6_1, y6_2, y6_3, y6_4, y6_5, c_2, c_3, c_4, c_5, c_6, c_7, H⟩ := H
    refine OL.pure S (Lf.run_ldA (cs := [Value.int .i64 y6, Value.string y6_1, Value.bool y6_2, Value.int .i64 y6_3, Value.slice y6_4.a y6_4.n y6_4.c, Value.slice y6_5.a y6_5.n y6_5.c]) (S.ev rfl) ag25 ti25 (by rw [S.heap]; exact RowL.toRow ⟨c_2, c_3, c_4, c_5, c_6, c_7, trivial⟩)) rfl rfl trivial ?_
    clear S; intro aa S
    refine ol_cal S H isfn33 rfl rfl trivial ?_
    clear S H aa; intro u aa ww h2 H S
    obtain ⟨x7, rfl, H⟩ := H
    refine OL.nil ?_
    refine W.cond S (b := x7) rfl (fun hb => ?_) (fun hb => ?_)
    · replace H := H.1 hb
      replace S := S.sub [(1, Value.pointer (some p1)), (3, Value.slice (⟨none, 0, 0⟩ : Sv).a (⟨none, 0, 0⟩ : Sv).n (⟨none, 0, 0⟩ : Sv).c)] ⟨rfl, rfl, trivial⟩
      refine W.region ?_
      refine OL.pure S (Lf.run_move (S.ev rfl)) rfl rfl trivial ?_
      clear S; intro aa S
      refine OL.pure S (Lf.run_fa (S.ev rfl) fa25_3) rfl rfl trivial ?_
      clear S; intro aa S
      obtain ⟨x10, c_1, H⟩ := H
      refine OL.pure S (Lf.run_ld (S.ev rfl) fl3 (S.cl c_1)) rfl rfl trivial ?_
      clear S; intro aa S
      refine ol_newS S H Try.underlying22 ti3 (by decide) (parts_map S rfl) (by kernel_rfl) (by decide) rfl trivial ?_
      clear S H aa; intro s11 aa ww h3 H S
      refine ol_appS S H Try.underlying22 ti3 rfl rfl rfl trivial ?_
      clear S H aa; intro s12 aa ww h4 H S
      refine OL.pure S (Lf.run_assign (S.ev rfl)) rfl rfl trivial ?_
      clear S; intro aa S
      refine OL.nil ?_
      exact ⟨s12, h4, S.sub _ ⟨rfl, rfl, trivial⟩, H⟩
    · replace H := H.2 hb
      refine W.skip ?_
      exact ⟨(⟨none, 0, 0⟩ : Sv), h2, S.sub _ ⟨rfl, rfl, trivial⟩, H⟩
  · clear H S aa
    rintro aa ww ⟨l3, h5, S, HJ⟩
    have H := HK _ _ HJ
    clear HK HJ
    obtain ⟨J_1, H, HK_1⟩ := H
    refine W.seqJ (fun aa ww => ∃ l3_1 h7, St 33 [(1, Value.pointer (some p1)), (3, Value.slice l3_1.a l3_1.n l3_1.c)] h7 w0 aa ww ∧ J_1 l3_1 h7) ?_ ?_
    · clear HK_1
      refine W.seq ?_
      replace S := S.sub [(1, Value.pointer (some p1)), (3, Value.slice l3.a l3.n l3.c)] ⟨rfl, rfl, trivial⟩
      refine W.region ?_
      refine OL.pure S (Lf.run_fa (S.ev rfl) fa25_0) rfl rfl trivial ?_
      clear S; intro aa S
      obtain ⟨x14, c_8, H⟩ := H
      refine OL.pure S (Lf.run_ld (S.ev rfl) fl3 (S.cl c_8)) rfl rfl trivial ?_
      clear S; intro aa S
      refine OL.pure S (Lf.run_eql (S.ev rfl) (S.ev rfl)) rfl rfl trivial ?_
      clear S; intro aa S
      refine OL.nil ?_
      refine W.cond S (b := (x14 == 5)) rfl (fun hb_1 => ?_) (fun hb_1 => ?_)
      · replace H := H.1 hb_1
        replace S := S.sub [(1, Value.pointer (some p1)), (3, Value.slice l3.a l3.n l3.c)] ⟨rfl, rfl, trivial⟩
        refine W.region ?_
        refine OL.pure S (Lf.run_move (S.ev rfl)) rfl rfl trivial ?_
        clear S; intro aa S
        refine OL.pure S (Lf.run_fa (S.ev rfl) fa25_4) rfl rfl trivial ?_
        clear S; intro aa S
        obtain ⟨x18, c_9, H⟩ := H
        refine OL.pure S (Lf.run_ld (S.ev rfl) fl22 (S.cl c_9)) rfl rfl trivial ?_
        clear S; intro aa S
        refine ol_appS S H Try.underlying22 ti3 rfl rfl rfl trivial ?_
        clear S H aa; intro s19 aa ww h6 H S
        refine OL.pure S (Lf.run_assign (S.ev rfl)) rfl rfl trivial ?_
        clear S; intro aa S
        refine OL.nil ?_
        exact ⟨s19, h6, S.sub _ ⟨rfl, rfl, trivial⟩, H⟩
      · replace H := H.2 hb_1
        refine W.skip ?_
        exact ⟨l3, h5, S.sub _ ⟨rfl, rfl, trivial⟩, H⟩
    · clear H S aa
      rintro aa ww ⟨l3_1, h7, S, HJ⟩
      have H := HK_1 _ _ HJ
      clear HK_1 HJ
      refine W.seq ?_
      refine W.seq ?_
      replace S := S.sub [(1, Value.pointer (some p1)), (3, Value.slice l3_1.a l3_1.n l3_1.c)] ⟨rfl, rfl, trivial⟩
      refine W.region ?_
      refine OL.pure S (Lf.run_fa (S.ev rfl) fa25_5) rfl rfl trivial ?_
      clear S; intro aa S
      obtain ⟨x21, c_10, H⟩ := H
      refine OL.pure S (Lf.run_ld (S.ev rfl) fl23 (S.cl c_10)) rfl rfl trivial ?_
      clear S; intro aa S
      refine OL.pure S (Lf.run_lens (S.ev rfl) rfl Try.underlying23) rfl rfl trivial ?_
      clear S; intro aa S
      refine OL.pure S (Lf.run_move (S.ev rfl)) rfl rfl trivial ?_
      clear S; intro aa S
      refine OL.nil ?_
      refine W.block ?_
      obtain ⟨I, m, H, HB⟩ := H
      refine W.loopS (σ := Sv × Int × Heap) (fun s aa ww => St 33 [(3, Value.slice s.1.a s.1.n s.1.c), (21, Value.slice x21.a x21.n x21.c), (22, Value.int .i64 ((x21.n : Nat) : Int)), (23, Value.int .i64 s.2.1)] s.2.2 w0 aa ww ∧ I s.1 s.2.1 s.2.2) (fun s => m s.1 s.2.1 s.2.2) (l3_1, 0, h7) ⟨S.sub _ ⟨rfl, rfl, rfl, rfl, trivial⟩, H⟩ ?_
      clear H S aa
      rintro ⟨l3_2, x23, h8⟩ aa ww ⟨S, HI⟩
      replace S : St 33 [(3, Value.slice l3_2.a l3_2.n l3_2.c), (21, Value.slice x21.a x21.n x21.c), (22, Value.int .i64 ((x21.n : Nat) : Int)), (23, Value.int .i64 x23)] h8 w0 aa ww := S
      have H := HB l3_2 x23 h8 HI
      clear HI
      refine W.seq ?_
      replace S := S.sub [(3, Value.slice l3_2.a l3_2.n l3_2.c), (21, Value.slice x21.a x21.n x21.c), (22, Value.int .i64 ((x21.n : Nat) : Int)), (23, Value.int .i64 x23)] ⟨rfl, rfl, rfl, rfl, trivial⟩
      refine W.region ?_
      refine OL.pure S (Lf.run_lss (S.ev rfl) (S.ev rfl)) rfl rfl trivial ?_
      clear S; intro aa S
      refine OL.nil ?_
      refine W.seq ?_
      refine W.cond S (b := (decide (x23 < ((x21.n : Nat) : Int)))) rfl (fun hb_2 => ?_) (fun hb_2 => ?_)
      · replace H := H.1 hb_2
        refine W.skip ?_
        refine W.seq ?_
        refine W.block ?_
        refine W.seq ?_
        replace S := S.sub [(3, Value.slice l3_2.a l3_2.n l3_2.c), (21, Value.slice x21.a x21.n x21.c), (22, Value.int .i64 ((x21.n : Nat) : Int)), (23, Value.int .i64 x23)] ⟨rfl, rfl, rfl, rfl, trivial⟩
        refine W.region ?_
        obtain ⟨q25, e, e_1, e_2, H⟩ := H
        refine OL.pure S (Lf.run_ixs (S.ev rfl) (S.ev rfl) Try.underlying23 ti25 e e_1 e_2) rfl rfl trivial ?_
        clear S; intro aa S
        obtain ⟨y26, y26_1, y26_2, y26_3, y26_4, y26_5, c_19, c_20, c_21, c_22, c_23, c_24, H⟩ := H
        refine OL.pure S (Lf.run_ldA (cs := [Value.int .i64 y26, Value.string y26_1, Value.bool y26_2, Value.int .i64 y26_3, Value.slice y26_4.a y26_4.n y26_4.c, Value.slice y26_5.a y26_5.n y26_5.c]) (S.ev rfl) ag25 ti25 (by rw [S.heap]; exact RowL.toRow ⟨c_19, c_20, c_21, c_22, c_23, c_24, trivial⟩)) rfl rfl trivial ?_
        clear S; intro aa S
        refine ol_alloc S H ti25 rfl rfl trivial ?_
        clear S H aa; intro p5 aa ww h9 H S
        refine ol_stoA S H rfl rfl ti25 trivial ?_
        clear S H aa; intro aa ww h10 H S
        refine OL.nil ?_
        replace S := S.sub [(3, Value.slice l3_2.a l3_2.n l3_2.c), (5, Value.pointer (some p5)), (21, Value.slice x21.a x21.n x21.c), (22, Value.int .i64 ((x21.n : Nat) : Int)), (23, Value.int .i64 x23)] ⟨rfl, rfl, rfl, rfl, rfl, trivial⟩
        refine W.region ?_
        refine OL.pure S (Lf.run_move (S.ev rfl)) rfl rfl trivial ?_
        clear S; intro aa S
        obtain ⟨y28, y28_1, y28_2, y28_3, y28_4, y28_5, c_13, c_14, c_15, c_16, c_17, c_18, H⟩ := H
        refine OL.pure S (Lf.run_ldA (cs := [Value.int .i64 y28, Value.string y28_1, Value.bool y28_2, Value.int .i64 y28_3, Value.slice y28_4.a y28_4.n y28_4.c, Value.slice y28_5.a y28_5.n y28_5.c]) (S.ev rfl) ag25 ti25 (by rw [S.heap]; exact RowL.toRow ⟨c_13, c_14, c_15, c_16, c_17, c_18, trivial⟩)) rfl rfl trivial ?_
        clear S; intro aa S
        refine ol_cal S H isfn26 rfl rfl trivial ?_
        clear S H aa; intro u_1 aa ww h11 H S
        obtain ⟨x29, rfl, H⟩ := H
        refine ol_appS S H Try.underlying22 ti3 rfl rfl rfl trivial ?_
        clear S H aa; intro s30 aa ww h12 H S
        refine OL.pure S (Lf.run_assign (S.ev rfl)) rfl rfl trivial ?_
        clear S; intro aa S
        refine OL.nil ?_
        replace S := S.sub [(3, Value.slice s30.a s30.n s30.c), (21, Value.slice x21.a x21.n x21.c), (22, Value.int .i64 ((x21.n : Nat) : Int)), (23, Value.int .i64 x23)] ⟨rfl, rfl, rfl, rfl, trivial⟩
        refine W.region ?_
        refine OL.pure S (Lf.run_add (S.ev rfl) (S.ev rfl)) rfl rfl trivial ?_
        clear S; intro aa S
        refine OL.pure S (Lf.run_move (S.ev rfl)) rfl rfl trivial ?_
        clear S; intro aa S
        refine OL.nil ?_
        exact ⟨(s30, (IntKind.i64.wrap (x23 + 1)), h12), ⟨S.sub _ ⟨rfl, rfl, rfl, rfl, trivial⟩, H.1⟩, H.2⟩
      · replace H := H.2 hb_2
        refine W.exit_ ?_
        refine xhit ?_
        refine W.seq ?_
        replace S := S.sub [(3, Value.slice l3_2.a l3_2.n l3_2.c)] ⟨rfl, trivial⟩
        refine W.region ?_
        refine OL.pure S (Lf.run_move (S.ev rfl)) rfl rfl trivial ?_
        clear S; intro aa S
        refine OL.pure S (Lf.run_assign (S.ev rfl)) rfl rfl trivial ?_
        clear S; intro aa S
        refine OL.nil ?_
        refine W.ret ?_
        exact Ret.one S rfl rfl H

/-- chattel types.Text -/
def L27 (x0 : Int) (x0_1 : ByteArray) (x0_2 : Bool) (x0_3 : Int) (x0_4 : Sv) (x0_5 : Sv) (h : Heap) (R : Value → Heap → Prop) : Prop :=
  new 25 #[Value.int .i64 x0, Value.string x0_1, Value.bool x0_2, Value.int .i64 x0_3, Value.slice x0_4.a x0_4.n x0_4.c, Value.slice x0_5.a x0_5.n x0_5.c] h fun p1 h1 =>
  ∃ J : ByteArray → Heap → Prop, (
    ldI .i64 h1 p1 fun x9 =>
    ifb (x9 == 1) (
      J (⟨#[105, 110, 116]⟩ : ByteArray) h1) (
      ifb (x9 == 2) (
        J (⟨#[98, 111, 111, 108]⟩ : ByteArray) h1) (
        ifb (x9 == 3) (
          J (⟨#[102, 54, 52]⟩ : ByteArray) h1) (
          ifb (x9 == 4) (
            J (⟨#[40, 41]⟩ : ByteArray) h1) (
            ifb (x9 == 5) (
              ldT h1 (p1.add 1) fun x21 =>
              ldS h1 (p1.add 4) fun x23 =>
              ∃ (I : ByteArray → Int → Heap → Prop) (m : ByteArray → Int → Heap → Nat), I x21 0 h1 ∧ ∀ s3 x25 h2, I s3 x25 h2 →
              ifb (decide (x25 < ((x23.n : Nat) : Int))) (
                ixS x23 x25 fun q27 =>
                ldI .i64 h2 (q27.add ((x25 : Int).toNat * 1)) fun x28 =>
                cal Try.prog 43 #[Value.int .i64 x28] h2 fun u h3 => asT u fun x31 =>
                (((⟨#[39]⟩ : ByteArray).size : Nat) : Int) + ((x31.size : Nat) : Int) ≤ 9223372036854775807 ∧
                ((s3.size : Nat) : Int) + ((((⟨#[39]⟩ : ByteArray) ++ x31).size : Nat) : Int) ≤ 9223372036854775807 ∧
                I (s3 ++ ((⟨#[39]⟩ : ByteArray) ++ x31)) (IntKind.i64.wrap (x25 + 1)) h3 ∧ m (s3 ++ ((⟨#[39]⟩ : ByteArray) ++ x31)) (IntKind.i64.wrap (x25 + 1)) h3 < m s3 x25 h2) (
                J s3 h2)) (
              ifb (x9 == 6) (
                J (⟨#[66, 111, 120]⟩ : ByteArray) h1) (
                ifb (x9 == 7) (
                  ldI .i64 h1 (p1.add 3) fun x40 =>
                  cal Try.prog 43 #[Value.int .i64 x40] h1 fun u_1 h4 => asT u_1 fun x41 =>
                  (((⟨#[38]⟩ : ByteArray).size : Nat) : Int) + ((x41.size : Nat) : Int) ≤ 9223372036854775807 ∧
                  ldB h4 (p1.add 2) fun x44 =>
                  ifb x44 (
                    ((((⟨#[38]⟩ : ByteArray) ++ x41).size : Nat) : Int) + (((⟨#[109, 117, 116]⟩ : ByteArray).size : Nat) : Int) ≤ 9223372036854775807 ∧
                    J (((⟨#[38]⟩ : ByteArray) ++ x41) ++ (⟨#[109, 117, 116]⟩ : ByteArray)) h4) (
                    J ((⟨#[38]⟩ : ByteArray) ++ x41) h4)) (
                  ifb (x9 == 8) (
                    ∃ Sq : Heap → Prop, Sq h1 ∧ (
                      hlT Sq (p1.add 1) fun x50 =>
                      (((⟨#[100, 121, 110, 32]⟩ : ByteArray).size : Nat) : Int) + ((x50.size : Nat) : Int) ≤ 9223372036854775807 ∧
                      ((((⟨#[100, 121, 110, 32]⟩ : ByteArray) ++ x50).size : Nat) : Int) + (((⟨#[43]⟩ : ByteArray).size : Nat) : Int) ≤ 9223372036854775807 ∧
                      ldI .i64 h1 (p1.add 3) fun x54 =>
                      cal Try.prog 43 #[Value.int .i64 x54] h1 fun u_2 h5 => asT u_2 fun x55 =>
                      Sq h5 ∧
                      (((((⟨#[100, 121, 110, 32]⟩ : ByteArray) ++ x50) ++ (⟨#[43]⟩ : ByteArray)).size : Nat) : Int) + ((x55.size : Nat) : Int) ≤ 9223372036854775807 ∧
                      J ((((⟨#[100, 121, 110, 32]⟩ : ByteArray) ++ x50) ++ (⟨#[43]⟩ : ByteArray)) ++ x55) h5)) (
                    ifb (x9 == 9) (
                      ∃ Sq_1 : Heap → Prop, Sq_1 h1 ∧ (
                        hlT Sq_1 (p1.add 1) fun x60 =>
                        ((x60.size : Nat) : Int) + (((⟨#[63]⟩ : ByteArray).size : Nat) : Int) ≤ 9223372036854775807 ∧
                        ldI .i64 h1 (p1.add 3) fun x63 =>
                        cal Try.prog 43 #[Value.int .i64 x63] h1 fun u_3 h6 => asT u_3 fun x64 =>
                        Sq_1 h6 ∧
                        (((x60 ++ (⟨#[63]⟩ : ByteArray)).size : Nat) : Int) + ((x64.size : Nat) : Int) ≤ 9223372036854775807 ∧
                        J ((x60 ++ (⟨#[63]⟩ : ByteArray)) ++ x64) h6)) (
                      J (⟨#[]⟩ : ByteArray) h1)))))))))) ∧ (∀ s3_1 h7, J s3_1 h7 →
  ldS h7 (p1.add 5) fun x67 =>
  ∃ (I_1 : ByteArray → Int → Heap → Prop) (m_1 : ByteArray → Int → Heap → Nat), I_1 s3_1 0 h7 ∧ ∀ s3_2 x69 h8, I_1 s3_2 x69 h8 →
  ifb (decide (x69 < ((x67.n : Nat) : Int))) (
    ixS x67 x69 fun q71 =>
    ∃ (y72 : Int) (y72_1 : ByteArray) (y72_2 : Bool) (y72_3 : Int) (y72_4 : Sv) (y72_5 : Sv), cl h8 (q71.add ((x69 : Int).toNat * 6)) = some (Value.int .i64 y72) ∧ cl h8 ((q71.add ((x69 : Int).toNat * 6)).add 1) = some (Value.string y72_1) ∧ cl h8 ((q71.add ((x69 : Int).toNat * 6)).add 2) = some (Value.bool y72_2) ∧ cl h8 ((q71.add ((x69 : Int).toNat * 6)).add 3) = some (Value.int .i64 y72_3) ∧ cl h8 ((q71.add ((x69 : Int).toNat * 6)).add 4) = some (Value.slice y72_4.a y72_4.n y72_4.c) ∧ cl h8 ((q71.add ((x69 : Int).toNat * 6)).add 5) = some (Value.slice y72_5.a y72_5.n y72_5.c) ∧
    new 25 #[Value.int .i64 0, Value.string (⟨#[]⟩ : ByteArray), Value.bool false, Value.int .i64 0, Value.slice (⟨none, 0, 0⟩ : Sv).a (⟨none, 0, 0⟩ : Sv).n (⟨none, 0, 0⟩ : Sv).c, Value.slice (⟨none, 0, 0⟩ : Sv).a (⟨none, 0, 0⟩ : Sv).n (⟨none, 0, 0⟩ : Sv).c] h8 fun p7 h9 =>
    stoA h9 p7 [Value.int .i64 y72, Value.string y72_1, Value.bool y72_2, Value.int .i64 y72_3, Value.slice y72_4.a y72_4.n y72_4.c, Value.slice y72_5.a y72_5.n y72_5.c] fun h10 =>
    ∃ (y74 : Int) (y74_1 : ByteArray) (y74_2 : Bool) (y74_3 : Int) (y74_4 : Sv) (y74_5 : Sv), cl h10 p7 = some (Value.int .i64 y74) ∧ cl h10 (p7.add 1) = some (Value.string y74_1) ∧ cl h10 (p7.add 2) = some (Value.bool y74_2) ∧ cl h10 (p7.add 3) = some (Value.int .i64 y74_3) ∧ cl h10 (p7.add 4) = some (Value.slice y74_4.a y74_4.n y74_4.c) ∧ cl h10 (p7.add 5) = some (Value.slice y74_5.a y74_5.n y74_5.c) ∧
    cal Try.prog 27 #[Value.agg #[Value.int .i64 y74, Value.string y74_1, Value.bool y74_2, Value.int .i64 y74_3, Value.slice y74_4.a y74_4.n y74_4.c, Value.slice y74_5.a y74_5.n y74_5.c]] h10 fun u_4 h11 => asT u_4 fun x75 =>
    (((⟨#[60]⟩ : ByteArray).size : Nat) : Int) + ((x75.size : Nat) : Int) ≤ 9223372036854775807 ∧
    ((((⟨#[60]⟩ : ByteArray) ++ x75).size : Nat) : Int) + (((⟨#[62]⟩ : ByteArray).size : Nat) : Int) ≤ 9223372036854775807 ∧
    ((s3_2.size : Nat) : Int) + (((((⟨#[60]⟩ : ByteArray) ++ x75) ++ (⟨#[62]⟩ : ByteArray)).size : Nat) : Int) ≤ 9223372036854775807 ∧
    I_1 (s3_2 ++ (((⟨#[60]⟩ : ByteArray) ++ x75) ++ (⟨#[62]⟩ : ByteArray))) (IntKind.i64.wrap (x69 + 1)) h11 ∧ m_1 (s3_2 ++ (((⟨#[60]⟩ : ByteArray) ++ x75) ++ (⟨#[62]⟩ : ByteArray))) (IntKind.i64.wrap (x69 + 1)) h11 < m_1 s3_2 x69 h8) (
    R (Value.string s3_2) h8))

set_option maxRecDepth 100000 in

theorem F27 {x0 x0_1 x0_2 x0_3 x0_4 x0_5 h : _} {R : Value → Heap → Prop} (H : L27 x0 x0_1 x0_2 x0_3 x0_4 x0_5 h R) : CallsH Try.prog 27 #[Value.agg #[Value.int .i64 x0, Value.string x0_1, Value.bool x0_2, Value.int .i64 x0_3, Value.slice x0_4.a x0_4.n x0_4.c, Value.slice x0_5.a x0_5.n x0_5.c]] h R := by
  refine CallsH.enter (n := 81) Try.func27 rfl rfl rfl rfl ?_
  intro w0 aa ww S
  unfold L27 at H
  refine W.seq ?_
  replace S := S.sub [(0, Value.agg #[Value.int .i64 x0, Value.string x0_1, Value.bool x0_2, Value.int .i64 x0_3, Value.slice x0_4.a x0_4.n x0_4.c, Value.slice x0_5.a x0_5.n x0_5.c])] ⟨rfl, trivial⟩
  refine W.region ?_
  refine ol_box S H rfl rfl rfl trivial ?_
  clear S H aa; intro p1 aa ww h1 H S
  refine OL.pure S (Lf.run_assign (S.ev rfl)) rfl rfl trivial ?_
  clear S; intro aa S
  refine OL.nil ?_
  refine W.seq ?_
  replace S := S.sub [(1, Value.pointer (some p1))] ⟨rfl, trivial⟩
  refine W.region ?_
  refine OL.pure S (Lf.run_assign (S.ev rfl)) rfl rfl trivial ?_
  clear S; intro aa S
  refine OL.nil ?_
  obtain ⟨J, H, HK⟩ := H
  refine W.seqJ (fun aa ww => ∃ s3_1 h7, St 81 [(1, Value.pointer (some p1)), (3, Value.string s3_1)] h7 w0 aa ww ∧ J s3_1 h7) ?_ ?_
  · clear HK
    refine W.seq ?_
    replace S := S.sub [(1, Value.pointer (some p1)), (3, Value.string (⟨#[]⟩ : ByteArray))] ⟨rfl, rfl, trivial⟩
    refine W.region ?_
    refine OL.pure S (Lf.run_fa (S.ev rfl) fa25_0) rfl rfl trivial ?_
    clear S; intro aa S
    obtain ⟨x9, c, H⟩ := H
    refine OL.pure S (Lf.run_ld (S.ev rfl) fl3 (S.cl c)) rfl rfl trivial ?_
    clear S; intro aa S
    refine OL.nil ?_
    refine W.block ?_
    refine W.seq ?_
    replace S := S.sub [(1, Value.pointer (some p1)), (3, Value.string (⟨#[]⟩ : ByteArray)), (9, Value.int .i64 x9)] ⟨rfl, rfl, rfl, trivial⟩
    refine W.region ?_
    refine OL.pure S (Lf.run_eql (S.ev rfl) (S.ev rfl)) rfl rfl trivial ?_
    clear S; intro aa S
    refine OL.pure S (Lf.run_assign (S.ev rfl)) rfl rfl trivial ?_
    clear S; intro aa S
    refine OL.nil ?_
    refine W.cond S (b := (x9 == 1)) rfl (fun hb => ?_) (fun hb => ?_)
    · replace H := H.1 hb
      replace S := S.sub [(1, Value.pointer (some p1))] ⟨rfl, trivial⟩
      refine W.region ?_
      refine OL.pure S (Lf.run_assign (S.ev rfl)) rfl rfl trivial ?_
      clear S; intro aa S
      refine OL.nil ?_
      exact ⟨(⟨#[105, 110, 116]⟩ : ByteArray), h1, S.sub _ ⟨rfl, rfl, trivial⟩, H⟩
    · replace H := H.2 hb
      refine W.seq ?_
      replace S := S.sub [(1, Value.pointer (some p1)), (3, Value.string (⟨#[]⟩ : ByteArray)), (9, Value.int .i64 x9)] ⟨rfl, rfl, rfl, trivial⟩
      refine W.region ?_
      refine OL.pure S (Lf.run_eql (S.ev rfl) (S.ev rfl)) rfl rfl trivial ?_
      clear S; intro aa S
      refine OL.pure S (Lf.run_assign (S.ev rfl)) rfl rfl trivial ?_
      clear S; intro aa S
      refine OL.nil ?_
      refine W.cond S (b := (x9 == 2)) rfl (fun hb_1 => ?_) (fun hb_1 => ?_)
      · replace H := H.1 hb_1
        replace S := S.sub [(1, Value.pointer (some p1))] ⟨rfl, trivial⟩
        refine W.region ?_
        refine OL.pure S (Lf.run_assign (S.ev rfl)) rfl rfl trivial ?_
        clear S; intro aa S
        refine OL.nil ?_
        exact ⟨(⟨#[98, 111, 111, 108]⟩ : ByteArray), h1, S.sub _ ⟨rfl, rfl, trivial⟩, H⟩
      · replace H := H.2 hb_1
        refine W.seq ?_
        replace S := S.sub [(1, Value.pointer (some p1)), (3, Value.string (⟨#[]⟩ : ByteArray)), (9, Value.int .i64 x9)] ⟨rfl, rfl, rfl, trivial⟩
        refine W.region ?_
        refine OL.pure S (Lf.run_eql (S.ev rfl) (S.ev rfl)) rfl rfl trivial ?_
        clear S; intro aa S
        refine OL.pure S (Lf.run_assign (S.ev rfl)) rfl rfl trivial ?_
        clear S; intro aa S
        refine OL.nil ?_
        refine W.cond S (b := (x9 == 3)) rfl (fun hb_2 => ?_) (fun hb_2 => ?_)
        · replace H := H.1 hb_2
          replace S := S.sub [(1, Value.pointer (some p1))] ⟨rfl, trivial⟩
          refine W.region ?_
          refine OL.pure S (Lf.run_assign (S.ev rfl)) rfl rfl trivial ?_
          clear S; intro aa S
          refine OL.nil ?_
          exact ⟨(⟨#[102, 54, 52]⟩ : ByteArray), h1, S.sub _ ⟨rfl, rfl, trivial⟩, H⟩
        · replace H := H.2 hb_2
          refine W.seq ?_
          replace S := S.sub [(1, Value.pointer (some p1)), (3, Value.string (⟨#[]⟩ : ByteArray)), (9, Value.int .i64 x9)] ⟨rfl, rfl, rfl, trivial⟩
          refine W.region ?_
          refine OL.pure S (Lf.run_eql (S.ev rfl) (S.ev rfl)) rfl rfl trivial ?_
          clear S; intro aa S
          refine OL.pure S (Lf.run_assign (S.ev rfl)) rfl rfl trivial ?_
          clear S; intro aa S
          refine OL.nil ?_
          refine W.cond S (b := (x9 == 4)) rfl (fun hb_3 => ?_) (fun hb_3 => ?_)
          · replace H := H.1 hb_3
            replace S := S.sub [(1, Value.pointer (some p1))] ⟨rfl, trivial⟩
            refine W.region ?_
            refine OL.pure S (Lf.run_assign (S.ev rfl)) rfl rfl trivial ?_
            clear S; intro aa S
            refine OL.nil ?_
            exact ⟨(⟨#[40, 41]⟩ : ByteArray), h1, S.sub _ ⟨rfl, rfl, trivial⟩, H⟩
          · replace H := H.2 hb_3
            refine W.seq ?_
            replace S := S.sub [(1, Value.pointer (some p1)), (3, Value.string (⟨#[]⟩ : ByteArray)), (9, Value.int .i64 x9)] ⟨rfl, rfl, rfl, trivial⟩
            refine W.region ?_
            refine OL.pure S (Lf.run_eql (S.ev rfl) (S.ev rfl)) rfl rfl trivial ?_
            clear S; intro aa S
            refine OL.pure S (Lf.run_assign (S.ev rfl)) rfl rfl trivial ?_
            clear S; intro aa S
            refine OL.nil ?_
            refine W.cond S (b := (x9 == 5)) rfl (fun hb_4 => ?_) (fun hb_4 => ?_)
            · replace H := H.1 hb_4
              refine W.seq ?_
              replace S := S.sub [(1, Value.pointer (some p1))] ⟨rfl, trivial⟩
              refine W.region ?_
              refine OL.pure S (Lf.run_fa (S.ev rfl) fa25_1) rfl rfl trivial ?_
              clear S; intro aa S
              obtain ⟨x21, c_1, H⟩ := H
              refine OL.pure S (Lf.run_ld (S.ev rfl) fl9 (S.cl c_1)) rfl rfl trivial ?_
              clear S; intro aa S
              refine OL.pure S (Lf.run_assign (S.ev rfl)) rfl rfl trivial ?_
              clear S; intro aa S
              refine OL.nil ?_
              refine W.seq ?_
              replace S := S.sub [(1, Value.pointer (some p1)), (3, Value.string x21)] ⟨rfl, rfl, trivial⟩
              refine W.region ?_
              refine OL.pure S (Lf.run_fa (S.ev rfl) fa25_4) rfl rfl trivial ?_
              clear S; intro aa S
              obtain ⟨x23, c_2, H⟩ := H
              refine OL.pure S (Lf.run_ld (S.ev rfl) fl22 (S.cl c_2)) rfl rfl trivial ?_
              clear S; intro aa S
              refine OL.pure S (Lf.run_lens (S.ev rfl) rfl Try.underlying22) rfl rfl trivial ?_
              clear S; intro aa S
              refine OL.pure S (Lf.run_move (S.ev rfl)) rfl rfl trivial ?_
              clear S; intro aa S
              refine OL.nil ?_
              refine W.block ?_
              obtain ⟨I, m, H, HB⟩ := H
              refine W.loopS (σ := ByteArray × Int × Heap) (fun s aa ww => St 81 [(1, Value.pointer (some p1)), (3, Value.string s.1), (23, Value.slice x23.a x23.n x23.c), (24, Value.int .i64 ((x23.n : Nat) : Int)), (25, Value.int .i64 s.2.1)] s.2.2 w0 aa ww ∧ I s.1 s.2.1 s.2.2) (fun s => m s.1 s.2.1 s.2.2) (x21, 0, h1) ⟨S.sub _ ⟨rfl, rfl, rfl, rfl, rfl, trivial⟩, H⟩ ?_
              clear H S aa
              rintro ⟨s3, x25, h2⟩ aa ww ⟨S, HI⟩
              replace S : St 81 [(1, Value.pointer (some p1)), (3, Value.string s3), (23, Value.slice x23.a x23.n x23.c), (24, Value.int .i64 ((x23.n : Nat) : Int)), (25, Value.int .i64 x25)] h2 w0 aa ww := S
              have H := HB s3 x25 h2 HI
              clear HI
              refine W.seq ?_
              replace S := S.sub [(1, Value.pointer (some p1)), (3, Value.string s3), (23, Value.slice x23.a x23.n x23.c), (24, Value.int .i64 ((x23.n : Nat) : Int)), (25, Value.int .i64 x25)] ⟨rfl, rfl, rfl, rfl, rfl, trivial⟩
              refine W.region ?_
              refine OL.pure S (Lf.run_lss (S.ev rfl) (S.ev rfl)) rfl rfl trivial ?_
              clear S; intro aa S
              refine OL.nil ?_
              refine W.seq ?_
              refine W.cond S (b := (decide (x25 < ((x23.n : Nat) : Int)))) rfl (fun hb_5 => ?_) (fun hb_5 => ?_)
              · replace H := H.1 hb_5
                refine W.skip ?_
                refine W.seq ?_
                refine W.block ?_
                refine W.seq ?_
                replace S := S.sub [(1, Value.pointer (some p1)), (3, Value.string s3), (23, Value.slice x23.a x23.n x23.c), (24, Value.int .i64 ((x23.n : Nat) : Int)), (25, Value.int .i64 x25)] ⟨rfl, rfl, rfl, rfl, rfl, trivial⟩
                refine W.region ?_
                obtain ⟨q27, e, e_1, e_2, H⟩ := H
                refine OL.pure S (Lf.run_ixs (S.ev rfl) (S.ev rfl) Try.underlying22 ti3 e e_1 e_2) rfl rfl trivial ?_
                clear S; intro aa S
                obtain ⟨x28, c_3, H⟩ := H
                refine OL.pure S (Lf.run_ld (S.ev rfl) fl3 (S.cl c_3)) rfl rfl trivial ?_
                clear S; intro aa S
                refine OL.pure S (Lf.run_assign (S.ev rfl)) rfl rfl trivial ?_
                clear S; intro aa S
                refine OL.nil ?_
                replace S := S.sub [(1, Value.pointer (some p1)), (3, Value.string s3), (5, Value.int .i64 x28), (23, Value.slice x23.a x23.n x23.c), (24, Value.int .i64 ((x23.n : Nat) : Int)), (25, Value.int .i64 x25)] ⟨rfl, rfl, rfl, rfl, rfl, rfl, trivial⟩
                refine W.region ?_
                refine OL.pure S (Lf.run_move (S.ev rfl)) rfl rfl trivial ?_
                clear S; intro aa S
                refine OL.pure S (Lf.run_move (S.ev rfl)) rfl rfl trivial ?_
                clear S; intro aa S
                refine ol_cal S H isfn43 rfl rfl trivial ?_
                clear S H aa; intro u aa ww h3 H S
                obtain ⟨x31, rfl, H⟩ := H
                obtain ⟨c_4, H⟩ := H
                refine OL.pure S (Lf.run_addt (S.ev rfl) (S.ev rfl) c_4) rfl rfl trivial ?_
                clear S; intro aa S
                obtain ⟨c_5, H⟩ := H
                refine OL.pure S (Lf.run_addt (S.ev rfl) (S.ev rfl) c_5) rfl rfl trivial ?_
                clear S; intro aa S
                refine OL.pure S (Lf.run_assign (S.ev rfl)) rfl rfl trivial ?_
                clear S; intro aa S
                refine OL.nil ?_
                replace S := S.sub [(1, Value.pointer (some p1)), (3, Value.string (s3 ++ ((⟨#[39]⟩ : ByteArray) ++ x31))), (23, Value.slice x23.a x23.n x23.c), (24, Value.int .i64 ((x23.n : Nat) : Int)), (25, Value.int .i64 x25)] ⟨rfl, rfl, rfl, rfl, rfl, trivial⟩
                refine W.region ?_
                refine OL.pure S (Lf.run_add (S.ev rfl) (S.ev rfl)) rfl rfl trivial ?_
                clear S; intro aa S
                refine OL.pure S (Lf.run_move (S.ev rfl)) rfl rfl trivial ?_
                clear S; intro aa S
                refine OL.nil ?_
                exact ⟨((s3 ++ ((⟨#[39]⟩ : ByteArray) ++ x31)), (IntKind.i64.wrap (x25 + 1)), h3), ⟨S.sub _ ⟨rfl, rfl, rfl, rfl, rfl, trivial⟩, H.1⟩, H.2⟩
              · replace H := H.2 hb_5
                refine W.exit_ ?_
                refine xhit ?_
                exact ⟨s3, h2, S.sub _ ⟨rfl, rfl, trivial⟩, H⟩
            · replace H := H.2 hb_4
              refine W.seq ?_
              replace S := S.sub [(1, Value.pointer (some p1)), (3, Value.string (⟨#[]⟩ : ByteArray)), (9, Value.int .i64 x9)] ⟨rfl, rfl, rfl, trivial⟩
              refine W.region ?_
              refine OL.pure S (Lf.run_eql (S.ev rfl) (S.ev rfl)) rfl rfl trivial ?_
              clear S; intro aa S
              refine OL.pure S (Lf.run_assign (S.ev rfl)) rfl rfl trivial ?_
              clear S; intro aa S
              refine OL.nil ?_
              refine W.cond S (b := (x9 == 6)) rfl (fun hb_6 => ?_) (fun hb_6 => ?_)
              · replace H := H.1 hb_6
                replace S := S.sub [(1, Value.pointer (some p1))] ⟨rfl, trivial⟩
                refine W.region ?_
                refine OL.pure S (Lf.run_assign (S.ev rfl)) rfl rfl trivial ?_
                clear S; intro aa S
                refine OL.nil ?_
                exact ⟨(⟨#[66, 111, 120]⟩ : ByteArray), h1, S.sub _ ⟨rfl, rfl, trivial⟩, H⟩
              · replace H := H.2 hb_6
                refine W.seq ?_
                replace S := S.sub [(1, Value.pointer (some p1)), (3, Value.string (⟨#[]⟩ : ByteArray)), (9, Value.int .i64 x9)] ⟨rfl, rfl, rfl, trivial⟩
                refine W.region ?_
                refine OL.pure S (Lf.run_eql (S.ev rfl) (S.ev rfl)) rfl rfl trivial ?_
                clear S; intro aa S
                refine OL.pure S (Lf.run_assign (S.ev rfl)) rfl rfl trivial ?_
                clear S; intro aa S
                refine OL.nil ?_
                refine W.cond S (b := (x9 == 7)) rfl (fun hb_7 => ?_) (fun hb_7 => ?_)
                · replace H := H.1 hb_7
                  refine W.seq ?_
                  replace S := S.sub [(1, Value.pointer (some p1))] ⟨rfl, trivial⟩
                  refine W.region ?_
                  refine OL.pure S (Lf.run_fa (S.ev rfl) fa25_3) rfl rfl trivial ?_
                  clear S; intro aa S
                  obtain ⟨x40, c_6, H⟩ := H
                  refine OL.pure S (Lf.run_ld (S.ev rfl) fl3 (S.cl c_6)) rfl rfl trivial ?_
                  clear S; intro aa S
                  refine ol_cal S H isfn43 rfl rfl trivial ?_
                  clear S H aa; intro u_1 aa ww h4 H S
                  obtain ⟨x41, rfl, H⟩ := H
                  obtain ⟨c_7, H⟩ := H
                  refine OL.pure S (Lf.run_addt (S.ev rfl) (S.ev rfl) c_7) rfl rfl trivial ?_
                  clear S; intro aa S
                  refine OL.pure S (Lf.run_assign (S.ev rfl)) rfl rfl trivial ?_
                  clear S; intro aa S
                  refine OL.nil ?_
                  refine W.seq ?_
                  replace S := S.sub [(1, Value.pointer (some p1)), (3, Value.string ((⟨#[38]⟩ : ByteArray) ++ x41))] ⟨rfl, rfl, trivial⟩
                  refine W.region ?_
                  refine OL.pure S (Lf.run_fa (S.ev rfl) fa25_2) rfl rfl trivial ?_
                  clear S; intro aa S
                  obtain ⟨x44, c_8, H⟩ := H
                  refine OL.pure S (Lf.run_ld (S.ev rfl) fl4 (S.cl c_8)) rfl rfl trivial ?_
                  clear S; intro aa S
                  refine OL.nil ?_
                  refine W.cond S (b := x44) rfl (fun hb_8 => ?_) (fun hb_8 => ?_)
                  · replace H := H.1 hb_8
                    replace S := S.sub [(1, Value.pointer (some p1)), (3, Value.string ((⟨#[38]⟩ : ByteArray) ++ x41))] ⟨rfl, rfl, trivial⟩
                    refine W.region ?_
                    refine OL.pure S (Lf.run_move (S.ev rfl)) rfl rfl trivial ?_
                    clear S; intro aa S
                    obtain ⟨c_9, H⟩ := H
                    refine OL.pure S (Lf.run_addt (S.ev rfl) (S.ev rfl) c_9) rfl rfl trivial ?_
                    clear S; intro aa S
                    refine OL.pure S (Lf.run_assign (S.ev rfl)) rfl rfl trivial ?_
                    clear S; intro aa S
                    refine OL.nil ?_
                    exact ⟨(((⟨#[38]⟩ : ByteArray) ++ x41) ++ (⟨#[109, 117, 116]⟩ : ByteArray)), h4, S.sub _ ⟨rfl, rfl, trivial⟩, H⟩
                  · replace H := H.2 hb_8
                    refine W.skip ?_
                    exact ⟨((⟨#[38]⟩ : ByteArray) ++ x41), h4, S.sub _ ⟨rfl, rfl, trivial⟩, H⟩
                · replace H := H.2 hb_7
                  refine W.seq ?_
                  replace S := S.sub [(1, Value.pointer (some p1)), (3, Value.string (⟨#[]⟩ : ByteArray)), (9, Value.int .i64 x9)] ⟨rfl, rfl, rfl, trivial⟩
                  refine W.region ?_
                  refine OL.pure S (Lf.run_eql (S.ev rfl) (S.ev rfl)) rfl rfl trivial ?_
                  clear S; intro aa S
                  refine OL.pure S (Lf.run_assign (S.ev rfl)) rfl rfl trivial ?_
                  clear S; intro aa S
                  refine OL.nil ?_
                  refine W.cond S (b := (x9 == 8)) rfl (fun hb_9 => ?_) (fun hb_9 => ?_)
                  · replace H := H.1 hb_9
                    replace S := S.sub [(1, Value.pointer (some p1))] ⟨rfl, trivial⟩
                    obtain ⟨Sq, HS, H⟩ := H
                    refine W.regionN [1] [6] Sq S (by kernel_rfl) ?_
                    clear S; intro ww S
                    refine BN.pure 0 S (fun _ => HS) rfl (by kernel_rfl) (by kernel_rfl) (fun _ => Lf.run_fa (S.ev rfl) fa25_1) rfl rfl trivial ?_
                    clear S; intro aa S
                    refine BN.pure 4 S (fun _ => HS) rfl (by kernel_rfl) (by kernel_rfl) (fun _ => Lf.run_fa (S.ev rfl) fa25_3) rfl rfl trivial ?_
                    clear S; intro aa S
                    obtain ⟨x50, c_10, H⟩ := H
                    refine BN.held 1 S HS rfl (by kernel_rfl) (fun _ hq => Lf.run_ld (S.ev rfl) fl9 (c_10 _ hq)) rfl rfl trivial ?_
                    clear S; intro aa S
                    obtain ⟨c_11, H⟩ := H
                    refine BN.pure 2 S (fun _ => HS) rfl (by kernel_rfl) (by kernel_rfl) (fun _ => Lf.run_addt (S.ev rfl) (S.ev rfl) c_11) rfl rfl trivial ?_
                    clear S; intro aa S
                    obtain ⟨c_12, H⟩ := H
                    refine BN.pure 3 S (fun _ => HS) rfl (by kernel_rfl) (by kernel_rfl) (fun _ => Lf.run_addt (S.ev rfl) (S.ev rfl) c_12) rfl rfl trivial ?_
                    clear S; intro aa S
                    obtain ⟨x54, c_13, H⟩ := H
                    refine BN.load 5 S (fun _ => HS) rfl (by kernel_rfl) (by kernel_rfl) (fun _ hx => Lf.run_ld (S.ev rfl) fl3 (hx.cell _ _ (S.cl c_13))) rfl rfl trivial ?_
                    clear S; intro aa S
                    refine BN.eff 6 rfl (by kernel_rfl) ?_
                    refine ol_cal S H isfn43 rfl rfl trivial ?_
                    clear S H aa; intro u_2 aa ww h5 H S
                    obtain ⟨x55, rfl, H⟩ := H
                    refine OL.nil ?_
                    clear HS; obtain ⟨HS, H⟩ := H
                    refine ⟨fun _ => by rw [S.heap]; exact HS, ?_⟩
                    obtain ⟨c_14, H⟩ := H
                    refine BN.pure 7 S (fun _ => HS) rfl (by kernel_rfl) (by kernel_rfl) (fun _ => Lf.run_addt (S.ev rfl) (S.ev rfl) c_14) rfl rfl trivial ?_
                    clear S; intro aa S
                    refine BN.pure 8 S (fun _ => HS) rfl (by kernel_rfl) (by kernel_rfl) (fun _ => Lf.run_assign (S.ev rfl)) rfl rfl trivial ?_
                    clear S; intro aa S
                    refine BN.done (by kernel_rfl) ?_
                    exact ⟨((((⟨#[100, 121, 110, 32]⟩ : ByteArray) ++ x50) ++ (⟨#[43]⟩ : ByteArray)) ++ x55), h5, S.sub _ ⟨rfl, rfl, trivial⟩, H⟩
                  · replace H := H.2 hb_9
                    refine W.seq ?_
                    replace S := S.sub [(1, Value.pointer (some p1)), (3, Value.string (⟨#[]⟩ : ByteArray)), (9, Value.int .i64 x9)] ⟨rfl, rfl, rfl, trivial⟩
                    refine W.region ?_
                    refine OL.pure S (Lf.run_eql (S.ev rfl) (S.ev rfl)) rfl rfl trivial ?_
                    clear S; intro aa S
                    refine OL.pure S (Lf.run_assign (S.ev rfl)) rfl rfl trivial ?_
                    clear S; intro aa S
                    refine OL.nil ?_
                    refine W.cond S (b := (x9 == 9)) rfl (fun hb_10 => ?_) (fun hb_10 => ?_)
                    · replace H := H.1 hb_10
                      replace S := S.sub [(1, Value.pointer (some p1))] ⟨rfl, trivial⟩
                      obtain ⟨Sq_1, HS_1, H⟩ := H
                      refine W.regionN [1] [5] Sq_1 S (by kernel_rfl) ?_
                      clear S; intro ww S
                      refine BN.pure 0 S (fun _ => HS_1) rfl (by kernel_rfl) (by kernel_rfl) (fun _ => Lf.run_fa (S.ev rfl) fa25_1) rfl rfl trivial ?_
                      clear S; intro aa S
                      refine BN.pure 3 S (fun _ => HS_1) rfl (by kernel_rfl) (by kernel_rfl) (fun _ => Lf.run_fa (S.ev rfl) fa25_3) rfl rfl trivial ?_
                      clear S; intro aa S
                      obtain ⟨x60, c_15, H⟩ := H
                      refine BN.held 1 S HS_1 rfl (by kernel_rfl) (fun _ hq => Lf.run_ld (S.ev rfl) fl9 (c_15 _ hq)) rfl rfl trivial ?_
                      clear S; intro aa S
                      obtain ⟨c_16, H⟩ := H
                      refine BN.pure 2 S (fun _ => HS_1) rfl (by kernel_rfl) (by kernel_rfl) (fun _ => Lf.run_addt (S.ev rfl) (S.ev rfl) c_16) rfl rfl trivial ?_
                      clear S; intro aa S
                      obtain ⟨x63, c_17, H⟩ := H
                      refine BN.load 4 S (fun _ => HS_1) rfl (by kernel_rfl) (by kernel_rfl) (fun _ hx => Lf.run_ld (S.ev rfl) fl3 (hx.cell _ _ (S.cl c_17))) rfl rfl trivial ?_
                      clear S; intro aa S
                      refine BN.eff 5 rfl (by kernel_rfl) ?_
                      refine ol_cal S H isfn43 rfl rfl trivial ?_
                      clear S H aa; intro u_3 aa ww h6 H S
                      obtain ⟨x64, rfl, H⟩ := H
                      refine OL.nil ?_
                      clear HS_1; obtain ⟨HS_1, H⟩ := H
                      refine ⟨fun _ => by rw [S.heap]; exact HS_1, ?_⟩
                      obtain ⟨c_18, H⟩ := H
                      refine BN.pure 6 S (fun _ => HS_1) rfl (by kernel_rfl) (by kernel_rfl) (fun _ => Lf.run_addt (S.ev rfl) (S.ev rfl) c_18) rfl rfl trivial ?_
                      clear S; intro aa S
                      refine BN.pure 7 S (fun _ => HS_1) rfl (by kernel_rfl) (by kernel_rfl) (fun _ => Lf.run_assign (S.ev rfl)) rfl rfl trivial ?_
                      clear S; intro aa S
                      refine BN.done (by kernel_rfl) ?_
                      exact ⟨((x60 ++ (⟨#[63]⟩ : ByteArray)) ++ x64), h6, S.sub _ ⟨rfl, rfl, trivial⟩, H⟩
                    · replace H := H.2 hb_10
                      refine W.skip ?_
                      exact ⟨(⟨#[]⟩ : ByteArray), h1, S.sub _ ⟨rfl, rfl, trivial⟩, H⟩
  · clear H S aa
    rintro aa ww ⟨s3_1, h7, S, HJ⟩
    have H := HK _ _ HJ
    clear HK HJ
    refine W.seq ?_
    refine W.seq ?_
    replace S := S.sub [(1, Value.pointer (some p1)), (3, Value.string s3_1)] ⟨rfl, rfl, trivial⟩
    refine W.region ?_
    refine OL.pure S (Lf.run_fa (S.ev rfl) fa25_5) rfl rfl trivial ?_
    clear S; intro aa S
    obtain ⟨x67, c_19, H⟩ := H
    refine OL.pure S (Lf.run_ld (S.ev rfl) fl23 (S.cl c_19)) rfl rfl trivial ?_
    clear S; intro aa S
    refine OL.pure S (Lf.run_lens (S.ev rfl) rfl Try.underlying23) rfl rfl trivial ?_
    clear S; intro aa S
    refine OL.pure S (Lf.run_move (S.ev rfl)) rfl rfl trivial ?_
    clear S; intro aa S
    refine OL.nil ?_
    refine W.block ?_
    obtain ⟨I_1, m_1, H, HB_1⟩ := H
    refine W.loopS (σ := ByteArray × Int × Heap) (fun s aa ww => St 81 [(3, Value.string s.1), (67, Value.slice x67.a x67.n x67.c), (68, Value.int .i64 ((x67.n : Nat) : Int)), (69, Value.int .i64 s.2.1)] s.2.2 w0 aa ww ∧ I_1 s.1 s.2.1 s.2.2) (fun s => m_1 s.1 s.2.1 s.2.2) (s3_1, 0, h7) ⟨S.sub _ ⟨rfl, rfl, rfl, rfl, trivial⟩, H⟩ ?_
    clear H S aa
    rintro ⟨s3_2, x69, h8⟩ aa ww ⟨S, HI⟩
    replace S : St 81 [(3, Value.string s3_2), (67, Value.slice x67.a x67.n x67.c), (68, Value.int .i64 ((x67.n : Nat) : Int)), (69, Value.int .i64 x69)] h8 w0 aa ww := S
    have H := HB_1 s3_2 x69 h8 HI
    clear HI
    refine W.seq ?_
    replace S := S.sub [(3, Value.string s3_2), (67, Value.slice x67.a x67.n x67.c), (68, Value.int .i64 ((x67.n : Nat) : Int)), (69, Value.int .i64 x69)] ⟨rfl, rfl, rfl, rfl, trivial⟩
    refine W.region ?_
    refine OL.pure S (Lf.run_lss (S.ev rfl) (S.ev rfl)) rfl rfl trivial ?_
    clear S; intro aa S
    refine OL.nil ?_
    refine W.seq ?_
    refine W.cond S (b := (decide (x69 < ((x67.n : Nat) : Int)))) rfl (fun hb_11 => ?_) (fun hb_11 => ?_)
    · replace H := H.1 hb_11
      refine W.skip ?_
      refine W.seq ?_
      refine W.block ?_
      refine W.seq ?_
      replace S := S.sub [(3, Value.string s3_2), (67, Value.slice x67.a x67.n x67.c), (68, Value.int .i64 ((x67.n : Nat) : Int)), (69, Value.int .i64 x69)] ⟨rfl, rfl, rfl, rfl, trivial⟩
      refine W.region ?_
      obtain ⟨q71, e_3, e_4, e_5, H⟩ := H
      refine OL.pure S (Lf.run_ixs (S.ev rfl) (S.ev rfl) Try.underlying23 ti25 e_3 e_4 e_5) rfl rfl trivial ?_
      clear S; intro aa S
      obtain ⟨y72, y72_1, y72_2, y72_3, y72_4, y72_5, c_31, c_32, c_33, c_34, c_35, c_36, H⟩ := H
      refine OL.pure S (Lf.run_ldA (cs := [Value.int .i64 y72, Value.string y72_1, Value.bool y72_2, Value.int .i64 y72_3, Value.slice y72_4.a y72_4.n y72_4.c, Value.slice y72_5.a y72_5.n y72_5.c]) (S.ev rfl) ag25 ti25 (by rw [S.heap]; exact RowL.toRow ⟨c_31, c_32, c_33, c_34, c_35, c_36, trivial⟩)) rfl rfl trivial ?_
      clear S; intro aa S
      refine ol_alloc S H ti25 rfl rfl trivial ?_
      clear S H aa; intro p7 aa ww h9 H S
      refine ol_stoA S H rfl rfl ti25 trivial ?_
      clear S H aa; intro aa ww h10 H S
      refine OL.nil ?_
      replace S := S.sub [(3, Value.string s3_2), (7, Value.pointer (some p7)), (67, Value.slice x67.a x67.n x67.c), (68, Value.int .i64 ((x67.n : Nat) : Int)), (69, Value.int .i64 x69)] ⟨rfl, rfl, rfl, rfl, rfl, trivial⟩
      refine W.region ?_
      refine OL.pure S (Lf.run_move (S.ev rfl)) rfl rfl trivial ?_
      clear S; intro aa S
      obtain ⟨y74, y74_1, y74_2, y74_3, y74_4, y74_5, c_25, c_26, c_27, c_28, c_29, c_30, H⟩ := H
      refine OL.pure S (Lf.run_ldA (cs := [Value.int .i64 y74, Value.string y74_1, Value.bool y74_2, Value.int .i64 y74_3, Value.slice y74_4.a y74_4.n y74_4.c, Value.slice y74_5.a y74_5.n y74_5.c]) (S.ev rfl) ag25 ti25 (by rw [S.heap]; exact RowL.toRow ⟨c_25, c_26, c_27, c_28, c_29, c_30, trivial⟩)) rfl rfl trivial ?_
      clear S; intro aa S
      refine ol_cal S H isfn27 rfl rfl trivial ?_
      clear S H aa; intro u_4 aa ww h11 H S
      obtain ⟨x75, rfl, H⟩ := H
      obtain ⟨c_22, H⟩ := H
      refine OL.pure S (Lf.run_addt (S.ev rfl) (S.ev rfl) c_22) rfl rfl trivial ?_
      clear S; intro aa S
      obtain ⟨c_23, H⟩ := H
      refine OL.pure S (Lf.run_addt (S.ev rfl) (S.ev rfl) c_23) rfl rfl trivial ?_
      clear S; intro aa S
      obtain ⟨c_24, H⟩ := H
      refine OL.pure S (Lf.run_addt (S.ev rfl) (S.ev rfl) c_24) rfl rfl trivial ?_
      clear S; intro aa S
      refine OL.pure S (Lf.run_assign (S.ev rfl)) rfl rfl trivial ?_
      clear S; intro aa S
      refine OL.nil ?_
      replace S := S.sub [(3, Value.string (s3_2 ++ (((⟨#[60]⟩ : ByteArray) ++ x75) ++ (⟨#[62]⟩ : ByteArray)))), (67, Value.slice x67.a x67.n x67.c), (68, Value.int .i64 ((x67.n : Nat) : Int)), (69, Value.int .i64 x69)] ⟨rfl, rfl, rfl, rfl, trivial⟩
      refine W.region ?_
      refine OL.pure S (Lf.run_add (S.ev rfl) (S.ev rfl)) rfl rfl trivial ?_
      clear S; intro aa S
      refine OL.pure S (Lf.run_move (S.ev rfl)) rfl rfl trivial ?_
      clear S; intro aa S
      refine OL.nil ?_
      exact ⟨((s3_2 ++ (((⟨#[60]⟩ : ByteArray) ++ x75) ++ (⟨#[62]⟩ : ByteArray))), (IntKind.i64.wrap (x69 + 1)), h11), ⟨S.sub _ ⟨rfl, rfl, rfl, rfl, trivial⟩, H.1⟩, H.2⟩
    · replace H := H.2 hb_11
      refine W.exit_ ?_
      refine xhit ?_
      refine W.seq ?_
      replace S := S.sub [(3, Value.string s3_2)] ⟨rfl, trivial⟩
      refine W.region ?_
      refine OL.pure S (Lf.run_move (S.ev rfl)) rfl rfl trivial ?_
      clear S; intro aa S
      refine OL.pure S (Lf.run_assign (S.ev rfl)) rfl rfl trivial ?_
      clear S; intro aa S
      refine OL.nil ?_
      refine W.ret ?_
      exact Ret.one S rfl rfl H

/-- chattel types.cross -/
def L28 (l0 : Sv) (a1 : Sv) (b2 : Sv) (h : Heap) (R : Value → Heap → Prop) : Prop :=
  ∃ (I : Sv → Int → Heap → Prop) (m : Sv → Int → Heap → Nat), I l0 0 h ∧ ∀ l0_1 x13 h1, I l0_1 x13 h1 →
  ifb (decide (x13 < ((a1.n : Nat) : Int))) (
    ixS a1 x13 fun q15 =>
    ldI .i64 h1 (q15.add ((x13 : Int).toNat * 1)) fun x16 =>
    ∃ (I_1 : Sv → Int → Heap → Prop) (m_1 : Sv → Int → Heap → Nat), I_1 l0_1 0 h1 ∧ ∀ l0_2 x19 h2, I_1 l0_2 x19 h2 →
    ifb (decide (x19 < ((b2.n : Nat) : Int))) (
      ixS b2 x19 fun q21 =>
      ldI .i64 h2 (q21.add ((x19 : Int).toNat * 1)) fun x22 =>
      newS 46 #[Value.int .i64 x16, Value.int .i64 x22] 1 h2 fun s27 h3 =>
      appS 46 (Value.agg #[Value.int .i64 0, Value.int .i64 0]).cells 2 16 h3 l0_2 s27 fun s28 h4 =>
      I_1 s28 (IntKind.i64.wrap (x19 + 1)) h4 ∧ m_1 s28 (IntKind.i64.wrap (x19 + 1)) h4 < m_1 l0_2 x19 h2) (
      I l0_2 (IntKind.i64.wrap (x13 + 1)) h2 ∧ m l0_2 (IntKind.i64.wrap (x13 + 1)) h2 < m l0_1 x13 h1)) (
    R (Value.slice l0_1.a l0_1.n l0_1.c) h1)

set_option maxRecDepth 100000 in

theorem F28 {l0 a1 b2 h : _} {R : Value → Heap → Prop} (H : L28 l0 a1 b2 h R) : CallsH Try.prog 28 #[Value.slice l0.a l0.n l0.c, Value.slice a1.a a1.n a1.c, Value.slice b2.a b2.n b2.c] h R := by
  refine CallsH.enter (n := 32) Try.func28 rfl rfl rfl rfl ?_
  intro w0 aa ww S
  unfold L28 at H
  refine W.seq ?_
  replace S := S.sub [(0, Value.slice l0.a l0.n l0.c), (1, Value.slice a1.a a1.n a1.c), (2, Value.slice b2.a b2.n b2.c)] ⟨rfl, rfl, rfl, trivial⟩
  refine W.region ?_
  refine OL.pure S (Lf.run_assign (S.ev rfl)) rfl rfl trivial ?_
  clear S; intro aa S
  refine OL.nil ?_
  refine W.seq ?_
  refine W.seq ?_
  replace S := S.sub [(0, Value.slice l0.a l0.n l0.c), (1, Value.slice a1.a a1.n a1.c), (2, Value.slice b2.a b2.n b2.c)] ⟨rfl, rfl, rfl, trivial⟩
  refine W.region ?_
  refine OL.pure S (Lf.run_move (S.ev rfl)) rfl rfl trivial ?_
  clear S; intro aa S
  refine OL.pure S (Lf.run_lens (S.ev rfl) rfl Try.underlying22) rfl rfl trivial ?_
  clear S; intro aa S
  refine OL.pure S (Lf.run_move (S.ev rfl)) rfl rfl trivial ?_
  clear S; intro aa S
  refine OL.nil ?_
  refine W.block ?_
  obtain ⟨I, m, H, HB_1⟩ := H
  refine W.loopS (σ := Sv × Int × Heap) (fun s aa ww => St 32 [(0, Value.slice s.1.a s.1.n s.1.c), (2, Value.slice b2.a b2.n b2.c), (11, Value.slice a1.a a1.n a1.c), (12, Value.int .i64 ((a1.n : Nat) : Int)), (13, Value.int .i64 s.2.1)] s.2.2 w0 aa ww ∧ I s.1 s.2.1 s.2.2) (fun s => m s.1 s.2.1 s.2.2) (l0, 0, h) ⟨S.sub _ ⟨rfl, rfl, rfl, rfl, rfl, trivial⟩, H⟩ ?_
  clear H S aa
  rintro ⟨l0_1, x13, h1⟩ aa ww ⟨S, HI⟩
  replace S : St 32 [(0, Value.slice l0_1.a l0_1.n l0_1.c), (2, Value.slice b2.a b2.n b2.c), (11, Value.slice a1.a a1.n a1.c), (12, Value.int .i64 ((a1.n : Nat) : Int)), (13, Value.int .i64 x13)] h1 w0 aa ww := S
  have H := HB_1 l0_1 x13 h1 HI
  clear HI
  refine W.seq ?_
  replace S := S.sub [(0, Value.slice l0_1.a l0_1.n l0_1.c), (2, Value.slice b2.a b2.n b2.c), (11, Value.slice a1.a a1.n a1.c), (12, Value.int .i64 ((a1.n : Nat) : Int)), (13, Value.int .i64 x13)] ⟨rfl, rfl, rfl, rfl, rfl, trivial⟩
  refine W.region ?_
  refine OL.pure S (Lf.run_lss (S.ev rfl) (S.ev rfl)) rfl rfl trivial ?_
  clear S; intro aa S
  refine OL.nil ?_
  refine W.seq ?_
  refine W.cond S (b := (decide (x13 < ((a1.n : Nat) : Int)))) rfl (fun hb => ?_) (fun hb => ?_)
  · replace H := H.1 hb
    refine W.skip ?_
    refine W.seq ?_
    refine W.block ?_
    refine W.seq ?_
    replace S := S.sub [(0, Value.slice l0_1.a l0_1.n l0_1.c), (2, Value.slice b2.a b2.n b2.c), (11, Value.slice a1.a a1.n a1.c), (12, Value.int .i64 ((a1.n : Nat) : Int)), (13, Value.int .i64 x13)] ⟨rfl, rfl, rfl, rfl, rfl, trivial⟩
    refine W.region ?_
    obtain ⟨q15, e, e_1, e_2, H⟩ := H
    refine OL.pure S (Lf.run_ixs (S.ev rfl) (S.ev rfl) Try.underlying22 ti3 e e_1 e_2) rfl rfl trivial ?_
    clear S; intro aa S
    obtain ⟨x16, c, H⟩ := H
    refine OL.pure S (Lf.run_ld (S.ev rfl) fl3 (S.cl c)) rfl rfl trivial ?_
    clear S; intro aa S
    refine OL.pure S (Lf.run_assign (S.ev rfl)) rfl rfl trivial ?_
    clear S; intro aa S
    refine OL.nil ?_
    refine W.seq ?_
    replace S := S.sub [(0, Value.slice l0_1.a l0_1.n l0_1.c), (2, Value.slice b2.a b2.n b2.c), (8, Value.int .i64 x16), (11, Value.slice a1.a a1.n a1.c), (12, Value.int .i64 ((a1.n : Nat) : Int)), (13, Value.int .i64 x13)] ⟨rfl, rfl, rfl, rfl, rfl, rfl, trivial⟩
    refine W.region ?_
    refine OL.pure S (Lf.run_move (S.ev rfl)) rfl rfl trivial ?_
    clear S; intro aa S
    refine OL.pure S (Lf.run_lens (S.ev rfl) rfl Try.underlying22) rfl rfl trivial ?_
    clear S; intro aa S
    refine OL.pure S (Lf.run_move (S.ev rfl)) rfl rfl trivial ?_
    clear S; intro aa S
    refine OL.nil ?_
    refine W.block ?_
    obtain ⟨I_1, m_1, H, HB⟩ := H
    refine W.loopS (σ := Sv × Int × Heap) (fun s aa ww => St 32 [(0, Value.slice s.1.a s.1.n s.1.c), (2, Value.slice b2.a b2.n b2.c), (8, Value.int .i64 x16), (11, Value.slice a1.a a1.n a1.c), (12, Value.int .i64 ((a1.n : Nat) : Int)), (13, Value.int .i64 x13), (17, Value.slice b2.a b2.n b2.c), (18, Value.int .i64 ((b2.n : Nat) : Int)), (19, Value.int .i64 s.2.1)] s.2.2 w0 aa ww ∧ I_1 s.1 s.2.1 s.2.2) (fun s => m_1 s.1 s.2.1 s.2.2) (l0_1, 0, h1) ⟨S.sub _ ⟨rfl, rfl, rfl, rfl, rfl, rfl, rfl, rfl, rfl, trivial⟩, H⟩ ?_
    clear H S aa
    rintro ⟨l0_2, x19, h2⟩ aa ww ⟨S, HI⟩
    replace S : St 32 [(0, Value.slice l0_2.a l0_2.n l0_2.c), (2, Value.slice b2.a b2.n b2.c), (8, Value.int .i64 x16), (11, Value.slice a1.a a1.n a1.c), (12, Value.int .i64 ((a1.n : Nat) : Int)), (13, Value.int .i64 x13), (17, Value.slice b2.a b2.n b2.c), (18, Value.int .i64 ((b2.n : Nat) : Int)), (19, Value.int .i64 x19)] h2 w0 aa ww := S
    have H := HB l0_2 x19 h2 HI
    clear HI
    refine W.seq ?_
    replace S := S.sub [(0, Value.slice l0_2.a l0_2.n l0_2.c), (2, Value.slice b2.a b2.n b2.c), (8, Value.int .i64 x16), (11, Value.slice a1.a a1.n a1.c), (12, Value.int .i64 ((a1.n : Nat) : Int)), (13, Value.int .i64 x13), (17, Value.slice b2.a b2.n b2.c), (18, Value.int .i64 ((b2.n : Nat) : Int)), (19, Value.int .i64 x19)] ⟨rfl, rfl, rfl, rfl, rfl, rfl, rfl, rfl, rfl, trivial⟩
    refine W.region ?_
    refine OL.pure S (Lf.run_lss (S.ev rfl) (S.ev rfl)) rfl rfl trivial ?_
    clear S; intro aa S
    refine OL.nil ?_
    refine W.seq ?_
    refine W.cond S (b := (decide (x19 < ((b2.n : Nat) : Int)))) rfl (fun hb_1 => ?_) (fun hb_1 => ?_)
    · replace H := H.1 hb_1
      refine W.skip ?_
      refine W.seq ?_
      refine W.block ?_
      refine W.seq ?_
      replace S := S.sub [(0, Value.slice l0_2.a l0_2.n l0_2.c), (2, Value.slice b2.a b2.n b2.c), (8, Value.int .i64 x16), (11, Value.slice a1.a a1.n a1.c), (12, Value.int .i64 ((a1.n : Nat) : Int)), (13, Value.int .i64 x13), (17, Value.slice b2.a b2.n b2.c), (18, Value.int .i64 ((b2.n : Nat) : Int)), (19, Value.int .i64 x19)] ⟨rfl, rfl, rfl, rfl, rfl, rfl, rfl, rfl, rfl, trivial⟩
      refine W.region ?_
      obtain ⟨q21, e_3, e_4, e_5, H⟩ := H
      refine OL.pure S (Lf.run_ixs (S.ev rfl) (S.ev rfl) Try.underlying22 ti3 e_3 e_4 e_5) rfl rfl trivial ?_
      clear S; intro aa S
      obtain ⟨x22, c_1, H⟩ := H
      refine OL.pure S (Lf.run_ld (S.ev rfl) fl3 (S.cl c_1)) rfl rfl trivial ?_
      clear S; intro aa S
      refine OL.pure S (Lf.run_assign (S.ev rfl)) rfl rfl trivial ?_
      clear S; intro aa S
      refine OL.nil ?_
      replace S := S.sub [(0, Value.slice l0_2.a l0_2.n l0_2.c), (2, Value.slice b2.a b2.n b2.c), (8, Value.int .i64 x16), (10, Value.int .i64 x22), (11, Value.slice a1.a a1.n a1.c), (12, Value.int .i64 ((a1.n : Nat) : Int)), (13, Value.int .i64 x13), (17, Value.slice b2.a b2.n b2.c), (18, Value.int .i64 ((b2.n : Nat) : Int)), (19, Value.int .i64 x19)] ⟨rfl, rfl, rfl, rfl, rfl, rfl, rfl, rfl, rfl, rfl, trivial⟩
      refine W.region ?_
      refine OL.pure S (Lf.run_move (S.ev rfl)) rfl rfl trivial ?_
      clear S; intro aa S
      refine OL.pure S (Lf.run_move (S.ev rfl)) rfl rfl trivial ?_
      clear S; intro aa S
      refine OL.pure S (Lf.run_move (S.ev rfl)) rfl rfl trivial ?_
      clear S; intro aa S
      refine OL.pure S (Lf.run_buildArr (cs := #[Value.int .i64 x16, Value.int .i64 x22]) Try.underlying46 ti3 ti46 (parts_map S rfl) (by kernel_rfl)) rfl rfl trivial ?_
      clear S; intro aa S
      refine ol_newS S H Try.underlying26 ti46 (by decide) (parts_map S rfl) (by kernel_rfl) (by decide) rfl trivial ?_
      clear S H aa; intro s27 aa ww h3 H S
      refine ol_appS S H Try.underlying26 ti46 rfl rfl rfl trivial ?_
      clear S H aa; intro s28 aa ww h4 H S
      refine OL.pure S (Lf.run_assign (S.ev rfl)) rfl rfl trivial ?_
      clear S; intro aa S
      refine OL.nil ?_
      replace S := S.sub [(0, Value.slice s28.a s28.n s28.c), (2, Value.slice b2.a b2.n b2.c), (8, Value.int .i64 x16), (11, Value.slice a1.a a1.n a1.c), (12, Value.int .i64 ((a1.n : Nat) : Int)), (13, Value.int .i64 x13), (17, Value.slice b2.a b2.n b2.c), (18, Value.int .i64 ((b2.n : Nat) : Int)), (19, Value.int .i64 x19)] ⟨rfl, rfl, rfl, rfl, rfl, rfl, rfl, rfl, rfl, trivial⟩
      refine W.region ?_
      refine OL.pure S (Lf.run_add (S.ev rfl) (S.ev rfl)) rfl rfl trivial ?_
      clear S; intro aa S
      refine OL.pure S (Lf.run_move (S.ev rfl)) rfl rfl trivial ?_
      clear S; intro aa S
      refine OL.nil ?_
      exact ⟨(s28, (IntKind.i64.wrap (x19 + 1)), h4), ⟨S.sub _ ⟨rfl, rfl, rfl, rfl, rfl, rfl, rfl, rfl, rfl, trivial⟩, H.1⟩, H.2⟩
    · replace H := H.2 hb_1
      refine W.exit_ ?_
      refine xhit ?_
      replace S := S.sub [(0, Value.slice l0_2.a l0_2.n l0_2.c), (2, Value.slice b2.a b2.n b2.c), (11, Value.slice a1.a a1.n a1.c), (12, Value.int .i64 ((a1.n : Nat) : Int)), (13, Value.int .i64 x13)] ⟨rfl, rfl, rfl, rfl, rfl, trivial⟩
      refine W.region ?_
      refine OL.pure S (Lf.run_add (S.ev rfl) (S.ev rfl)) rfl rfl trivial ?_
      clear S; intro aa S
      refine OL.pure S (Lf.run_move (S.ev rfl)) rfl rfl trivial ?_
      clear S; intro aa S
      refine OL.nil ?_
      exact ⟨(l0_2, (IntKind.i64.wrap (x13 + 1)), h2), ⟨S.sub _ ⟨rfl, rfl, rfl, rfl, rfl, trivial⟩, H.1⟩, H.2⟩
  · replace H := H.2 hb
    refine W.exit_ ?_
    refine xhit ?_
    refine W.seq ?_
    replace S := S.sub [(0, Value.slice l0_1.a l0_1.n l0_1.c)] ⟨rfl, trivial⟩
    refine W.region ?_
    refine OL.pure S (Lf.run_move (S.ev rfl)) rfl rfl trivial ?_
    clear S; intro aa S
    refine OL.pure S (Lf.run_assign (S.ev rfl)) rfl rfl trivial ?_
    clear S; intro aa S
    refine OL.nil ?_
    refine W.ret ?_
    exact Ret.one S rfl rfl H

/-- chattel types.slot -/
def L29 (x0 : Int) (x0_1 : ByteArray) (x0_2 : Bool) (x0_3 : Int) (x0_4 : Sv) (x0_5 : Sv) (i1 : Int) (h : Heap) (R : Value → Heap → Prop) : Prop :=
  new 25 #[Value.int .i64 x0, Value.string x0_1, Value.bool x0_2, Value.int .i64 x0_3, Value.slice x0_4.a x0_4.n x0_4.c, Value.slice x0_5.a x0_5.n x0_5.c] h fun p2 h1 =>
  ldS h1 (p2.add 4) fun x7 =>
  ifb (i1 == 0) (
    newS 3 #[Value.int .i64 0] 1 h1 fun s12 h2 =>
    R (Value.slice s12.a s12.n s12.c) h2) (
    ifb ((decide (1 ≤ i1)) && (decide (i1 ≤ ((x7.n : Nat) : Int)))) (
      ldS h1 (p2.add 4) fun x22 =>
      slS x22 1 (IntKind.i64.wrap (i1 - 1)) i1 fun s26 =>
      R (Value.slice s26.a s26.n s26.c) h1) (
      ∃ J : Bool → Prop, (andr (decide (((x7.n : Nat) : Int) < i1)) (fun k =>
        ldS h1 (p2.add 5) fun x36 =>
        k (decide ((IntKind.i64.wrap (i1 - ((x7.n : Nat) : Int))) ≤ ((x36.n : Nat) : Int)))) J) ∧ ∀ x39, J x39 →
      ifb x39 (
        ldS h1 (p2.add 5) fun x41 =>
        ixS x41 (IntKind.i64.wrap ((IntKind.i64.wrap (i1 - ((x7.n : Nat) : Int))) - 1)) fun q46 =>
        ∃ (y47 : Int) (y47_1 : ByteArray) (y47_2 : Bool) (y47_3 : Int) (y47_4 : Sv) (y47_5 : Sv), cl h1 (q46.add (((IntKind.i64.wrap ((IntKind.i64.wrap (i1 - ((x7.n : Nat) : Int))) - 1)) : Int).toNat * 6)) = some (Value.int .i64 y47) ∧ cl h1 ((q46.add (((IntKind.i64.wrap ((IntKind.i64.wrap (i1 - ((x7.n : Nat) : Int))) - 1)) : Int).toNat * 6)).add 1) = some (Value.string y47_1) ∧ cl h1 ((q46.add (((IntKind.i64.wrap ((IntKind.i64.wrap (i1 - ((x7.n : Nat) : Int))) - 1)) : Int).toNat * 6)).add 2) = some (Value.bool y47_2) ∧ cl h1 ((q46.add (((IntKind.i64.wrap ((IntKind.i64.wrap (i1 - ((x7.n : Nat) : Int))) - 1)) : Int).toNat * 6)).add 3) = some (Value.int .i64 y47_3) ∧ cl h1 ((q46.add (((IntKind.i64.wrap ((IntKind.i64.wrap (i1 - ((x7.n : Nat) : Int))) - 1)) : Int).toNat * 6)).add 4) = some (Value.slice y47_4.a y47_4.n y47_4.c) ∧ cl h1 ((q46.add (((IntKind.i64.wrap ((IntKind.i64.wrap (i1 - ((x7.n : Nat) : Int))) - 1)) : Int).toNat * 6)).add 5) = some (Value.slice y47_5.a y47_5.n y47_5.c) ∧
        cal Try.prog 26 #[Value.agg #[Value.int .i64 y47, Value.string y47_1, Value.bool y47_2, Value.int .i64 y47_3, Value.slice y47_4.a y47_4.n y47_4.c, Value.slice y47_5.a y47_5.n y47_5.c]] h1 fun u h3 => asS u fun x48 =>
        R (Value.slice x48.a x48.n x48.c) h3) (
        R (Value.slice (⟨none, 0, 0⟩ : Sv).a (⟨none, 0, 0⟩ : Sv).n (⟨none, 0, 0⟩ : Sv).c) h1)))

set_option maxRecDepth 100000 in

theorem F29 {x0 x0_1 x0_2 x0_3 x0_4 x0_5 i1 h : _} {R : Value → Heap → Prop} (H : L29 x0 x0_1 x0_2 x0_3 x0_4 x0_5 i1 h R) : CallsH Try.prog 29 #[Value.agg #[Value.int .i64 x0, Value.string x0_1, Value.bool x0_2, Value.int .i64 x0_3, Value.slice x0_4.a x0_4.n x0_4.c, Value.slice x0_5.a x0_5.n x0_5.c], Value.int .i64 i1] h R := by
  refine CallsH.enter (n := 49) Try.func29 rfl rfl rfl rfl ?_
  intro w0 aa ww S
  unfold L29 at H
  refine W.seq ?_
  replace S := S.sub [(0, Value.agg #[Value.int .i64 x0, Value.string x0_1, Value.bool x0_2, Value.int .i64 x0_3, Value.slice x0_4.a x0_4.n x0_4.c, Value.slice x0_5.a x0_5.n x0_5.c]), (1, Value.int .i64 i1)] ⟨rfl, rfl, trivial⟩
  refine W.region ?_
  refine ol_box S H rfl rfl rfl trivial ?_
  clear S H aa; intro p2 aa ww h1 H S
  refine OL.pure S (Lf.run_assign (S.ev rfl)) rfl rfl trivial ?_
  clear S; intro aa S
  refine OL.nil ?_
  refine W.seq ?_
  replace S := S.sub [(1, Value.int .i64 i1), (2, Value.pointer (some p2))] ⟨rfl, rfl, trivial⟩
  refine W.region ?_
  refine OL.pure S (Lf.run_fa (S.ev rfl) fa25_4) rfl rfl trivial ?_
  clear S; intro aa S
  obtain ⟨x7, c, H⟩ := H
  refine OL.pure S (Lf.run_ld (S.ev rfl) fl22 (S.cl c)) rfl rfl trivial ?_
  clear S; intro aa S
  refine OL.pure S (Lf.run_lens (S.ev rfl) rfl Try.underlying22) rfl rfl trivial ?_
  clear S; intro aa S
  refine OL.pure S (Lf.run_assign (S.ev rfl)) rfl rfl trivial ?_
  clear S; intro aa S
  refine OL.nil ?_
  refine W.seq ?_
  refine W.block ?_
  refine W.seq ?_
  replace S := S.sub [(1, Value.int .i64 i1), (2, Value.pointer (some p2)), (5, Value.int .i64 ((x7.n : Nat) : Int))] ⟨rfl, rfl, rfl, trivial⟩
  refine W.region ?_
  refine OL.pure S (Lf.run_move (S.ev rfl)) rfl rfl trivial ?_
  clear S; intro aa S
  refine OL.pure S (Lf.run_eql (S.ev rfl) (S.ev rfl)) rfl rfl trivial ?_
  clear S; intro aa S
  refine OL.pure S (Lf.run_assign (S.ev rfl)) rfl rfl trivial ?_
  clear S; intro aa S
  refine OL.nil ?_
  refine W.cond S (b := (i1 == 0)) rfl (fun hb => ?_) (fun hb => ?_)
  · replace H := H.1 hb
    refine W.seq ?_
    replace S := S.sub [] trivial
    refine W.region ?_
    refine ol_newS S H Try.underlying22 ti3 (by decide) (parts_map S rfl) (by kernel_rfl) (by decide) rfl trivial ?_
    clear S H aa; intro s12 aa ww h2 H S
    refine OL.pure S (Lf.run_assign (S.ev rfl)) rfl rfl trivial ?_
    clear S; intro aa S
    refine OL.nil ?_
    refine W.ret ?_
    exact Ret.one S rfl rfl H
  · replace H := H.2 hb
    refine W.seq ?_
    replace S := S.sub [(1, Value.int .i64 i1), (2, Value.pointer (some p2)), (5, Value.int .i64 ((x7.n : Nat) : Int))] ⟨rfl, rfl, rfl, trivial⟩
    refine W.region ?_
    refine OL.pure S (Lf.run_move (S.ev rfl)) rfl rfl trivial ?_
    clear S; intro aa S
    refine OL.pure S (Lf.run_geq (S.ev rfl) (S.ev rfl)) rfl rfl trivial ?_
    clear S; intro aa S
    refine OL.pure S (Lf.run_move (S.ev rfl)) rfl rfl trivial ?_
    clear S; intro aa S
    refine OL.cutN 4 (fun aa ww => St 49 ((20, Value.bool ((decide (1 ≤ i1)) && (decide (i1 ≤ ((x7.n : Nat) : Int))))) :: [(1, Value.int .i64 i1), (2, Value.pointer (some p2)), (5, Value.int .i64 ((x7.n : Nat) : Int)), (14, Value.int .i64 i1), (15, Value.bool (decide (1 ≤ i1))), (16, Value.bool (decide (1 ≤ i1)))]) h1 w0 aa ww) ?_ ?_
    · rcases Bool.eq_false_or_eq_true (decide (1 ≤ i1)) with hb_1 | hb_1
      · refine OL.pure S (Lf.run_move (S.ev rfl)) rfl rfl (GOk.mk rfl rfl hb_1) ?_
        clear S; intro aa S
        refine OL.pure S (Lf.run_move (S.ev rfl)) rfl rfl (GOk.mk rfl rfl hb_1) ?_
        clear S; intro aa S
        refine OL.pure S (Lf.run_leq (S.ev rfl) (S.ev rfl)) rfl rfl (GOk.mk rfl rfl hb_1) ?_
        clear S; intro aa S
        refine OL.pure S (Lf.run_pickT (S.ev rfl) hb_1 (S.ev rfl)) rfl rfl trivial ?_
        clear S; intro aa S
        refine OL.nil ?_
        exact (S.hd (by rw [hb_1, Bool.true_and])).sub _ ⟨rfl, rfl, rfl, rfl, rfl, rfl, rfl, trivial⟩
      · refine OL.not S rfl rfl (GNo.mk rfl rfl hb_1) ?_
        clear S; intro aa S
        refine OL.not S rfl rfl (GNo.mk rfl rfl hb_1) ?_
        clear S; intro aa S
        refine OL.not S rfl rfl (GNo.mk rfl rfl hb_1) ?_
        clear S; intro aa S
        refine OL.pure S (Lf.run_pickF (S.ev rfl) hb_1 (S.ev rfl)) rfl rfl trivial ?_
        clear S; intro aa S
        refine OL.nil ?_
        exact (S.hd (by rw [hb_1, Bool.false_and])).sub _ ⟨rfl, rfl, rfl, rfl, rfl, rfl, rfl, trivial⟩
    · clear S aa
      intro aa ww S
      refine OL.pure S (Lf.run_assign (S.ev rfl)) rfl rfl trivial ?_
      clear S; intro aa S
      refine OL.nil ?_
      refine W.cond S (b := ((decide (1 ≤ i1)) && (decide (i1 ≤ ((x7.n : Nat) : Int))))) rfl (fun hb_2 => ?_) (fun hb_2 => ?_)
      · replace H := H.1 hb_2
        refine W.seq ?_
        replace S := S.sub [(1, Value.int .i64 i1), (2, Value.pointer (some p2))] ⟨rfl, rfl, trivial⟩
        refine W.region ?_
        refine OL.pure S (Lf.run_fa (S.ev rfl) fa25_4) rfl rfl trivial ?_
        clear S; intro aa S
        obtain ⟨x22, c_1, H⟩ := H
        refine OL.pure S (Lf.run_ld (S.ev rfl) fl22 (S.cl c_1)) rfl rfl trivial ?_
        clear S; intro aa S
        refine OL.pure S (Lf.run_move (S.ev rfl)) rfl rfl trivial ?_
        clear S; intro aa S
        refine OL.pure S (Lf.run_sub (S.ev rfl) (S.ev rfl)) rfl rfl trivial ?_
        clear S; intro aa S
        refine OL.pure S (Lf.run_move (S.ev rfl)) rfl rfl trivial ?_
        clear S; intro aa S
        obtain ⟨s26, c_2, c_3, c_4, c_5, H⟩ := slS_ex H
        refine OL.pure S (Lf.run_slSS Try.underlying22 ti3 (S.ev rfl) (S.ev rfl) (S.ev rfl) c_2 c_3 c_4 c_5) rfl rfl trivial ?_
        clear S; intro aa S
        refine OL.pure S (Lf.run_assign (S.ev rfl)) rfl rfl trivial ?_
        clear S; intro aa S
        refine OL.nil ?_
        refine W.ret ?_
        exact Ret.one S rfl rfl H
      · replace H := H.2 hb_2
        refine W.seq ?_
        replace S := S.sub [(1, Value.int .i64 i1), (2, Value.pointer (some p2)), (5, Value.int .i64 ((x7.n : Nat) : Int))] ⟨rfl, rfl, rfl, trivial⟩
        refine W.region ?_
        refine OL.pure S (Lf.run_move (S.ev rfl)) rfl rfl trivial ?_
        clear S; intro aa S
        refine OL.pure S (Lf.run_move (S.ev rfl)) rfl rfl trivial ?_
        clear S; intro aa S
        refine OL.pure S (Lf.run_gtr (S.ev rfl) (S.ev rfl)) rfl rfl trivial ?_
        clear S; intro aa S
        refine OL.pure S (Lf.run_move (S.ev rfl)) rfl rfl trivial ?_
        clear S; intro aa S
        obtain ⟨J, H, HK⟩ := H
        refine OL.cutN 8 (fun aa ww => ∃ x39, St 49 ((39, Value.bool x39) :: [(1, Value.int .i64 i1), (2, Value.pointer (some p2)), (5, Value.int .i64 ((x7.n : Nat) : Int)), (28, Value.int .i64 i1), (29, Value.int .i64 ((x7.n : Nat) : Int)), (30, Value.bool (decide (((x7.n : Nat) : Int) < i1))), (31, Value.bool (decide (((x7.n : Nat) : Int) < i1)))]) h1 w0 aa ww ∧ J x39) ?_ ?_
        · rcases Bool.eq_false_or_eq_true (decide (((x7.n : Nat) : Int) < i1)) with hb_3 | hb_3
          · replace H := H.1 hb_3
            refine OL.pure S (Lf.run_move (S.ev rfl)) rfl rfl (GOk.mk rfl rfl hb_3) ?_
            clear S; intro aa S
            refine OL.pure S (Lf.run_move (S.ev rfl)) rfl rfl (GOk.mk rfl rfl hb_3) ?_
            clear S; intro aa S
            refine OL.pure S (Lf.run_sub (S.ev rfl) (S.ev rfl)) rfl rfl (GOk.mk rfl rfl hb_3) ?_
            clear S; intro aa S
            refine OL.pure S (Lf.run_fa (S.ev rfl) fa25_5) rfl rfl (GOk.mk rfl rfl hb_3) ?_
            clear S; intro aa S
            obtain ⟨x36, c_6, H⟩ := H
            refine OL.pure S (Lf.run_ld (S.ev rfl) fl23 (S.cl c_6)) rfl rfl (GOk.mk rfl rfl hb_3) ?_
            clear S; intro aa S
            refine OL.pure S (Lf.run_lens (S.ev rfl) rfl Try.underlying23) rfl rfl (GOk.mk rfl rfl hb_3) ?_
            clear S; intro aa S
            refine OL.pure S (Lf.run_leq (S.ev rfl) (S.ev rfl)) rfl rfl (GOk.mk rfl rfl hb_3) ?_
            clear S; intro aa S
            refine OL.pure S (Lf.run_pickT (S.ev rfl) hb_3 (S.ev rfl)) rfl rfl trivial ?_
            clear S; intro aa S
            refine OL.nil ?_
            exact ⟨_, S.sub _ ⟨rfl, rfl, rfl, rfl, rfl, rfl, rfl, rfl, trivial⟩, H⟩
          · replace H := H.2 hb_3
            refine OL.not S rfl rfl (GNo.mk rfl rfl hb_3) ?_
            clear S; intro aa S
            refine OL.not S rfl rfl (GNo.mk rfl rfl hb_3) ?_
            clear S; intro aa S
            refine OL.not S rfl rfl (GNo.mk rfl rfl hb_3) ?_
            clear S; intro aa S
            refine OL.not S rfl rfl (GNo.mk rfl rfl hb_3) ?_
            clear S; intro aa S
            refine OL.not S rfl rfl (GNo.mk rfl rfl hb_3) ?_
            clear S; intro aa S
            refine OL.not S rfl rfl (GNo.mk rfl rfl hb_3) ?_
            clear S; intro aa S
            refine OL.not S rfl rfl (GNo.mk rfl rfl hb_3) ?_
            clear S; intro aa S
            refine OL.pure S (Lf.run_pickF (S.ev rfl) hb_3 (S.ev rfl)) rfl rfl trivial ?_
            clear S; intro aa S
            refine OL.nil ?_
            exact ⟨_, S.sub _ ⟨rfl, rfl, rfl, rfl, rfl, rfl, rfl, rfl, trivial⟩, H⟩
        · clear S aa
          rintro aa ww ⟨x39, S, HJ⟩
          replace H := HK _ HJ
          clear HK HJ
          refine OL.pure S (Lf.run_assign (S.ev rfl)) rfl rfl trivial ?_
          clear S; intro aa S
          refine OL.nil ?_
          refine W.cond S (b := x39) rfl (fun hb_4 => ?_) (fun hb_4 => ?_)
          · replace H := H.1 hb_4
            refine W.seq ?_
            replace S := S.sub [(1, Value.int .i64 i1), (2, Value.pointer (some p2)), (5, Value.int .i64 ((x7.n : Nat) : Int))] ⟨rfl, rfl, rfl, trivial⟩
            refine W.region ?_
            refine OL.pure S (Lf.run_fa (S.ev rfl) fa25_5) rfl rfl trivial ?_
            clear S; intro aa S
            obtain ⟨x41, c_7, H⟩ := H
            refine OL.pure S (Lf.run_ld (S.ev rfl) fl23 (S.cl c_7)) rfl rfl trivial ?_
            clear S; intro aa S
            refine OL.pure S (Lf.run_move (S.ev rfl)) rfl rfl trivial ?_
            clear S; intro aa S
            refine OL.pure S (Lf.run_move (S.ev rfl)) rfl rfl trivial ?_
            clear S; intro aa S
            refine OL.pure S (Lf.run_sub (S.ev rfl) (S.ev rfl)) rfl rfl trivial ?_
            clear S; intro aa S
            refine OL.pure S (Lf.run_sub (S.ev rfl) (S.ev rfl)) rfl rfl trivial ?_
            clear S; intro aa S
            obtain ⟨q46, e, e_1, e_2, H⟩ := H
            refine OL.pure S (Lf.run_ixs (S.ev rfl) (S.ev rfl) Try.underlying23 ti25 e e_1 e_2) rfl rfl trivial ?_
            clear S; intro aa S
            obtain ⟨y47, y47_1, y47_2, y47_3, y47_4, y47_5, c_9, c_10, c_11, c_12, c_13, c_14, H⟩ := H
            refine OL.pure S (Lf.run_ldA (cs := [Value.int .i64 y47, Value.string y47_1, Value.bool y47_2, Value.int .i64 y47_3, Value.slice y47_4.a y47_4.n y47_4.c, Value.slice y47_5.a y47_5.n y47_5.c]) (S.ev rfl) ag25 ti25 (by rw [S.heap]; exact RowL.toRow ⟨c_9, c_10, c_11, c_12, c_13, c_14, trivial⟩)) rfl rfl trivial ?_
            clear S; intro aa S
            refine ol_cal S H isfn26 rfl rfl trivial ?_
            clear S H aa; intro u aa ww h3 H S
            obtain ⟨x48, rfl, H⟩ := H
            refine OL.pure S (Lf.run_assign (S.ev rfl)) rfl rfl trivial ?_
            clear S; intro aa S
            refine OL.nil ?_
            refine W.ret ?_
            exact Ret.one S rfl rfl H
          · replace H := H.2 hb_4
            refine W.skip ?_
            refine W.seq ?_
            replace S := S.sub [] trivial
            refine W.region ?_
            refine OL.pure S (Lf.run_assign (S.ev rfl)) rfl rfl trivial ?_
            clear S; intro aa S
            refine OL.nil ?_
            refine W.ret ?_
            exact Ret.one S rfl rfl H

/-- chattel chattelref07.cross -/
def L30 (a0 : Sv) (b1 : Sv) (h : Heap) (R : Value → Heap → Prop) : Prop :=
  ∃ (I : Sv → Int → Heap → Prop) (m : Sv → Int → Heap → Nat), I (⟨none, 0, 0⟩ : Sv) 0 h ∧ ∀ out5 i6 h1, I out5 i6 h1 →
  ifb (decide (i6 < ((a0.n : Nat) : Int))) (
    ∃ (I_1 : Sv → Int → Heap → Prop) (m_1 : Sv → Int → Heap → Nat), I_1 out5 0 h1 ∧ ∀ out5_1 k7 h2, I_1 out5_1 k7 h2 →
    ifb (decide (k7 < ((b1.n : Nat) : Int))) (
      ixS a0 i6 fun q23 =>
      ldI .i64 h2 (q23.add ((i6 : Int).toNat * 1)) fun x24 =>
      ixS b1 k7 fun q27 =>
      ldI .i64 h2 (q27.add ((k7 : Int).toNat * 1)) fun x28 =>
      newS 46 #[Value.int .i64 x24, Value.int .i64 x28] 1 h2 fun s30 h3 =>
      appS 46 (Value.agg #[Value.int .i64 0, Value.int .i64 0]).cells 2 16 h3 out5_1 s30 fun s31 h4 =>
      I_1 s31 (IntKind.i64.wrap (k7 + 1)) h4 ∧ m_1 s31 (IntKind.i64.wrap (k7 + 1)) h4 < m_1 out5_1 k7 h2) (
      I out5_1 (IntKind.i64.wrap (i6 + 1)) h2 ∧ m out5_1 (IntKind.i64.wrap (i6 + 1)) h2 < m out5 i6 h1)) (
    R (Value.slice out5.a out5.n out5.c) h1)

set_option maxRecDepth 100000 in

theorem F30 {a0 b1 h : _} {R : Value → Heap → Prop} (H : L30 a0 b1 h R) : CallsH Try.prog 30 #[Value.slice a0.a a0.n a0.c, Value.slice b1.a b1.n b1.c] h R := by
  refine CallsH.enter (n := 33) Try.func30 rfl rfl rfl rfl ?_
  intro w0 aa ww S
  unfold L30 at H
  refine W.seq ?_
  replace S := S.sub [(0, Value.slice a0.a a0.n a0.c), (1, Value.slice b1.a b1.n b1.c)] ⟨rfl, rfl, trivial⟩
  refine W.region ?_
  refine OL.pure S (Lf.run_assign (S.ev rfl)) rfl rfl trivial ?_
  clear S; intro aa S
  refine OL.nil ?_
  refine W.seq ?_
  replace S := S.sub [(0, Value.slice a0.a a0.n a0.c), (1, Value.slice b1.a b1.n b1.c)] ⟨rfl, rfl, trivial⟩
  refine W.region ?_
  refine OL.pure S (Lf.run_assign (S.ev rfl)) rfl rfl trivial ?_
  clear S; intro aa S
  refine OL.nil ?_
  refine W.seq ?_
  refine W.seq ?_
  replace S := S.sub [(0, Value.slice a0.a a0.n a0.c), (1, Value.slice b1.a b1.n b1.c), (5, Value.slice (⟨none, 0, 0⟩ : Sv).a (⟨none, 0, 0⟩ : Sv).n (⟨none, 0, 0⟩ : Sv).c)] ⟨rfl, rfl, rfl, trivial⟩
  refine W.region ?_
  refine OL.pure S (Lf.run_assign (S.ev rfl)) rfl rfl trivial ?_
  clear S; intro aa S
  refine OL.nil ?_
  refine W.block ?_
  obtain ⟨I, m, H, HB_1⟩ := H
  refine W.loopS (σ := Sv × Int × Heap) (fun s aa ww => St 33 [(0, Value.slice a0.a a0.n a0.c), (1, Value.slice b1.a b1.n b1.c), (5, Value.slice s.1.a s.1.n s.1.c), (6, Value.int .i64 s.2.1)] s.2.2 w0 aa ww ∧ I s.1 s.2.1 s.2.2) (fun s => m s.1 s.2.1 s.2.2) ((⟨none, 0, 0⟩ : Sv), 0, h) ⟨S.sub _ ⟨rfl, rfl, rfl, rfl, trivial⟩, H⟩ ?_
  clear H S aa
  rintro ⟨out5, i6, h1⟩ aa ww ⟨S, HI⟩
  replace S : St 33 [(0, Value.slice a0.a a0.n a0.c), (1, Value.slice b1.a b1.n b1.c), (5, Value.slice out5.a out5.n out5.c), (6, Value.int .i64 i6)] h1 w0 aa ww := S
  have H := HB_1 out5 i6 h1 HI
  clear HI
  refine W.seq ?_
  refine W.seq ?_
  replace S := S.sub [(0, Value.slice a0.a a0.n a0.c), (1, Value.slice b1.a b1.n b1.c), (5, Value.slice out5.a out5.n out5.c), (6, Value.int .i64 i6)] ⟨rfl, rfl, rfl, rfl, trivial⟩
  refine W.region ?_
  refine OL.pure S (Lf.run_move (S.ev rfl)) rfl rfl trivial ?_
  clear S; intro aa S
  refine OL.pure S (Lf.run_move (S.ev rfl)) rfl rfl trivial ?_
  clear S; intro aa S
  refine OL.pure S (Lf.run_lens (S.ev rfl) rfl Try.underlying22) rfl rfl trivial ?_
  clear S; intro aa S
  refine OL.pure S (Lf.run_lss (S.ev rfl) (S.ev rfl)) rfl rfl trivial ?_
  clear S; intro aa S
  refine OL.nil ?_
  refine W.cond S (b := (decide (i6 < ((a0.n : Nat) : Int)))) rfl (fun hb => ?_) (fun hb => ?_)
  · replace H := H.1 hb
    refine W.skip ?_
    refine W.seq ?_
    refine W.block ?_
    refine W.seq ?_
    replace S := S.sub [(0, Value.slice a0.a a0.n a0.c), (1, Value.slice b1.a b1.n b1.c), (5, Value.slice out5.a out5.n out5.c), (6, Value.int .i64 i6)] ⟨rfl, rfl, rfl, rfl, trivial⟩
    refine W.region ?_
    refine OL.pure S (Lf.run_assign (S.ev rfl)) rfl rfl trivial ?_
    clear S; intro aa S
    refine OL.nil ?_
    refine W.block ?_
    obtain ⟨I_1, m_1, H, HB⟩ := H
    refine W.loopS (σ := Sv × Int × Heap) (fun s aa ww => St 33 [(0, Value.slice a0.a a0.n a0.c), (1, Value.slice b1.a b1.n b1.c), (5, Value.slice s.1.a s.1.n s.1.c), (6, Value.int .i64 i6), (7, Value.int .i64 s.2.1)] s.2.2 w0 aa ww ∧ I_1 s.1 s.2.1 s.2.2) (fun s => m_1 s.1 s.2.1 s.2.2) (out5, 0, h1) ⟨S.sub _ ⟨rfl, rfl, rfl, rfl, rfl, trivial⟩, H⟩ ?_
    clear H S aa
    rintro ⟨out5_1, k7, h2⟩ aa ww ⟨S, HI⟩
    replace S : St 33 [(0, Value.slice a0.a a0.n a0.c), (1, Value.slice b1.a b1.n b1.c), (5, Value.slice out5_1.a out5_1.n out5_1.c), (6, Value.int .i64 i6), (7, Value.int .i64 k7)] h2 w0 aa ww := S
    have H := HB out5_1 k7 h2 HI
    clear HI
    refine W.seq ?_
    refine W.seq ?_
    replace S := S.sub [(0, Value.slice a0.a a0.n a0.c), (1, Value.slice b1.a b1.n b1.c), (5, Value.slice out5_1.a out5_1.n out5_1.c), (6, Value.int .i64 i6), (7, Value.int .i64 k7)] ⟨rfl, rfl, rfl, rfl, rfl, trivial⟩
    refine W.region ?_
    refine OL.pure S (Lf.run_move (S.ev rfl)) rfl rfl trivial ?_
    clear S; intro aa S
    refine OL.pure S (Lf.run_move (S.ev rfl)) rfl rfl trivial ?_
    clear S; intro aa S
    refine OL.pure S (Lf.run_lens (S.ev rfl) rfl Try.underlying22) rfl rfl trivial ?_
    clear S; intro aa S
    refine OL.pure S (Lf.run_lss (S.ev rfl) (S.ev rfl)) rfl rfl trivial ?_
    clear S; intro aa S
    refine OL.nil ?_
    refine W.cond S (b := (decide (k7 < ((b1.n : Nat) : Int)))) rfl (fun hb_1 => ?_) (fun hb_1 => ?_)
    · replace H := H.1 hb_1
      refine W.skip ?_
      refine W.seq ?_
      refine W.block ?_
      replace S := S.sub [(0, Value.slice a0.a a0.n a0.c), (1, Value.slice b1.a b1.n b1.c), (5, Value.slice out5_1.a out5_1.n out5_1.c), (6, Value.int .i64 i6), (7, Value.int .i64 k7)] ⟨rfl, rfl, rfl, rfl, rfl, trivial⟩
      refine W.regionD S (by kernel_rfl) ?_
      clear S; intro ww S
      refine AN.pure 0 S rfl (by kernel_rfl) (fun _ => Lf.run_move (S.ev rfl)) rfl rfl trivial ?_
      clear S; intro aa S
      refine AN.pure 1 S rfl (by kernel_rfl) (fun _ => Lf.run_move (S.ev rfl)) rfl rfl trivial ?_
      clear S; intro aa S
      refine AN.pure 2 S rfl (by kernel_rfl) (fun _ => Lf.run_move (S.ev rfl)) rfl rfl trivial ?_
      clear S; intro aa S
      obtain ⟨q23, e, e_1, e_2, H⟩ := H
      refine AN.pure 3 S rfl (by kernel_rfl) (fun _ => Lf.run_ixs (S.ev rfl) (S.ev rfl) Try.underlying22 ti3 e e_1 e_2) rfl rfl trivial ?_
      clear S; intro aa S
      obtain ⟨x24, c, H⟩ := H
      refine AN.load 4 S rfl (by kernel_rfl) (fun _ hx => Lf.run_ld (S.ev rfl) fl3 (hx.cell _ _ (S.cl c))) rfl rfl trivial ?_
      clear S; intro aa S
      refine AN.pure 5 S rfl (by kernel_rfl) (fun _ => Lf.run_move (S.ev rfl)) rfl rfl trivial ?_
      clear S; intro aa S
      refine AN.pure 6 S rfl (by kernel_rfl) (fun _ => Lf.run_move (S.ev rfl)) rfl rfl trivial ?_
      clear S; intro aa S
      obtain ⟨q27, e_3, e_4, e_5, H⟩ := H
      refine AN.pure 7 S rfl (by kernel_rfl) (fun _ => Lf.run_ixs (S.ev rfl) (S.ev rfl) Try.underlying22 ti3 e_3 e_4 e_5) rfl rfl trivial ?_
      clear S; intro aa S
      obtain ⟨x28, c_1, H⟩ := H
      refine AN.load 8 S rfl (by kernel_rfl) (fun _ hx => Lf.run_ld (S.ev rfl) fl3 (hx.cell _ _ (S.cl c_1))) rfl rfl trivial ?_
      clear S; intro aa S
      refine AN.pure 9 S rfl (by kernel_rfl) (fun _ => Lf.run_buildArr (cs := #[Value.int .i64 x24, Value.int .i64 x28]) Try.underlying46 ti3 ti46 (parts_map S rfl) (by kernel_rfl)) rfl rfl trivial ?_
      clear S; intro aa S
      refine AN.eff 10 rfl (by kernel_rfl) ?_
      refine ol_newS S H Try.underlying26 ti46 (by decide) (parts_map S rfl) (by kernel_rfl) (by decide) rfl trivial ?_
      clear S H aa; intro s30 aa ww h3 H S
      refine OL.nil ?_
      refine AN.eff 11 rfl (by kernel_rfl) ?_
      refine ol_appS S H Try.underlying26 ti46 rfl rfl rfl trivial ?_
      clear S H aa; intro s31 aa ww h4 H S
      refine OL.nil ?_
      refine AN.pure 12 S rfl (by kernel_rfl) (fun _ => Lf.run_assign (S.ev rfl)) rfl rfl trivial ?_
      clear S; intro aa S
      refine AN.done (by kernel_rfl) ?_
      replace S := S.sub [(0, Value.slice a0.a a0.n a0.c), (1, Value.slice b1.a b1.n b1.c), (5, Value.slice s31.a s31.n s31.c), (6, Value.int .i64 i6), (7, Value.int .i64 k7)] ⟨rfl, rfl, rfl, rfl, rfl, trivial⟩
      refine W.region ?_
      refine OL.pure S (Lf.run_move (S.ev rfl)) rfl rfl trivial ?_
      clear S; intro aa S
      refine OL.pure S (Lf.run_add (S.ev rfl) (S.ev rfl)) rfl rfl trivial ?_
      clear S; intro aa S
      refine OL.pure S (Lf.run_assign (S.ev rfl)) rfl rfl trivial ?_
      clear S; intro aa S
      refine OL.nil ?_
      exact ⟨(s31, (IntKind.i64.wrap (k7 + 1)), h4), ⟨S.sub _ ⟨rfl, rfl, rfl, rfl, rfl, trivial⟩, H.1⟩, H.2⟩
    · replace H := H.2 hb_1
      refine W.exit_ ?_
      refine xhit ?_
      replace S := S.sub [(0, Value.slice a0.a a0.n a0.c), (1, Value.slice b1.a b1.n b1.c), (5, Value.slice out5_1.a out5_1.n out5_1.c), (6, Value.int .i64 i6)] ⟨rfl, rfl, rfl, rfl, trivial⟩
      refine W.region ?_
      refine OL.pure S (Lf.run_move (S.ev rfl)) rfl rfl trivial ?_
      clear S; intro aa S
      refine OL.pure S (Lf.run_add (S.ev rfl) (S.ev rfl)) rfl rfl trivial ?_
      clear S; intro aa S
      refine OL.pure S (Lf.run_assign (S.ev rfl)) rfl rfl trivial ?_
      clear S; intro aa S
      refine OL.nil ?_
      exact ⟨(out5_1, (IntKind.i64.wrap (i6 + 1)), h2), ⟨S.sub _ ⟨rfl, rfl, rfl, rfl, trivial⟩, H.1⟩, H.2⟩
  · replace H := H.2 hb
    refine W.exit_ ?_
    refine xhit ?_
    refine W.seq ?_
    replace S := S.sub [(5, Value.slice out5.a out5.n out5.c)] ⟨rfl, trivial⟩
    refine W.region ?_
    refine OL.pure S (Lf.run_move (S.ev rfl)) rfl rfl trivial ?_
    clear S; intro aa S
    refine OL.pure S (Lf.run_assign (S.ev rfl)) rfl rfl trivial ?_
    clear S; intro aa S
    refine OL.nil ?_
    refine W.ret ?_
    exact Ret.one S rfl rfl H

/-- chattel chattelref07.Slot -/
def L31 (x0 : Int) (x0_1 : ByteArray) (x0_2 : Bool) (x0_3 : Int) (x0_4 : Sv) (x0_5 : Sv) (i1 : Int) (h : Heap) (R : Value → Heap → Prop) : Prop :=
  new 25 #[Value.int .i64 x0, Value.string x0_1, Value.bool x0_2, Value.int .i64 x0_3, Value.slice x0_4.a x0_4.n x0_4.c, Value.slice x0_5.a x0_5.n x0_5.c] h fun p2 h1 =>
  ifb (decide (i1 < 0)) (
    R (Value.slice (⟨none, 0, 0⟩ : Sv).a (⟨none, 0, 0⟩ : Sv).n (⟨none, 0, 0⟩ : Sv).c) h1) (
    ifb (i1 == 0) (
      newS 3 #[Value.int .i64 0] 1 h1 fun s9 h2 =>
      R (Value.slice s9.a s9.n s9.c) h2) (
      ldS h1 (p2.add 4) fun x12 =>
      ifb (decide (i1 ≤ ((x12.n : Nat) : Int))) (
        ldS h1 (p2.add 4) fun x16 =>
        ixS x16 (IntKind.i64.wrap (i1 - 1)) fun q19 =>
        ldI .i64 h1 (q19.add (((IntKind.i64.wrap (i1 - 1)) : Int).toNat * 1)) fun x20 =>
        newS 3 #[Value.int .i64 x20] 1 h1 fun s21 h3 =>
        R (Value.slice s21.a s21.n s21.c) h3) (
        ldS h1 (p2.add 4) fun x24 =>
        ldS h1 (p2.add 5) fun x28 =>
        ifb (decide ((IntKind.i64.wrap (i1 - ((x24.n : Nat) : Int))) ≤ ((x28.n : Nat) : Int))) (
          ldS h1 (p2.add 5) fun x32 =>
          ldS h1 (p2.add 4) fun x35 =>
          ixS x32 (IntKind.i64.wrap ((IntKind.i64.wrap (i1 - ((x35.n : Nat) : Int))) - 1)) fun q39 =>
          ∃ (y40 : Int) (y40_1 : ByteArray) (y40_2 : Bool) (y40_3 : Int) (y40_4 : Sv) (y40_5 : Sv), cl h1 (q39.add (((IntKind.i64.wrap ((IntKind.i64.wrap (i1 - ((x35.n : Nat) : Int))) - 1)) : Int).toNat * 6)) = some (Value.int .i64 y40) ∧ cl h1 ((q39.add (((IntKind.i64.wrap ((IntKind.i64.wrap (i1 - ((x35.n : Nat) : Int))) - 1)) : Int).toNat * 6)).add 1) = some (Value.string y40_1) ∧ cl h1 ((q39.add (((IntKind.i64.wrap ((IntKind.i64.wrap (i1 - ((x35.n : Nat) : Int))) - 1)) : Int).toNat * 6)).add 2) = some (Value.bool y40_2) ∧ cl h1 ((q39.add (((IntKind.i64.wrap ((IntKind.i64.wrap (i1 - ((x35.n : Nat) : Int))) - 1)) : Int).toNat * 6)).add 3) = some (Value.int .i64 y40_3) ∧ cl h1 ((q39.add (((IntKind.i64.wrap ((IntKind.i64.wrap (i1 - ((x35.n : Nat) : Int))) - 1)) : Int).toNat * 6)).add 4) = some (Value.slice y40_4.a y40_4.n y40_4.c) ∧ cl h1 ((q39.add (((IntKind.i64.wrap ((IntKind.i64.wrap (i1 - ((x35.n : Nat) : Int))) - 1)) : Int).toNat * 6)).add 5) = some (Value.slice y40_5.a y40_5.n y40_5.c) ∧
          cal Try.prog 16 #[Value.agg #[Value.int .i64 y40, Value.string y40_1, Value.bool y40_2, Value.int .i64 y40_3, Value.slice y40_4.a y40_4.n y40_4.c, Value.slice y40_5.a y40_5.n y40_5.c]] h1 fun u h4 => asS u fun x41 =>
          R (Value.slice x41.a x41.n x41.c) h4) (
          R (Value.slice (⟨none, 0, 0⟩ : Sv).a (⟨none, 0, 0⟩ : Sv).n (⟨none, 0, 0⟩ : Sv).c) h1))))

set_option maxRecDepth 100000 in

theorem F31 {x0 x0_1 x0_2 x0_3 x0_4 x0_5 i1 h : _} {R : Value → Heap → Prop} (H : L31 x0 x0_1 x0_2 x0_3 x0_4 x0_5 i1 h R) : CallsH Try.prog 31 #[Value.agg #[Value.int .i64 x0, Value.string x0_1, Value.bool x0_2, Value.int .i64 x0_3, Value.slice x0_4.a x0_4.n x0_4.c, Value.slice x0_5.a x0_5.n x0_5.c], Value.int .i64 i1] h R := by
  refine CallsH.enter (n := 42) Try.func31 rfl rfl rfl rfl ?_
  intro w0 aa ww S
  unfold L31 at H
  refine W.seq ?_
  replace S := S.sub [(0, Value.agg #[Value.int .i64 x0, Value.string x0_1, Value.bool x0_2, Value.int .i64 x0_3, Value.slice x0_4.a x0_4.n x0_4.c, Value.slice x0_5.a x0_5.n x0_5.c]), (1, Value.int .i64 i1)] ⟨rfl, rfl, trivial⟩
  refine W.region ?_
  refine ol_box S H rfl rfl rfl trivial ?_
  clear S H aa; intro p2 aa ww h1 H S
  refine OL.pure S (Lf.run_assign (S.ev rfl)) rfl rfl trivial ?_
  clear S; intro aa S
  refine OL.nil ?_
  refine W.seq ?_
  refine W.seq ?_
  replace S := S.sub [(1, Value.int .i64 i1), (2, Value.pointer (some p2))] ⟨rfl, rfl, trivial⟩
  refine W.region ?_
  refine OL.pure S (Lf.run_move (S.ev rfl)) rfl rfl trivial ?_
  clear S; intro aa S
  refine OL.pure S (Lf.run_lss (S.ev rfl) (S.ev rfl)) rfl rfl trivial ?_
  clear S; intro aa S
  refine OL.nil ?_
  refine W.cond S (b := (decide (i1 < 0))) rfl (fun hb => ?_) (fun hb => ?_)
  · replace H := H.1 hb
    refine W.seq ?_
    replace S := S.sub [] trivial
    refine W.region ?_
    refine OL.pure S (Lf.run_assign (S.ev rfl)) rfl rfl trivial ?_
    clear S; intro aa S
    refine OL.nil ?_
    refine W.ret ?_
    exact Ret.one S rfl rfl H
  · replace H := H.2 hb
    refine W.skip ?_
    refine W.seq ?_
    refine W.seq ?_
    replace S := S.sub [(1, Value.int .i64 i1), (2, Value.pointer (some p2))] ⟨rfl, rfl, trivial⟩
    refine W.region ?_
    refine OL.pure S (Lf.run_move (S.ev rfl)) rfl rfl trivial ?_
    clear S; intro aa S
    refine OL.pure S (Lf.run_eql (S.ev rfl) (S.ev rfl)) rfl rfl trivial ?_
    clear S; intro aa S
    refine OL.nil ?_
    refine W.cond S (b := (i1 == 0)) rfl (fun hb_1 => ?_) (fun hb_1 => ?_)
    · replace H := H.1 hb_1
      refine W.seq ?_
      replace S := S.sub [] trivial
      refine W.region ?_
      refine ol_newS S H Try.underlying22 ti3 (by decide) (parts_map S rfl) (by kernel_rfl) (by decide) rfl trivial ?_
      clear S H aa; intro s9 aa ww h2 H S
      refine OL.pure S (Lf.run_assign (S.ev rfl)) rfl rfl trivial ?_
      clear S; intro aa S
      refine OL.nil ?_
      refine W.ret ?_
      exact Ret.one S rfl rfl H
    · replace H := H.2 hb_1
      refine W.skip ?_
      refine W.seq ?_
      refine W.seq ?_
      replace S := S.sub [(1, Value.int .i64 i1), (2, Value.pointer (some p2))] ⟨rfl, rfl, trivial⟩
      refine W.region ?_
      refine OL.pure S (Lf.run_move (S.ev rfl)) rfl rfl trivial ?_
      clear S; intro aa S
      refine OL.pure S (Lf.run_fa (S.ev rfl) fa25_4) rfl rfl trivial ?_
      clear S; intro aa S
      obtain ⟨x12, c, H⟩ := H
      refine OL.pure S (Lf.run_ld (S.ev rfl) fl22 (S.cl c)) rfl rfl trivial ?_
      clear S; intro aa S
      refine OL.pure S (Lf.run_lens (S.ev rfl) rfl Try.underlying22) rfl rfl trivial ?_
      clear S; intro aa S
      refine OL.pure S (Lf.run_leq (S.ev rfl) (S.ev rfl)) rfl rfl trivial ?_
      clear S; intro aa S
      refine OL.nil ?_
      refine W.cond S (b := (decide (i1 ≤ ((x12.n : Nat) : Int)))) rfl (fun hb_2 => ?_) (fun hb_2 => ?_)
      · replace H := H.1 hb_2
        refine W.seq ?_
        replace S := S.sub [(1, Value.int .i64 i1), (2, Value.pointer (some p2))] ⟨rfl, rfl, trivial⟩
        refine W.region ?_
        refine OL.pure S (Lf.run_fa (S.ev rfl) fa25_4) rfl rfl trivial ?_
        clear S; intro aa S
        obtain ⟨x16, c_1, H⟩ := H
        refine OL.pure S (Lf.run_ld (S.ev rfl) fl22 (S.cl c_1)) rfl rfl trivial ?_
        clear S; intro aa S
        refine OL.pure S (Lf.run_move (S.ev rfl)) rfl rfl trivial ?_
        clear S; intro aa S
        refine OL.pure S (Lf.run_sub (S.ev rfl) (S.ev rfl)) rfl rfl trivial ?_
        clear S; intro aa S
        obtain ⟨q19, e, e_1, e_2, H⟩ := H
        refine OL.pure S (Lf.run_ixs (S.ev rfl) (S.ev rfl) Try.underlying22 ti3 e e_1 e_2) rfl rfl trivial ?_
        clear S; intro aa S
        obtain ⟨x20, c_2, H⟩ := H
        refine OL.pure S (Lf.run_ld (S.ev rfl) fl3 (S.cl c_2)) rfl rfl trivial ?_
        clear S; intro aa S
        refine ol_newS S H Try.underlying22 ti3 (by decide) (parts_map S rfl) (by kernel_rfl) (by decide) rfl trivial ?_
        clear S H aa; intro s21 aa ww h3 H S
        refine OL.pure S (Lf.run_assign (S.ev rfl)) rfl rfl trivial ?_
        clear S; intro aa S
        refine OL.nil ?_
        refine W.ret ?_
        exact Ret.one S rfl rfl H
      · replace H := H.2 hb_2
        refine W.skip ?_
        refine W.seq ?_
        refine W.seq ?_
        replace S := S.sub [(1, Value.int .i64 i1), (2, Value.pointer (some p2))] ⟨rfl, rfl, trivial⟩
        refine W.region ?_
        refine OL.pure S (Lf.run_move (S.ev rfl)) rfl rfl trivial ?_
        clear S; intro aa S
        refine OL.pure S (Lf.run_fa (S.ev rfl) fa25_4) rfl rfl trivial ?_
        clear S; intro aa S
        obtain ⟨x24, c_3, H⟩ := H
        refine OL.pure S (Lf.run_ld (S.ev rfl) fl22 (S.cl c_3)) rfl rfl trivial ?_
        clear S; intro aa S
        refine OL.pure S (Lf.run_lens (S.ev rfl) rfl Try.underlying22) rfl rfl trivial ?_
        clear S; intro aa S
        refine OL.pure S (Lf.run_sub (S.ev rfl) (S.ev rfl)) rfl rfl trivial ?_
        clear S; intro aa S
        refine OL.pure S (Lf.run_fa (S.ev rfl) fa25_5) rfl rfl trivial ?_
        clear S; intro aa S
        obtain ⟨x28, c_4, H⟩ := H
        refine OL.pure S (Lf.run_ld (S.ev rfl) fl23 (S.cl c_4)) rfl rfl trivial ?_
        clear S; intro aa S
        refine OL.pure S (Lf.run_lens (S.ev rfl) rfl Try.underlying23) rfl rfl trivial ?_
        clear S; intro aa S
        refine OL.pure S (Lf.run_leq (S.ev rfl) (S.ev rfl)) rfl rfl trivial ?_
        clear S; intro aa S
        refine OL.nil ?_
        refine W.cond S (b := (decide ((IntKind.i64.wrap (i1 - ((x24.n : Nat) : Int))) ≤ ((x28.n : Nat) : Int)))) rfl (fun hb_3 => ?_) (fun hb_3 => ?_)
        · replace H := H.1 hb_3
          refine W.seq ?_
          replace S := S.sub [(1, Value.int .i64 i1), (2, Value.pointer (some p2))] ⟨rfl, rfl, trivial⟩
          refine W.region ?_
          refine OL.pure S (Lf.run_fa (S.ev rfl) fa25_5) rfl rfl trivial ?_
          clear S; intro aa S
          obtain ⟨x32, c_5, H⟩ := H
          refine OL.pure S (Lf.run_ld (S.ev rfl) fl23 (S.cl c_5)) rfl rfl trivial ?_
          clear S; intro aa S
          refine OL.pure S (Lf.run_move (S.ev rfl)) rfl rfl trivial ?_
          clear S; intro aa S
          refine OL.pure S (Lf.run_fa (S.ev rfl) fa25_4) rfl rfl trivial ?_
          clear S; intro aa S
          obtain ⟨x35, c_6, H⟩ := H
          refine OL.pure S (Lf.run_ld (S.ev rfl) fl22 (S.cl c_6)) rfl rfl trivial ?_
          clear S; intro aa S
          refine OL.pure S (Lf.run_lens (S.ev rfl) rfl Try.underlying22) rfl rfl trivial ?_
          clear S; intro aa S
          refine OL.pure S (Lf.run_sub (S.ev rfl) (S.ev rfl)) rfl rfl trivial ?_
          clear S; intro aa S
          refine OL.pure S (Lf.run_sub (S.ev rfl) (S.ev rfl)) rfl rfl trivial ?_
          clear S; intro aa S
          obtain ⟨q39, e_3, e_4, e_5, H⟩ := H
          refine OL.pure S (Lf.run_ixs (S.ev rfl) (S.ev rfl) Try.underlying23 ti25 e_3 e_4 e_5) rfl rfl trivial ?_
          clear S; intro aa S
          obtain ⟨y40, y40_1, y40_2, y40_3, y40_4, y40_5, c_8, c_9, c_10, c_11, c_12, c_13, H⟩ := H
          refine OL.pure S (Lf.run_ldA (cs := [Value.int .i64 y40, Value.string y40_1, Value.bool y40_2, Value.int .i64 y40_3, Value.slice y40_4.a y40_4.n y40_4.c, Value.slice y40_5.a y40_5.n y40_5.c]) (S.ev rfl) ag25 ti25 (by rw [S.heap]; exact RowL.toRow ⟨c_8, c_9, c_10, c_11, c_12, c_13, trivial⟩)) rfl rfl trivial ?_
          clear S; intro aa S
          refine ol_cal S H isfn16 rfl rfl trivial ?_
          clear S H aa; intro u aa ww h4 H S
          obtain ⟨x41, rfl, H⟩ := H
          refine OL.pure S (Lf.run_assign (S.ev rfl)) rfl rfl trivial ?_
          clear S; intro aa S
          refine OL.nil ?_
          refine W.ret ?_
          exact Ret.one S rfl rfl H
        · replace H := H.2 hb_3
          refine W.skip ?_
          refine W.seq ?_
          replace S := S.sub [] trivial
          refine W.region ?_
          refine OL.pure S (Lf.run_assign (S.ev rfl)) rfl rfl trivial ?_
          clear S; intro aa S
          refine OL.nil ?_
          refine W.ret ?_
          exact Ret.one S rfl rfl H

/-- chattel chattelref02.Dec -/
def L32 (n0 : Int) (h : Heap) (R : Value → Heap → Prop) : Prop :=
  cal Try.prog 44 #[Value.int .i64 n0] h fun u h1 => ∃ (x8 : Bool) (x8_1 : Int), u = Value.tuple #[Value.bool x8, Value.int .u64 x8_1] ∧
  ∃ (I : Int → ByteArray → Heap → Prop) (m : Int → ByteArray → Heap → Nat), I x8_1 (⟨#[]⟩ : ByteArray) h1 ∧ ∀ far4 s5 h2, I far4 s5 h2 →
  ifb (decide (10 ≤ far4)) (
    newS 5 #[Value.int .u8 (IntKind.u8.wrap ((IntKind.u8.wrap ((far4 : Int).tmod 10)) + 48))] 1 h2 fun s17 h3 =>
    cvT h3 s17 fun s18 =>
    ((s18.size : Nat) : Int) + ((s5.size : Nat) : Int) ≤ 9223372036854775807 ∧
    I (IntKind.u64.wrap ((far4 : Int).tdiv 10)) (s18 ++ s5) h3 ∧ m (IntKind.u64.wrap ((far4 : Int).tdiv 10)) (s18 ++ s5) h3 < m far4 s5 h2) (
    newS 5 #[Value.int .u8 (IntKind.u8.wrap ((IntKind.u8.wrap far4) + 48))] 1 h2 fun s26 h4 =>
    cvT h4 s26 fun s27 =>
    ((s27.size : Nat) : Int) + ((s5.size : Nat) : Int) ≤ 9223372036854775807 ∧
    ifb x8 (
      (((⟨#[45]⟩ : ByteArray).size : Nat) : Int) + (((s27 ++ s5).size : Nat) : Int) ≤ 9223372036854775807 ∧
      R (Value.string ((⟨#[45]⟩ : ByteArray) ++ (s27 ++ s5))) h4) (
      R (Value.string (s27 ++ s5)) h4))

set_option maxRecDepth 100000 in

theorem F32 {n0 h : _} {R : Value → Heap → Prop} (H : L32 n0 h R) : CallsH Try.prog 32 #[Value.int .i64 n0] h R := by
  refine CallsH.enter (n := 34) Try.func32 rfl rfl rfl rfl ?_
  intro w0 aa ww S
  unfold L32 at H
  refine W.seq ?_
  replace S := S.sub [(0, Value.int .i64 n0)] ⟨rfl, trivial⟩
  refine W.region ?_
  refine OL.pure S (Lf.run_assign (S.ev rfl)) rfl rfl trivial ?_
  clear S; intro aa S
  refine OL.nil ?_
  refine W.seq ?_
  replace S := S.sub [(0, Value.int .i64 n0)] ⟨rfl, trivial⟩
  refine W.region ?_
  refine OL.pure S (Lf.run_move (S.ev rfl)) rfl rfl trivial ?_
  clear S; intro aa S
  refine ol_cal S H isfn44 rfl rfl trivial ?_
  clear S H aa; intro u aa ww h1 H S
  obtain ⟨x8, x8_1, rfl, H⟩ := H
  refine OL.pure S (Lf.run_move (S.ev rfl)) rfl rfl trivial ?_
  clear S; intro aa S
  refine OL.pure S (Lf.run_ex (S.ev rfl) rfl) rfl rfl trivial ?_
  clear S; intro aa S
  refine OL.pure S (Lf.run_ex (S.ev rfl) rfl) rfl rfl trivial ?_
  clear S; intro aa S
  refine OL.pure S (Lf.run_assign (S.ev rfl)) rfl rfl trivial ?_
  clear S; intro aa S
  refine OL.pure S (Lf.run_assign (S.ev rfl)) rfl rfl trivial ?_
  clear S; intro aa S
  refine OL.nil ?_
  refine W.seq ?_
  replace S := S.sub [(3, Value.bool x8), (4, Value.int .u64 x8_1)] ⟨rfl, rfl, trivial⟩
  refine W.region ?_
  refine OL.pure S (Lf.run_assign (S.ev rfl)) rfl rfl trivial ?_
  clear S; intro aa S
  refine OL.nil ?_
  refine W.seq ?_
  refine W.block ?_
  obtain ⟨I, m, H, HB⟩ := H
  refine W.loopS (σ := Int × ByteArray × Heap) (fun s aa ww => St 34 [(3, Value.bool x8), (4, Value.int .u64 s.1), (5, Value.string s.2.1)] s.2.2 w0 aa ww ∧ I s.1 s.2.1 s.2.2) (fun s => m s.1 s.2.1 s.2.2) (x8_1, (⟨#[]⟩ : ByteArray), h1) ⟨S.sub _ ⟨rfl, rfl, rfl, trivial⟩, H⟩ ?_
  clear H S aa
  rintro ⟨far4, s5, h2⟩ aa ww ⟨S, HI⟩
  replace S : St 34 [(3, Value.bool x8), (4, Value.int .u64 far4), (5, Value.string s5)] h2 w0 aa ww := S
  have H := HB far4 s5 h2 HI
  clear HI
  refine W.seq ?_
  refine W.seq ?_
  replace S := S.sub [(3, Value.bool x8), (4, Value.int .u64 far4), (5, Value.string s5)] ⟨rfl, rfl, rfl, trivial⟩
  refine W.region ?_
  refine OL.pure S (Lf.run_move (S.ev rfl)) rfl rfl trivial ?_
  clear S; intro aa S
  refine OL.pure S (Lf.run_geq (S.ev rfl) (S.ev rfl)) rfl rfl trivial ?_
  clear S; intro aa S
  refine OL.nil ?_
  refine W.cond S (b := (decide (10 ≤ far4))) rfl (fun hb => ?_) (fun hb => ?_)
  · replace H := H.1 hb
    refine W.skip ?_
    refine W.block ?_
    refine W.seq ?_
    replace S := S.sub [(3, Value.bool x8), (4, Value.int .u64 far4), (5, Value.string s5)] ⟨rfl, rfl, rfl, trivial⟩
    refine W.region ?_
    refine OL.pure S (Lf.run_move (S.ev rfl)) rfl rfl trivial ?_
    clear S; intro aa S
    refine OL.pure S (Lf.run_rem (S.ev rfl) (S.ev rfl) (by decide)) rfl rfl trivial ?_
    clear S; intro aa S
    refine OL.pure S (Lf.run_cvi Try.underlying57 Try.underlying5 (S.ev rfl)) rfl rfl trivial ?_
    clear S; intro aa S
    refine OL.pure S (Lf.run_add (S.ev rfl) (S.ev rfl)) rfl rfl trivial ?_
    clear S; intro aa S
    refine ol_newS S H Try.underlying60 ti5 (by decide) (parts_map S rfl) (by kernel_rfl) (by decide) rfl trivial ?_
    clear S H aa; intro s17 aa ww h3 H S
    obtain ⟨bs, c, c_1, H⟩ := H
    refine OL.pure S (Lf.run_cvT Try.underlying60 Try.underlying9 Try.underlying5 (S.ev rfl) c (by rw [S.heap]; exact c_1)) rfl rfl trivial ?_
    clear S; intro aa S
    generalize (⟨bs.toArray⟩ : ByteArray) = s18 at H S
    refine OL.pure S (Lf.run_move (S.ev rfl)) rfl rfl trivial ?_
    clear S; intro aa S
    obtain ⟨c_2, H⟩ := H
    refine OL.pure S (Lf.run_addt (S.ev rfl) (S.ev rfl) c_2) rfl rfl trivial ?_
    clear S; intro aa S
    refine OL.pure S (Lf.run_assign (S.ev rfl)) rfl rfl trivial ?_
    clear S; intro aa S
    refine OL.nil ?_
    replace S := S.sub [(3, Value.bool x8), (4, Value.int .u64 far4), (5, Value.string (s18 ++ s5))] ⟨rfl, rfl, rfl, trivial⟩
    refine W.region ?_
    refine OL.pure S (Lf.run_move (S.ev rfl)) rfl rfl trivial ?_
    clear S; intro aa S
    refine OL.pure S (Lf.run_quo (S.ev rfl) (S.ev rfl) (by decide)) rfl rfl trivial ?_
    clear S; intro aa S
    refine OL.pure S (Lf.run_assign (S.ev rfl)) rfl rfl trivial ?_
    clear S; intro aa S
    refine OL.nil ?_
    exact ⟨((IntKind.u64.wrap ((far4 : Int).tdiv 10)), (s18 ++ s5), h3), ⟨S.sub _ ⟨rfl, rfl, rfl, trivial⟩, H.1⟩, H.2⟩
  · replace H := H.2 hb
    refine W.exit_ ?_
    refine xhit ?_
    refine W.seq ?_
    replace S := S.sub [(3, Value.bool x8), (4, Value.int .u64 far4), (5, Value.string s5)] ⟨rfl, rfl, rfl, trivial⟩
    refine W.region ?_
    refine OL.pure S (Lf.run_move (S.ev rfl)) rfl rfl trivial ?_
    clear S; intro aa S
    refine OL.pure S (Lf.run_cvi Try.underlying57 Try.underlying5 (S.ev rfl)) rfl rfl trivial ?_
    clear S; intro aa S
    refine OL.pure S (Lf.run_add (S.ev rfl) (S.ev rfl)) rfl rfl trivial ?_
    clear S; intro aa S
    refine ol_newS S H Try.underlying60 ti5 (by decide) (parts_map S rfl) (by kernel_rfl) (by decide) rfl trivial ?_
    clear S H aa; intro s26 aa ww h4 H S
    obtain ⟨bs_1, c_5, c_6, H⟩ := H
    refine OL.pure S (Lf.run_cvT Try.underlying60 Try.underlying9 Try.underlying5 (S.ev rfl) c_5 (by rw [S.heap]; exact c_6)) rfl rfl trivial ?_
    clear S; intro aa S
    generalize (⟨bs_1.toArray⟩ : ByteArray) = s27 at H S
    refine OL.pure S (Lf.run_move (S.ev rfl)) rfl rfl trivial ?_
    clear S; intro aa S
    obtain ⟨c_7, H⟩ := H
    refine OL.pure S (Lf.run_addt (S.ev rfl) (S.ev rfl) c_7) rfl rfl trivial ?_
    clear S; intro aa S
    refine OL.pure S (Lf.run_assign (S.ev rfl)) rfl rfl trivial ?_
    clear S; intro aa S
    refine OL.nil ?_
    refine W.seq ?_
    refine W.seq ?_
    replace S := S.sub [(3, Value.bool x8), (5, Value.string (s27 ++ s5))] ⟨rfl, rfl, trivial⟩
    refine W.region ?_
    refine OL.pure S (Lf.run_move (S.ev rfl)) rfl rfl trivial ?_
    clear S; intro aa S
    refine OL.nil ?_
    refine W.cond S (b := x8) rfl (fun hb_1 => ?_) (fun hb_1 => ?_)
    · replace H := H.1 hb_1
      refine W.seq ?_
      replace S := S.sub [(5, Value.string (s27 ++ s5))] ⟨rfl, trivial⟩
      refine W.region ?_
      refine OL.pure S (Lf.run_move (S.ev rfl)) rfl rfl trivial ?_
      clear S; intro aa S
      obtain ⟨c_8, H⟩ := H
      refine OL.pure S (Lf.run_addt (S.ev rfl) (S.ev rfl) c_8) rfl rfl trivial ?_
      clear S; intro aa S
      refine OL.pure S (Lf.run_assign (S.ev rfl)) rfl rfl trivial ?_
      clear S; intro aa S
      refine OL.nil ?_
      refine W.ret ?_
      exact Ret.one S rfl rfl H
    · replace H := H.2 hb_1
      refine W.skip ?_
      refine W.seq ?_
      replace S := S.sub [(5, Value.string (s27 ++ s5))] ⟨rfl, trivial⟩
      refine W.region ?_
      refine OL.pure S (Lf.run_move (S.ev rfl)) rfl rfl trivial ?_
      clear S; intro aa S
      refine OL.pure S (Lf.run_assign (S.ev rfl)) rfl rfl trivial ?_
      clear S; intro aa S
      refine OL.nil ?_
      refine W.ret ?_
      exact Ret.one S rfl rfl H

end Go.Proofs.Ytohlfkomjmjheaa

/- Lifted by program off the elaborated code: each Go function, read as a proposition over typed variables and the heap. -/
import Derived.Test.YtglhkodebehdbaaG0
namespace Go.Proofs.Ytglhkodebehdbaa
open Go Go.Lf
set_option linter.unusedVariables false

/-- chattel chattellaw15.FlowWays -/
def L3 (p0 : Sv) (p0_1 : Int) (p0_2 : Sv) (p0_3 : Sv) (p0_4 : Sv) (e1 : Int) (h : Heap) (R : Value → Heap → Prop) : Prop :=
  new 25 #[Value.slice p0.a p0.n p0.c, Value.int .i64 p0_1, Value.slice p0_2.a p0_2.n p0_2.c, Value.slice p0_3.a p0_3.n p0_3.c, Value.slice p0_4.a p0_4.n p0_4.c] h fun p2 h1 =>
  cal Try.prog 9 #[] h1 fun u h2 => asB u fun x14 =>
  ∃ J : Bool → Heap → Prop, (orj (!x14) (fun k =>
    ∃ (y17 : Sv) (y17_1 : Int) (y17_2 : Sv) (y17_3 : Sv) (y17_4 : Sv), cl h2 p2 = some (Value.slice y17.a y17.n y17.c) ∧ cl h2 (p2.add 1) = some (Value.int .i64 y17_1) ∧ cl h2 (p2.add 2) = some (Value.slice y17_2.a y17_2.n y17_2.c) ∧ cl h2 (p2.add 3) = some (Value.slice y17_3.a y17_3.n y17_3.c) ∧ cl h2 (p2.add 4) = some (Value.slice y17_4.a y17_4.n y17_4.c) ∧
    cal Try.prog 10 #[Value.agg #[Value.slice y17.a y17.n y17.c, Value.int .i64 y17_1, Value.slice y17_2.a y17_2.n y17_2.c, Value.slice y17_3.a y17_3.n y17_3.c, Value.slice y17_4.a y17_4.n y17_4.c]] h2 fun u_1 h4 => asB u_1 fun x18 =>
    k (!x18) h4) h2 J) ∧ ∀ x20 h3, J x20 h3 →
  ∃ J_1 : Bool → Prop, (orr x20 (fun k_1 =>
    ldS h3 p2 fun x23 =>
    k_1 (decide (7 < ((x23.n : Nat) : Int)))) J_1) ∧ ∀ x26, J_1 x26 →
  ∃ J_2 : Bool → Prop, (orr (x26 || (decide (e1 < 0))) (fun k_2 =>
    ldI .i64 h3 (p2.add 1) fun x34 =>
    k_2 (decide (x34 ≤ e1))) J_2) ∧ ∀ x36, J_2 x36 →
  ∃ J_3 : Bool → Heap → Prop, (orj x36 (fun k_3 =>
    ∃ (y38 : Sv) (y38_1 : Int) (y38_2 : Sv) (y38_3 : Sv) (y38_4 : Sv), cl h3 p2 = some (Value.slice y38.a y38.n y38.c) ∧ cl h3 (p2.add 1) = some (Value.int .i64 y38_1) ∧ cl h3 (p2.add 2) = some (Value.slice y38_2.a y38_2.n y38_2.c) ∧ cl h3 (p2.add 3) = some (Value.slice y38_3.a y38_3.n y38_3.c) ∧ cl h3 (p2.add 4) = some (Value.slice y38_4.a y38_4.n y38_4.c) ∧
    cal Try.prog 11 #[Value.agg #[Value.slice y38.a y38.n y38.c, Value.int .i64 y38_1, Value.slice y38_2.a y38_2.n y38_2.c, Value.slice y38_3.a y38_3.n y38_3.c, Value.slice y38_4.a y38_4.n y38_4.c]] h3 fun u_2 h6 => asI .i64 u_2 fun x39 =>
    k_3 (x39 != 0) h6) h3 J_3) ∧ ∀ x41 h5, J_3 x41 h5 →
  ifb x41 (
    cal Try.prog 9 #[] h5 fun u_3 h7 => asB u_3 fun x42 =>
    R (Value.bool x42) h7) (
    ∃ (I : Int → Prop) (m : Int → Nat), I 0 ∧ ∀ i5, I i5 →
    ldS h5 p2 fun x45 =>
    ifb (decide (i5 < ((x45.n : Nat) : Int))) (
      ldS h5 p2 fun x51 =>
      ixS x51 i5 fun q53 =>
      ldS h5 (q53.add ((i5 : Int).toNat * 1)) fun x54 =>
      ifb (decide (2 < ((x54.n : Nat) : Int))) (
        R (Value.bool true) h5) (
        I (IntKind.i64.wrap (i5 + 1)) ∧ m (IntKind.i64.wrap (i5 + 1)) < m i5)) (
      ∃ (y58 : Sv) (y58_1 : Int) (y58_2 : Sv) (y58_3 : Sv) (y58_4 : Sv), cl h5 p2 = some (Value.slice y58.a y58.n y58.c) ∧ cl h5 (p2.add 1) = some (Value.int .i64 y58_1) ∧ cl h5 (p2.add 2) = some (Value.slice y58_2.a y58_2.n y58_2.c) ∧ cl h5 (p2.add 3) = some (Value.slice y58_3.a y58_3.n y58_3.c) ∧ cl h5 (p2.add 4) = some (Value.slice y58_4.a y58_4.n y58_4.c) ∧
      cal Try.prog 12 #[Value.agg #[Value.slice y58.a y58.n y58.c, Value.int .i64 y58_1, Value.slice y58_2.a y58_2.n y58_2.c, Value.slice y58_3.a y58_3.n y58_3.c, Value.slice y58_4.a y58_4.n y58_4.c]] h5 fun u_4 h8 => asTup u_4 fun r59 =>
      elt r59 0 fun u_5 => asP u_5 fun x60 =>
      elt r59 1 fun u_6 => asI .i64 u_6 fun x61 =>
      ifb ((x61 != 0) || (Option.isNone x60)) (
        R (Value.bool false) h8) (
        ∃ (I_1 : Int → Heap → Prop) (m_1 : Int → Heap → Nat), I_1 0 h8 ∧ ∀ vto8 h9, I_1 vto8 h9 →
        ldS h9 p2 fun x70 =>
        ifb (decide (vto8 < ((x70.n : Nat) : Int))) (
          ∃ (I_2 : Bool → Int → Heap → Prop) (m_2 : Bool → Int → Heap → Nat), I_2 false 0 h9 ∧ ∀ vis9 k10 h10, I_2 vis9 k10 h10 →
          ldS h10 (p2.add 4) fun x77 =>
          ifb (decide (k10 < ((x77.n : Nat) : Int))) (
            ∃ J_4 : Bool → Heap → Prop, (orj vis9 (fun k_4 =>
              ldS h10 (p2.add 4) fun x85 =>
              ixS x85 k10 fun q87 =>
              ldI .i64 h10 (q87.add ((k10 : Int).toNat * 1)) fun x88 =>
              ∃ J_5 : Bool → Heap → Prop, (andj (x88 == e1) (fun k_5 =>
                ∃ (y92 : Sv) (y92_1 : Int) (y92_2 : Sv) (y92_3 : Sv) (y92_4 : Sv), cl h10 p2 = some (Value.slice y92.a y92.n y92.c) ∧ cl h10 (p2.add 1) = some (Value.int .i64 y92_1) ∧ cl h10 (p2.add 2) = some (Value.slice y92_2.a y92_2.n y92_2.c) ∧ cl h10 (p2.add 3) = some (Value.slice y92_3.a y92_3.n y92_3.c) ∧ cl h10 (p2.add 4) = some (Value.slice y92_4.a y92_4.n y92_4.c) ∧
                cal Try.prog 13 #[Value.agg #[Value.slice y92.a y92.n y92.c, Value.int .i64 y92_1, Value.slice y92_2.a y92_2.n y92_2.c, Value.slice y92_3.a y92_3.n y92_3.c, Value.slice y92_4.a y92_4.n y92_4.c], Value.int .i64 e1, Value.int .i64 0, Value.int .i64 vto8, Value.int .i64 7] h10 fun u_7 h13 => asB u_7 fun x95 =>
                k_5 x95 h13) h10 J_5) ∧ ∀ x96 h12, J_5 x96 h12 →
              k_4 x96 h12) h10 J_4) ∧ ∀ x97 h11, J_4 x97 h11 →
            I_2 x97 (IntKind.i64.wrap (k10 + 1)) h11 ∧ m_2 x97 (IntKind.i64.wrap (k10 + 1)) h11 < m_2 vis9 k10 h10) (
            ∃ (I_3 : Bool → Int → Heap → Prop) (m_3 : Bool → Int → Heap → Nat), I_3 vis9 0 h10 ∧ ∀ vis9_1 i11 h14, I_3 vis9_1 i11 h14 →
            ldS h14 (p2.add 2) fun x100 =>
            ifb (decide (i11 < ((x100.n : Nat) : Int))) (
              ∃ (I_4 : Bool → Int → Heap → Prop) (m_4 : Bool → Int → Heap → Nat), I_4 vis9_1 0 h14 ∧ ∀ vis9_2 k12 h15, I_4 vis9_2 k12 h15 →
              ldS h15 (p2.add 2) fun x107 =>
              ixS x107 i11 fun q109 =>
              ldS h15 (q109.add ((i11 : Int).toNat * 1)) fun x110 =>
              ifb (decide (k12 < ((x110.n : Nat) : Int))) (
                ∃ (I_5 : Bool → Int → Heap → Prop) (m_5 : Bool → Int → Heap → Nat), I_5 vis9_2 0 h15 ∧ ∀ vis9_3 j13 h16, I_5 vis9_3 j13 h16 →
                ldS h16 (p2.add 2) fun x116 =>
                ixS x116 i11 fun q118 =>
                ldS h16 (q118.add ((i11 : Int).toNat * 1)) fun x119 =>
                ixS x119 k12 fun q121 =>
                ldI .i64 h16 (q121.add ((k12 : Int).toNat * 1)) fun x122 =>
                ∃ J_6 : Bool → Prop, (andr (x122 == e1) (fun k_6 =>
                  ldS h16 p2 fun x128 =>
                  ixS x128 i11 fun q130 =>
                  ldS h16 (q130.add ((i11 : Int).toNat * 1)) fun x131 =>
                  k_6 (decide (j13 < ((x131.n : Nat) : Int)))) J_6) ∧ ∀ x134, J_6 x134 →
                ifb x134 (
                  ∃ J_7 : Bool → Heap → Prop, (
                    ifb vis9_3 (
                      J_7 true h16) (
                      ∃ (y139 : Sv) (y139_1 : Int) (y139_2 : Sv) (y139_3 : Sv) (y139_4 : Sv), cl h16 p2 = some (Value.slice y139.a y139.n y139.c) ∧ cl h16 (p2.add 1) = some (Value.int .i64 y139_1) ∧ cl h16 (p2.add 2) = some (Value.slice y139_2.a y139_2.n y139_2.c) ∧ cl h16 (p2.add 3) = some (Value.slice y139_3.a y139_3.n y139_3.c) ∧ cl h16 (p2.add 4) = some (Value.slice y139_4.a y139_4.n y139_4.c) ∧
                      ldS h16 p2 fun x142 =>
                      ixS x142 i11 fun q144 =>
                      ldS h16 (q144.add ((i11 : Int).toNat * 1)) fun x145 =>
                      ixS x145 j13 fun q147 =>
                      ldI .i64 h16 (q147.add ((j13 : Int).toNat * 1)) fun x148 =>
                      cal Try.prog 13 #[Value.agg #[Value.slice y139.a y139.n y139.c, Value.int .i64 y139_1, Value.slice y139_2.a y139_2.n y139_2.c, Value.slice y139_3.a y139_3.n y139_3.c, Value.slice y139_4.a y139_4.n y139_4.c], Value.int .i64 e1, Value.int .i64 x148, Value.int .i64 vto8, Value.int .i64 7] h16 fun u_8 h17 => asB u_8 fun x150 =>
                      J_7 x150 h17)) ∧ (∀ vis9_4 h18, J_7 vis9_4 h18 →
                  I_5 vis9_4 (IntKind.i64.wrap (j13 + 1)) h18 ∧ m_5 vis9_4 (IntKind.i64.wrap (j13 + 1)) h18 < m_5 vis9_3 j13 h16)) (
                  I_4 vis9_3 (IntKind.i64.wrap (k12 + 1)) h16 ∧ m_4 vis9_3 (IntKind.i64.wrap (k12 + 1)) h16 < m_4 vis9_2 k12 h15)) (
                I_3 vis9_2 (IntKind.i64.wrap (i11 + 1)) h15 ∧ m_3 vis9_2 (IntKind.i64.wrap (i11 + 1)) h15 < m_3 vis9_1 i11 h14)) (
              cal Try.prog 14 #[Value.pointer x60, Value.int .i64 vto8, Value.int .i64 e1] h14 fun u_9 h19 => asB u_9 fun x155 =>
              ifb (x155 != vis9_1) (
                R (Value.bool false) h19) (
                I_1 (IntKind.i64.wrap (vto8 + 1)) h19 ∧ m_1 (IntKind.i64.wrap (vto8 + 1)) h19 < m_1 vto8 h9)))) (
          R (Value.bool true) h9))))

set_option maxRecDepth 100000 in

theorem F3 {p0 p0_1 p0_2 p0_3 p0_4 e1 h : _} {R : Value → Heap → Prop} (H : L3 p0 p0_1 p0_2 p0_3 p0_4 e1 h R) : CallsH Try.prog 3 #[Value.agg #[Value.slice p0.a p0.n p0.c, Value.int .i64 p0_1, Value.slice p0_2.a p0_2.n p0_2.c, Value.slice p0_3.a p0_3.n p0_3.c, Value.slice p0_4.a p0_4.n p0_4.c], Value.int .i64 e1] h R := by
  refine CallsH.enter (n := 158) Try.func3 rfl rfl rfl rfl ?_
  intro w0 aa ww S
  unfold L3 at H
  refine W.seq ?_
  replace S := S.sub [(0, Value.agg #[Value.slice p0.a p0.n p0.c, Value.int .i64 p0_1, Value.slice p0_2.a p0_2.n p0_2.c, Value.slice p0_3.a p0_3.n p0_3.c, Value.slice p0_4.a p0_4.n p0_4.c]), (1, Value.int .i64 e1)] ⟨rfl, rfl, trivial⟩
  refine W.region ?_
  refine ol_box S H rfl rfl rfl trivial ?_
  clear S H aa; intro p2 aa ww h1 H S
  refine OL.pure S (Lf.run_assign (S.ev rfl)) rfl rfl trivial ?_
  clear S; intro aa S
  refine OL.nil ?_
  refine W.seq ?_
  refine W.seq ?_
  replace S := S.sub [(1, Value.int .i64 e1), (2, Value.pointer (some p2))] ⟨rfl, rfl, trivial⟩
  refine W.region ?_
  refine ol_cal S H isfn9 rfl rfl trivial ?_
  clear S H aa; intro u aa ww h2 H S
  obtain ⟨x14, rfl, H⟩ := H
  refine OL.pure S (Lf.run_not (S.ev rfl)) rfl rfl trivial ?_
  clear S; intro aa S
  refine OL.pure S (Lf.run_move (S.ev rfl)) rfl rfl trivial ?_
  clear S; intro aa S
  obtain ⟨J, H, HK⟩ := H
  refine OL.cutN 4 (fun aa ww => ∃ x20 h3, St 158 ((20, Value.bool x20) :: [(1, Value.int .i64 e1), (2, Value.pointer (some p2)), (14, Value.bool x14), (15, Value.bool (!x14)), (16, Value.bool (!x14))]) h3 w0 aa ww ∧ J x20 h3) ?_ ?_
  · rcases Bool.eq_false_or_eq_true (!x14) with hb | hb
    · replace H := H.1 hb
      refine OL.not S rfl rfl (GNo.mk rfl rfl hb) ?_
      clear S; intro aa S
      refine OL.not S rfl rfl (GNo.mk rfl rfl hb) ?_
      clear S; intro aa S
      refine OL.not S rfl rfl (GNo.mk rfl rfl hb) ?_
      clear S; intro aa S
      refine OL.pure S (Lf.run_pickT (S.ev rfl) hb (S.ev rfl)) rfl rfl trivial ?_
      clear S; intro aa S
      refine OL.nil ?_
      exact ⟨_, _, S.sub _ ⟨rfl, rfl, rfl, rfl, rfl, rfl, trivial⟩, H⟩
    · replace H := H.2 hb
      obtain ⟨y17, y17_1, y17_2, y17_3, y17_4, c_1, c_2, c_3, c_4, c_5, H⟩ := H
      refine OL.pure S (Lf.run_ldA (cs := [Value.slice y17.a y17.n y17.c, Value.int .i64 y17_1, Value.slice y17_2.a y17_2.n y17_2.c, Value.slice y17_3.a y17_3.n y17_3.c, Value.slice y17_4.a y17_4.n y17_4.c]) (S.ev rfl) ag25 ti25 (by rw [S.heap]; exact RowL.toRow ⟨c_1, c_2, c_3, c_4, c_5, trivial⟩)) rfl rfl (GOk.mk rfl rfl hb) ?_
      clear S; intro aa S
      refine ol_cal S H isfn10 rfl rfl (GOk.mk rfl rfl hb) ?_
      clear S H aa; intro u_1 aa ww h4 H S
      obtain ⟨x18, rfl, H⟩ := H
      refine OL.pure S (Lf.run_not (S.ev rfl)) rfl rfl (GOk.mk rfl rfl hb) ?_
      clear S; intro aa S
      refine OL.pure S (Lf.run_pickF (S.ev rfl) hb (S.ev rfl)) rfl rfl trivial ?_
      clear S; intro aa S
      refine OL.nil ?_
      exact ⟨_, _, S.sub _ ⟨rfl, rfl, rfl, rfl, rfl, rfl, trivial⟩, H⟩
  · clear S aa
    rintro aa ww ⟨x20, h3, S, HJ⟩
    replace H := HK _ _ HJ
    clear HK HJ
    refine OL.pure S (Lf.run_move (S.ev rfl)) rfl rfl trivial ?_
    clear S; intro aa S
    obtain ⟨J_1, H, HK_1⟩ := H
    refine OL.cutN 5 (fun aa ww => ∃ x26, St 158 ((26, Value.bool x26) :: [(1, Value.int .i64 e1), (2, Value.pointer (some p2)), (14, Value.bool x14), (15, Value.bool (!x14)), (16, Value.bool (!x14)), (20, Value.bool x20), (21, Value.bool x20)]) h3 w0 aa ww ∧ J_1 x26) ?_ ?_
    · rcases Bool.eq_false_or_eq_true x20 with hb_1 | hb_1
      · replace H := H.1 hb_1
        refine OL.not S rfl rfl (GNo.mk rfl rfl hb_1) ?_
        clear S; intro aa S
        refine OL.not S rfl rfl (GNo.mk rfl rfl hb_1) ?_
        clear S; intro aa S
        refine OL.not S rfl rfl (GNo.mk rfl rfl hb_1) ?_
        clear S; intro aa S
        refine OL.not S rfl rfl (GNo.mk rfl rfl hb_1) ?_
        clear S; intro aa S
        refine OL.pure S (Lf.run_pickT (S.ev rfl) hb_1 (S.ev rfl)) rfl rfl trivial ?_
        clear S; intro aa S
        refine OL.nil ?_
        exact ⟨_, S.sub _ ⟨rfl, rfl, rfl, rfl, rfl, rfl, rfl, rfl, trivial⟩, H⟩
      · replace H := H.2 hb_1
        refine OL.pure S (Lf.run_fa (S.ev rfl) fa25_0) rfl rfl (GOk.mk rfl rfl hb_1) ?_
        clear S; intro aa S
        obtain ⟨x23, c_6, H⟩ := H
        refine OL.pure S (Lf.run_ld (S.ev rfl) fl22 (S.cl c_6)) rfl rfl (GOk.mk rfl rfl hb_1) ?_
        clear S; intro aa S
        refine OL.pure S (Lf.run_lens (S.ev rfl) rfl Try.underlying22) rfl rfl (GOk.mk rfl rfl hb_1) ?_
        clear S; intro aa S
        refine OL.pure S (Lf.run_gtr (S.ev rfl) (S.ev rfl)) rfl rfl (GOk.mk rfl rfl hb_1) ?_
        clear S; intro aa S
        refine OL.pure S (Lf.run_pickF (S.ev rfl) hb_1 (S.ev rfl)) rfl rfl trivial ?_
        clear S; intro aa S
        refine OL.nil ?_
        exact ⟨_, S.sub _ ⟨rfl, rfl, rfl, rfl, rfl, rfl, rfl, rfl, trivial⟩, H⟩
    · clear S aa
      rintro aa ww ⟨x26, S, HJ⟩
      replace H := HK_1 _ HJ
      clear HK_1 HJ
      refine OL.pure S (Lf.run_move (S.ev rfl)) rfl rfl trivial ?_
      clear S; intro aa S
      refine OL.cutN 3 (fun aa ww => St 158 ((30, Value.bool (x26 || (decide (e1 < 0)))) :: [(1, Value.int .i64 e1), (2, Value.pointer (some p2)), (14, Value.bool x14), (15, Value.bool (!x14)), (16, Value.bool (!x14)), (20, Value.bool x20), (21, Value.bool x20), (26, Value.bool x26), (27, Value.bool x26)]) h3 w0 aa ww) ?_ ?_
      · rcases Bool.eq_false_or_eq_true x26 with hb_2 | hb_2
        · refine OL.not S rfl rfl (GNo.mk rfl rfl hb_2) ?_
          clear S; intro aa S
          refine OL.not S rfl rfl (GNo.mk rfl rfl hb_2) ?_
          clear S; intro aa S
          refine OL.pure S (Lf.run_pickT (S.ev rfl) hb_2 (S.ev rfl)) rfl rfl trivial ?_
          clear S; intro aa S
          refine OL.nil ?_
          exact (S.hd (by rw [hb_2, Bool.true_or])).sub _ ⟨rfl, rfl, rfl, rfl, rfl, rfl, rfl, rfl, rfl, rfl, trivial⟩
        · refine OL.pure S (Lf.run_move (S.ev rfl)) rfl rfl (GOk.mk rfl rfl hb_2) ?_
          clear S; intro aa S
          refine OL.pure S (Lf.run_lss (S.ev rfl) (S.ev rfl)) rfl rfl (GOk.mk rfl rfl hb_2) ?_
          clear S; intro aa S
          refine OL.pure S (Lf.run_pickF (S.ev rfl) hb_2 (S.ev rfl)) rfl rfl trivial ?_
          clear S; intro aa S
          refine OL.nil ?_
          exact (S.hd (by rw [hb_2, Bool.false_or])).sub _ ⟨rfl, rfl, rfl, rfl, rfl, rfl, rfl, rfl, rfl, rfl, trivial⟩
      · clear S aa
        intro aa ww S
        refine OL.pure S (Lf.run_move (S.ev rfl)) rfl rfl trivial ?_
        clear S; intro aa S
        obtain ⟨J_2, H, HK_2⟩ := H
        refine OL.cutN 5 (fun aa ww => ∃ x36, St 158 ((36, Value.bool x36) :: [(1, Value.int .i64 e1), (2, Value.pointer (some p2)), (14, Value.bool x14), (15, Value.bool (!x14)), (16, Value.bool (!x14)), (20, Value.bool x20), (21, Value.bool x20), (26, Value.bool x26), (27, Value.bool x26), (30, Value.bool (x26 || (decide (e1 < 0)))), (31, Value.bool (x26 || (decide (e1 < 0))))]) h3 w0 aa ww ∧ J_2 x36) ?_ ?_
        · rcases Bool.eq_false_or_eq_true (x26 || (decide (e1 < 0))) with hb_3 | hb_3
          · replace H := H.1 hb_3
            refine OL.not S rfl rfl (GNo.mk rfl rfl hb_3) ?_
            clear S; intro aa S
            refine OL.not S rfl rfl (GNo.mk rfl rfl hb_3) ?_
            clear S; intro aa S
            refine OL.not S rfl rfl (GNo.mk rfl rfl hb_3) ?_
            clear S; intro aa S
            refine OL.not S rfl rfl (GNo.mk rfl rfl hb_3) ?_
            clear S; intro aa S
            refine OL.pure S (Lf.run_pickT (S.ev rfl) hb_3 (S.ev rfl)) rfl rfl trivial ?_
            clear S; intro aa S
            refine OL.nil ?_
            exact ⟨_, S.sub _ ⟨rfl, rfl, rfl, rfl, rfl, rfl, rfl, rfl, rfl, rfl, rfl, rfl, trivial⟩, H⟩
          · replace H := H.2 hb_3
            refine OL.pure S (Lf.run_move (S.ev rfl)) rfl rfl (GOk.mk rfl rfl hb_3) ?_
            clear S; intro aa S
            refine OL.pure S (Lf.run_fa (S.ev rfl) fa25_1) rfl rfl (GOk.mk rfl rfl hb_3) ?_
            clear S; intro aa S
            obtain ⟨x34, c_7, H⟩ := H
            refine OL.pure S (Lf.run_ld (S.ev rfl) fl3 (S.cl c_7)) rfl rfl (GOk.mk rfl rfl hb_3) ?_
            clear S; intro aa S
            refine OL.pure S (Lf.run_geq (S.ev rfl) (S.ev rfl)) rfl rfl (GOk.mk rfl rfl hb_3) ?_
            clear S; intro aa S
            refine OL.pure S (Lf.run_pickF (S.ev rfl) hb_3 (S.ev rfl)) rfl rfl trivial ?_
            clear S; intro aa S
            refine OL.nil ?_
            exact ⟨_, S.sub _ ⟨rfl, rfl, rfl, rfl, rfl, rfl, rfl, rfl, rfl, rfl, rfl, rfl, trivial⟩, H⟩
        · clear S aa
          rintro aa ww ⟨x36, S, HJ⟩
          replace H := HK_2 _ HJ
          clear HK_2 HJ
          refine OL.pure S (Lf.run_move (S.ev rfl)) rfl rfl trivial ?_
          clear S; intro aa S
          obtain ⟨J_3, H, HK_3⟩ := H
          refine OL.cutN 4 (fun aa ww => ∃ x41 h5, St 158 ((41, Value.bool x41) :: [(1, Value.int .i64 e1), (2, Value.pointer (some p2)), (14, Value.bool x14), (15, Value.bool (!x14)), (16, Value.bool (!x14)), (20, Value.bool x20), (21, Value.bool x20), (26, Value.bool x26), (27, Value.bool x26), (30, Value.bool (x26 || (decide (e1 < 0)))), (31, Value.bool (x26 || (decide (e1 < 0)))), (36, Value.bool x36), (37, Value.bool x36)]) h5 w0 aa ww ∧ J_3 x41 h5) ?_ ?_
          · rcases Bool.eq_false_or_eq_true x36 with hb_4 | hb_4
            · replace H := H.1 hb_4
              refine OL.not S rfl rfl (GNo.mk rfl rfl hb_4) ?_
              clear S; intro aa S
              refine OL.not S rfl rfl (GNo.mk rfl rfl hb_4) ?_
              clear S; intro aa S
              refine OL.not S rfl rfl (GNo.mk rfl rfl hb_4) ?_
              clear S; intro aa S
              refine OL.pure S (Lf.run_pickT (S.ev rfl) hb_4 (S.ev rfl)) rfl rfl trivial ?_
              clear S; intro aa S
              refine OL.nil ?_
              exact ⟨_, _, S.sub _ ⟨rfl, rfl, rfl, rfl, rfl, rfl, rfl, rfl, rfl, rfl, rfl, rfl, rfl, rfl, trivial⟩, H⟩
            · replace H := H.2 hb_4
              obtain ⟨y38, y38_1, y38_2, y38_3, y38_4, c_9, c_10, c_11, c_12, c_13, H⟩ := H
              refine OL.pure S (Lf.run_ldA (cs := [Value.slice y38.a y38.n y38.c, Value.int .i64 y38_1, Value.slice y38_2.a y38_2.n y38_2.c, Value.slice y38_3.a y38_3.n y38_3.c, Value.slice y38_4.a y38_4.n y38_4.c]) (S.ev rfl) ag25 ti25 (by rw [S.heap]; exact RowL.toRow ⟨c_9, c_10, c_11, c_12, c_13, trivial⟩)) rfl rfl (GOk.mk rfl rfl hb_4) ?_
              clear S; intro aa S
              refine ol_cal S H isfn11 rfl rfl (GOk.mk rfl rfl hb_4) ?_
              clear S H aa; intro u_2 aa ww h6 H S
              obtain ⟨x39, rfl, H⟩ := H
              refine OL.pure S (Lf.run_neq (S.ev rfl) (S.ev rfl)) rfl rfl (GOk.mk rfl rfl hb_4) ?_
              clear S; intro aa S
              refine OL.pure S (Lf.run_pickF (S.ev rfl) hb_4 (S.ev rfl)) rfl rfl trivial ?_
              clear S; intro aa S
              refine OL.nil ?_
              exact ⟨_, _, S.sub _ ⟨rfl, rfl, rfl, rfl, rfl, rfl, rfl, rfl, rfl, rfl, rfl, rfl, rfl, rfl, trivial⟩, H⟩
          · clear S aa
            rintro aa ww ⟨x41, h5, S, HJ⟩
            replace H := HK_3 _ _ HJ
            clear HK_3 HJ
            refine OL.nil ?_
            refine W.cond S (b := x41) rfl (fun hb_5 => ?_) (fun hb_5 => ?_)
            · replace H := H.1 hb_5
              refine W.seq ?_
              replace S := S.sub [] trivial
              refine W.region ?_
              refine ol_cal S H isfn9 rfl rfl trivial ?_
              clear S H aa; intro u_3 aa ww h7 H S
              obtain ⟨x42, rfl, H⟩ := H
              refine OL.pure S (Lf.run_assign (S.ev rfl)) rfl rfl trivial ?_
              clear S; intro aa S
              refine OL.nil ?_
              refine W.ret ?_
              exact Ret.one S rfl rfl H
            · replace H := H.2 hb_5
              refine W.skip ?_
              refine W.seq ?_
              refine W.seq ?_
              replace S := S.sub [(1, Value.int .i64 e1), (2, Value.pointer (some p2))] ⟨rfl, rfl, trivial⟩
              refine W.region ?_
              refine OL.pure S (Lf.run_assign (S.ev rfl)) rfl rfl trivial ?_
              clear S; intro aa S
              refine OL.nil ?_
              refine W.block ?_
              obtain ⟨I, m, H, HB_5⟩ := H
              refine W.loopS (σ := Int) (fun s aa ww => St 158 [(1, Value.int .i64 e1), (2, Value.pointer (some p2)), (5, Value.int .i64 s)] h5 w0 aa ww ∧ I s) (fun s => m s) (0) ⟨S.sub _ ⟨rfl, rfl, rfl, trivial⟩, H⟩ ?_
              clear H S aa
              rintro i5 aa ww ⟨S, HI⟩
              replace S : St 158 [(1, Value.int .i64 e1), (2, Value.pointer (some p2)), (5, Value.int .i64 i5)] h5 w0 aa ww := S
              have H := HB_5 i5 HI
              clear HI
              refine W.seq ?_
              refine W.seq ?_
              replace S := S.sub [(1, Value.int .i64 e1), (2, Value.pointer (some p2)), (5, Value.int .i64 i5)] ⟨rfl, rfl, rfl, trivial⟩
              refine W.region ?_
              refine OL.pure S (Lf.run_move (S.ev rfl)) rfl rfl trivial ?_
              clear S; intro aa S
              refine OL.pure S (Lf.run_fa (S.ev rfl) fa25_0) rfl rfl trivial ?_
              clear S; intro aa S
              obtain ⟨x45, c_14, H⟩ := H
              refine OL.pure S (Lf.run_ld (S.ev rfl) fl22 (S.cl c_14)) rfl rfl trivial ?_
              clear S; intro aa S
              refine OL.pure S (Lf.run_lens (S.ev rfl) rfl Try.underlying22) rfl rfl trivial ?_
              clear S; intro aa S
              refine OL.pure S (Lf.run_lss (S.ev rfl) (S.ev rfl)) rfl rfl trivial ?_
              clear S; intro aa S
              refine OL.nil ?_
              refine W.cond S (b := (decide (i5 < ((x45.n : Nat) : Int)))) rfl (fun hb_6 => ?_) (fun hb_6 => ?_)
              · replace H := H.1 hb_6
                refine W.skip ?_
                refine W.seq ?_
                refine W.block ?_
                refine W.seq ?_
                replace S := S.sub [(1, Value.int .i64 e1), (2, Value.pointer (some p2)), (5, Value.int .i64 i5)] ⟨rfl, rfl, rfl, trivial⟩
                refine W.region ?_
                refine OL.pure S (Lf.run_fa (S.ev rfl) fa25_0) rfl rfl trivial ?_
                clear S; intro aa S
                obtain ⟨x51, c_15, H⟩ := H
                refine OL.pure S (Lf.run_ld (S.ev rfl) fl22 (S.cl c_15)) rfl rfl trivial ?_
                clear S; intro aa S
                refine OL.pure S (Lf.run_move (S.ev rfl)) rfl rfl trivial ?_
                clear S; intro aa S
                obtain ⟨q53, e, e_1, e_2, H⟩ := H
                refine OL.pure S (Lf.run_ixs (S.ev rfl) (S.ev rfl) Try.underlying22 ti23 e e_1 e_2) rfl rfl trivial ?_
                clear S; intro aa S
                obtain ⟨x54, c_16, H⟩ := H
                refine OL.pure S (Lf.run_ld (S.ev rfl) fl23 (S.cl c_16)) rfl rfl trivial ?_
                clear S; intro aa S
                refine OL.pure S (Lf.run_lens (S.ev rfl) rfl Try.underlying23) rfl rfl trivial ?_
                clear S; intro aa S
                refine OL.pure S (Lf.run_gtr (S.ev rfl) (S.ev rfl)) rfl rfl trivial ?_
                clear S; intro aa S
                refine OL.nil ?_
                refine W.cond S (b := (decide (2 < ((x54.n : Nat) : Int)))) rfl (fun hb_7 => ?_) (fun hb_7 => ?_)
                · replace H := H.1 hb_7
                  refine W.seq ?_
                  replace S := S.sub [] trivial
                  refine W.region ?_
                  refine OL.pure S (Lf.run_assign (S.ev rfl)) rfl rfl trivial ?_
                  clear S; intro aa S
                  refine OL.nil ?_
                  refine W.ret ?_
                  exact Ret.one S rfl rfl H
                · replace H := H.2 hb_7
                  refine W.skip ?_
                  replace S := S.sub [(1, Value.int .i64 e1), (2, Value.pointer (some p2)), (5, Value.int .i64 i5)] ⟨rfl, rfl, rfl, trivial⟩
                  refine W.region ?_
                  refine OL.pure S (Lf.run_move (S.ev rfl)) rfl rfl trivial ?_
                  clear S; intro aa S
                  refine OL.pure S (Lf.run_add (S.ev rfl) (S.ev rfl)) rfl rfl trivial ?_
                  clear S; intro aa S
                  refine OL.pure S (Lf.run_assign (S.ev rfl)) rfl rfl trivial ?_
                  clear S; intro aa S
                  refine OL.nil ?_
                  exact ⟨((IntKind.i64.wrap (i5 + 1))), ⟨S.sub _ ⟨rfl, rfl, rfl, trivial⟩, H.1⟩, H.2⟩
              · replace H := H.2 hb_6
                refine W.exit_ ?_
                refine xhit ?_
                refine W.seq ?_
                replace S := S.sub [(1, Value.int .i64 e1), (2, Value.pointer (some p2))] ⟨rfl, rfl, trivial⟩
                refine W.region ?_
                obtain ⟨y58, y58_1, y58_2, y58_3, y58_4, c_45, c_46, c_47, c_48, c_49, H⟩ := H
                refine OL.pure S (Lf.run_ldA (cs := [Value.slice y58.a y58.n y58.c, Value.int .i64 y58_1, Value.slice y58_2.a y58_2.n y58_2.c, Value.slice y58_3.a y58_3.n y58_3.c, Value.slice y58_4.a y58_4.n y58_4.c]) (S.ev rfl) ag25 ti25 (by rw [S.heap]; exact RowL.toRow ⟨c_45, c_46, c_47, c_48, c_49, trivial⟩)) rfl rfl trivial ?_
                clear S; intro aa S
                refine ol_cal S H isfn12 rfl rfl trivial ?_
                clear S H aa; intro u_4 aa ww h8 H S
                obtain ⟨r59, rfl, H⟩ := H
                refine OL.pure S (Lf.run_move (S.ev rfl)) rfl rfl trivial ?_
                clear S; intro aa S
                obtain ⟨u_5, e_3, x60, rfl, H⟩ := H
                refine OL.pure S (Lf.run_ex (S.ev rfl) e_3) rfl rfl trivial ?_
                clear S; intro aa S
                obtain ⟨u_6, e_4, x61, rfl, H⟩ := H
                refine OL.pure S (Lf.run_ex (S.ev rfl) e_4) rfl rfl trivial ?_
                clear S; intro aa S
                refine OL.pure S (Lf.run_assign (S.ev rfl)) rfl rfl trivial ?_
                clear S; intro aa S
                refine OL.pure S (Lf.run_assign (S.ev rfl)) rfl rfl trivial ?_
                clear S; intro aa S
                refine OL.nil ?_
                refine W.seq ?_
                refine W.seq ?_
                replace S := S.sub [(1, Value.int .i64 e1), (2, Value.pointer (some p2)), (6, Value.pointer x60), (7, Value.int .i64 x61)] ⟨rfl, rfl, rfl, rfl, trivial⟩
                refine W.region ?_
                refine OL.pure S (Lf.run_move (S.ev rfl)) rfl rfl trivial ?_
                clear S; intro aa S
                refine OL.pure S (Lf.run_neq (S.ev rfl) (S.ev rfl)) rfl rfl trivial ?_
                clear S; intro aa S
                refine OL.pure S (Lf.run_move (S.ev rfl)) rfl rfl trivial ?_
                clear S; intro aa S
                refine OL.cutN 3 (fun aa ww => St 158 ((67, Value.bool ((x61 != 0) || (Option.isNone x60))) :: [(1, Value.int .i64 e1), (2, Value.pointer (some p2)), (6, Value.pointer x60), (7, Value.int .i64 x61), (62, Value.int .i64 x61), (63, Value.bool (x61 != 0)), (64, Value.bool (x61 != 0))]) h8 w0 aa ww) ?_ ?_
                · rcases Bool.eq_false_or_eq_true (x61 != 0) with hb_8 | hb_8
                  · refine OL.not S rfl rfl (GNo.mk rfl rfl hb_8) ?_
                    clear S; intro aa S
                    refine OL.not S rfl rfl (GNo.mk rfl rfl hb_8) ?_
                    clear S; intro aa S
                    refine OL.pure S (Lf.run_pickT (S.ev rfl) hb_8 (S.ev rfl)) rfl rfl trivial ?_
                    clear S; intro aa S
                    refine OL.nil ?_
                    exact (S.hd (by rw [hb_8, Bool.true_or])).sub _ ⟨rfl, rfl, rfl, rfl, rfl, rfl, rfl, rfl, trivial⟩
                  · refine OL.pure S (Lf.run_move (S.ev rfl)) rfl rfl (GOk.mk rfl rfl hb_8) ?_
                    clear S; intro aa S
                    refine OL.pure S (Lf.run_eqlpn Try.underlying29 (S.ev rfl) (S.ev rfl)) rfl rfl (GOk.mk rfl rfl hb_8) ?_
                    clear S; intro aa S
                    refine OL.pure S (Lf.run_pickF (S.ev rfl) hb_8 (S.ev rfl)) rfl rfl trivial ?_
                    clear S; intro aa S
                    refine OL.nil ?_
                    exact (S.hd (by rw [hb_8, Bool.false_or])).sub _ ⟨rfl, rfl, rfl, rfl, rfl, rfl, rfl, rfl, trivial⟩
                · clear S aa
                  intro aa ww S
                  refine OL.nil ?_
                  refine W.cond S (b := ((x61 != 0) || (Option.isNone x60))) rfl (fun hb_9 => ?_) (fun hb_9 => ?_)
                  · replace H := H.1 hb_9
                    refine W.seq ?_
                    replace S := S.sub [] trivial
                    refine W.region ?_
                    refine OL.pure S (Lf.run_assign (S.ev rfl)) rfl rfl trivial ?_
                    clear S; intro aa S
                    refine OL.nil ?_
                    refine W.ret ?_
                    exact Ret.one S rfl rfl H
                  · replace H := H.2 hb_9
                    refine W.skip ?_
                    refine W.seq ?_
                    refine W.seq ?_
                    replace S := S.sub [(1, Value.int .i64 e1), (2, Value.pointer (some p2)), (6, Value.pointer x60)] ⟨rfl, rfl, rfl, trivial⟩
                    refine W.region ?_
                    refine OL.pure S (Lf.run_assign (S.ev rfl)) rfl rfl trivial ?_
                    clear S; intro aa S
                    refine OL.nil ?_
                    refine W.block ?_
                    obtain ⟨I_1, m_1, H, HB_4⟩ := H
                    refine W.loopS (σ := Int × Heap) (fun s aa ww => St 158 [(1, Value.int .i64 e1), (2, Value.pointer (some p2)), (6, Value.pointer x60), (8, Value.int .i64 s.1)] s.2 w0 aa ww ∧ I_1 s.1 s.2) (fun s => m_1 s.1 s.2) (0, h8) ⟨S.sub _ ⟨rfl, rfl, rfl, rfl, trivial⟩, H⟩ ?_
                    clear H S aa
                    rintro ⟨vto8, h9⟩ aa ww ⟨S, HI⟩
                    replace S : St 158 [(1, Value.int .i64 e1), (2, Value.pointer (some p2)), (6, Value.pointer x60), (8, Value.int .i64 vto8)] h9 w0 aa ww := S
                    have H := HB_4 vto8 h9 HI
                    clear HI
                    refine W.seq ?_
                    refine W.seq ?_
                    replace S := S.sub [(1, Value.int .i64 e1), (2, Value.pointer (some p2)), (6, Value.pointer x60), (8, Value.int .i64 vto8)] ⟨rfl, rfl, rfl, rfl, trivial⟩
                    refine W.region ?_
                    refine OL.pure S (Lf.run_move (S.ev rfl)) rfl rfl trivial ?_
                    clear S; intro aa S
                    refine OL.pure S (Lf.run_fa (S.ev rfl) fa25_0) rfl rfl trivial ?_
                    clear S; intro aa S
                    obtain ⟨x70, c_18, H⟩ := H
                    refine OL.pure S (Lf.run_ld (S.ev rfl) fl22 (S.cl c_18)) rfl rfl trivial ?_
                    clear S; intro aa S
                    refine OL.pure S (Lf.run_lens (S.ev rfl) rfl Try.underlying22) rfl rfl trivial ?_
                    clear S; intro aa S
                    refine OL.pure S (Lf.run_lss (S.ev rfl) (S.ev rfl)) rfl rfl trivial ?_
                    clear S; intro aa S
                    refine OL.nil ?_
                    refine W.cond S (b := (decide (vto8 < ((x70.n : Nat) : Int)))) rfl (fun hb_10 => ?_) (fun hb_10 => ?_)
                    · replace H := H.1 hb_10
                      refine W.skip ?_
                      refine W.seq ?_
                      refine W.block ?_
                      refine W.seq ?_
                      replace S := S.sub [(1, Value.int .i64 e1), (2, Value.pointer (some p2)), (6, Value.pointer x60), (8, Value.int .i64 vto8)] ⟨rfl, rfl, rfl, rfl, trivial⟩
                      refine W.region ?_
                      refine OL.pure S (Lf.run_assign (S.ev rfl)) rfl rfl trivial ?_
                      clear S; intro aa S
                      refine OL.nil ?_
                      refine W.seq ?_
                      refine W.seq ?_
                      replace S := S.sub [(1, Value.int .i64 e1), (2, Value.pointer (some p2)), (6, Value.pointer x60), (8, Value.int .i64 vto8), (9, Value.bool false)] ⟨rfl, rfl, rfl, rfl, rfl, trivial⟩
                      refine W.region ?_
                      refine OL.pure S (Lf.run_assign (S.ev rfl)) rfl rfl trivial ?_
                      clear S; intro aa S
                      refine OL.nil ?_
                      refine W.block ?_
                      obtain ⟨I_2, m_2, H, HB_3⟩ := H
                      refine W.loopS (σ := Bool × Int × Heap) (fun s aa ww => St 158 [(1, Value.int .i64 e1), (2, Value.pointer (some p2)), (6, Value.pointer x60), (8, Value.int .i64 vto8), (9, Value.bool s.1), (10, Value.int .i64 s.2.1)] s.2.2 w0 aa ww ∧ I_2 s.1 s.2.1 s.2.2) (fun s => m_2 s.1 s.2.1 s.2.2) (false, 0, h9) ⟨S.sub _ ⟨rfl, rfl, rfl, rfl, rfl, rfl, trivial⟩, H⟩ ?_
                      clear H S aa
                      rintro ⟨vis9, k10, h10⟩ aa ww ⟨S, HI⟩
                      replace S : St 158 [(1, Value.int .i64 e1), (2, Value.pointer (some p2)), (6, Value.pointer x60), (8, Value.int .i64 vto8), (9, Value.bool vis9), (10, Value.int .i64 k10)] h10 w0 aa ww := S
                      have H := HB_3 vis9 k10 h10 HI
                      clear HI
                      refine W.seq ?_
                      refine W.seq ?_
                      replace S := S.sub [(1, Value.int .i64 e1), (2, Value.pointer (some p2)), (6, Value.pointer x60), (8, Value.int .i64 vto8), (9, Value.bool vis9), (10, Value.int .i64 k10)] ⟨rfl, rfl, rfl, rfl, rfl, rfl, trivial⟩
                      refine W.region ?_
                      refine OL.pure S (Lf.run_move (S.ev rfl)) rfl rfl trivial ?_
                      clear S; intro aa S
                      refine OL.pure S (Lf.run_fa (S.ev rfl) fa25_4) rfl rfl trivial ?_
                      clear S; intro aa S
                      obtain ⟨x77, c_19, H⟩ := H
                      refine OL.pure S (Lf.run_ld (S.ev rfl) fl23 (S.cl c_19)) rfl rfl trivial ?_
                      clear S; intro aa S
                      refine OL.pure S (Lf.run_lens (S.ev rfl) rfl Try.underlying23) rfl rfl trivial ?_
                      clear S; intro aa S
                      refine OL.pure S (Lf.run_lss (S.ev rfl) (S.ev rfl)) rfl rfl trivial ?_
                      clear S; intro aa S
                      refine OL.nil ?_
                      refine W.cond S (b := (decide (k10 < ((x77.n : Nat) : Int)))) rfl (fun hb_11 => ?_) (fun hb_11 => ?_)
                      · replace H := H.1 hb_11
                        refine W.skip ?_
                        refine W.seq ?_
                        refine W.block ?_
                        replace S := S.sub [(1, Value.int .i64 e1), (2, Value.pointer (some p2)), (6, Value.pointer x60), (8, Value.int .i64 vto8), (9, Value.bool vis9), (10, Value.int .i64 k10)] ⟨rfl, rfl, rfl, rfl, rfl, rfl, trivial⟩
                        refine W.region ?_
                        refine OL.pure S (Lf.run_move (S.ev rfl)) rfl rfl trivial ?_
                        clear S; intro aa S
                        refine OL.pure S (Lf.run_move (S.ev rfl)) rfl rfl trivial ?_
                        clear S; intro aa S
                        obtain ⟨J_4, H, HK_4⟩ := H
                        refine OL.cutN 14 (fun aa ww => ∃ x97 h11, St 158 ((97, Value.bool x97) :: [(1, Value.int .i64 e1), (2, Value.pointer (some p2)), (6, Value.pointer x60), (8, Value.int .i64 vto8), (9, Value.bool vis9), (10, Value.int .i64 k10), (82, Value.bool vis9), (83, Value.bool vis9)]) h11 w0 aa ww ∧ J_4 x97 h11) ?_ ?_
                        · rcases Bool.eq_false_or_eq_true vis9 with hb_12 | hb_12
                          · replace H := H.1 hb_12
                            refine OL.not S rfl rfl (GNo.mk rfl rfl hb_12) ?_
                            clear S; intro aa S
                            refine OL.not S rfl rfl (GNo.mk rfl rfl hb_12) ?_
                            clear S; intro aa S
                            refine OL.not S rfl rfl (GNo.mk rfl rfl hb_12) ?_
                            clear S; intro aa S
                            refine OL.not S rfl rfl (GNo.mk rfl rfl hb_12) ?_
                            clear S; intro aa S
                            refine OL.not S rfl rfl (GNo.mk rfl rfl hb_12) ?_
                            clear S; intro aa S
                            refine OL.not S rfl rfl (GNo.mk rfl rfl hb_12) ?_
                            clear S; intro aa S
                            refine OL.not S rfl rfl (GNo.mk rfl rfl hb_12) ?_
                            clear S; intro aa S
                            refine OL.not S rfl rfl (GNo.mk rfl rfl hb_12) ?_
                            clear S; intro aa S
                            refine OL.not S rfl rfl (GNo.un rfl rfl) ?_
                            clear S; intro aa S
                            refine OL.not S rfl rfl (GNo.un rfl rfl) ?_
                            clear S; intro aa S
                            refine OL.not S rfl rfl (GNo.un rfl rfl) ?_
                            clear S; intro aa S
                            refine OL.not S rfl rfl (GNo.un rfl rfl) ?_
                            clear S; intro aa S
                            refine OL.not S rfl rfl (GNo.mk rfl rfl hb_12) ?_
                            clear S; intro aa S
                            refine OL.pure S (Lf.run_pickT (S.ev rfl) hb_12 (S.ev rfl)) rfl rfl trivial ?_
                            clear S; intro aa S
                            refine OL.nil ?_
                            exact ⟨_, _, S.sub _ ⟨rfl, rfl, rfl, rfl, rfl, rfl, rfl, rfl, rfl, trivial⟩, H⟩
                          · replace H := H.2 hb_12
                            refine OL.pure S (Lf.run_fa (S.ev rfl) fa25_4) rfl rfl (GOk.mk rfl rfl hb_12) ?_
                            clear S; intro aa S
                            obtain ⟨x85, c_20, H⟩ := H
                            refine OL.pure S (Lf.run_ld (S.ev rfl) fl23 (S.cl c_20)) rfl rfl (GOk.mk rfl rfl hb_12) ?_
                            clear S; intro aa S
                            refine OL.pure S (Lf.run_move (S.ev rfl)) rfl rfl (GOk.mk rfl rfl hb_12) ?_
                            clear S; intro aa S
                            obtain ⟨q87, e_5, e_6, e_7, H⟩ := H
                            refine OL.pure S (Lf.run_ixs (S.ev rfl) (S.ev rfl) Try.underlying23 ti3 e_5 e_6 e_7) rfl rfl (GOk.mk rfl rfl hb_12) ?_
                            clear S; intro aa S
                            obtain ⟨x88, c_21, H⟩ := H
                            refine OL.pure S (Lf.run_ld (S.ev rfl) fl3 (S.cl c_21)) rfl rfl (GOk.mk rfl rfl hb_12) ?_
                            clear S; intro aa S
                            refine OL.pure S (Lf.run_move (S.ev rfl)) rfl rfl (GOk.mk rfl rfl hb_12) ?_
                            clear S; intro aa S
                            refine OL.pure S (Lf.run_eql (S.ev rfl) (S.ev rfl)) rfl rfl (GOk.mk rfl rfl hb_12) ?_
                            clear S; intro aa S
                            refine OL.pure S (Lf.run_move (S.ev rfl)) rfl rfl (GOk.mk rfl rfl hb_12) ?_
                            clear S; intro aa S
                            obtain ⟨J_5, H, HK_5⟩ := H
                            refine OL.cutN 5 (fun aa ww => ∃ x96 h12, St 158 ((96, Value.bool x96) :: [(1, Value.int .i64 e1), (2, Value.pointer (some p2)), (6, Value.pointer x60), (8, Value.int .i64 vto8), (9, Value.bool vis9), (10, Value.int .i64 k10), (82, Value.bool vis9), (83, Value.bool vis9), (84, Value.pointer (some (p2.add 4))), (85, Value.slice x85.a x85.n x85.c), (86, Value.int .i64 k10), (87, Value.pointer (some (q87.add ((k10 : Int).toNat * 1)))), (88, Value.int .i64 x88), (89, Value.int .i64 e1), (90, Value.bool (x88 == e1)), (91, Value.bool (x88 == e1))]) h12 w0 aa ww ∧ J_5 x96 h12) ?_ ?_
                            · rcases Bool.eq_false_or_eq_true (x88 == e1) with hb_13 | hb_13
                              · replace H := H.1 hb_13
                                obtain ⟨y92, y92_1, y92_2, y92_3, y92_4, c_23, c_24, c_25, c_26, c_27, H⟩ := H
                                refine OL.pure S (Lf.run_ldA (cs := [Value.slice y92.a y92.n y92.c, Value.int .i64 y92_1, Value.slice y92_2.a y92_2.n y92_2.c, Value.slice y92_3.a y92_3.n y92_3.c, Value.slice y92_4.a y92_4.n y92_4.c]) (S.ev rfl) ag25 ti25 (by rw [S.heap]; exact RowL.toRow ⟨c_23, c_24, c_25, c_26, c_27, trivial⟩)) rfl rfl (GOk.mk rfl rfl hb_13) ?_
                                clear S; intro aa S
                                refine OL.pure S (Lf.run_move (S.ev rfl)) rfl rfl (GOk.mk rfl rfl hb_13) ?_
                                clear S; intro aa S
                                refine OL.pure S (Lf.run_move (S.ev rfl)) rfl rfl (GOk.mk rfl rfl hb_13) ?_
                                clear S; intro aa S
                                refine ol_cal S H isfn13 rfl rfl (GOk.mk rfl rfl hb_13) ?_
                                clear S H aa; intro u_7 aa ww h13 H S
                                obtain ⟨x95, rfl, H⟩ := H
                                refine OL.pure S (Lf.run_pickT (S.ev rfl) hb_13 (S.ev rfl)) rfl rfl (GOk.mk rfl rfl hb_12) ?_
                                clear S; intro aa S
                                refine OL.nil ?_
                                exact ⟨_, _, S.sub _ ⟨rfl, rfl, rfl, rfl, rfl, rfl, rfl, rfl, rfl, rfl, rfl, rfl, rfl, rfl, rfl, rfl, rfl, trivial⟩, H⟩
                              · replace H := H.2 hb_13
                                refine OL.not S rfl rfl (GNo.mk rfl rfl hb_13) ?_
                                clear S; intro aa S
                                refine OL.not S rfl rfl (GNo.mk rfl rfl hb_13) ?_
                                clear S; intro aa S
                                refine OL.not S rfl rfl (GNo.mk rfl rfl hb_13) ?_
                                clear S; intro aa S
                                refine OL.not S rfl rfl (GNo.mk rfl rfl hb_13) ?_
                                clear S; intro aa S
                                refine OL.pure S (Lf.run_pickF (S.ev rfl) hb_13 (S.ev rfl)) rfl rfl (GOk.mk rfl rfl hb_12) ?_
                                clear S; intro aa S
                                refine OL.nil ?_
                                exact ⟨_, _, S.sub _ ⟨rfl, rfl, rfl, rfl, rfl, rfl, rfl, rfl, rfl, rfl, rfl, rfl, rfl, rfl, rfl, rfl, rfl, trivial⟩, H⟩
                            · clear S aa
                              rintro aa ww ⟨x96, h12, S, HJ⟩
                              replace H := HK_5 _ _ HJ
                              clear HK_5 HJ
                              refine OL.pure S (Lf.run_pickF (S.ev rfl) hb_12 (S.ev rfl)) rfl rfl trivial ?_
                              clear S; intro aa S
                              refine OL.nil ?_
                              exact ⟨_, _, S.sub _ ⟨rfl, rfl, rfl, rfl, rfl, rfl, rfl, rfl, rfl, trivial⟩, H⟩
                        · clear S aa
                          rintro aa ww ⟨x97, h11, S, HJ⟩
                          replace H := HK_4 _ _ HJ
                          clear HK_4 HJ
                          refine OL.pure S (Lf.run_assign (S.ev rfl)) rfl rfl trivial ?_
                          clear S; intro aa S
                          refine OL.nil ?_
                          replace S := S.sub [(1, Value.int .i64 e1), (2, Value.pointer (some p2)), (6, Value.pointer x60), (8, Value.int .i64 vto8), (9, Value.bool x97), (10, Value.int .i64 k10)] ⟨rfl, rfl, rfl, rfl, rfl, rfl, trivial⟩
                          refine W.region ?_
                          refine OL.pure S (Lf.run_move (S.ev rfl)) rfl rfl trivial ?_
                          clear S; intro aa S
                          refine OL.pure S (Lf.run_add (S.ev rfl) (S.ev rfl)) rfl rfl trivial ?_
                          clear S; intro aa S
                          refine OL.pure S (Lf.run_assign (S.ev rfl)) rfl rfl trivial ?_
                          clear S; intro aa S
                          refine OL.nil ?_
                          exact ⟨(x97, (IntKind.i64.wrap (k10 + 1)), h11), ⟨S.sub _ ⟨rfl, rfl, rfl, rfl, rfl, rfl, trivial⟩, H.1⟩, H.2⟩
                      · replace H := H.2 hb_11
                        refine W.exit_ ?_
                        refine xhit ?_
                        refine W.seq ?_
                        refine W.seq ?_
                        replace S := S.sub [(1, Value.int .i64 e1), (2, Value.pointer (some p2)), (6, Value.pointer x60), (8, Value.int .i64 vto8), (9, Value.bool vis9)] ⟨rfl, rfl, rfl, rfl, rfl, trivial⟩
                        refine W.region ?_
                        refine OL.pure S (Lf.run_assign (S.ev rfl)) rfl rfl trivial ?_
                        clear S; intro aa S
                        refine OL.nil ?_
                        refine W.block ?_
                        obtain ⟨I_3, m_3, H, HB_2⟩ := H
                        refine W.loopS (σ := Bool × Int × Heap) (fun s aa ww => St 158 [(1, Value.int .i64 e1), (2, Value.pointer (some p2)), (6, Value.pointer x60), (8, Value.int .i64 vto8), (9, Value.bool s.1), (11, Value.int .i64 s.2.1)] s.2.2 w0 aa ww ∧ I_3 s.1 s.2.1 s.2.2) (fun s => m_3 s.1 s.2.1 s.2.2) (vis9, 0, h10) ⟨S.sub _ ⟨rfl, rfl, rfl, rfl, rfl, rfl, trivial⟩, H⟩ ?_
                        clear H S aa
                        rintro ⟨vis9_1, i11, h14⟩ aa ww ⟨S, HI⟩
                        replace S : St 158 [(1, Value.int .i64 e1), (2, Value.pointer (some p2)), (6, Value.pointer x60), (8, Value.int .i64 vto8), (9, Value.bool vis9_1), (11, Value.int .i64 i11)] h14 w0 aa ww := S
                        have H := HB_2 vis9_1 i11 h14 HI
                        clear HI
                        refine W.seq ?_
                        refine W.seq ?_
                        replace S := S.sub [(1, Value.int .i64 e1), (2, Value.pointer (some p2)), (6, Value.pointer x60), (8, Value.int .i64 vto8), (9, Value.bool vis9_1), (11, Value.int .i64 i11)] ⟨rfl, rfl, rfl, rfl, rfl, rfl, trivial⟩
                        refine W.region ?_
                        refine OL.pure S (Lf.run_move (S.ev rfl)) rfl rfl trivial ?_
                        clear S; intro aa S
                        refine OL.pure S (Lf.run_fa (S.ev rfl) fa25_2) rfl rfl trivial ?_
                        clear S; intro aa S
                        obtain ⟨x100, c_28, H⟩ := H
                        refine OL.pure S (Lf.run_ld (S.ev rfl) fl22 (S.cl c_28)) rfl rfl trivial ?_
                        clear S; intro aa S
                        refine OL.pure S (Lf.run_lens (S.ev rfl) rfl Try.underlying22) rfl rfl trivial ?_
                        clear S; intro aa S
                        refine OL.pure S (Lf.run_lss (S.ev rfl) (S.ev rfl)) rfl rfl trivial ?_
                        clear S; intro aa S
                        refine OL.nil ?_
                        refine W.cond S (b := (decide (i11 < ((x100.n : Nat) : Int)))) rfl (fun hb_14 => ?_) (fun hb_14 => ?_)
                        · replace H := H.1 hb_14
                          refine W.skip ?_
                          refine W.seq ?_
                          refine W.block ?_
                          refine W.seq ?_
                          replace S := S.sub [(1, Value.int .i64 e1), (2, Value.pointer (some p2)), (6, Value.pointer x60), (8, Value.int .i64 vto8), (9, Value.bool vis9_1), (11, Value.int .i64 i11)] ⟨rfl, rfl, rfl, rfl, rfl, rfl, trivial⟩
                          refine W.region ?_
                          refine OL.pure S (Lf.run_assign (S.ev rfl)) rfl rfl trivial ?_
                          clear S; intro aa S
                          refine OL.nil ?_
                          refine W.block ?_
                          obtain ⟨I_4, m_4, H, HB_1⟩ := H
                          refine W.loopS (σ := Bool × Int × Heap) (fun s aa ww => St 158 [(1, Value.int .i64 e1), (2, Value.pointer (some p2)), (6, Value.pointer x60), (8, Value.int .i64 vto8), (9, Value.bool s.1), (11, Value.int .i64 i11), (12, Value.int .i64 s.2.1)] s.2.2 w0 aa ww ∧ I_4 s.1 s.2.1 s.2.2) (fun s => m_4 s.1 s.2.1 s.2.2) (vis9_1, 0, h14) ⟨S.sub _ ⟨rfl, rfl, rfl, rfl, rfl, rfl, rfl, trivial⟩, H⟩ ?_
                          clear H S aa
                          rintro ⟨vis9_2, k12, h15⟩ aa ww ⟨S, HI⟩
                          replace S : St 158 [(1, Value.int .i64 e1), (2, Value.pointer (some p2)), (6, Value.pointer x60), (8, Value.int .i64 vto8), (9, Value.bool vis9_2), (11, Value.int .i64 i11), (12, Value.int .i64 k12)] h15 w0 aa ww := S
                          have H := HB_1 vis9_2 k12 h15 HI
                          clear HI
                          refine W.seq ?_
                          refine W.seq ?_
                          replace S := S.sub [(1, Value.int .i64 e1), (2, Value.pointer (some p2)), (6, Value.pointer x60), (8, Value.int .i64 vto8), (9, Value.bool vis9_2), (11, Value.int .i64 i11), (12, Value.int .i64 k12)] ⟨rfl, rfl, rfl, rfl, rfl, rfl, rfl, trivial⟩
                          refine W.region ?_
                          refine OL.pure S (Lf.run_move (S.ev rfl)) rfl rfl trivial ?_
                          clear S; intro aa S
                          refine OL.pure S (Lf.run_fa (S.ev rfl) fa25_2) rfl rfl trivial ?_
                          clear S; intro aa S
                          obtain ⟨x107, c_29, H⟩ := H
                          refine OL.pure S (Lf.run_ld (S.ev rfl) fl22 (S.cl c_29)) rfl rfl trivial ?_
                          clear S; intro aa S
                          refine OL.pure S (Lf.run_move (S.ev rfl)) rfl rfl trivial ?_
                          clear S; intro aa S
                          obtain ⟨q109, e_8, e_9, e_10, H⟩ := H
                          refine OL.pure S (Lf.run_ixs (S.ev rfl) (S.ev rfl) Try.underlying22 ti23 e_8 e_9 e_10) rfl rfl trivial ?_
                          clear S; intro aa S
                          obtain ⟨x110, c_30, H⟩ := H
                          refine OL.pure S (Lf.run_ld (S.ev rfl) fl23 (S.cl c_30)) rfl rfl trivial ?_
                          clear S; intro aa S
                          refine OL.pure S (Lf.run_lens (S.ev rfl) rfl Try.underlying23) rfl rfl trivial ?_
                          clear S; intro aa S
                          refine OL.pure S (Lf.run_lss (S.ev rfl) (S.ev rfl)) rfl rfl trivial ?_
                          clear S; intro aa S
                          refine OL.nil ?_
                          refine W.cond S (b := (decide (k12 < ((x110.n : Nat) : Int)))) rfl (fun hb_15 => ?_) (fun hb_15 => ?_)
                          · replace H := H.1 hb_15
                            refine W.skip ?_
                            refine W.seq ?_
                            refine W.block ?_
                            refine W.seq ?_
                            replace S := S.sub [(1, Value.int .i64 e1), (2, Value.pointer (some p2)), (6, Value.pointer x60), (8, Value.int .i64 vto8), (9, Value.bool vis9_2), (11, Value.int .i64 i11), (12, Value.int .i64 k12)] ⟨rfl, rfl, rfl, rfl, rfl, rfl, rfl, trivial⟩
                            refine W.region ?_
                            refine OL.pure S (Lf.run_assign (S.ev rfl)) rfl rfl trivial ?_
                            clear S; intro aa S
                            refine OL.nil ?_
                            refine W.block ?_
                            obtain ⟨I_5, m_5, H, HB⟩ := H
                            refine W.loopS (σ := Bool × Int × Heap) (fun s aa ww => St 158 [(1, Value.int .i64 e1), (2, Value.pointer (some p2)), (6, Value.pointer x60), (8, Value.int .i64 vto8), (9, Value.bool s.1), (11, Value.int .i64 i11), (12, Value.int .i64 k12), (13, Value.int .i64 s.2.1)] s.2.2 w0 aa ww ∧ I_5 s.1 s.2.1 s.2.2) (fun s => m_5 s.1 s.2.1 s.2.2) (vis9_2, 0, h15) ⟨S.sub _ ⟨rfl, rfl, rfl, rfl, rfl, rfl, rfl, rfl, trivial⟩, H⟩ ?_
                            clear H S aa
                            rintro ⟨vis9_3, j13, h16⟩ aa ww ⟨S, HI⟩
                            replace S : St 158 [(1, Value.int .i64 e1), (2, Value.pointer (some p2)), (6, Value.pointer x60), (8, Value.int .i64 vto8), (9, Value.bool vis9_3), (11, Value.int .i64 i11), (12, Value.int .i64 k12), (13, Value.int .i64 j13)] h16 w0 aa ww := S
                            have H := HB vis9_3 j13 h16 HI
                            clear HI
                            refine W.seq ?_
                            refine W.seq ?_
                            replace S := S.sub [(1, Value.int .i64 e1), (2, Value.pointer (some p2)), (6, Value.pointer x60), (8, Value.int .i64 vto8), (9, Value.bool vis9_3), (11, Value.int .i64 i11), (12, Value.int .i64 k12), (13, Value.int .i64 j13)] ⟨rfl, rfl, rfl, rfl, rfl, rfl, rfl, rfl, trivial⟩
                            refine W.region ?_
                            refine OL.pure S (Lf.run_fa (S.ev rfl) fa25_2) rfl rfl trivial ?_
                            clear S; intro aa S
                            obtain ⟨x116, c_31, H⟩ := H
                            refine OL.pure S (Lf.run_ld (S.ev rfl) fl22 (S.cl c_31)) rfl rfl trivial ?_
                            clear S; intro aa S
                            refine OL.pure S (Lf.run_move (S.ev rfl)) rfl rfl trivial ?_
                            clear S; intro aa S
                            obtain ⟨q118, e_11, e_12, e_13, H⟩ := H
                            refine OL.pure S (Lf.run_ixs (S.ev rfl) (S.ev rfl) Try.underlying22 ti23 e_11 e_12 e_13) rfl rfl trivial ?_
                            clear S; intro aa S
                            obtain ⟨x119, c_32, H⟩ := H
                            refine OL.pure S (Lf.run_ld (S.ev rfl) fl23 (S.cl c_32)) rfl rfl trivial ?_
                            clear S; intro aa S
                            refine OL.pure S (Lf.run_move (S.ev rfl)) rfl rfl trivial ?_
                            clear S; intro aa S
                            obtain ⟨q121, e_14, e_15, e_16, H⟩ := H
                            refine OL.pure S (Lf.run_ixs (S.ev rfl) (S.ev rfl) Try.underlying23 ti3 e_14 e_15 e_16) rfl rfl trivial ?_
                            clear S; intro aa S
                            obtain ⟨x122, c_33, H⟩ := H
                            refine OL.pure S (Lf.run_ld (S.ev rfl) fl3 (S.cl c_33)) rfl rfl trivial ?_
                            clear S; intro aa S
                            refine OL.pure S (Lf.run_move (S.ev rfl)) rfl rfl trivial ?_
                            clear S; intro aa S
                            refine OL.pure S (Lf.run_eql (S.ev rfl) (S.ev rfl)) rfl rfl trivial ?_
                            clear S; intro aa S
                            refine OL.pure S (Lf.run_move (S.ev rfl)) rfl rfl trivial ?_
                            clear S; intro aa S
                            obtain ⟨J_6, H, HK_6⟩ := H
                            refine OL.cutN 9 (fun aa ww => ∃ x134, St 158 ((134, Value.bool x134) :: [(1, Value.int .i64 e1), (2, Value.pointer (some p2)), (6, Value.pointer x60), (8, Value.int .i64 vto8), (9, Value.bool vis9_3), (11, Value.int .i64 i11), (12, Value.int .i64 k12), (13, Value.int .i64 j13), (115, Value.pointer (some (p2.add 2))), (116, Value.slice x116.a x116.n x116.c), (117, Value.int .i64 i11), (118, Value.pointer (some (q118.add ((i11 : Int).toNat * 1)))), (119, Value.slice x119.a x119.n x119.c), (120, Value.int .i64 k12), (121, Value.pointer (some (q121.add ((k12 : Int).toNat * 1)))), (122, Value.int .i64 x122), (123, Value.int .i64 e1), (124, Value.bool (x122 == e1)), (125, Value.bool (x122 == e1))]) h16 w0 aa ww ∧ J_6 x134) ?_ ?_
                            · rcases Bool.eq_false_or_eq_true (x122 == e1) with hb_16 | hb_16
                              · replace H := H.1 hb_16
                                refine OL.pure S (Lf.run_move (S.ev rfl)) rfl rfl (GOk.mk rfl rfl hb_16) ?_
                                clear S; intro aa S
                                refine OL.pure S (Lf.run_fa (S.ev rfl) fa25_0) rfl rfl (GOk.mk rfl rfl hb_16) ?_
                                clear S; intro aa S
                                obtain ⟨x128, c_34, H⟩ := H
                                refine OL.pure S (Lf.run_ld (S.ev rfl) fl22 (S.cl c_34)) rfl rfl (GOk.mk rfl rfl hb_16) ?_
                                clear S; intro aa S
                                refine OL.pure S (Lf.run_move (S.ev rfl)) rfl rfl (GOk.mk rfl rfl hb_16) ?_
                                clear S; intro aa S
                                obtain ⟨q130, e_17, e_18, e_19, H⟩ := H
                                refine OL.pure S (Lf.run_ixs (S.ev rfl) (S.ev rfl) Try.underlying22 ti23 e_17 e_18 e_19) rfl rfl (GOk.mk rfl rfl hb_16) ?_
                                clear S; intro aa S
                                obtain ⟨x131, c_35, H⟩ := H
                                refine OL.pure S (Lf.run_ld (S.ev rfl) fl23 (S.cl c_35)) rfl rfl (GOk.mk rfl rfl hb_16) ?_
                                clear S; intro aa S
                                refine OL.pure S (Lf.run_lens (S.ev rfl) rfl Try.underlying23) rfl rfl (GOk.mk rfl rfl hb_16) ?_
                                clear S; intro aa S
                                refine OL.pure S (Lf.run_lss (S.ev rfl) (S.ev rfl)) rfl rfl (GOk.mk rfl rfl hb_16) ?_
                                clear S; intro aa S
                                refine OL.pure S (Lf.run_pickT (S.ev rfl) hb_16 (S.ev rfl)) rfl rfl trivial ?_
                                clear S; intro aa S
                                refine OL.nil ?_
                                exact ⟨_, S.sub _ ⟨rfl, rfl, rfl, rfl, rfl, rfl, rfl, rfl, rfl, rfl, rfl, rfl, rfl, rfl, rfl, rfl, rfl, rfl, rfl, rfl, trivial⟩, H⟩
                              · replace H := H.2 hb_16
                                refine OL.not S rfl rfl (GNo.mk rfl rfl hb_16) ?_
                                clear S; intro aa S
                                refine OL.not S rfl rfl (GNo.mk rfl rfl hb_16) ?_
                                clear S; intro aa S
                                refine OL.not S rfl rfl (GNo.mk rfl rfl hb_16) ?_
                                clear S; intro aa S
                                refine OL.not S rfl rfl (GNo.mk rfl rfl hb_16) ?_
                                clear S; intro aa S
                                refine OL.not S rfl rfl (GNo.mk rfl rfl hb_16) ?_
                                clear S; intro aa S
                                refine OL.not S rfl rfl (GNo.mk rfl rfl hb_16) ?_
                                clear S; intro aa S
                                refine OL.not S rfl rfl (GNo.mk rfl rfl hb_16) ?_
                                clear S; intro aa S
                                refine OL.not S rfl rfl (GNo.mk rfl rfl hb_16) ?_
                                clear S; intro aa S
                                refine OL.pure S (Lf.run_pickF (S.ev rfl) hb_16 (S.ev rfl)) rfl rfl trivial ?_
                                clear S; intro aa S
                                refine OL.nil ?_
                                exact ⟨_, S.sub _ ⟨rfl, rfl, rfl, rfl, rfl, rfl, rfl, rfl, rfl, rfl, rfl, rfl, rfl, rfl, rfl, rfl, rfl, rfl, rfl, rfl, trivial⟩, H⟩
                            · clear S aa
                              rintro aa ww ⟨x134, S, HJ⟩
                              replace H := HK_6 _ HJ
                              clear HK_6 HJ
                              refine OL.nil ?_
                              refine W.cond S (b := x134) rfl (fun hb_17 => ?_) (fun hb_17 => ?_)
                              · replace H := H.1 hb_17
                                refine W.skip ?_
                                refine W.seq ?_
                                refine W.block ?_
                                replace S := S.sub [(1, Value.int .i64 e1), (2, Value.pointer (some p2)), (6, Value.pointer x60), (8, Value.int .i64 vto8), (9, Value.bool vis9_3), (11, Value.int .i64 i11), (12, Value.int .i64 k12), (13, Value.int .i64 j13)] ⟨rfl, rfl, rfl, rfl, rfl, rfl, rfl, rfl, trivial⟩
                                obtain ⟨J_7, H, HK_7⟩ := H
                                refine W.mono (N' := fun aa ww => ∃ vis9_4 h18, St 158 [(1, Value.int .i64 e1), (2, Value.pointer (some p2)), (6, Value.pointer x60), (8, Value.int .i64 vto8), (9, Value.bool vis9_4), (11, Value.int .i64 i11), (12, Value.int .i64 k12), (13, Value.int .i64 j13)] h18 w0 aa ww ∧ J_7 vis9_4 h18) ?_ ?_
                                · refine W.regionD S (by kernel_rfl) ?_
                                  clear S; intro ww S
                                  refine AN.pure 0 S rfl (by kernel_rfl) (fun _ => Lf.run_move (S.ev rfl)) rfl rfl trivial ?_
                                  clear S; intro aa S
                                  refine AN.pure 1 S rfl (by kernel_rfl) (fun _ => Lf.run_move (S.ev rfl)) rfl rfl trivial ?_
                                  clear S; intro aa S
                                  rcases Bool.eq_false_or_eq_true vis9_3 with hb_18 | hb_18
                                  · replace H := H.1 hb_18
                                    refine AN.not 2 S rfl (by kernel_rfl) rfl rfl (GNo.mk rfl rfl hb_18) ?_
                                    clear S; intro aa S
                                    refine AN.not 3 S rfl (by kernel_rfl) rfl rfl (GNo.mk rfl rfl hb_18) ?_
                                    clear S; intro aa S
                                    refine AN.not 4 S rfl (by kernel_rfl) rfl rfl (GNo.mk rfl rfl hb_18) ?_
                                    clear S; intro aa S
                                    refine AN.not 5 S rfl (by kernel_rfl) rfl rfl (GNo.mk rfl rfl hb_18) ?_
                                    clear S; intro aa S
                                    refine AN.not 6 S rfl (by kernel_rfl) rfl rfl (GNo.mk rfl rfl hb_18) ?_
                                    clear S; intro aa S
                                    refine AN.not 7 S rfl (by kernel_rfl) rfl rfl (GNo.mk rfl rfl hb_18) ?_
                                    clear S; intro aa S
                                    refine AN.not 8 S rfl (by kernel_rfl) rfl rfl (GNo.mk rfl rfl hb_18) ?_
                                    clear S; intro aa S
                                    refine AN.not 9 S rfl (by kernel_rfl) rfl rfl (GNo.mk rfl rfl hb_18) ?_
                                    clear S; intro aa S
                                    refine AN.not 10 S rfl (by kernel_rfl) rfl rfl (GNo.mk rfl rfl hb_18) ?_
                                    clear S; intro aa S
                                    refine AN.not 11 S rfl (by kernel_rfl) rfl rfl (GNo.mk rfl rfl hb_18) ?_
                                    clear S; intro aa S
                                    refine AN.not 12 S rfl (by kernel_rfl) rfl rfl (GNo.mk rfl rfl hb_18) ?_
                                    clear S; intro aa S
                                    refine AN.not 13 S rfl (by kernel_rfl) rfl rfl (GNo.mk rfl rfl hb_18) ?_
                                    clear S; intro aa S
                                    refine AN.pure 14 S rfl (by kernel_rfl) (fun _ => run_pickT (S.ev rfl) hb_18 (S.ev rfl)) rfl rfl trivial ?_
                                    clear S; intro aa S
                                    refine AN.pure 15 S rfl (by kernel_rfl) (fun _ => Lf.run_assign (S.ev rfl)) rfl rfl trivial ?_
                                    clear S; intro aa S
                                    refine AN.done (by kernel_rfl) ?_
                                    exact ⟨true, h16, S.sub _ ⟨rfl, rfl, rfl, rfl, rfl, rfl, rfl, rfl, trivial⟩, H⟩
                                  · replace H := H.2 hb_18
                                    obtain ⟨y139, y139_1, y139_2, y139_3, y139_4, c_40, c_41, c_42, c_43, c_44, H⟩ := H
                                    refine AN.load 2 S rfl (by kernel_rfl) (fun _ hx => Lf.run_ldA (cs := [Value.slice y139.a y139.n y139.c, Value.int .i64 y139_1, Value.slice y139_2.a y139_2.n y139_2.c, Value.slice y139_3.a y139_3.n y139_3.c, Value.slice y139_4.a y139_4.n y139_4.c]) (S.ev rfl) ag25 ti25 (hx.row (S.row ⟨c_40, c_41, c_42, c_43, c_44, trivial⟩))) rfl rfl (GOk.mk rfl rfl hb_18) ?_
                                    clear S; intro aa S
                                    refine AN.pure 3 S rfl (by kernel_rfl) (fun _ => Lf.run_move (S.ev rfl)) rfl rfl (GOk.mk rfl rfl hb_18) ?_
                                    clear S; intro aa S
                                    refine AN.pure 4 S rfl (by kernel_rfl) (fun _ => Lf.run_fa (S.ev rfl) fa25_0) rfl rfl (GOk.mk rfl rfl hb_18) ?_
                                    clear S; intro aa S
                                    obtain ⟨x142, c_37, H⟩ := H
                                    refine AN.load 5 S rfl (by kernel_rfl) (fun _ hx => Lf.run_ld (S.ev rfl) fl22 (hx.cell _ _ (S.cl c_37))) rfl rfl (GOk.mk rfl rfl hb_18) ?_
                                    clear S; intro aa S
                                    refine AN.pure 6 S rfl (by kernel_rfl) (fun _ => Lf.run_move (S.ev rfl)) rfl rfl (GOk.mk rfl rfl hb_18) ?_
                                    clear S; intro aa S
                                    obtain ⟨q144, e_20, e_21, e_22, H⟩ := H
                                    refine AN.pure 7 S rfl (by kernel_rfl) (fun _ => Lf.run_ixs (S.ev rfl) (S.ev rfl) Try.underlying22 ti23 e_20 e_21 e_22) rfl rfl (GOk.mk rfl rfl hb_18) ?_
                                    clear S; intro aa S
                                    obtain ⟨x145, c_38, H⟩ := H
                                    refine AN.load 8 S rfl (by kernel_rfl) (fun _ hx => Lf.run_ld (S.ev rfl) fl23 (hx.cell _ _ (S.cl c_38))) rfl rfl (GOk.mk rfl rfl hb_18) ?_
                                    clear S; intro aa S
                                    refine AN.pure 9 S rfl (by kernel_rfl) (fun _ => Lf.run_move (S.ev rfl)) rfl rfl (GOk.mk rfl rfl hb_18) ?_
                                    clear S; intro aa S
                                    obtain ⟨q147, e_23, e_24, e_25, H⟩ := H
                                    refine AN.pure 10 S rfl (by kernel_rfl) (fun _ => Lf.run_ixs (S.ev rfl) (S.ev rfl) Try.underlying23 ti3 e_23 e_24 e_25) rfl rfl (GOk.mk rfl rfl hb_18) ?_
                                    clear S; intro aa S
                                    obtain ⟨x148, c_39, H⟩ := H
                                    refine AN.load 11 S rfl (by kernel_rfl) (fun _ hx => Lf.run_ld (S.ev rfl) fl3 (hx.cell _ _ (S.cl c_39))) rfl rfl (GOk.mk rfl rfl hb_18) ?_
                                    clear S; intro aa S
                                    refine AN.pure 12 S rfl (by kernel_rfl) (fun _ => Lf.run_move (S.ev rfl)) rfl rfl (GOk.mk rfl rfl hb_18) ?_
                                    clear S; intro aa S
                                    refine AN.eff 13 rfl (by kernel_rfl) ?_
                                    refine ol_cal S H isfn13 rfl rfl (GOk.mk rfl rfl hb_18) ?_
                                    clear S H aa; intro u_8 aa ww h17 H S
                                    obtain ⟨x150, rfl, H⟩ := H
                                    refine OL.nil ?_
                                    refine AN.pure 14 S rfl (by kernel_rfl) (fun _ => run_pickF (S.ev rfl) hb_18 (S.ev rfl)) rfl rfl trivial ?_
                                    clear S; intro aa S
                                    refine AN.pure 15 S rfl (by kernel_rfl) (fun _ => Lf.run_assign (S.ev rfl)) rfl rfl trivial ?_
                                    clear S; intro aa S
                                    refine AN.done (by kernel_rfl) ?_
                                    exact ⟨x150, h17, S.sub _ ⟨rfl, rfl, rfl, rfl, rfl, rfl, rfl, rfl, trivial⟩, H⟩
                                · clear H S aa
                                  rintro aa ww ⟨vis9_4, h18, S, HJ⟩
                                  have H := HK_7 _ _ HJ
                                  clear HK_7 HJ
                                  replace S := S.sub [(1, Value.int .i64 e1), (2, Value.pointer (some p2)), (6, Value.pointer x60), (8, Value.int .i64 vto8), (9, Value.bool vis9_4), (11, Value.int .i64 i11), (12, Value.int .i64 k12), (13, Value.int .i64 j13)] ⟨rfl, rfl, rfl, rfl, rfl, rfl, rfl, rfl, trivial⟩
                                  refine W.region ?_
                                  refine OL.pure S (Lf.run_move (S.ev rfl)) rfl rfl trivial ?_
                                  clear S; intro aa S
                                  refine OL.pure S (Lf.run_add (S.ev rfl) (S.ev rfl)) rfl rfl trivial ?_
                                  clear S; intro aa S
                                  refine OL.pure S (Lf.run_assign (S.ev rfl)) rfl rfl trivial ?_
                                  clear S; intro aa S
                                  refine OL.nil ?_
                                  exact ⟨(vis9_4, (IntKind.i64.wrap (j13 + 1)), h18), ⟨S.sub _ ⟨rfl, rfl, rfl, rfl, rfl, rfl, rfl, rfl, trivial⟩, H.1⟩, H.2⟩
                              · replace H := H.2 hb_17
                                refine W.exit_ ?_
                                refine xhit ?_
                                replace S := S.sub [(1, Value.int .i64 e1), (2, Value.pointer (some p2)), (6, Value.pointer x60), (8, Value.int .i64 vto8), (9, Value.bool vis9_3), (11, Value.int .i64 i11), (12, Value.int .i64 k12)] ⟨rfl, rfl, rfl, rfl, rfl, rfl, rfl, trivial⟩
                                refine W.region ?_
                                refine OL.pure S (Lf.run_move (S.ev rfl)) rfl rfl trivial ?_
                                clear S; intro aa S
                                refine OL.pure S (Lf.run_add (S.ev rfl) (S.ev rfl)) rfl rfl trivial ?_
                                clear S; intro aa S
                                refine OL.pure S (Lf.run_assign (S.ev rfl)) rfl rfl trivial ?_
                                clear S; intro aa S
                                refine OL.nil ?_
                                exact ⟨(vis9_3, (IntKind.i64.wrap (k12 + 1)), h16), ⟨S.sub _ ⟨rfl, rfl, rfl, rfl, rfl, rfl, rfl, trivial⟩, H.1⟩, H.2⟩
                          · replace H := H.2 hb_15
                            refine W.exit_ ?_
                            refine xhit ?_
                            replace S := S.sub [(1, Value.int .i64 e1), (2, Value.pointer (some p2)), (6, Value.pointer x60), (8, Value.int .i64 vto8), (9, Value.bool vis9_2), (11, Value.int .i64 i11)] ⟨rfl, rfl, rfl, rfl, rfl, rfl, trivial⟩
                            refine W.region ?_
                            refine OL.pure S (Lf.run_move (S.ev rfl)) rfl rfl trivial ?_
                            clear S; intro aa S
                            refine OL.pure S (Lf.run_add (S.ev rfl) (S.ev rfl)) rfl rfl trivial ?_
                            clear S; intro aa S
                            refine OL.pure S (Lf.run_assign (S.ev rfl)) rfl rfl trivial ?_
                            clear S; intro aa S
                            refine OL.nil ?_
                            exact ⟨(vis9_2, (IntKind.i64.wrap (i11 + 1)), h15), ⟨S.sub _ ⟨rfl, rfl, rfl, rfl, rfl, rfl, trivial⟩, H.1⟩, H.2⟩
                        · replace H := H.2 hb_14
                          refine W.exit_ ?_
                          refine xhit ?_
                          refine W.seq ?_
                          replace S := S.sub [(1, Value.int .i64 e1), (2, Value.pointer (some p2)), (6, Value.pointer x60), (8, Value.int .i64 vto8), (9, Value.bool vis9_1)] ⟨rfl, rfl, rfl, rfl, rfl, trivial⟩
                          refine W.region ?_
                          refine OL.pure S (Lf.run_move (S.ev rfl)) rfl rfl trivial ?_
                          clear S; intro aa S
                          refine OL.pure S (Lf.run_move (S.ev rfl)) rfl rfl trivial ?_
                          clear S; intro aa S
                          refine OL.pure S (Lf.run_move (S.ev rfl)) rfl rfl trivial ?_
                          clear S; intro aa S
                          refine ol_cal S H isfn14 rfl rfl trivial ?_
                          clear S H aa; intro u_9 aa ww h19 H S
                          obtain ⟨x155, rfl, H⟩ := H
                          refine OL.pure S (Lf.run_move (S.ev rfl)) rfl rfl trivial ?_
                          clear S; intro aa S
                          refine OL.pure S (Lf.run_neqb Try.underlying4 (S.ev rfl) (S.ev rfl)) rfl rfl trivial ?_
                          clear S; intro aa S
                          refine OL.nil ?_
                          refine W.cond S (b := (x155 != vis9_1)) rfl (fun hb_19 => ?_) (fun hb_19 => ?_)
                          · replace H := H.1 hb_19
                            refine W.seq ?_
                            replace S := S.sub [] trivial
                            refine W.region ?_
                            refine OL.pure S (Lf.run_assign (S.ev rfl)) rfl rfl trivial ?_
                            clear S; intro aa S
                            refine OL.nil ?_
                            refine W.ret ?_
                            exact Ret.one S rfl rfl H
                          · replace H := H.2 hb_19
                            refine W.skip ?_
                            replace S := S.sub [(1, Value.int .i64 e1), (2, Value.pointer (some p2)), (6, Value.pointer x60), (8, Value.int .i64 vto8)] ⟨rfl, rfl, rfl, rfl, trivial⟩
                            refine W.region ?_
                            refine OL.pure S (Lf.run_move (S.ev rfl)) rfl rfl trivial ?_
                            clear S; intro aa S
                            refine OL.pure S (Lf.run_add (S.ev rfl) (S.ev rfl)) rfl rfl trivial ?_
                            clear S; intro aa S
                            refine OL.pure S (Lf.run_assign (S.ev rfl)) rfl rfl trivial ?_
                            clear S; intro aa S
                            refine OL.nil ?_
                            exact ⟨((IntKind.i64.wrap (vto8 + 1)), h19), ⟨S.sub _ ⟨rfl, rfl, rfl, rfl, trivial⟩, H.1⟩, H.2⟩
                    · replace H := H.2 hb_10
                      refine W.exit_ ?_
                      refine xhit ?_
                      refine W.seq ?_
                      replace S := S.sub [] trivial
                      refine W.region ?_
                      refine OL.pure S (Lf.run_assign (S.ev rfl)) rfl rfl trivial ?_
                      clear S; intro aa S
                      refine OL.nil ?_
                      refine W.ret ?_
                      exact Ret.one S rfl rfl H

/-- chattel chattellaw15.FlowMore -/
def L4 (p0 : Sv) (p0_1 : Int) (p0_2 : Sv) (p0_3 : Sv) (p0_4 : Sv) (more1 : Sv) (h : Heap) (R : Value → Heap → Prop) : Prop :=
  new 25 #[Value.slice p0.a p0.n p0.c, Value.int .i64 p0_1, Value.slice p0_2.a p0_2.n p0_2.c, Value.slice p0_3.a p0_3.n p0_3.c, Value.slice p0_4.a p0_4.n p0_4.c] h fun p2 h1 =>
  cal Try.prog 9 #[] h1 fun u h2 => asB u fun x15 =>
  ∃ J : Bool → Heap → Prop, (orj (!x15) (fun k =>
    ∃ (y18 : Sv) (y18_1 : Int) (y18_2 : Sv) (y18_3 : Sv) (y18_4 : Sv), cl h2 p2 = some (Value.slice y18.a y18.n y18.c) ∧ cl h2 (p2.add 1) = some (Value.int .i64 y18_1) ∧ cl h2 (p2.add 2) = some (Value.slice y18_2.a y18_2.n y18_2.c) ∧ cl h2 (p2.add 3) = some (Value.slice y18_3.a y18_3.n y18_3.c) ∧ cl h2 (p2.add 4) = some (Value.slice y18_4.a y18_4.n y18_4.c) ∧
    cal Try.prog 10 #[Value.agg #[Value.slice y18.a y18.n y18.c, Value.int .i64 y18_1, Value.slice y18_2.a y18_2.n y18_2.c, Value.slice y18_3.a y18_3.n y18_3.c, Value.slice y18_4.a y18_4.n y18_4.c]] h2 fun u_1 h4 => asB u_1 fun x19 =>
    k (!x19) h4) h2 J) ∧ ∀ x21 h3, J x21 h3 →
  ∃ J_1 : Bool → Heap → Prop, (orj (x21 || (decide (30 < ((more1.n : Nat) : Int)))) (fun k_1 =>
    ∃ (y28 : Sv) (y28_1 : Int) (y28_2 : Sv) (y28_3 : Sv) (y28_4 : Sv), cl h3 p2 = some (Value.slice y28.a y28.n y28.c) ∧ cl h3 (p2.add 1) = some (Value.int .i64 y28_1) ∧ cl h3 (p2.add 2) = some (Value.slice y28_2.a y28_2.n y28_2.c) ∧ cl h3 (p2.add 3) = some (Value.slice y28_3.a y28_3.n y28_3.c) ∧ cl h3 (p2.add 4) = some (Value.slice y28_4.a y28_4.n y28_4.c) ∧
    cal Try.prog 11 #[Value.agg #[Value.slice y28.a y28.n y28.c, Value.int .i64 y28_1, Value.slice y28_2.a y28_2.n y28_2.c, Value.slice y28_3.a y28_3.n y28_3.c, Value.slice y28_4.a y28_4.n y28_4.c]] h3 fun u_2 h6 => asI .i64 u_2 fun x29 =>
    k_1 (x29 != 0) h6) h3 J_1) ∧ ∀ x31 h5, J_1 x31 h5 →
  ifb x31 (
    cal Try.prog 9 #[] h5 fun u_3 h7 => asB u_3 fun x32 =>
    R (Value.bool x32) h7) (
    ∃ (y33 : Sv) (y33_1 : Int) (y33_2 : Sv) (y33_3 : Sv) (y33_4 : Sv), cl h5 p2 = some (Value.slice y33.a y33.n y33.c) ∧ cl h5 (p2.add 1) = some (Value.int .i64 y33_1) ∧ cl h5 (p2.add 2) = some (Value.slice y33_2.a y33_2.n y33_2.c) ∧ cl h5 (p2.add 3) = some (Value.slice y33_3.a y33_3.n y33_3.c) ∧ cl h5 (p2.add 4) = some (Value.slice y33_4.a y33_4.n y33_4.c) ∧
    new 25 #[Value.slice (⟨none, 0, 0⟩ : Sv).a (⟨none, 0, 0⟩ : Sv).n (⟨none, 0, 0⟩ : Sv).c, Value.int .i64 0, Value.slice (⟨none, 0, 0⟩ : Sv).a (⟨none, 0, 0⟩ : Sv).n (⟨none, 0, 0⟩ : Sv).c, Value.slice (⟨none, 0, 0⟩ : Sv).a (⟨none, 0, 0⟩ : Sv).n (⟨none, 0, 0⟩ : Sv).c, Value.slice (⟨none, 0, 0⟩ : Sv).a (⟨none, 0, 0⟩ : Sv).n (⟨none, 0, 0⟩ : Sv).c] h5 fun p5 h8 =>
    stoA h8 p5 [Value.slice y33.a y33.n y33.c, Value.int .i64 y33_1, Value.slice y33_2.a y33_2.n y33_2.c, Value.slice y33_3.a y33_3.n y33_3.c, Value.slice y33_4.a y33_4.n y33_4.c] fun h9 =>
    sto h9 (p5.add 2) (Value.slice (⟨none, 0, 0⟩ : Sv).a (⟨none, 0, 0⟩ : Sv).n (⟨none, 0, 0⟩ : Sv).c) fun h10 =>
    ∃ (I : Int → Heap → Prop) (m : Int → Heap → Nat), I 0 h10 ∧ ∀ i6 h11, I i6 h11 →
    ldS h11 p2 fun x37 =>
    ifb (decide (i6 < ((x37.n : Nat) : Int))) (
      ∃ J_2 : Sv → Heap → Prop, (
        ldS h11 (p2.add 2) fun x44 =>
        ifb (decide (i6 < ((x44.n : Nat) : Int))) (
          ldS h11 (p2.add 2) fun x49 =>
          ixS x49 i6 fun q51 =>
          ldS h11 (q51.add ((i6 : Int).toNat * 1)) fun x52 =>
          appS 3 (Value.int .i64 0).cells 1 8 h11 (⟨none, 0, 0⟩ : Sv) x52 fun s53 h12 =>
          J_2 s53 h12) (
          J_2 (⟨none, 0, 0⟩ : Sv) h11)) ∧ (∀ l7 h13, J_2 l7 h13 →
      ∃ (I_1 : Sv → Int → Heap → Prop) (m_1 : Sv → Int → Heap → Nat), I_1 l7 0 h13 ∧ ∀ l7_1 k8 h14, I_1 l7_1 k8 h14 →
      ∃ J_3 : Bool → Prop, (andr (decide (i6 < ((more1.n : Nat) : Int))) (fun k_2 =>
        ixS more1 i6 fun q62 =>
        ldS h14 (q62.add ((i6 : Int).toNat * 1)) fun x63 =>
        k_2 (decide (k8 < ((x63.n : Nat) : Int)))) J_3) ∧ ∀ x66, J_3 x66 →
      ∃ J_4 : Bool → Prop, (andr (x66 && (decide (k8 < 8))) (fun k_3 =>
        ldI .i64 h14 (p2.add 1) fun x73 =>
        k_3 (decide (0 < x73))) J_4) ∧ ∀ x75, J_4 x75 →
      ifb x75 (
        ixS more1 i6 fun q81 =>
        ldS h14 (q81.add ((i6 : Int).toNat * 1)) fun x82 =>
        ixS x82 k8 fun q84 =>
        ldI .i64 h14 (q84.add ((k8 : Int).toNat * 1)) fun x85 =>
        ldI .i64 h14 (p2.add 1) fun x88 =>
        ((IntKind.u64.wrap x88) ≠ 0) ∧
        newS 3 #[Value.int .i64 (IntKind.i64.wrap (((IntKind.u64.wrap x85) : Int).tmod (IntKind.u64.wrap x88)))] 1 h14 fun s92 h15 =>
        appS 3 (Value.int .i64 0).cells 1 8 h15 l7_1 s92 fun s93 h16 =>
        I_1 s93 (IntKind.i64.wrap (k8 + 1)) h16 ∧ m_1 s93 (IntKind.i64.wrap (k8 + 1)) h16 < m_1 l7_1 k8 h14) (
        ldS h14 (p5.add 2) fun x95 =>
        newS 23 #[Value.slice l7_1.a l7_1.n l7_1.c] 1 h14 fun s97 h17 =>
        appS 23 (Value.slice (⟨none, 0, 0⟩ : Sv).a (⟨none, 0, 0⟩ : Sv).n (⟨none, 0, 0⟩ : Sv).c).cells 1 24 h17 x95 s97 fun s98 h18 =>
        sto h18 (p5.add 2) (Value.slice s98.a s98.n s98.c) fun h19 =>
        I (IntKind.i64.wrap (i6 + 1)) h19 ∧ m (IntKind.i64.wrap (i6 + 1)) h19 < m i6 h11))) (
      ∃ (y101 : Sv) (y101_1 : Int) (y101_2 : Sv) (y101_3 : Sv) (y101_4 : Sv), cl h11 p2 = some (Value.slice y101.a y101.n y101.c) ∧ cl h11 (p2.add 1) = some (Value.int .i64 y101_1) ∧ cl h11 (p2.add 2) = some (Value.slice y101_2.a y101_2.n y101_2.c) ∧ cl h11 (p2.add 3) = some (Value.slice y101_3.a y101_3.n y101_3.c) ∧ cl h11 (p2.add 4) = some (Value.slice y101_4.a y101_4.n y101_4.c) ∧
      cal Try.prog 12 #[Value.agg #[Value.slice y101.a y101.n y101.c, Value.int .i64 y101_1, Value.slice y101_2.a y101_2.n y101_2.c, Value.slice y101_3.a y101_3.n y101_3.c, Value.slice y101_4.a y101_4.n y101_4.c]] h11 fun u_4 h20 => asTup u_4 fun r102 =>
      elt r102 0 fun u_5 => asP u_5 fun x103 =>
      elt r102 1 fun u_6 => asI .i64 u_6 fun x104 =>
      ∃ (y106 : Sv) (y106_1 : Int) (y106_2 : Sv) (y106_3 : Sv) (y106_4 : Sv), cl h20 p5 = some (Value.slice y106.a y106.n y106.c) ∧ cl h20 (p5.add 1) = some (Value.int .i64 y106_1) ∧ cl h20 (p5.add 2) = some (Value.slice y106_2.a y106_2.n y106_2.c) ∧ cl h20 (p5.add 3) = some (Value.slice y106_3.a y106_3.n y106_3.c) ∧ cl h20 (p5.add 4) = some (Value.slice y106_4.a y106_4.n y106_4.c) ∧
      cal Try.prog 12 #[Value.agg #[Value.slice y106.a y106.n y106.c, Value.int .i64 y106_1, Value.slice y106_2.a y106_2.n y106_2.c, Value.slice y106_3.a y106_3.n y106_3.c, Value.slice y106_4.a y106_4.n y106_4.c]] h20 fun u_7 h21 => asTup u_7 fun r107 =>
      elt r107 0 fun u_8 => asP u_8 fun x108 =>
      elt r107 1 fun u_9 => asI .i64 u_9 fun x109 =>
      ifb ((x104 != 0) || (x109 != 0)) (
        R (Value.bool false) h21) (
        ∃ (I_2 : Int → Heap → Prop) (m_2 : Int → Heap → Nat), I_2 0 h21 ∧ ∀ i13 h22, I_2 i13 h22 →
        ldS h22 p2 fun x118 =>
        ifb (decide (i13 < ((x118.n : Nat) : Int))) (
          ∃ (I_3 : Int → Heap → Prop) (m_3 : Int → Heap → Nat), I_3 0 h22 ∧ ∀ e14 h23, I_3 e14 h23 →
          ldI .i64 h23 (p2.add 1) fun x125 =>
          ifb (decide (e14 < x125)) (
            cal Try.prog 14 #[Value.pointer x103, Value.int .i64 i13, Value.int .i64 e14] h23 fun u_10 h24 => asB u_10 fun x132 =>
            ∃ J_5 : Bool → Heap → Prop, (andj x132 (fun k_4 =>
              cal Try.prog 14 #[Value.pointer x108, Value.int .i64 i13, Value.int .i64 e14] h24 fun u_11 h26 => asB u_11 fun x137 =>
              k_4 (!x137) h26) h24 J_5) ∧ ∀ x139 h25, J_5 x139 h25 →
            ifb x139 (
              R (Value.bool false) h25) (
              I_3 (IntKind.i64.wrap (e14 + 1)) h25 ∧ m_3 (IntKind.i64.wrap (e14 + 1)) h25 < m_3 e14 h23)) (
            I_2 (IntKind.i64.wrap (i13 + 1)) h23 ∧ m_2 (IntKind.i64.wrap (i13 + 1)) h23 < m_2 i13 h22)) (
          R (Value.bool true) h22))))

set_option maxRecDepth 100000 in

theorem F4 {p0 p0_1 p0_2 p0_3 p0_4 more1 h : _} {R : Value → Heap → Prop} (H : L4 p0 p0_1 p0_2 p0_3 p0_4 more1 h R) : CallsH Try.prog 4 #[Value.agg #[Value.slice p0.a p0.n p0.c, Value.int .i64 p0_1, Value.slice p0_2.a p0_2.n p0_2.c, Value.slice p0_3.a p0_3.n p0_3.c, Value.slice p0_4.a p0_4.n p0_4.c], Value.slice more1.a more1.n more1.c] h R := by
  refine CallsH.enter (n := 140) Try.func4 rfl rfl rfl rfl ?_
  intro w0 aa ww S
  unfold L4 at H
  refine W.seq ?_
  replace S := S.sub [(0, Value.agg #[Value.slice p0.a p0.n p0.c, Value.int .i64 p0_1, Value.slice p0_2.a p0_2.n p0_2.c, Value.slice p0_3.a p0_3.n p0_3.c, Value.slice p0_4.a p0_4.n p0_4.c]), (1, Value.slice more1.a more1.n more1.c)] ⟨rfl, rfl, trivial⟩
  refine W.region ?_
  refine ol_box S H rfl rfl rfl trivial ?_
  clear S H aa; intro p2 aa ww h1 H S
  refine OL.pure S (Lf.run_assign (S.ev rfl)) rfl rfl trivial ?_
  clear S; intro aa S
  refine OL.nil ?_
  refine W.seq ?_
  refine W.seq ?_
  replace S := S.sub [(1, Value.slice more1.a more1.n more1.c), (2, Value.pointer (some p2))] ⟨rfl, rfl, trivial⟩
  refine W.region ?_
  refine ol_cal S H isfn9 rfl rfl trivial ?_
  clear S H aa; intro u aa ww h2 H S
  obtain ⟨x15, rfl, H⟩ := H
  refine OL.pure S (Lf.run_not (S.ev rfl)) rfl rfl trivial ?_
  clear S; intro aa S
  refine OL.pure S (Lf.run_move (S.ev rfl)) rfl rfl trivial ?_
  clear S; intro aa S
  obtain ⟨J, H, HK⟩ := H
  refine OL.cutN 4 (fun aa ww => ∃ x21 h3, St 140 ((21, Value.bool x21) :: [(1, Value.slice more1.a more1.n more1.c), (2, Value.pointer (some p2)), (15, Value.bool x15), (16, Value.bool (!x15)), (17, Value.bool (!x15))]) h3 w0 aa ww ∧ J x21 h3) ?_ ?_
  · rcases Bool.eq_false_or_eq_true (!x15) with hb | hb
    · replace H := H.1 hb
      refine OL.not S rfl rfl (GNo.mk rfl rfl hb) ?_
      clear S; intro aa S
      refine OL.not S rfl rfl (GNo.mk rfl rfl hb) ?_
      clear S; intro aa S
      refine OL.not S rfl rfl (GNo.mk rfl rfl hb) ?_
      clear S; intro aa S
      refine OL.pure S (Lf.run_pickT (S.ev rfl) hb (S.ev rfl)) rfl rfl trivial ?_
      clear S; intro aa S
      refine OL.nil ?_
      exact ⟨_, _, S.sub _ ⟨rfl, rfl, rfl, rfl, rfl, rfl, trivial⟩, H⟩
    · replace H := H.2 hb
      obtain ⟨y18, y18_1, y18_2, y18_3, y18_4, c_1, c_2, c_3, c_4, c_5, H⟩ := H
      refine OL.pure S (Lf.run_ldA (cs := [Value.slice y18.a y18.n y18.c, Value.int .i64 y18_1, Value.slice y18_2.a y18_2.n y18_2.c, Value.slice y18_3.a y18_3.n y18_3.c, Value.slice y18_4.a y18_4.n y18_4.c]) (S.ev rfl) ag25 ti25 (by rw [S.heap]; exact RowL.toRow ⟨c_1, c_2, c_3, c_4, c_5, trivial⟩)) rfl rfl (GOk.mk rfl rfl hb) ?_
      clear S; intro aa S
      refine ol_cal S H isfn10 rfl rfl (GOk.mk rfl rfl hb) ?_
      clear S H aa; intro u_1 aa ww h4 H S
      obtain ⟨x19, rfl, H⟩ := H
      refine OL.pure S (Lf.run_not (S.ev rfl)) rfl rfl (GOk.mk rfl rfl hb) ?_
      clear S; intro aa S
      refine OL.pure S (Lf.run_pickF (S.ev rfl) hb (S.ev rfl)) rfl rfl trivial ?_
      clear S; intro aa S
      refine OL.nil ?_
      exact ⟨_, _, S.sub _ ⟨rfl, rfl, rfl, rfl, rfl, rfl, trivial⟩, H⟩
  · clear S aa
    rintro aa ww ⟨x21, h3, S, HJ⟩
    replace H := HK _ _ HJ
    clear HK HJ
    refine OL.pure S (Lf.run_move (S.ev rfl)) rfl rfl trivial ?_
    clear S; intro aa S
    refine OL.cutN 4 (fun aa ww => St 140 ((26, Value.bool (x21 || (decide (30 < ((more1.n : Nat) : Int))))) :: [(1, Value.slice more1.a more1.n more1.c), (2, Value.pointer (some p2)), (15, Value.bool x15), (16, Value.bool (!x15)), (17, Value.bool (!x15)), (21, Value.bool x21), (22, Value.bool x21)]) h3 w0 aa ww) ?_ ?_
    · rcases Bool.eq_false_or_eq_true x21 with hb_1 | hb_1
      · refine OL.not S rfl rfl (GNo.mk rfl rfl hb_1) ?_
        clear S; intro aa S
        refine OL.not S rfl rfl (GNo.mk rfl rfl hb_1) ?_
        clear S; intro aa S
        refine OL.not S rfl rfl (GNo.mk rfl rfl hb_1) ?_
        clear S; intro aa S
        refine OL.pure S (Lf.run_pickT (S.ev rfl) hb_1 (S.ev rfl)) rfl rfl trivial ?_
        clear S; intro aa S
        refine OL.nil ?_
        exact (S.hd (by rw [hb_1, Bool.true_or])).sub _ ⟨rfl, rfl, rfl, rfl, rfl, rfl, rfl, rfl, trivial⟩
      · refine OL.pure S (Lf.run_move (S.ev rfl)) rfl rfl (GOk.mk rfl rfl hb_1) ?_
        clear S; intro aa S
        refine OL.pure S (Lf.run_lens (S.ev rfl) rfl Try.underlying22) rfl rfl (GOk.mk rfl rfl hb_1) ?_
        clear S; intro aa S
        refine OL.pure S (Lf.run_gtr (S.ev rfl) (S.ev rfl)) rfl rfl (GOk.mk rfl rfl hb_1) ?_
        clear S; intro aa S
        refine OL.pure S (Lf.run_pickF (S.ev rfl) hb_1 (S.ev rfl)) rfl rfl trivial ?_
        clear S; intro aa S
        refine OL.nil ?_
        exact (S.hd (by rw [hb_1, Bool.false_or])).sub _ ⟨rfl, rfl, rfl, rfl, rfl, rfl, rfl, rfl, trivial⟩
    · clear S aa
      intro aa ww S
      refine OL.pure S (Lf.run_move (S.ev rfl)) rfl rfl trivial ?_
      clear S; intro aa S
      obtain ⟨J_1, H, HK_1⟩ := H
      refine OL.cutN 4 (fun aa ww => ∃ x31 h5, St 140 ((31, Value.bool x31) :: [(1, Value.slice more1.a more1.n more1.c), (2, Value.pointer (some p2)), (15, Value.bool x15), (16, Value.bool (!x15)), (17, Value.bool (!x15)), (21, Value.bool x21), (22, Value.bool x21), (26, Value.bool (x21 || (decide (30 < ((more1.n : Nat) : Int))))), (27, Value.bool (x21 || (decide (30 < ((more1.n : Nat) : Int)))))]) h5 w0 aa ww ∧ J_1 x31 h5) ?_ ?_
      · rcases Bool.eq_false_or_eq_true (x21 || (decide (30 < ((more1.n : Nat) : Int)))) with hb_2 | hb_2
        · replace H := H.1 hb_2
          refine OL.not S rfl rfl (GNo.mk rfl rfl hb_2) ?_
          clear S; intro aa S
          refine OL.not S rfl rfl (GNo.mk rfl rfl hb_2) ?_
          clear S; intro aa S
          refine OL.not S rfl rfl (GNo.mk rfl rfl hb_2) ?_
          clear S; intro aa S
          refine OL.pure S (Lf.run_pickT (S.ev rfl) hb_2 (S.ev rfl)) rfl rfl trivial ?_
          clear S; intro aa S
          refine OL.nil ?_
          exact ⟨_, _, S.sub _ ⟨rfl, rfl, rfl, rfl, rfl, rfl, rfl, rfl, rfl, rfl, trivial⟩, H⟩
        · replace H := H.2 hb_2
          obtain ⟨y28, y28_1, y28_2, y28_3, y28_4, c_7, c_8, c_9, c_10, c_11, H⟩ := H
          refine OL.pure S (Lf.run_ldA (cs := [Value.slice y28.a y28.n y28.c, Value.int .i64 y28_1, Value.slice y28_2.a y28_2.n y28_2.c, Value.slice y28_3.a y28_3.n y28_3.c, Value.slice y28_4.a y28_4.n y28_4.c]) (S.ev rfl) ag25 ti25 (by rw [S.heap]; exact RowL.toRow ⟨c_7, c_8, c_9, c_10, c_11, trivial⟩)) rfl rfl (GOk.mk rfl rfl hb_2) ?_
          clear S; intro aa S
          refine ol_cal S H isfn11 rfl rfl (GOk.mk rfl rfl hb_2) ?_
          clear S H aa; intro u_2 aa ww h6 H S
          obtain ⟨x29, rfl, H⟩ := H
          refine OL.pure S (Lf.run_neq (S.ev rfl) (S.ev rfl)) rfl rfl (GOk.mk rfl rfl hb_2) ?_
          clear S; intro aa S
          refine OL.pure S (Lf.run_pickF (S.ev rfl) hb_2 (S.ev rfl)) rfl rfl trivial ?_
          clear S; intro aa S
          refine OL.nil ?_
          exact ⟨_, _, S.sub _ ⟨rfl, rfl, rfl, rfl, rfl, rfl, rfl, rfl, rfl, rfl, trivial⟩, H⟩
      · clear S aa
        rintro aa ww ⟨x31, h5, S, HJ⟩
        replace H := HK_1 _ _ HJ
        clear HK_1 HJ
        refine OL.nil ?_
        refine W.cond S (b := x31) rfl (fun hb_3 => ?_) (fun hb_3 => ?_)
        · replace H := H.1 hb_3
          refine W.seq ?_
          replace S := S.sub [] trivial
          refine W.region ?_
          refine ol_cal S H isfn9 rfl rfl trivial ?_
          clear S H aa; intro u_3 aa ww h7 H S
          obtain ⟨x32, rfl, H⟩ := H
          refine OL.pure S (Lf.run_assign (S.ev rfl)) rfl rfl trivial ?_
          clear S; intro aa S
          refine OL.nil ?_
          refine W.ret ?_
          exact Ret.one S rfl rfl H
        · replace H := H.2 hb_3
          refine W.skip ?_
          refine W.seq ?_
          replace S := S.sub [(1, Value.slice more1.a more1.n more1.c), (2, Value.pointer (some p2))] ⟨rfl, rfl, trivial⟩
          refine W.region ?_
          obtain ⟨y33, y33_1, y33_2, y33_3, y33_4, c_38, c_39, c_40, c_41, c_42, H⟩ := H
          refine OL.pure S (Lf.run_ldA (cs := [Value.slice y33.a y33.n y33.c, Value.int .i64 y33_1, Value.slice y33_2.a y33_2.n y33_2.c, Value.slice y33_3.a y33_3.n y33_3.c, Value.slice y33_4.a y33_4.n y33_4.c]) (S.ev rfl) ag25 ti25 (by rw [S.heap]; exact RowL.toRow ⟨c_38, c_39, c_40, c_41, c_42, trivial⟩)) rfl rfl trivial ?_
          clear S; intro aa S
          refine ol_alloc S H ti25 rfl rfl trivial ?_
          clear S H aa; intro p5 aa ww h8 H S
          refine ol_stoA S H rfl rfl ti25 trivial ?_
          clear S H aa; intro aa ww h9 H S
          refine OL.nil ?_
          refine W.seq ?_
          replace S := S.sub [(1, Value.slice more1.a more1.n more1.c), (2, Value.pointer (some p2)), (5, Value.pointer (some p5))] ⟨rfl, rfl, rfl, trivial⟩
          refine W.region ?_
          refine OL.pure S (Lf.run_fa (S.ev rfl) fa25_2) rfl rfl trivial ?_
          clear S; intro aa S
          refine ol_sto S H rfl rfl rfl ti22 trivial ?_
          clear S H aa; intro aa ww h10 H S
          refine OL.nil ?_
          refine W.seq ?_
          refine W.seq ?_
          replace S := S.sub [(1, Value.slice more1.a more1.n more1.c), (2, Value.pointer (some p2)), (5, Value.pointer (some p5))] ⟨rfl, rfl, rfl, trivial⟩
          refine W.region ?_
          refine OL.pure S (Lf.run_assign (S.ev rfl)) rfl rfl trivial ?_
          clear S; intro aa S
          refine OL.nil ?_
          refine W.block ?_
          obtain ⟨I, m, H, HB_3⟩ := H
          refine W.loopS (σ := Int × Heap) (fun s aa ww => St 140 [(1, Value.slice more1.a more1.n more1.c), (2, Value.pointer (some p2)), (5, Value.pointer (some p5)), (6, Value.int .i64 s.1)] s.2 w0 aa ww ∧ I s.1 s.2) (fun s => m s.1 s.2) (0, h10) ⟨S.sub _ ⟨rfl, rfl, rfl, rfl, trivial⟩, H⟩ ?_
          clear H S aa
          rintro ⟨i6, h11⟩ aa ww ⟨S, HI⟩
          replace S : St 140 [(1, Value.slice more1.a more1.n more1.c), (2, Value.pointer (some p2)), (5, Value.pointer (some p5)), (6, Value.int .i64 i6)] h11 w0 aa ww := S
          have H := HB_3 i6 h11 HI
          clear HI
          refine W.seq ?_
          refine W.seq ?_
          replace S := S.sub [(1, Value.slice more1.a more1.n more1.c), (2, Value.pointer (some p2)), (5, Value.pointer (some p5)), (6, Value.int .i64 i6)] ⟨rfl, rfl, rfl, rfl, trivial⟩
          refine W.region ?_
          refine OL.pure S (Lf.run_move (S.ev rfl)) rfl rfl trivial ?_
          clear S; intro aa S
          refine OL.pure S (Lf.run_fa (S.ev rfl) fa25_0) rfl rfl trivial ?_
          clear S; intro aa S
          obtain ⟨x37, c_13, H⟩ := H
          refine OL.pure S (Lf.run_ld (S.ev rfl) fl22 (S.cl c_13)) rfl rfl trivial ?_
          clear S; intro aa S
          refine OL.pure S (Lf.run_lens (S.ev rfl) rfl Try.underlying22) rfl rfl trivial ?_
          clear S; intro aa S
          refine OL.pure S (Lf.run_lss (S.ev rfl) (S.ev rfl)) rfl rfl trivial ?_
          clear S; intro aa S
          refine OL.nil ?_
          refine W.cond S (b := (decide (i6 < ((x37.n : Nat) : Int)))) rfl (fun hb_4 => ?_) (fun hb_4 => ?_)
          · replace H := H.1 hb_4
            refine W.skip ?_
            refine W.seq ?_
            refine W.block ?_
            refine W.seq ?_
            replace S := S.sub [(1, Value.slice more1.a more1.n more1.c), (2, Value.pointer (some p2)), (5, Value.pointer (some p5)), (6, Value.int .i64 i6)] ⟨rfl, rfl, rfl, rfl, trivial⟩
            refine W.region ?_
            refine OL.pure S (Lf.run_assign (S.ev rfl)) rfl rfl trivial ?_
            clear S; intro aa S
            refine OL.nil ?_
            obtain ⟨J_2, H, HK_2⟩ := H
            refine W.seqJ (fun aa ww => ∃ l7 h13, St 140 [(1, Value.slice more1.a more1.n more1.c), (2, Value.pointer (some p2)), (5, Value.pointer (some p5)), (6, Value.int .i64 i6), (7, Value.slice l7.a l7.n l7.c)] h13 w0 aa ww ∧ J_2 l7 h13) ?_ ?_
            · clear HK_2
              refine W.seq ?_
              replace S := S.sub [(1, Value.slice more1.a more1.n more1.c), (2, Value.pointer (some p2)), (5, Value.pointer (some p5)), (6, Value.int .i64 i6), (7, Value.slice (⟨none, 0, 0⟩ : Sv).a (⟨none, 0, 0⟩ : Sv).n (⟨none, 0, 0⟩ : Sv).c)] ⟨rfl, rfl, rfl, rfl, rfl, trivial⟩
              refine W.region ?_
              refine OL.pure S (Lf.run_move (S.ev rfl)) rfl rfl trivial ?_
              clear S; intro aa S
              refine OL.pure S (Lf.run_fa (S.ev rfl) fa25_2) rfl rfl trivial ?_
              clear S; intro aa S
              obtain ⟨x44, c_14, H⟩ := H
              refine OL.pure S (Lf.run_ld (S.ev rfl) fl22 (S.cl c_14)) rfl rfl trivial ?_
              clear S; intro aa S
              refine OL.pure S (Lf.run_lens (S.ev rfl) rfl Try.underlying22) rfl rfl trivial ?_
              clear S; intro aa S
              refine OL.pure S (Lf.run_lss (S.ev rfl) (S.ev rfl)) rfl rfl trivial ?_
              clear S; intro aa S
              refine OL.nil ?_
              refine W.cond S (b := (decide (i6 < ((x44.n : Nat) : Int)))) rfl (fun hb_5 => ?_) (fun hb_5 => ?_)
              · replace H := H.1 hb_5
                replace S := S.sub [(1, Value.slice more1.a more1.n more1.c), (2, Value.pointer (some p2)), (5, Value.pointer (some p5)), (6, Value.int .i64 i6), (7, Value.slice (⟨none, 0, 0⟩ : Sv).a (⟨none, 0, 0⟩ : Sv).n (⟨none, 0, 0⟩ : Sv).c)] ⟨rfl, rfl, rfl, rfl, rfl, trivial⟩
                refine W.region ?_
                refine OL.pure S (Lf.run_move (S.ev rfl)) rfl rfl trivial ?_
                clear S; intro aa S
                refine OL.pure S (Lf.run_fa (S.ev rfl) fa25_2) rfl rfl trivial ?_
                clear S; intro aa S
                obtain ⟨x49, c_15, H⟩ := H
                refine OL.pure S (Lf.run_ld (S.ev rfl) fl22 (S.cl c_15)) rfl rfl trivial ?_
                clear S; intro aa S
                refine OL.pure S (Lf.run_move (S.ev rfl)) rfl rfl trivial ?_
                clear S; intro aa S
                obtain ⟨q51, e, e_1, e_2, H⟩ := H
                refine OL.pure S (Lf.run_ixs (S.ev rfl) (S.ev rfl) Try.underlying22 ti23 e e_1 e_2) rfl rfl trivial ?_
                clear S; intro aa S
                obtain ⟨x52, c_16, H⟩ := H
                refine OL.pure S (Lf.run_ld (S.ev rfl) fl23 (S.cl c_16)) rfl rfl trivial ?_
                clear S; intro aa S
                refine ol_appS S H Try.underlying23 ti3 rfl rfl rfl trivial ?_
                clear S H aa; intro s53 aa ww h12 H S
                refine OL.pure S (Lf.run_assign (S.ev rfl)) rfl rfl trivial ?_
                clear S; intro aa S
                refine OL.nil ?_
                exact ⟨s53, h12, S.sub _ ⟨rfl, rfl, rfl, rfl, rfl, trivial⟩, H⟩
              · replace H := H.2 hb_5
                refine W.skip ?_
                exact ⟨(⟨none, 0, 0⟩ : Sv), h11, S.sub _ ⟨rfl, rfl, rfl, rfl, rfl, trivial⟩, H⟩
            · clear H S aa
              rintro aa ww ⟨l7, h13, S, HJ⟩
              have H := HK_2 _ _ HJ
              clear HK_2 HJ
              refine W.seq ?_
              refine W.seq ?_
              replace S := S.sub [(1, Value.slice more1.a more1.n more1.c), (2, Value.pointer (some p2)), (5, Value.pointer (some p5)), (6, Value.int .i64 i6), (7, Value.slice l7.a l7.n l7.c)] ⟨rfl, rfl, rfl, rfl, rfl, trivial⟩
              refine W.region ?_
              refine OL.pure S (Lf.run_assign (S.ev rfl)) rfl rfl trivial ?_
              clear S; intro aa S
              refine OL.nil ?_
              refine W.block ?_
              obtain ⟨I_1, m_1, H, HB⟩ := H
              refine W.loopS (σ := Sv × Int × Heap) (fun s aa ww => St 140 [(1, Value.slice more1.a more1.n more1.c), (2, Value.pointer (some p2)), (5, Value.pointer (some p5)), (6, Value.int .i64 i6), (7, Value.slice s.1.a s.1.n s.1.c), (8, Value.int .i64 s.2.1)] s.2.2 w0 aa ww ∧ I_1 s.1 s.2.1 s.2.2) (fun s => m_1 s.1 s.2.1 s.2.2) (l7, 0, h13) ⟨S.sub _ ⟨rfl, rfl, rfl, rfl, rfl, rfl, trivial⟩, H⟩ ?_
              clear H S aa
              rintro ⟨l7_1, k8, h14⟩ aa ww ⟨S, HI⟩
              replace S : St 140 [(1, Value.slice more1.a more1.n more1.c), (2, Value.pointer (some p2)), (5, Value.pointer (some p5)), (6, Value.int .i64 i6), (7, Value.slice l7_1.a l7_1.n l7_1.c), (8, Value.int .i64 k8)] h14 w0 aa ww := S
              have H := HB l7_1 k8 h14 HI
              clear HI
              refine W.seq ?_
              refine W.seq ?_
              replace S := S.sub [(1, Value.slice more1.a more1.n more1.c), (2, Value.pointer (some p2)), (5, Value.pointer (some p5)), (6, Value.int .i64 i6), (7, Value.slice l7_1.a l7_1.n l7_1.c), (8, Value.int .i64 k8)] ⟨rfl, rfl, rfl, rfl, rfl, rfl, trivial⟩
              refine W.region ?_
              refine OL.pure S (Lf.run_move (S.ev rfl)) rfl rfl trivial ?_
              clear S; intro aa S
              refine OL.pure S (Lf.run_move (S.ev rfl)) rfl rfl trivial ?_
              clear S; intro aa S
              refine OL.pure S (Lf.run_lens (S.ev rfl) rfl Try.underlying22) rfl rfl trivial ?_
              clear S; intro aa S
              refine OL.pure S (Lf.run_lss (S.ev rfl) (S.ev rfl)) rfl rfl trivial ?_
              clear S; intro aa S
              refine OL.pure S (Lf.run_move (S.ev rfl)) rfl rfl trivial ?_
              clear S; intro aa S
              obtain ⟨J_3, H, HK_3⟩ := H
              refine OL.cutN 8 (fun aa ww => ∃ x66, St 140 ((66, Value.bool x66) :: [(1, Value.slice more1.a more1.n more1.c), (2, Value.pointer (some p2)), (5, Value.pointer (some p5)), (6, Value.int .i64 i6), (7, Value.slice l7_1.a l7_1.n l7_1.c), (8, Value.int .i64 k8), (54, Value.int .i64 i6), (55, Value.slice more1.a more1.n more1.c), (56, Value.int .i64 ((more1.n : Nat) : Int)), (57, Value.bool (decide (i6 < ((more1.n : Nat) : Int)))), (58, Value.bool (decide (i6 < ((more1.n : Nat) : Int))))]) h14 w0 aa ww ∧ J_3 x66) ?_ ?_
              · rcases Bool.eq_false_or_eq_true (decide (i6 < ((more1.n : Nat) : Int))) with hb_6 | hb_6
                · replace H := H.1 hb_6
                  refine OL.pure S (Lf.run_move (S.ev rfl)) rfl rfl (GOk.mk rfl rfl hb_6) ?_
                  clear S; intro aa S
                  refine OL.pure S (Lf.run_move (S.ev rfl)) rfl rfl (GOk.mk rfl rfl hb_6) ?_
                  clear S; intro aa S
                  refine OL.pure S (Lf.run_move (S.ev rfl)) rfl rfl (GOk.mk rfl rfl hb_6) ?_
                  clear S; intro aa S
                  obtain ⟨q62, e_3, e_4, e_5, H⟩ := H
                  refine OL.pure S (Lf.run_ixs (S.ev rfl) (S.ev rfl) Try.underlying22 ti23 e_3 e_4 e_5) rfl rfl (GOk.mk rfl rfl hb_6) ?_
                  clear S; intro aa S
                  obtain ⟨x63, c_17, H⟩ := H
                  refine OL.pure S (Lf.run_ld (S.ev rfl) fl23 (S.cl c_17)) rfl rfl (GOk.mk rfl rfl hb_6) ?_
                  clear S; intro aa S
                  refine OL.pure S (Lf.run_lens (S.ev rfl) rfl Try.underlying23) rfl rfl (GOk.mk rfl rfl hb_6) ?_
                  clear S; intro aa S
                  refine OL.pure S (Lf.run_lss (S.ev rfl) (S.ev rfl)) rfl rfl (GOk.mk rfl rfl hb_6) ?_
                  clear S; intro aa S
                  refine OL.pure S (Lf.run_pickT (S.ev rfl) hb_6 (S.ev rfl)) rfl rfl trivial ?_
                  clear S; intro aa S
                  refine OL.nil ?_
                  exact ⟨_, S.sub _ ⟨rfl, rfl, rfl, rfl, rfl, rfl, rfl, rfl, rfl, rfl, rfl, rfl, trivial⟩, H⟩
                · replace H := H.2 hb_6
                  refine OL.not S rfl rfl (GNo.mk rfl rfl hb_6) ?_
                  clear S; intro aa S
                  refine OL.not S rfl rfl (GNo.mk rfl rfl hb_6) ?_
                  clear S; intro aa S
                  refine OL.not S rfl rfl (GNo.mk rfl rfl hb_6) ?_
                  clear S; intro aa S
                  refine OL.not S rfl rfl (GNo.mk rfl rfl hb_6) ?_
                  clear S; intro aa S
                  refine OL.not S rfl rfl (GNo.mk rfl rfl hb_6) ?_
                  clear S; intro aa S
                  refine OL.not S rfl rfl (GNo.mk rfl rfl hb_6) ?_
                  clear S; intro aa S
                  refine OL.not S rfl rfl (GNo.mk rfl rfl hb_6) ?_
                  clear S; intro aa S
                  refine OL.pure S (Lf.run_pickF (S.ev rfl) hb_6 (S.ev rfl)) rfl rfl trivial ?_
                  clear S; intro aa S
                  refine OL.nil ?_
                  exact ⟨_, S.sub _ ⟨rfl, rfl, rfl, rfl, rfl, rfl, rfl, rfl, rfl, rfl, rfl, rfl, trivial⟩, H⟩
              · clear S aa
                rintro aa ww ⟨x66, S, HJ⟩
                replace H := HK_3 _ HJ
                clear HK_3 HJ
                refine OL.pure S (Lf.run_move (S.ev rfl)) rfl rfl trivial ?_
                clear S; intro aa S
                refine OL.cutN 3 (fun aa ww => St 140 ((70, Value.bool (x66 && (decide (k8 < 8)))) :: [(1, Value.slice more1.a more1.n more1.c), (2, Value.pointer (some p2)), (5, Value.pointer (some p5)), (6, Value.int .i64 i6), (7, Value.slice l7_1.a l7_1.n l7_1.c), (8, Value.int .i64 k8), (54, Value.int .i64 i6), (55, Value.slice more1.a more1.n more1.c), (56, Value.int .i64 ((more1.n : Nat) : Int)), (57, Value.bool (decide (i6 < ((more1.n : Nat) : Int)))), (58, Value.bool (decide (i6 < ((more1.n : Nat) : Int)))), (66, Value.bool x66), (67, Value.bool x66)]) h14 w0 aa ww) ?_ ?_
                · rcases Bool.eq_false_or_eq_true x66 with hb_7 | hb_7
                  · refine OL.pure S (Lf.run_move (S.ev rfl)) rfl rfl (GOk.mk rfl rfl hb_7) ?_
                    clear S; intro aa S
                    refine OL.pure S (Lf.run_lss (S.ev rfl) (S.ev rfl)) rfl rfl (GOk.mk rfl rfl hb_7) ?_
                    clear S; intro aa S
                    refine OL.pure S (Lf.run_pickT (S.ev rfl) hb_7 (S.ev rfl)) rfl rfl trivial ?_
                    clear S; intro aa S
                    refine OL.nil ?_
                    exact (S.hd (by rw [hb_7, Bool.true_and])).sub _ ⟨rfl, rfl, rfl, rfl, rfl, rfl, rfl, rfl, rfl, rfl, rfl, rfl, rfl, rfl, trivial⟩
                  · refine OL.not S rfl rfl (GNo.mk rfl rfl hb_7) ?_
                    clear S; intro aa S
                    refine OL.not S rfl rfl (GNo.mk rfl rfl hb_7) ?_
                    clear S; intro aa S
                    refine OL.pure S (Lf.run_pickF (S.ev rfl) hb_7 (S.ev rfl)) rfl rfl trivial ?_
                    clear S; intro aa S
                    refine OL.nil ?_
                    exact (S.hd (by rw [hb_7, Bool.false_and])).sub _ ⟨rfl, rfl, rfl, rfl, rfl, rfl, rfl, rfl, rfl, rfl, rfl, rfl, rfl, rfl, trivial⟩
                · clear S aa
                  intro aa ww S
                  refine OL.pure S (Lf.run_move (S.ev rfl)) rfl rfl trivial ?_
                  clear S; intro aa S
                  obtain ⟨J_4, H, HK_4⟩ := H
                  refine OL.cutN 4 (fun aa ww => ∃ x75, St 140 ((75, Value.bool x75) :: [(1, Value.slice more1.a more1.n more1.c), (2, Value.pointer (some p2)), (5, Value.pointer (some p5)), (6, Value.int .i64 i6), (7, Value.slice l7_1.a l7_1.n l7_1.c), (8, Value.int .i64 k8), (54, Value.int .i64 i6), (55, Value.slice more1.a more1.n more1.c), (56, Value.int .i64 ((more1.n : Nat) : Int)), (57, Value.bool (decide (i6 < ((more1.n : Nat) : Int)))), (58, Value.bool (decide (i6 < ((more1.n : Nat) : Int)))), (66, Value.bool x66), (67, Value.bool x66), (70, Value.bool (x66 && (decide (k8 < 8)))), (71, Value.bool (x66 && (decide (k8 < 8))))]) h14 w0 aa ww ∧ J_4 x75) ?_ ?_
                  · rcases Bool.eq_false_or_eq_true (x66 && (decide (k8 < 8))) with hb_8 | hb_8
                    · replace H := H.1 hb_8
                      refine OL.pure S (Lf.run_fa (S.ev rfl) fa25_1) rfl rfl (GOk.mk rfl rfl hb_8) ?_
                      clear S; intro aa S
                      obtain ⟨x73, c_18, H⟩ := H
                      refine OL.pure S (Lf.run_ld (S.ev rfl) fl3 (S.cl c_18)) rfl rfl (GOk.mk rfl rfl hb_8) ?_
                      clear S; intro aa S
                      refine OL.pure S (Lf.run_gtr (S.ev rfl) (S.ev rfl)) rfl rfl (GOk.mk rfl rfl hb_8) ?_
                      clear S; intro aa S
                      refine OL.pure S (Lf.run_pickT (S.ev rfl) hb_8 (S.ev rfl)) rfl rfl trivial ?_
                      clear S; intro aa S
                      refine OL.nil ?_
                      exact ⟨_, S.sub _ ⟨rfl, rfl, rfl, rfl, rfl, rfl, rfl, rfl, rfl, rfl, rfl, rfl, rfl, rfl, rfl, rfl, trivial⟩, H⟩
                    · replace H := H.2 hb_8
                      refine OL.not S rfl rfl (GNo.mk rfl rfl hb_8) ?_
                      clear S; intro aa S
                      refine OL.not S rfl rfl (GNo.mk rfl rfl hb_8) ?_
                      clear S; intro aa S
                      refine OL.not S rfl rfl (GNo.mk rfl rfl hb_8) ?_
                      clear S; intro aa S
                      refine OL.pure S (Lf.run_pickF (S.ev rfl) hb_8 (S.ev rfl)) rfl rfl trivial ?_
                      clear S; intro aa S
                      refine OL.nil ?_
                      exact ⟨_, S.sub _ ⟨rfl, rfl, rfl, rfl, rfl, rfl, rfl, rfl, rfl, rfl, rfl, rfl, rfl, rfl, rfl, rfl, trivial⟩, H⟩
                  · clear S aa
                    rintro aa ww ⟨x75, S, HJ⟩
                    replace H := HK_4 _ HJ
                    clear HK_4 HJ
                    refine OL.nil ?_
                    refine W.cond S (b := x75) rfl (fun hb_9 => ?_) (fun hb_9 => ?_)
                    · replace H := H.1 hb_9
                      refine W.skip ?_
                      refine W.seq ?_
                      refine W.block ?_
                      replace S := S.sub [(1, Value.slice more1.a more1.n more1.c), (2, Value.pointer (some p2)), (5, Value.pointer (some p5)), (6, Value.int .i64 i6), (7, Value.slice l7_1.a l7_1.n l7_1.c), (8, Value.int .i64 k8)] ⟨rfl, rfl, rfl, rfl, rfl, rfl, trivial⟩
                      refine W.regionD S (by kernel_rfl) ?_
                      clear S; intro ww S
                      refine AN.pure 0 S rfl (by kernel_rfl) (fun _ => Lf.run_move (S.ev rfl)) rfl rfl trivial ?_
                      clear S; intro aa S
                      refine AN.pure 1 S rfl (by kernel_rfl) (fun _ => Lf.run_move (S.ev rfl)) rfl rfl trivial ?_
                      clear S; intro aa S
                      refine AN.pure 2 S rfl (by kernel_rfl) (fun _ => Lf.run_move (S.ev rfl)) rfl rfl trivial ?_
                      clear S; intro aa S
                      obtain ⟨q81, e_6, e_7, e_8, H⟩ := H
                      refine AN.pure 3 S rfl (by kernel_rfl) (fun _ => Lf.run_ixs (S.ev rfl) (S.ev rfl) Try.underlying22 ti23 e_6 e_7 e_8) rfl rfl trivial ?_
                      clear S; intro aa S
                      obtain ⟨x82, c_19, H⟩ := H
                      refine AN.load 4 S rfl (by kernel_rfl) (fun _ hx => Lf.run_ld (S.ev rfl) fl23 (hx.cell _ _ (S.cl c_19))) rfl rfl trivial ?_
                      clear S; intro aa S
                      refine AN.pure 5 S rfl (by kernel_rfl) (fun _ => Lf.run_move (S.ev rfl)) rfl rfl trivial ?_
                      clear S; intro aa S
                      obtain ⟨q84, e_9, e_10, e_11, H⟩ := H
                      refine AN.pure 6 S rfl (by kernel_rfl) (fun _ => Lf.run_ixs (S.ev rfl) (S.ev rfl) Try.underlying23 ti3 e_9 e_10 e_11) rfl rfl trivial ?_
                      clear S; intro aa S
                      obtain ⟨x85, c_20, H⟩ := H
                      refine AN.load 7 S rfl (by kernel_rfl) (fun _ hx => Lf.run_ld (S.ev rfl) fl3 (hx.cell _ _ (S.cl c_20))) rfl rfl trivial ?_
                      clear S; intro aa S
                      refine AN.pure 8 S rfl (by kernel_rfl) (fun _ => Lf.run_cvi Try.underlying3 Try.underlying36 (S.ev rfl)) rfl rfl trivial ?_
                      clear S; intro aa S
                      refine AN.pure 9 S rfl (by kernel_rfl) (fun _ => Lf.run_fa (S.ev rfl) fa25_1) rfl rfl trivial ?_
                      clear S; intro aa S
                      obtain ⟨x88, c_21, H⟩ := H
                      refine AN.load 10 S rfl (by kernel_rfl) (fun _ hx => Lf.run_ld (S.ev rfl) fl3 (hx.cell _ _ (S.cl c_21))) rfl rfl trivial ?_
                      clear S; intro aa S
                      refine AN.pure 11 S rfl (by kernel_rfl) (fun _ => Lf.run_cvi Try.underlying3 Try.underlying36 (S.ev rfl)) rfl rfl trivial ?_
                      clear S; intro aa S
                      obtain ⟨c_22, H⟩ := H
                      refine AN.pure 12 S rfl (by kernel_rfl) (fun _ => Lf.run_rem (S.ev rfl) (S.ev rfl) c_22) rfl rfl trivial ?_
                      clear S; intro aa S
                      refine AN.pure 13 S rfl (by kernel_rfl) (fun _ => Lf.run_cvi Try.underlying36 Try.underlying3 (S.ev rfl)) rfl rfl trivial ?_
                      clear S; intro aa S
                      refine AN.eff 14 rfl (by kernel_rfl) ?_
                      refine ol_newS S H Try.underlying23 ti3 (by decide) (parts_map S rfl) (by kernel_rfl) (by decide) rfl trivial ?_
                      clear S H aa; intro s92 aa ww h15 H S
                      refine OL.nil ?_
                      refine AN.eff 15 rfl (by kernel_rfl) ?_
                      refine ol_appS S H Try.underlying23 ti3 rfl rfl rfl trivial ?_
                      clear S H aa; intro s93 aa ww h16 H S
                      refine OL.nil ?_
                      refine AN.pure 16 S rfl (by kernel_rfl) (fun _ => Lf.run_assign (S.ev rfl)) rfl rfl trivial ?_
                      clear S; intro aa S
                      refine AN.done (by kernel_rfl) ?_
                      replace S := S.sub [(1, Value.slice more1.a more1.n more1.c), (2, Value.pointer (some p2)), (5, Value.pointer (some p5)), (6, Value.int .i64 i6), (7, Value.slice s93.a s93.n s93.c), (8, Value.int .i64 k8)] ⟨rfl, rfl, rfl, rfl, rfl, rfl, trivial⟩
                      refine W.region ?_
                      refine OL.pure S (Lf.run_move (S.ev rfl)) rfl rfl trivial ?_
                      clear S; intro aa S
                      refine OL.pure S (Lf.run_add (S.ev rfl) (S.ev rfl)) rfl rfl trivial ?_
                      clear S; intro aa S
                      refine OL.pure S (Lf.run_assign (S.ev rfl)) rfl rfl trivial ?_
                      clear S; intro aa S
                      refine OL.nil ?_
                      exact ⟨(s93, (IntKind.i64.wrap (k8 + 1)), h16), ⟨S.sub _ ⟨rfl, rfl, rfl, rfl, rfl, rfl, trivial⟩, H.1⟩, H.2⟩
                    · replace H := H.2 hb_9
                      refine W.exit_ ?_
                      refine xhit ?_
                      replace S := S.sub [(1, Value.slice more1.a more1.n more1.c), (2, Value.pointer (some p2)), (5, Value.pointer (some p5)), (6, Value.int .i64 i6), (7, Value.slice l7_1.a l7_1.n l7_1.c)] ⟨rfl, rfl, rfl, rfl, rfl, trivial⟩
                      refine W.region ?_
                      refine OL.pure S (Lf.run_fa (S.ev rfl) fa25_2) rfl rfl trivial ?_
                      clear S; intro aa S
                      obtain ⟨x95, c_23, H⟩ := H
                      refine OL.pure S (Lf.run_ld (S.ev rfl) fl22 (S.cl c_23)) rfl rfl trivial ?_
                      clear S; intro aa S
                      refine OL.pure S (Lf.run_move (S.ev rfl)) rfl rfl trivial ?_
                      clear S; intro aa S
                      refine ol_newS S H Try.underlying22 ti23 (by decide) (parts_map S rfl) (by kernel_rfl) (by decide) rfl trivial ?_
                      clear S H aa; intro s97 aa ww h17 H S
                      refine ol_appS S H Try.underlying22 ti23 rfl rfl rfl trivial ?_
                      clear S H aa; intro s98 aa ww h18 H S
                      refine OL.pure S (Lf.run_fa (S.ev rfl) fa25_2) rfl rfl trivial ?_
                      clear S; intro aa S
                      refine ol_sto S H rfl rfl rfl ti22 trivial ?_
                      clear S H aa; intro aa ww h19 H S
                      refine OL.nil ?_
                      replace S := S.sub [(1, Value.slice more1.a more1.n more1.c), (2, Value.pointer (some p2)), (5, Value.pointer (some p5)), (6, Value.int .i64 i6)] ⟨rfl, rfl, rfl, rfl, trivial⟩
                      refine W.region ?_
                      refine OL.pure S (Lf.run_move (S.ev rfl)) rfl rfl trivial ?_
                      clear S; intro aa S
                      refine OL.pure S (Lf.run_add (S.ev rfl) (S.ev rfl)) rfl rfl trivial ?_
                      clear S; intro aa S
                      refine OL.pure S (Lf.run_assign (S.ev rfl)) rfl rfl trivial ?_
                      clear S; intro aa S
                      refine OL.nil ?_
                      exact ⟨((IntKind.i64.wrap (i6 + 1)), h19), ⟨S.sub _ ⟨rfl, rfl, rfl, rfl, trivial⟩, H.1⟩, H.2⟩
          · replace H := H.2 hb_4
            refine W.exit_ ?_
            refine xhit ?_
            refine W.seq ?_
            replace S := S.sub [(2, Value.pointer (some p2)), (5, Value.pointer (some p5))] ⟨rfl, rfl, trivial⟩
            refine W.region ?_
            obtain ⟨y101, y101_1, y101_2, y101_3, y101_4, c_33, c_34, c_35, c_36, c_37, H⟩ := H
            refine OL.pure S (Lf.run_ldA (cs := [Value.slice y101.a y101.n y101.c, Value.int .i64 y101_1, Value.slice y101_2.a y101_2.n y101_2.c, Value.slice y101_3.a y101_3.n y101_3.c, Value.slice y101_4.a y101_4.n y101_4.c]) (S.ev rfl) ag25 ti25 (by rw [S.heap]; exact RowL.toRow ⟨c_33, c_34, c_35, c_36, c_37, trivial⟩)) rfl rfl trivial ?_
            clear S; intro aa S
            refine ol_cal S H isfn12 rfl rfl trivial ?_
            clear S H aa; intro u_4 aa ww h20 H S
            obtain ⟨r102, rfl, H⟩ := H
            refine OL.pure S (Lf.run_move (S.ev rfl)) rfl rfl trivial ?_
            clear S; intro aa S
            obtain ⟨u_5, e_12, x103, rfl, H⟩ := H
            refine OL.pure S (Lf.run_ex (S.ev rfl) e_12) rfl rfl trivial ?_
            clear S; intro aa S
            obtain ⟨u_6, e_13, x104, rfl, H⟩ := H
            refine OL.pure S (Lf.run_ex (S.ev rfl) e_13) rfl rfl trivial ?_
            clear S; intro aa S
            refine OL.pure S (Lf.run_assign (S.ev rfl)) rfl rfl trivial ?_
            clear S; intro aa S
            refine OL.pure S (Lf.run_assign (S.ev rfl)) rfl rfl trivial ?_
            clear S; intro aa S
            refine OL.nil ?_
            refine W.seq ?_
            replace S := S.sub [(2, Value.pointer (some p2)), (5, Value.pointer (some p5)), (9, Value.pointer x103), (10, Value.int .i64 x104)] ⟨rfl, rfl, rfl, rfl, trivial⟩
            refine W.region ?_
            obtain ⟨y106, y106_1, y106_2, y106_3, y106_4, c_28, c_29, c_30, c_31, c_32, H⟩ := H
            refine OL.pure S (Lf.run_ldA (cs := [Value.slice y106.a y106.n y106.c, Value.int .i64 y106_1, Value.slice y106_2.a y106_2.n y106_2.c, Value.slice y106_3.a y106_3.n y106_3.c, Value.slice y106_4.a y106_4.n y106_4.c]) (S.ev rfl) ag25 ti25 (by rw [S.heap]; exact RowL.toRow ⟨c_28, c_29, c_30, c_31, c_32, trivial⟩)) rfl rfl trivial ?_
            clear S; intro aa S
            refine ol_cal S H isfn12 rfl rfl trivial ?_
            clear S H aa; intro u_7 aa ww h21 H S
            obtain ⟨r107, rfl, H⟩ := H
            refine OL.pure S (Lf.run_move (S.ev rfl)) rfl rfl trivial ?_
            clear S; intro aa S
            obtain ⟨u_8, e_14, x108, rfl, H⟩ := H
            refine OL.pure S (Lf.run_ex (S.ev rfl) e_14) rfl rfl trivial ?_
            clear S; intro aa S
            obtain ⟨u_9, e_15, x109, rfl, H⟩ := H
            refine OL.pure S (Lf.run_ex (S.ev rfl) e_15) rfl rfl trivial ?_
            clear S; intro aa S
            refine OL.pure S (Lf.run_assign (S.ev rfl)) rfl rfl trivial ?_
            clear S; intro aa S
            refine OL.pure S (Lf.run_assign (S.ev rfl)) rfl rfl trivial ?_
            clear S; intro aa S
            refine OL.nil ?_
            refine W.seq ?_
            refine W.seq ?_
            replace S := S.sub [(2, Value.pointer (some p2)), (9, Value.pointer x103), (10, Value.int .i64 x104), (11, Value.pointer x108), (12, Value.int .i64 x109)] ⟨rfl, rfl, rfl, rfl, rfl, trivial⟩
            refine W.region ?_
            refine OL.pure S (Lf.run_move (S.ev rfl)) rfl rfl trivial ?_
            clear S; intro aa S
            refine OL.pure S (Lf.run_neq (S.ev rfl) (S.ev rfl)) rfl rfl trivial ?_
            clear S; intro aa S
            refine OL.pure S (Lf.run_move (S.ev rfl)) rfl rfl trivial ?_
            clear S; intro aa S
            refine OL.cutN 3 (fun aa ww => St 140 ((115, Value.bool ((x104 != 0) || (x109 != 0))) :: [(2, Value.pointer (some p2)), (9, Value.pointer x103), (10, Value.int .i64 x104), (11, Value.pointer x108), (12, Value.int .i64 x109), (110, Value.int .i64 x104), (111, Value.bool (x104 != 0)), (112, Value.bool (x104 != 0))]) h21 w0 aa ww) ?_ ?_
            · rcases Bool.eq_false_or_eq_true (x104 != 0) with hb_10 | hb_10
              · refine OL.not S rfl rfl (GNo.mk rfl rfl hb_10) ?_
                clear S; intro aa S
                refine OL.not S rfl rfl (GNo.mk rfl rfl hb_10) ?_
                clear S; intro aa S
                refine OL.pure S (Lf.run_pickT (S.ev rfl) hb_10 (S.ev rfl)) rfl rfl trivial ?_
                clear S; intro aa S
                refine OL.nil ?_
                exact (S.hd (by rw [hb_10, Bool.true_or])).sub _ ⟨rfl, rfl, rfl, rfl, rfl, rfl, rfl, rfl, rfl, trivial⟩
              · refine OL.pure S (Lf.run_move (S.ev rfl)) rfl rfl (GOk.mk rfl rfl hb_10) ?_
                clear S; intro aa S
                refine OL.pure S (Lf.run_neq (S.ev rfl) (S.ev rfl)) rfl rfl (GOk.mk rfl rfl hb_10) ?_
                clear S; intro aa S
                refine OL.pure S (Lf.run_pickF (S.ev rfl) hb_10 (S.ev rfl)) rfl rfl trivial ?_
                clear S; intro aa S
                refine OL.nil ?_
                exact (S.hd (by rw [hb_10, Bool.false_or])).sub _ ⟨rfl, rfl, rfl, rfl, rfl, rfl, rfl, rfl, rfl, trivial⟩
            · clear S aa
              intro aa ww S
              refine OL.nil ?_
              refine W.cond S (b := ((x104 != 0) || (x109 != 0))) rfl (fun hb_11 => ?_) (fun hb_11 => ?_)
              · replace H := H.1 hb_11
                refine W.seq ?_
                replace S := S.sub [] trivial
                refine W.region ?_
                refine OL.pure S (Lf.run_assign (S.ev rfl)) rfl rfl trivial ?_
                clear S; intro aa S
                refine OL.nil ?_
                refine W.ret ?_
                exact Ret.one S rfl rfl H
              · replace H := H.2 hb_11
                refine W.skip ?_
                refine W.seq ?_
                refine W.seq ?_
                replace S := S.sub [(2, Value.pointer (some p2)), (9, Value.pointer x103), (11, Value.pointer x108)] ⟨rfl, rfl, rfl, trivial⟩
                refine W.region ?_
                refine OL.pure S (Lf.run_assign (S.ev rfl)) rfl rfl trivial ?_
                clear S; intro aa S
                refine OL.nil ?_
                refine W.block ?_
                obtain ⟨I_2, m_2, H, HB_2⟩ := H
                refine W.loopS (σ := Int × Heap) (fun s aa ww => St 140 [(2, Value.pointer (some p2)), (9, Value.pointer x103), (11, Value.pointer x108), (13, Value.int .i64 s.1)] s.2 w0 aa ww ∧ I_2 s.1 s.2) (fun s => m_2 s.1 s.2) (0, h21) ⟨S.sub _ ⟨rfl, rfl, rfl, rfl, trivial⟩, H⟩ ?_
                clear H S aa
                rintro ⟨i13, h22⟩ aa ww ⟨S, HI⟩
                replace S : St 140 [(2, Value.pointer (some p2)), (9, Value.pointer x103), (11, Value.pointer x108), (13, Value.int .i64 i13)] h22 w0 aa ww := S
                have H := HB_2 i13 h22 HI
                clear HI
                refine W.seq ?_
                refine W.seq ?_
                replace S := S.sub [(2, Value.pointer (some p2)), (9, Value.pointer x103), (11, Value.pointer x108), (13, Value.int .i64 i13)] ⟨rfl, rfl, rfl, rfl, trivial⟩
                refine W.region ?_
                refine OL.pure S (Lf.run_move (S.ev rfl)) rfl rfl trivial ?_
                clear S; intro aa S
                refine OL.pure S (Lf.run_fa (S.ev rfl) fa25_0) rfl rfl trivial ?_
                clear S; intro aa S
                obtain ⟨x118, c_26, H⟩ := H
                refine OL.pure S (Lf.run_ld (S.ev rfl) fl22 (S.cl c_26)) rfl rfl trivial ?_
                clear S; intro aa S
                refine OL.pure S (Lf.run_lens (S.ev rfl) rfl Try.underlying22) rfl rfl trivial ?_
                clear S; intro aa S
                refine OL.pure S (Lf.run_lss (S.ev rfl) (S.ev rfl)) rfl rfl trivial ?_
                clear S; intro aa S
                refine OL.nil ?_
                refine W.cond S (b := (decide (i13 < ((x118.n : Nat) : Int)))) rfl (fun hb_12 => ?_) (fun hb_12 => ?_)
                · replace H := H.1 hb_12
                  refine W.skip ?_
                  refine W.seq ?_
                  refine W.block ?_
                  refine W.seq ?_
                  replace S := S.sub [(2, Value.pointer (some p2)), (9, Value.pointer x103), (11, Value.pointer x108), (13, Value.int .i64 i13)] ⟨rfl, rfl, rfl, rfl, trivial⟩
                  refine W.region ?_
                  refine OL.pure S (Lf.run_assign (S.ev rfl)) rfl rfl trivial ?_
                  clear S; intro aa S
                  refine OL.nil ?_
                  refine W.block ?_
                  obtain ⟨I_3, m_3, H, HB_1⟩ := H
                  refine W.loopS (σ := Int × Heap) (fun s aa ww => St 140 [(2, Value.pointer (some p2)), (9, Value.pointer x103), (11, Value.pointer x108), (13, Value.int .i64 i13), (14, Value.int .i64 s.1)] s.2 w0 aa ww ∧ I_3 s.1 s.2) (fun s => m_3 s.1 s.2) (0, h22) ⟨S.sub _ ⟨rfl, rfl, rfl, rfl, rfl, trivial⟩, H⟩ ?_
                  clear H S aa
                  rintro ⟨e14, h23⟩ aa ww ⟨S, HI⟩
                  replace S : St 140 [(2, Value.pointer (some p2)), (9, Value.pointer x103), (11, Value.pointer x108), (13, Value.int .i64 i13), (14, Value.int .i64 e14)] h23 w0 aa ww := S
                  have H := HB_1 e14 h23 HI
                  clear HI
                  refine W.seq ?_
                  refine W.seq ?_
                  replace S := S.sub [(2, Value.pointer (some p2)), (9, Value.pointer x103), (11, Value.pointer x108), (13, Value.int .i64 i13), (14, Value.int .i64 e14)] ⟨rfl, rfl, rfl, rfl, rfl, trivial⟩
                  refine W.region ?_
                  refine OL.pure S (Lf.run_move (S.ev rfl)) rfl rfl trivial ?_
                  clear S; intro aa S
                  refine OL.pure S (Lf.run_fa (S.ev rfl) fa25_1) rfl rfl trivial ?_
                  clear S; intro aa S
                  obtain ⟨x125, c_27, H⟩ := H
                  refine OL.pure S (Lf.run_ld (S.ev rfl) fl3 (S.cl c_27)) rfl rfl trivial ?_
                  clear S; intro aa S
                  refine OL.pure S (Lf.run_lss (S.ev rfl) (S.ev rfl)) rfl rfl trivial ?_
                  clear S; intro aa S
                  refine OL.nil ?_
                  refine W.cond S (b := (decide (e14 < x125))) rfl (fun hb_13 => ?_) (fun hb_13 => ?_)
                  · replace H := H.1 hb_13
                    refine W.skip ?_
                    refine W.seq ?_
                    refine W.block ?_
                    refine W.seq ?_
                    replace S := S.sub [(2, Value.pointer (some p2)), (9, Value.pointer x103), (11, Value.pointer x108), (13, Value.int .i64 i13), (14, Value.int .i64 e14)] ⟨rfl, rfl, rfl, rfl, rfl, trivial⟩
                    refine W.region ?_
                    refine OL.pure S (Lf.run_move (S.ev rfl)) rfl rfl trivial ?_
                    clear S; intro aa S
                    refine OL.pure S (Lf.run_move (S.ev rfl)) rfl rfl trivial ?_
                    clear S; intro aa S
                    refine OL.pure S (Lf.run_move (S.ev rfl)) rfl rfl trivial ?_
                    clear S; intro aa S
                    refine ol_cal S H isfn14 rfl rfl trivial ?_
                    clear S H aa; intro u_10 aa ww h24 H S
                    obtain ⟨x132, rfl, H⟩ := H
                    refine OL.pure S (Lf.run_move (S.ev rfl)) rfl rfl trivial ?_
                    clear S; intro aa S
                    obtain ⟨J_5, H, HK_5⟩ := H
                    refine OL.cutN 6 (fun aa ww => ∃ x139 h25, St 140 ((139, Value.bool x139) :: [(2, Value.pointer (some p2)), (9, Value.pointer x103), (11, Value.pointer x108), (13, Value.int .i64 i13), (14, Value.int .i64 e14), (129, Value.pointer x103), (130, Value.int .i64 i13), (131, Value.int .i64 e14), (132, Value.bool x132), (133, Value.bool x132)]) h25 w0 aa ww ∧ J_5 x139 h25) ?_ ?_
                    · rcases Bool.eq_false_or_eq_true x132 with hb_14 | hb_14
                      · replace H := H.1 hb_14
                        refine OL.pure S (Lf.run_move (S.ev rfl)) rfl rfl (GOk.mk rfl rfl hb_14) ?_
                        clear S; intro aa S
                        refine OL.pure S (Lf.run_move (S.ev rfl)) rfl rfl (GOk.mk rfl rfl hb_14) ?_
                        clear S; intro aa S
                        refine OL.pure S (Lf.run_move (S.ev rfl)) rfl rfl (GOk.mk rfl rfl hb_14) ?_
                        clear S; intro aa S
                        refine ol_cal S H isfn14 rfl rfl (GOk.mk rfl rfl hb_14) ?_
                        clear S H aa; intro u_11 aa ww h26 H S
                        obtain ⟨x137, rfl, H⟩ := H
                        refine OL.pure S (Lf.run_not (S.ev rfl)) rfl rfl (GOk.mk rfl rfl hb_14) ?_
                        clear S; intro aa S
                        refine OL.pure S (Lf.run_pickT (S.ev rfl) hb_14 (S.ev rfl)) rfl rfl trivial ?_
                        clear S; intro aa S
                        refine OL.nil ?_
                        exact ⟨_, _, S.sub _ ⟨rfl, rfl, rfl, rfl, rfl, rfl, rfl, rfl, rfl, rfl, rfl, trivial⟩, H⟩
                      · replace H := H.2 hb_14
                        refine OL.not S rfl rfl (GNo.mk rfl rfl hb_14) ?_
                        clear S; intro aa S
                        refine OL.not S rfl rfl (GNo.mk rfl rfl hb_14) ?_
                        clear S; intro aa S
                        refine OL.not S rfl rfl (GNo.mk rfl rfl hb_14) ?_
                        clear S; intro aa S
                        refine OL.not S rfl rfl (GNo.mk rfl rfl hb_14) ?_
                        clear S; intro aa S
                        refine OL.not S rfl rfl (GNo.mk rfl rfl hb_14) ?_
                        clear S; intro aa S
                        refine OL.pure S (Lf.run_pickF (S.ev rfl) hb_14 (S.ev rfl)) rfl rfl trivial ?_
                        clear S; intro aa S
                        refine OL.nil ?_
                        exact ⟨_, _, S.sub _ ⟨rfl, rfl, rfl, rfl, rfl, rfl, rfl, rfl, rfl, rfl, rfl, trivial⟩, H⟩
                    · clear S aa
                      rintro aa ww ⟨x139, h25, S, HJ⟩
                      replace H := HK_5 _ _ HJ
                      clear HK_5 HJ
                      refine OL.nil ?_
                      refine W.cond S (b := x139) rfl (fun hb_15 => ?_) (fun hb_15 => ?_)
                      · replace H := H.1 hb_15
                        refine W.seq ?_
                        replace S := S.sub [] trivial
                        refine W.region ?_
                        refine OL.pure S (Lf.run_assign (S.ev rfl)) rfl rfl trivial ?_
                        clear S; intro aa S
                        refine OL.nil ?_
                        refine W.ret ?_
                        exact Ret.one S rfl rfl H
                      · replace H := H.2 hb_15
                        refine W.skip ?_
                        replace S := S.sub [(2, Value.pointer (some p2)), (9, Value.pointer x103), (11, Value.pointer x108), (13, Value.int .i64 i13), (14, Value.int .i64 e14)] ⟨rfl, rfl, rfl, rfl, rfl, trivial⟩
                        refine W.region ?_
                        refine OL.pure S (Lf.run_move (S.ev rfl)) rfl rfl trivial ?_
                        clear S; intro aa S
                        refine OL.pure S (Lf.run_add (S.ev rfl) (S.ev rfl)) rfl rfl trivial ?_
                        clear S; intro aa S
                        refine OL.pure S (Lf.run_assign (S.ev rfl)) rfl rfl trivial ?_
                        clear S; intro aa S
                        refine OL.nil ?_
                        exact ⟨((IntKind.i64.wrap (e14 + 1)), h25), ⟨S.sub _ ⟨rfl, rfl, rfl, rfl, rfl, trivial⟩, H.1⟩, H.2⟩
                  · replace H := H.2 hb_13
                    refine W.exit_ ?_
                    refine xhit ?_
                    replace S := S.sub [(2, Value.pointer (some p2)), (9, Value.pointer x103), (11, Value.pointer x108), (13, Value.int .i64 i13)] ⟨rfl, rfl, rfl, rfl, trivial⟩
                    refine W.region ?_
                    refine OL.pure S (Lf.run_move (S.ev rfl)) rfl rfl trivial ?_
                    clear S; intro aa S
                    refine OL.pure S (Lf.run_add (S.ev rfl) (S.ev rfl)) rfl rfl trivial ?_
                    clear S; intro aa S
                    refine OL.pure S (Lf.run_assign (S.ev rfl)) rfl rfl trivial ?_
                    clear S; intro aa S
                    refine OL.nil ?_
                    exact ⟨((IntKind.i64.wrap (i13 + 1)), h23), ⟨S.sub _ ⟨rfl, rfl, rfl, rfl, trivial⟩, H.1⟩, H.2⟩
                · replace H := H.2 hb_12
                  refine W.exit_ ?_
                  refine xhit ?_
                  refine W.seq ?_
                  replace S := S.sub [] trivial
                  refine W.region ?_
                  refine OL.pure S (Lf.run_assign (S.ev rfl)) rfl rfl trivial ?_
                  clear S; intro aa S
                  refine OL.nil ?_
                  refine W.ret ?_
                  exact Ret.one S rfl rfl H

/-- chattel chattellaw15.FlowForward -/
def L5 (p0 : Sv) (p0_1 : Int) (p0_2 : Sv) (p0_3 : Sv) (p0_4 : Sv) (h : Heap) (R : Value → Heap → Prop) : Prop :=
  new 25 #[Value.slice p0.a p0.n p0.c, Value.int .i64 p0_1, Value.slice p0_2.a p0_2.n p0_2.c, Value.slice p0_3.a p0_3.n p0_3.c, Value.slice p0_4.a p0_4.n p0_4.c] h fun p1 h1 =>
  cal Try.prog 9 #[] h1 fun u h2 => asB u fun x6 =>
  ∃ J : Bool → Heap → Prop, (orj (!x6) (fun k =>
    ∃ (y9 : Sv) (y9_1 : Int) (y9_2 : Sv) (y9_3 : Sv) (y9_4 : Sv), cl h2 p1 = some (Value.slice y9.a y9.n y9.c) ∧ cl h2 (p1.add 1) = some (Value.int .i64 y9_1) ∧ cl h2 (p1.add 2) = some (Value.slice y9_2.a y9_2.n y9_2.c) ∧ cl h2 (p1.add 3) = some (Value.slice y9_3.a y9_3.n y9_3.c) ∧ cl h2 (p1.add 4) = some (Value.slice y9_4.a y9_4.n y9_4.c) ∧
    cal Try.prog 10 #[Value.agg #[Value.slice y9.a y9.n y9.c, Value.int .i64 y9_1, Value.slice y9_2.a y9_2.n y9_2.c, Value.slice y9_3.a y9_3.n y9_3.c, Value.slice y9_4.a y9_4.n y9_4.c]] h2 fun u_1 h4 => asB u_1 fun x10 =>
    k (!x10) h4) h2 J) ∧ ∀ x12 h3, J x12 h3 →
  ifb x12 (
    cal Try.prog 9 #[] h3 fun u_2 h5 => asB u_2 fun x13 =>
    R (Value.bool x13) h5) (
    ∃ (y15 : Sv) (y15_1 : Int) (y15_2 : Sv) (y15_3 : Sv) (y15_4 : Sv), cl h3 p1 = some (Value.slice y15.a y15.n y15.c) ∧ cl h3 (p1.add 1) = some (Value.int .i64 y15_1) ∧ cl h3 (p1.add 2) = some (Value.slice y15_2.a y15_2.n y15_2.c) ∧ cl h3 (p1.add 3) = some (Value.slice y15_3.a y15_3.n y15_3.c) ∧ cl h3 (p1.add 4) = some (Value.slice y15_4.a y15_4.n y15_4.c) ∧
    cal Try.prog 12 #[Value.agg #[Value.slice y15.a y15.n y15.c, Value.int .i64 y15_1, Value.slice y15_2.a y15_2.n y15_2.c, Value.slice y15_3.a y15_3.n y15_3.c, Value.slice y15_4.a y15_4.n y15_4.c]] h3 fun u_3 h6 => asTup u_3 fun r16 =>
    elt r16 0 fun u_4 => asP u_4 fun x17 =>
    elt r16 1 fun u_5 => asI .i64 u_5 fun x18 =>
    ∃ (y19 : Sv) (y19_1 : Int) (y19_2 : Sv) (y19_3 : Sv) (y19_4 : Sv), cl h6 p1 = some (Value.slice y19.a y19.n y19.c) ∧ cl h6 (p1.add 1) = some (Value.int .i64 y19_1) ∧ cl h6 (p1.add 2) = some (Value.slice y19_2.a y19_2.n y19_2.c) ∧ cl h6 (p1.add 3) = some (Value.slice y19_3.a y19_3.n y19_3.c) ∧ cl h6 (p1.add 4) = some (Value.slice y19_4.a y19_4.n y19_4.c) ∧
    cal Try.prog 11 #[Value.agg #[Value.slice y19.a y19.n y19.c, Value.int .i64 y19_1, Value.slice y19_2.a y19_2.n y19_2.c, Value.slice y19_3.a y19_3.n y19_3.c, Value.slice y19_4.a y19_4.n y19_4.c]] h6 fun u_6 h7 => asI .i64 u_6 fun x20 =>
    ifb (x20 != 0) (
      ∃ J_1 : Bool → Heap → Prop, (andj ((x18 == x20) && (Option.isNone x17)) (fun k_1 =>
        ∃ (y31 : Sv) (y31_1 : Int) (y31_2 : Sv) (y31_3 : Sv) (y31_4 : Sv), cl h7 p1 = some (Value.slice y31.a y31.n y31.c) ∧ cl h7 (p1.add 1) = some (Value.int .i64 y31_1) ∧ cl h7 (p1.add 2) = some (Value.slice y31_2.a y31_2.n y31_2.c) ∧ cl h7 (p1.add 3) = some (Value.slice y31_3.a y31_3.n y31_3.c) ∧ cl h7 (p1.add 4) = some (Value.slice y31_4.a y31_4.n y31_4.c) ∧
        cal Try.prog 15 #[Value.agg #[Value.slice y31.a y31.n y31.c, Value.int .i64 y31_1, Value.slice y31_2.a y31_2.n y31_2.c, Value.slice y31_3.a y31_3.n y31_3.c, Value.slice y31_4.a y31_4.n y31_4.c]] h7 fun u_7 h9 => asI .i64 u_7 fun x32 =>
        k_1 (x32 == x20) h9) h7 J_1) ∧ ∀ x35 h8, J_1 x35 h8 →
      R (Value.bool x35) h8) (
      ∃ J_2 : Bool → Heap → Prop, (andj (x18 == 0) (fun k_2 =>
        ∃ (y39 : Sv) (y39_1 : Int) (y39_2 : Sv) (y39_3 : Sv) (y39_4 : Sv), cl h7 p1 = some (Value.slice y39.a y39.n y39.c) ∧ cl h7 (p1.add 1) = some (Value.int .i64 y39_1) ∧ cl h7 (p1.add 2) = some (Value.slice y39_2.a y39_2.n y39_2.c) ∧ cl h7 (p1.add 3) = some (Value.slice y39_3.a y39_3.n y39_3.c) ∧ cl h7 (p1.add 4) = some (Value.slice y39_4.a y39_4.n y39_4.c) ∧
        cal Try.prog 15 #[Value.agg #[Value.slice y39.a y39.n y39.c, Value.int .i64 y39_1, Value.slice y39_2.a y39_2.n y39_2.c, Value.slice y39_3.a y39_3.n y39_3.c, Value.slice y39_4.a y39_4.n y39_4.c]] h7 fun u_8 h11 => asI .i64 u_8 fun x40 =>
        k_2 (x40 == 0) h11) h7 J_2) ∧ ∀ x42 h10, J_2 x42 h10 →
      ∃ J_3 : Bool → Heap → Prop, (andj (x42 && (Option.isSome x17)) (fun k_3 =>
        ∃ (y49 : Sv) (y49_1 : Int) (y49_2 : Sv) (y49_3 : Sv) (y49_4 : Sv), cl h10 p1 = some (Value.slice y49.a y49.n y49.c) ∧ cl h10 (p1.add 1) = some (Value.int .i64 y49_1) ∧ cl h10 (p1.add 2) = some (Value.slice y49_2.a y49_2.n y49_2.c) ∧ cl h10 (p1.add 3) = some (Value.slice y49_3.a y49_3.n y49_3.c) ∧ cl h10 (p1.add 4) = some (Value.slice y49_4.a y49_4.n y49_4.c) ∧
        cal Try.prog 16 #[Value.pointer x17, Value.agg #[Value.slice y49.a y49.n y49.c, Value.int .i64 y49_1, Value.slice y49_2.a y49_2.n y49_2.c, Value.slice y49_3.a y49_3.n y49_3.c, Value.slice y49_4.a y49_4.n y49_4.c], (Value.func (.func 17) #[] #[])] h10 fun u_9 h13 => asB u_9 fun x50 =>
        k_3 x50 h13) h10 J_3) ∧ ∀ x51 h12, J_3 x51 h12 →
      R (Value.bool x51) h12))

set_option maxRecDepth 100000 in

theorem F5 {p0 p0_1 p0_2 p0_3 p0_4 h : _} {R : Value → Heap → Prop} (H : L5 p0 p0_1 p0_2 p0_3 p0_4 h R) : CallsH Try.prog 5 #[Value.agg #[Value.slice p0.a p0.n p0.c, Value.int .i64 p0_1, Value.slice p0_2.a p0_2.n p0_2.c, Value.slice p0_3.a p0_3.n p0_3.c, Value.slice p0_4.a p0_4.n p0_4.c]] h R := by
  refine CallsH.enter (n := 52) Try.func5 rfl rfl rfl rfl ?_
  intro w0 aa ww S
  unfold L5 at H
  refine W.seq ?_
  replace S := S.sub [(0, Value.agg #[Value.slice p0.a p0.n p0.c, Value.int .i64 p0_1, Value.slice p0_2.a p0_2.n p0_2.c, Value.slice p0_3.a p0_3.n p0_3.c, Value.slice p0_4.a p0_4.n p0_4.c])] ⟨rfl, trivial⟩
  refine W.region ?_
  refine ol_box S H rfl rfl rfl trivial ?_
  clear S H aa; intro p1 aa ww h1 H S
  refine OL.pure S (Lf.run_assign (S.ev rfl)) rfl rfl trivial ?_
  clear S; intro aa S
  refine OL.nil ?_
  refine W.seq ?_
  refine W.seq ?_
  replace S := S.sub [(1, Value.pointer (some p1))] ⟨rfl, trivial⟩
  refine W.region ?_
  refine ol_cal S H isfn9 rfl rfl trivial ?_
  clear S H aa; intro u aa ww h2 H S
  obtain ⟨x6, rfl, H⟩ := H
  refine OL.pure S (Lf.run_not (S.ev rfl)) rfl rfl trivial ?_
  clear S; intro aa S
  refine OL.pure S (Lf.run_move (S.ev rfl)) rfl rfl trivial ?_
  clear S; intro aa S
  obtain ⟨J, H, HK⟩ := H
  refine OL.cutN 4 (fun aa ww => ∃ x12 h3, St 52 ((12, Value.bool x12) :: [(1, Value.pointer (some p1)), (6, Value.bool x6), (7, Value.bool (!x6)), (8, Value.bool (!x6))]) h3 w0 aa ww ∧ J x12 h3) ?_ ?_
  · rcases Bool.eq_false_or_eq_true (!x6) with hb | hb
    · replace H := H.1 hb
      refine OL.not S rfl rfl (GNo.mk rfl rfl hb) ?_
      clear S; intro aa S
      refine OL.not S rfl rfl (GNo.mk rfl rfl hb) ?_
      clear S; intro aa S
      refine OL.not S rfl rfl (GNo.mk rfl rfl hb) ?_
      clear S; intro aa S
      refine OL.pure S (Lf.run_pickT (S.ev rfl) hb (S.ev rfl)) rfl rfl trivial ?_
      clear S; intro aa S
      refine OL.nil ?_
      exact ⟨_, _, S.sub _ ⟨rfl, rfl, rfl, rfl, rfl, trivial⟩, H⟩
    · replace H := H.2 hb
      obtain ⟨y9, y9_1, y9_2, y9_3, y9_4, c_1, c_2, c_3, c_4, c_5, H⟩ := H
      refine OL.pure S (Lf.run_ldA (cs := [Value.slice y9.a y9.n y9.c, Value.int .i64 y9_1, Value.slice y9_2.a y9_2.n y9_2.c, Value.slice y9_3.a y9_3.n y9_3.c, Value.slice y9_4.a y9_4.n y9_4.c]) (S.ev rfl) ag25 ti25 (by rw [S.heap]; exact RowL.toRow ⟨c_1, c_2, c_3, c_4, c_5, trivial⟩)) rfl rfl (GOk.mk rfl rfl hb) ?_
      clear S; intro aa S
      refine ol_cal S H isfn10 rfl rfl (GOk.mk rfl rfl hb) ?_
      clear S H aa; intro u_1 aa ww h4 H S
      obtain ⟨x10, rfl, H⟩ := H
      refine OL.pure S (Lf.run_not (S.ev rfl)) rfl rfl (GOk.mk rfl rfl hb) ?_
      clear S; intro aa S
      refine OL.pure S (Lf.run_pickF (S.ev rfl) hb (S.ev rfl)) rfl rfl trivial ?_
      clear S; intro aa S
      refine OL.nil ?_
      exact ⟨_, _, S.sub _ ⟨rfl, rfl, rfl, rfl, rfl, trivial⟩, H⟩
  · clear S aa
    rintro aa ww ⟨x12, h3, S, HJ⟩
    replace H := HK _ _ HJ
    clear HK HJ
    refine OL.nil ?_
    refine W.cond S (b := x12) rfl (fun hb_1 => ?_) (fun hb_1 => ?_)
    · replace H := H.1 hb_1
      refine W.seq ?_
      replace S := S.sub [] trivial
      refine W.region ?_
      refine ol_cal S H isfn9 rfl rfl trivial ?_
      clear S H aa; intro u_2 aa ww h5 H S
      obtain ⟨x13, rfl, H⟩ := H
      refine OL.pure S (Lf.run_assign (S.ev rfl)) rfl rfl trivial ?_
      clear S; intro aa S
      refine OL.nil ?_
      refine W.ret ?_
      exact Ret.one S rfl rfl H
    · replace H := H.2 hb_1
      refine W.skip ?_
      refine W.seq ?_
      replace S := S.sub [(1, Value.pointer (some p1))] ⟨rfl, trivial⟩
      refine W.region ?_
      obtain ⟨y15, y15_1, y15_2, y15_3, y15_4, c_31, c_32, c_33, c_34, c_35, H⟩ := H
      refine OL.pure S (Lf.run_ldA (cs := [Value.slice y15.a y15.n y15.c, Value.int .i64 y15_1, Value.slice y15_2.a y15_2.n y15_2.c, Value.slice y15_3.a y15_3.n y15_3.c, Value.slice y15_4.a y15_4.n y15_4.c]) (S.ev rfl) ag25 ti25 (by rw [S.heap]; exact RowL.toRow ⟨c_31, c_32, c_33, c_34, c_35, trivial⟩)) rfl rfl trivial ?_
      clear S; intro aa S
      refine ol_cal S H isfn12 rfl rfl trivial ?_
      clear S H aa; intro u_3 aa ww h6 H S
      obtain ⟨r16, rfl, H⟩ := H
      refine OL.pure S (Lf.run_move (S.ev rfl)) rfl rfl trivial ?_
      clear S; intro aa S
      obtain ⟨u_4, e, x17, rfl, H⟩ := H
      refine OL.pure S (Lf.run_ex (S.ev rfl) e) rfl rfl trivial ?_
      clear S; intro aa S
      obtain ⟨u_5, e_1, x18, rfl, H⟩ := H
      refine OL.pure S (Lf.run_ex (S.ev rfl) e_1) rfl rfl trivial ?_
      clear S; intro aa S
      refine OL.pure S (Lf.run_assign (S.ev rfl)) rfl rfl trivial ?_
      clear S; intro aa S
      refine OL.pure S (Lf.run_assign (S.ev rfl)) rfl rfl trivial ?_
      clear S; intro aa S
      refine OL.nil ?_
      refine W.seq ?_
      refine W.seq ?_
      replace S := S.sub [(1, Value.pointer (some p1)), (3, Value.pointer x17), (4, Value.int .i64 x18)] ⟨rfl, rfl, rfl, trivial⟩
      refine W.region ?_
      obtain ⟨y19, y19_1, y19_2, y19_3, y19_4, c_26, c_27, c_28, c_29, c_30, H⟩ := H
      refine OL.pure S (Lf.run_ldA (cs := [Value.slice y19.a y19.n y19.c, Value.int .i64 y19_1, Value.slice y19_2.a y19_2.n y19_2.c, Value.slice y19_3.a y19_3.n y19_3.c, Value.slice y19_4.a y19_4.n y19_4.c]) (S.ev rfl) ag25 ti25 (by rw [S.heap]; exact RowL.toRow ⟨c_26, c_27, c_28, c_29, c_30, trivial⟩)) rfl rfl trivial ?_
      clear S; intro aa S
      refine ol_cal S H isfn11 rfl rfl trivial ?_
      clear S H aa; intro u_6 aa ww h7 H S
      obtain ⟨x20, rfl, H⟩ := H
      refine OL.pure S (Lf.run_assign (S.ev rfl)) rfl rfl trivial ?_
      clear S; intro aa S
      refine OL.nil ?_
      refine W.seq ?_
      replace S := S.sub [(1, Value.pointer (some p1)), (3, Value.pointer x17), (4, Value.int .i64 x18), (5, Value.int .i64 x20)] ⟨rfl, rfl, rfl, rfl, trivial⟩
      refine W.region ?_
      refine OL.pure S (Lf.run_move (S.ev rfl)) rfl rfl trivial ?_
      clear S; intro aa S
      refine OL.pure S (Lf.run_neq (S.ev rfl) (S.ev rfl)) rfl rfl trivial ?_
      clear S; intro aa S
      refine OL.nil ?_
      refine W.cond S (b := (x20 != 0)) rfl (fun hb_2 => ?_) (fun hb_2 => ?_)
      · replace H := H.1 hb_2
        refine W.seq ?_
        replace S := S.sub [(1, Value.pointer (some p1)), (3, Value.pointer x17), (4, Value.int .i64 x18), (5, Value.int .i64 x20)] ⟨rfl, rfl, rfl, rfl, trivial⟩
        refine W.region ?_
        refine OL.pure S (Lf.run_move (S.ev rfl)) rfl rfl trivial ?_
        clear S; intro aa S
        refine OL.pure S (Lf.run_move (S.ev rfl)) rfl rfl trivial ?_
        clear S; intro aa S
        refine OL.pure S (Lf.run_eql (S.ev rfl) (S.ev rfl)) rfl rfl trivial ?_
        clear S; intro aa S
        refine OL.pure S (Lf.run_move (S.ev rfl)) rfl rfl trivial ?_
        clear S; intro aa S
        refine OL.cutN 3 (fun aa ww => St 52 ((29, Value.bool ((x18 == x20) && (Option.isNone x17))) :: [(1, Value.pointer (some p1)), (3, Value.pointer x17), (4, Value.int .i64 x18), (5, Value.int .i64 x20), (23, Value.int .i64 x18), (24, Value.int .i64 x20), (25, Value.bool (x18 == x20)), (26, Value.bool (x18 == x20))]) h7 w0 aa ww) ?_ ?_
        · rcases Bool.eq_false_or_eq_true (x18 == x20) with hb_3 | hb_3
          · refine OL.pure S (Lf.run_move (S.ev rfl)) rfl rfl (GOk.mk rfl rfl hb_3) ?_
            clear S; intro aa S
            refine OL.pure S (Lf.run_eqlpn Try.underlying29 (S.ev rfl) (S.ev rfl)) rfl rfl (GOk.mk rfl rfl hb_3) ?_
            clear S; intro aa S
            refine OL.pure S (Lf.run_pickT (S.ev rfl) hb_3 (S.ev rfl)) rfl rfl trivial ?_
            clear S; intro aa S
            refine OL.nil ?_
            exact (S.hd (by rw [hb_3, Bool.true_and])).sub _ ⟨rfl, rfl, rfl, rfl, rfl, rfl, rfl, rfl, rfl, trivial⟩
          · refine OL.not S rfl rfl (GNo.mk rfl rfl hb_3) ?_
            clear S; intro aa S
            refine OL.not S rfl rfl (GNo.mk rfl rfl hb_3) ?_
            clear S; intro aa S
            refine OL.pure S (Lf.run_pickF (S.ev rfl) hb_3 (S.ev rfl)) rfl rfl trivial ?_
            clear S; intro aa S
            refine OL.nil ?_
            exact (S.hd (by rw [hb_3, Bool.false_and])).sub _ ⟨rfl, rfl, rfl, rfl, rfl, rfl, rfl, rfl, rfl, trivial⟩
        · clear S aa
          intro aa ww S
          refine OL.pure S (Lf.run_move (S.ev rfl)) rfl rfl trivial ?_
          clear S; intro aa S
          obtain ⟨J_1, H, HK_1⟩ := H
          refine OL.cutN 5 (fun aa ww => ∃ x35 h8, St 52 ((35, Value.bool x35) :: [(1, Value.pointer (some p1)), (3, Value.pointer x17), (4, Value.int .i64 x18), (5, Value.int .i64 x20), (23, Value.int .i64 x18), (24, Value.int .i64 x20), (25, Value.bool (x18 == x20)), (26, Value.bool (x18 == x20)), (29, Value.bool ((x18 == x20) && (Option.isNone x17))), (30, Value.bool ((x18 == x20) && (Option.isNone x17)))]) h8 w0 aa ww ∧ J_1 x35 h8) ?_ ?_
          · rcases Bool.eq_false_or_eq_true ((x18 == x20) && (Option.isNone x17)) with hb_4 | hb_4
            · replace H := H.1 hb_4
              obtain ⟨y31, y31_1, y31_2, y31_3, y31_4, c_9, c_10, c_11, c_12, c_13, H⟩ := H
              refine OL.pure S (Lf.run_ldA (cs := [Value.slice y31.a y31.n y31.c, Value.int .i64 y31_1, Value.slice y31_2.a y31_2.n y31_2.c, Value.slice y31_3.a y31_3.n y31_3.c, Value.slice y31_4.a y31_4.n y31_4.c]) (S.ev rfl) ag25 ti25 (by rw [S.heap]; exact RowL.toRow ⟨c_9, c_10, c_11, c_12, c_13, trivial⟩)) rfl rfl (GOk.mk rfl rfl hb_4) ?_
              clear S; intro aa S
              refine ol_cal S H isfn15 rfl rfl (GOk.mk rfl rfl hb_4) ?_
              clear S H aa; intro u_7 aa ww h9 H S
              obtain ⟨x32, rfl, H⟩ := H
              refine OL.pure S (Lf.run_move (S.ev rfl)) rfl rfl (GOk.mk rfl rfl hb_4) ?_
              clear S; intro aa S
              refine OL.pure S (Lf.run_eql (S.ev rfl) (S.ev rfl)) rfl rfl (GOk.mk rfl rfl hb_4) ?_
              clear S; intro aa S
              refine OL.pure S (Lf.run_pickT (S.ev rfl) hb_4 (S.ev rfl)) rfl rfl trivial ?_
              clear S; intro aa S
              refine OL.nil ?_
              exact ⟨_, _, S.sub _ ⟨rfl, rfl, rfl, rfl, rfl, rfl, rfl, rfl, rfl, rfl, rfl, trivial⟩, H⟩
            · replace H := H.2 hb_4
              refine OL.not S rfl rfl (GNo.mk rfl rfl hb_4) ?_
              clear S; intro aa S
              refine OL.not S rfl rfl (GNo.mk rfl rfl hb_4) ?_
              clear S; intro aa S
              refine OL.not S rfl rfl (GNo.mk rfl rfl hb_4) ?_
              clear S; intro aa S
              refine OL.not S rfl rfl (GNo.mk rfl rfl hb_4) ?_
              clear S; intro aa S
              refine OL.pure S (Lf.run_pickF (S.ev rfl) hb_4 (S.ev rfl)) rfl rfl trivial ?_
              clear S; intro aa S
              refine OL.nil ?_
              exact ⟨_, _, S.sub _ ⟨rfl, rfl, rfl, rfl, rfl, rfl, rfl, rfl, rfl, rfl, rfl, trivial⟩, H⟩
          · clear S aa
            rintro aa ww ⟨x35, h8, S, HJ⟩
            replace H := HK_1 _ _ HJ
            clear HK_1 HJ
            refine OL.pure S (Lf.run_assign (S.ev rfl)) rfl rfl trivial ?_
            clear S; intro aa S
            refine OL.nil ?_
            refine W.ret ?_
            exact Ret.one S rfl rfl H
      · replace H := H.2 hb_2
        refine W.skip ?_
        refine W.seq ?_
        replace S := S.sub [(1, Value.pointer (some p1)), (3, Value.pointer x17), (4, Value.int .i64 x18)] ⟨rfl, rfl, rfl, trivial⟩
        refine W.region ?_
        refine OL.pure S (Lf.run_move (S.ev rfl)) rfl rfl trivial ?_
        clear S; intro aa S
        refine OL.pure S (Lf.run_eql (S.ev rfl) (S.ev rfl)) rfl rfl trivial ?_
        clear S; intro aa S
        refine OL.pure S (Lf.run_move (S.ev rfl)) rfl rfl trivial ?_
        clear S; intro aa S
        obtain ⟨J_2, H, HK_2⟩ := H
        refine OL.cutN 4 (fun aa ww => ∃ x42 h10, St 52 ((42, Value.bool x42) :: [(1, Value.pointer (some p1)), (3, Value.pointer x17), (4, Value.int .i64 x18), (36, Value.int .i64 x18), (37, Value.bool (x18 == 0)), (38, Value.bool (x18 == 0))]) h10 w0 aa ww ∧ J_2 x42 h10) ?_ ?_
        · rcases Bool.eq_false_or_eq_true (x18 == 0) with hb_5 | hb_5
          · replace H := H.1 hb_5
            obtain ⟨y39, y39_1, y39_2, y39_3, y39_4, c_15, c_16, c_17, c_18, c_19, H⟩ := H
            refine OL.pure S (Lf.run_ldA (cs := [Value.slice y39.a y39.n y39.c, Value.int .i64 y39_1, Value.slice y39_2.a y39_2.n y39_2.c, Value.slice y39_3.a y39_3.n y39_3.c, Value.slice y39_4.a y39_4.n y39_4.c]) (S.ev rfl) ag25 ti25 (by rw [S.heap]; exact RowL.toRow ⟨c_15, c_16, c_17, c_18, c_19, trivial⟩)) rfl rfl (GOk.mk rfl rfl hb_5) ?_
            clear S; intro aa S
            refine ol_cal S H isfn15 rfl rfl (GOk.mk rfl rfl hb_5) ?_
            clear S H aa; intro u_8 aa ww h11 H S
            obtain ⟨x40, rfl, H⟩ := H
            refine OL.pure S (Lf.run_eql (S.ev rfl) (S.ev rfl)) rfl rfl (GOk.mk rfl rfl hb_5) ?_
            clear S; intro aa S
            refine OL.pure S (Lf.run_pickT (S.ev rfl) hb_5 (S.ev rfl)) rfl rfl trivial ?_
            clear S; intro aa S
            refine OL.nil ?_
            exact ⟨_, _, S.sub _ ⟨rfl, rfl, rfl, rfl, rfl, rfl, rfl, trivial⟩, H⟩
          · replace H := H.2 hb_5
            refine OL.not S rfl rfl (GNo.mk rfl rfl hb_5) ?_
            clear S; intro aa S
            refine OL.not S rfl rfl (GNo.mk rfl rfl hb_5) ?_
            clear S; intro aa S
            refine OL.not S rfl rfl (GNo.mk rfl rfl hb_5) ?_
            clear S; intro aa S
            refine OL.pure S (Lf.run_pickF (S.ev rfl) hb_5 (S.ev rfl)) rfl rfl trivial ?_
            clear S; intro aa S
            refine OL.nil ?_
            exact ⟨_, _, S.sub _ ⟨rfl, rfl, rfl, rfl, rfl, rfl, rfl, trivial⟩, H⟩
        · clear S aa
          rintro aa ww ⟨x42, h10, S, HJ⟩
          replace H := HK_2 _ _ HJ
          clear HK_2 HJ
          refine OL.pure S (Lf.run_move (S.ev rfl)) rfl rfl trivial ?_
          clear S; intro aa S
          refine OL.cutN 3 (fun aa ww => St 52 ((46, Value.bool (x42 && (Option.isSome x17))) :: [(1, Value.pointer (some p1)), (3, Value.pointer x17), (4, Value.int .i64 x18), (36, Value.int .i64 x18), (37, Value.bool (x18 == 0)), (38, Value.bool (x18 == 0)), (42, Value.bool x42), (43, Value.bool x42)]) h10 w0 aa ww) ?_ ?_
          · rcases Bool.eq_false_or_eq_true x42 with hb_6 | hb_6
            · refine OL.pure S (Lf.run_move (S.ev rfl)) rfl rfl (GOk.mk rfl rfl hb_6) ?_
              clear S; intro aa S
              refine OL.pure S (Lf.run_neqpn Try.underlying29 (S.ev rfl) (S.ev rfl)) rfl rfl (GOk.mk rfl rfl hb_6) ?_
              clear S; intro aa S
              refine OL.pure S (Lf.run_pickT (S.ev rfl) hb_6 (S.ev rfl)) rfl rfl trivial ?_
              clear S; intro aa S
              refine OL.nil ?_
              exact (S.hd (by rw [hb_6, Bool.true_and])).sub _ ⟨rfl, rfl, rfl, rfl, rfl, rfl, rfl, rfl, rfl, trivial⟩
            · refine OL.not S rfl rfl (GNo.mk rfl rfl hb_6) ?_
              clear S; intro aa S
              refine OL.not S rfl rfl (GNo.mk rfl rfl hb_6) ?_
              clear S; intro aa S
              refine OL.pure S (Lf.run_pickF (S.ev rfl) hb_6 (S.ev rfl)) rfl rfl trivial ?_
              clear S; intro aa S
              refine OL.nil ?_
              exact (S.hd (by rw [hb_6, Bool.false_and])).sub _ ⟨rfl, rfl, rfl, rfl, rfl, rfl, rfl, rfl, rfl, trivial⟩
          · clear S aa
            intro aa ww S
            refine OL.pure S (Lf.run_move (S.ev rfl)) rfl rfl trivial ?_
            clear S; intro aa S
            obtain ⟨J_3, H, HK_3⟩ := H
            refine OL.cutN 4 (fun aa ww => ∃ x51 h12, St 52 ((51, Value.bool x51) :: [(1, Value.pointer (some p1)), (3, Value.pointer x17), (4, Value.int .i64 x18), (36, Value.int .i64 x18), (37, Value.bool (x18 == 0)), (38, Value.bool (x18 == 0)), (42, Value.bool x42), (43, Value.bool x42), (46, Value.bool (x42 && (Option.isSome x17))), (47, Value.bool (x42 && (Option.isSome x17)))]) h12 w0 aa ww ∧ J_3 x51 h12) ?_ ?_
            · rcases Bool.eq_false_or_eq_true (x42 && (Option.isSome x17)) with hb_7 | hb_7
              · replace H := H.1 hb_7
                refine OL.pure S (Lf.run_move (S.ev rfl)) rfl rfl (GOk.mk rfl rfl hb_7) ?_
                clear S; intro aa S
                obtain ⟨y49, y49_1, y49_2, y49_3, y49_4, c_21, c_22, c_23, c_24, c_25, H⟩ := H
                refine OL.pure S (Lf.run_ldA (cs := [Value.slice y49.a y49.n y49.c, Value.int .i64 y49_1, Value.slice y49_2.a y49_2.n y49_2.c, Value.slice y49_3.a y49_3.n y49_3.c, Value.slice y49_4.a y49_4.n y49_4.c]) (S.ev rfl) ag25 ti25 (by rw [S.heap]; exact RowL.toRow ⟨c_21, c_22, c_23, c_24, c_25, trivial⟩)) rfl rfl (GOk.mk rfl rfl hb_7) ?_
                clear S; intro aa S
                refine ol_cal S H isfn16 rfl rfl (GOk.mk rfl rfl hb_7) ?_
                clear S H aa; intro u_9 aa ww h13 H S
                obtain ⟨x50, rfl, H⟩ := H
                refine OL.pure S (Lf.run_pickT (S.ev rfl) hb_7 (S.ev rfl)) rfl rfl trivial ?_
                clear S; intro aa S
                refine OL.nil ?_
                exact ⟨_, _, S.sub _ ⟨rfl, rfl, rfl, rfl, rfl, rfl, rfl, rfl, rfl, rfl, rfl, trivial⟩, H⟩
              · replace H := H.2 hb_7
                refine OL.not S rfl rfl (GNo.mk rfl rfl hb_7) ?_
                clear S; intro aa S
                refine OL.not S rfl rfl (GNo.mk rfl rfl hb_7) ?_
                clear S; intro aa S
                refine OL.not S rfl rfl (GNo.mk rfl rfl hb_7) ?_
                clear S; intro aa S
                refine OL.pure S (Lf.run_pickF (S.ev rfl) hb_7 (S.ev rfl)) rfl rfl trivial ?_
                clear S; intro aa S
                refine OL.nil ?_
                exact ⟨_, _, S.sub _ ⟨rfl, rfl, rfl, rfl, rfl, rfl, rfl, rfl, rfl, rfl, rfl, trivial⟩, H⟩
            · clear S aa
              rintro aa ww ⟨x51, h12, S, HJ⟩
              replace H := HK_3 _ _ HJ
              clear HK_3 HJ
              refine OL.pure S (Lf.run_assign (S.ev rfl)) rfl rfl trivial ?_
              clear S; intro aa S
              refine OL.nil ?_
              refine W.ret ?_
              exact Ret.one S rfl rfl H

end Go.Proofs.Ytglhkodebehdbaa

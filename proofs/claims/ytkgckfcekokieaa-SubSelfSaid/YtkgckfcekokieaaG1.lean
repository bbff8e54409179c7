/- Lifted by program off the elaborated code: each Go function, read as a proposition over typed variables and the heap. -/
import Derived.Test.YtkgckfcekokieaaG0
namespace Go.Proofs.Ytkgckfcekokieaa
open Go Go.Lf
set_option linter.unusedVariables false

/-- chattel chattellaw10.SubSelf -/
def L3 (x0 : Int) (x0_1 : ByteArray) (x0_2 : Bool) (x0_3 : Int) (x0_4 : Sv) (x0_5 : Sv) (vfrom1 : Int) (h : Heap) (R : Value → Heap → Prop) : Prop :=
  new 25 #[Value.int .i64 x0, Value.string x0_1, Value.bool x0_2, Value.int .i64 x0_3, Value.slice x0_4.a x0_4.n x0_4.c, Value.slice x0_5.a x0_5.n x0_5.c] h fun p2 h1 =>
  cal Try.prog 7 #[] h1 fun u h2 => asB u fun x8 =>
  ∃ J : Bool → Heap → Prop, (orj (!x8) (fun k =>
    ∃ (y11 : Int) (y11_1 : ByteArray) (y11_2 : Bool) (y11_3 : Int) (y11_4 : Sv) (y11_5 : Sv), cl h2 p2 = some (Value.int .i64 y11) ∧ cl h2 (p2.add 1) = some (Value.string y11_1) ∧ cl h2 (p2.add 2) = some (Value.bool y11_2) ∧ cl h2 (p2.add 3) = some (Value.int .i64 y11_3) ∧ cl h2 (p2.add 4) = some (Value.slice y11_4.a y11_4.n y11_4.c) ∧ cl h2 (p2.add 5) = some (Value.slice y11_5.a y11_5.n y11_5.c) ∧
    cal Try.prog 8 #[Value.agg #[Value.int .i64 y11, Value.string y11_1, Value.bool y11_2, Value.int .i64 y11_3, Value.slice y11_4.a y11_4.n y11_4.c, Value.slice y11_5.a y11_5.n y11_5.c], Value.int .i64 6] h2 fun u_1 h4 => asB u_1 fun x12 =>
    k (!x12) h4) h2 J) ∧ ∀ x14 h3, J x14 h3 →
  ifb x14 (
    cal Try.prog 7 #[] h3 fun u_2 h5 => asB u_2 fun x15 =>
    R (Value.bool x15) h5) (
    ∃ Sq : Heap → Prop, Sq h3 ∧ (
      ∃ (y19 : Int) (y19_1 : ByteArray) (y19_2 : Bool) (y19_3 : Int) (y19_4 : Sv) (y19_5 : Sv), hld Sq p2 (Value.int .i64 y19) ∧ hld Sq (p2.add 1) (Value.string y19_1) ∧ hld Sq (p2.add 2) (Value.bool y19_2) ∧ hld Sq (p2.add 3) (Value.int .i64 y19_3) ∧ hld Sq (p2.add 4) (Value.slice y19_4.a y19_4.n y19_4.c) ∧ hld Sq (p2.add 5) (Value.slice y19_5.a y19_5.n y19_5.c) ∧
      ∃ (y20 : Int) (y20_1 : ByteArray) (y20_2 : Bool) (y20_3 : Int) (y20_4 : Sv) (y20_5 : Sv), hld Sq p2 (Value.int .i64 y20) ∧ hld Sq (p2.add 1) (Value.string y20_1) ∧ hld Sq (p2.add 2) (Value.bool y20_2) ∧ hld Sq (p2.add 3) (Value.int .i64 y20_3) ∧ hld Sq (p2.add 4) (Value.slice y20_4.a y20_4.n y20_4.c) ∧ hld Sq (p2.add 5) (Value.slice y20_5.a y20_5.n y20_5.c) ∧
      cal Try.prog 10 #[Value.int .u64 vfrom1] h3 fun u_3 h6 => asM u_3 fun x18 =>
      Sq h6 ∧
      cal Try.prog 9 #[Value.map x18, Value.agg #[Value.int .i64 y19, Value.string y19_1, Value.bool y19_2, Value.int .i64 y19_3, Value.slice y19_4.a y19_4.n y19_4.c, Value.slice y19_5.a y19_5.n y19_5.c], Value.agg #[Value.int .i64 y20, Value.string y20_1, Value.bool y20_2, Value.int .i64 y20_3, Value.slice y20_4.a y20_4.n y20_4.c, Value.slice y20_5.a y20_5.n y20_5.c]] h6 fun u_4 h7 => asTup u_4 fun r21 =>
      elt r21 0 fun u_5 => asS u_5 fun x22 =>
      elt r21 1 fun u_6 => asB u_6 fun x23 =>
      ∃ (I : Int → Prop) (m : Int → Nat), I 0 ∧ ∀ i7, I i7 →
      ifb (decide (i7 < ((x22.n : Nat) : Int))) (
        ixS x22 i7 fun q32 =>
        ldI .i64 h7 (q32.add ((i7 : Int).toNat * 2)) fun x34 =>
        ixS x22 i7 fun q37 =>
        ldI .i64 h7 ((q37.add ((i7 : Int).toNat * 2)).add 1) fun x39 =>
        ifb (x34 != x39) (
          R (Value.bool false) h7) (
          I (IntKind.i64.wrap (i7 + 1)) ∧ m (IntKind.i64.wrap (i7 + 1)) < m i7)) (
        R (Value.bool x23) h7)))

set_option maxRecDepth 100000 in

theorem F3 {x0 x0_1 x0_2 x0_3 x0_4 x0_5 vfrom1 h : _} {R : Value → Heap → Prop} (H : L3 x0 x0_1 x0_2 x0_3 x0_4 x0_5 vfrom1 h R) : CallsH Try.prog 3 #[Value.agg #[Value.int .i64 x0, Value.string x0_1, Value.bool x0_2, Value.int .i64 x0_3, Value.slice x0_4.a x0_4.n x0_4.c, Value.slice x0_5.a x0_5.n x0_5.c], Value.int .u64 vfrom1] h R := by
  refine CallsH.enter (n := 42) Try.func3 rfl rfl rfl rfl ?_
  intro w0 aa ww S
  unfold L3 at H
  refine W.seq ?_
  replace S := S.sub [(0, Value.agg #[Value.int .i64 x0, Value.string x0_1, Value.bool x0_2, Value.int .i64 x0_3, Value.slice x0_4.a x0_4.n x0_4.c, Value.slice x0_5.a x0_5.n x0_5.c]), (1, Value.int .u64 vfrom1)] ⟨rfl, rfl, trivial⟩
  refine W.region ?_
  refine ol_box S H rfl rfl rfl trivial ?_
  clear S H aa; intro p2 aa ww h1 H S
  refine OL.pure S (Lf.run_assign (S.ev rfl)) rfl rfl trivial ?_
  clear S; intro aa S
  refine OL.nil ?_
  refine W.seq ?_
  refine W.seq ?_
  replace S := S.sub [(1, Value.int .u64 vfrom1), (2, Value.pointer (some p2))] ⟨rfl, rfl, trivial⟩
  refine W.region ?_
  refine ol_cal S H isfn7 rfl rfl trivial ?_
  clear S H aa; intro u aa ww h2 H S
  obtain ⟨x8, rfl, H⟩ := H
  refine OL.pure S (Lf.run_not (S.ev rfl)) rfl rfl trivial ?_
  clear S; intro aa S
  refine OL.pure S (Lf.run_move (S.ev rfl)) rfl rfl trivial ?_
  clear S; intro aa S
  obtain ⟨J, H, HK⟩ := H
  refine OL.cutN 4 (fun aa ww => ∃ x14 h3, St 42 ((14, Value.bool x14) :: [(1, Value.int .u64 vfrom1), (2, Value.pointer (some p2)), (8, Value.bool x8), (9, Value.bool (!x8)), (10, Value.bool (!x8))]) h3 w0 aa ww ∧ J x14 h3) ?_ ?_
  · rcases Bool.eq_false_or_eq_true (!x8) with hb | hb
    · replace H := H.1 hb
      refine OL.not S rfl rfl (GNo.mk rfl rfl hb) ?_
      clear S; intro aa S
      refine OL.not S rfl rfl (GNo.mk rfl rfl hb) ?_
      clear S; intro aa S
      refine OL.not S rfl rfl (GNo.mk rfl rfl hb) ?_
      clear S; intro aa S
      refine OL.pure S (Lf.run_pickT (S.ev rfl) hb (S.ev rfl)) rfl rfl trivial ?_
      clear S; intro aa S
      refine OL.nil ?_
      exact ⟨_, _, S.sub _ ⟨rfl, rfl, rfl, rfl, rfl, rfl, trivial⟩, H⟩
    · replace H := H.2 hb
      obtain ⟨y11, y11_1, y11_2, y11_3, y11_4, y11_5, c_1, c_2, c_3, c_4, c_5, c_6, H⟩ := H
      refine OL.pure S (Lf.run_ldA (cs := [Value.int .i64 y11, Value.string y11_1, Value.bool y11_2, Value.int .i64 y11_3, Value.slice y11_4.a y11_4.n y11_4.c, Value.slice y11_5.a y11_5.n y11_5.c]) (S.ev rfl) ag25 ti25 (by rw [S.heap]; exact RowL.toRow ⟨c_1, c_2, c_3, c_4, c_5, c_6, trivial⟩)) rfl rfl (GOk.mk rfl rfl hb) ?_
      clear S; intro aa S
      refine ol_cal S H isfn8 rfl rfl (GOk.mk rfl rfl hb) ?_
      clear S H aa; intro u_1 aa ww h4 H S
      obtain ⟨x12, rfl, H⟩ := H
      refine OL.pure S (Lf.run_not (S.ev rfl)) rfl rfl (GOk.mk rfl rfl hb) ?_
      clear S; intro aa S
      refine OL.pure S (Lf.run_pickF (S.ev rfl) hb (S.ev rfl)) rfl rfl trivial ?_
      clear S; intro aa S
      refine OL.nil ?_
      exact ⟨_, _, S.sub _ ⟨rfl, rfl, rfl, rfl, rfl, rfl, trivial⟩, H⟩
  · clear S aa
    rintro aa ww ⟨x14, h3, S, HJ⟩
    replace H := HK _ _ HJ
    clear HK HJ
    refine OL.nil ?_
    refine W.cond S (b := x14) rfl (fun hb_1 => ?_) (fun hb_1 => ?_)
    · replace H := H.1 hb_1
      refine W.seq ?_
      replace S := S.sub [] trivial
      refine W.region ?_
      refine ol_cal S H isfn7 rfl rfl trivial ?_
      clear S H aa; intro u_2 aa ww h5 H S
      obtain ⟨x15, rfl, H⟩ := H
      refine OL.pure S (Lf.run_assign (S.ev rfl)) rfl rfl trivial ?_
      clear S; intro aa S
      refine OL.nil ?_
      refine W.ret ?_
      exact Ret.one S rfl rfl H
    · replace H := H.2 hb_1
      refine W.skip ?_
      refine W.seq ?_
      replace S := S.sub [(1, Value.int .u64 vfrom1), (2, Value.pointer (some p2))] ⟨rfl, rfl, trivial⟩
      obtain ⟨Sq, HS, H⟩ := H
      refine W.regionN [2, 3] [1, 4] Sq S (by kernel_rfl) ?_
      clear S; intro ww S
      refine BN.pure 0 S (fun _ => HS) rfl (by kernel_rfl) (by kernel_rfl) (fun _ => Lf.run_move (S.ev rfl)) rfl rfl trivial ?_
      clear S; intro aa S
      obtain ⟨y19, y19_1, y19_2, y19_3, y19_4, y19_5, c_17, c_18, c_19, c_20, c_21, c_22, H⟩ := H
      refine BN.held 2 S HS rfl (by kernel_rfl) (fun _ hq => Lf.run_ldA (cs := [Value.int .i64 y19, Value.string y19_1, Value.bool y19_2, Value.int .i64 y19_3, Value.slice y19_4.a y19_4.n y19_4.c, Value.slice y19_5.a y19_5.n y19_5.c]) (S.ev rfl) ag25 ti25 (hlRow hq fun h_ hs_ => ⟨c_17 h_ hs_, c_18 h_ hs_, c_19 h_ hs_, c_20 h_ hs_, c_21 h_ hs_, c_22 h_ hs_, trivial⟩)) rfl rfl trivial ?_
      clear S; intro aa S
      obtain ⟨y20, y20_1, y20_2, y20_3, y20_4, y20_5, c_11, c_12, c_13, c_14, c_15, c_16, H⟩ := H
      refine BN.held 3 S HS rfl (by kernel_rfl) (fun _ hq => Lf.run_ldA (cs := [Value.int .i64 y20, Value.string y20_1, Value.bool y20_2, Value.int .i64 y20_3, Value.slice y20_4.a y20_4.n y20_4.c, Value.slice y20_5.a y20_5.n y20_5.c]) (S.ev rfl) ag25 ti25 (hlRow hq fun h_ hs_ => ⟨c_11 h_ hs_, c_12 h_ hs_, c_13 h_ hs_, c_14 h_ hs_, c_15 h_ hs_, c_16 h_ hs_, trivial⟩)) rfl rfl trivial ?_
      clear S; intro aa S
      refine BN.eff 1 rfl (by kernel_rfl) ?_
      refine ol_cal S H isfn10 rfl rfl trivial ?_
      clear S H aa; intro u_3 aa ww h6 H S
      obtain ⟨x18, rfl, H⟩ := H
      refine OL.nil ?_
      clear HS; obtain ⟨HS, H⟩ := H
      refine ⟨fun _ => by rw [S.heap]; exact HS, ?_⟩
      refine BN.eff 4 rfl (by kernel_rfl) ?_
      refine ol_cal S H isfn9 rfl rfl trivial ?_
      clear S H aa; intro u_4 aa ww h7 H S
      obtain ⟨r21, rfl, H⟩ := H
      refine OL.nil ?_
      refine ⟨noNeed (by kernel_rfl), ?_⟩
      refine BN.pure 5 S (noNeed (by kernel_rfl)) rfl (by kernel_rfl) (by kernel_rfl) (fun _ => Lf.run_move (S.ev rfl)) rfl rfl trivial ?_
      clear S; intro aa S
      obtain ⟨u_5, e, x22, rfl, H⟩ := H
      refine BN.pure 6 S (noNeed (by kernel_rfl)) rfl (by kernel_rfl) (by kernel_rfl) (fun _ => Lf.run_ex (S.ev rfl) e) rfl rfl trivial ?_
      clear S; intro aa S
      obtain ⟨u_6, e_1, x23, rfl, H⟩ := H
      refine BN.pure 7 S (noNeed (by kernel_rfl)) rfl (by kernel_rfl) (by kernel_rfl) (fun _ => Lf.run_ex (S.ev rfl) e_1) rfl rfl trivial ?_
      clear S; intro aa S
      refine BN.pure 8 S (noNeed (by kernel_rfl)) rfl (by kernel_rfl) (by kernel_rfl) (fun _ => Lf.run_assign (S.ev rfl)) rfl rfl trivial ?_
      clear S; intro aa S
      refine BN.pure 9 S (noNeed (by kernel_rfl)) rfl (by kernel_rfl) (by kernel_rfl) (fun _ => Lf.run_assign (S.ev rfl)) rfl rfl trivial ?_
      clear S; intro aa S
      refine BN.done (by kernel_rfl) ?_
      refine W.seq ?_
      refine W.seq ?_
      replace S := S.sub [(5, Value.slice x22.a x22.n x22.c), (6, Value.bool x23)] ⟨rfl, rfl, trivial⟩
      refine W.region ?_
      refine OL.pure S (Lf.run_assign (S.ev rfl)) rfl rfl trivial ?_
      clear S; intro aa S
      refine OL.nil ?_
      refine W.block ?_
      obtain ⟨I, m, H, HB⟩ := H
      refine W.loopS (σ := Int) (fun s aa ww => St 42 [(5, Value.slice x22.a x22.n x22.c), (6, Value.bool x23), (7, Value.int .i64 s)] h7 w0 aa ww ∧ I s) (fun s => m s) (0) ⟨S.sub _ ⟨rfl, rfl, rfl, trivial⟩, H⟩ ?_
      clear H S aa
      rintro i7 aa ww ⟨S, HI⟩
      replace S : St 42 [(5, Value.slice x22.a x22.n x22.c), (6, Value.bool x23), (7, Value.int .i64 i7)] h7 w0 aa ww := S
      have H := HB i7 HI
      clear HI
      refine W.seq ?_
      refine W.seq ?_
      replace S := S.sub [(5, Value.slice x22.a x22.n x22.c), (6, Value.bool x23), (7, Value.int .i64 i7)] ⟨rfl, rfl, rfl, trivial⟩
      refine W.region ?_
      refine OL.pure S (Lf.run_move (S.ev rfl)) rfl rfl trivial ?_
      clear S; intro aa S
      refine OL.pure S (Lf.run_move (S.ev rfl)) rfl rfl trivial ?_
      clear S; intro aa S
      refine OL.pure S (Lf.run_lens (S.ev rfl) rfl Try.underlying29) rfl rfl trivial ?_
      clear S; intro aa S
      refine OL.pure S (Lf.run_lss (S.ev rfl) (S.ev rfl)) rfl rfl trivial ?_
      clear S; intro aa S
      refine OL.nil ?_
      refine W.cond S (b := (decide (i7 < ((x22.n : Nat) : Int)))) rfl (fun hb_2 => ?_) (fun hb_2 => ?_)
      · replace H := H.1 hb_2
        refine W.skip ?_
        refine W.seq ?_
        refine W.block ?_
        refine W.seq ?_
        replace S := S.sub [(5, Value.slice x22.a x22.n x22.c), (6, Value.bool x23), (7, Value.int .i64 i7)] ⟨rfl, rfl, rfl, trivial⟩
        refine W.regionD S (by kernel_rfl) ?_
        clear S; intro ww S
        refine AN.pure 0 S rfl (by kernel_rfl) (fun _ => Lf.run_move (S.ev rfl)) rfl rfl trivial ?_
        clear S; intro aa S
        refine AN.pure 1 S rfl (by kernel_rfl) (fun _ => Lf.run_move (S.ev rfl)) rfl rfl trivial ?_
        clear S; intro aa S
        obtain ⟨q32, e_2, e_3, e_4, H⟩ := H
        refine AN.pure 2 S rfl (by kernel_rfl) (fun _ => Lf.run_ixs (S.ev rfl) (S.ev rfl) Try.underlying29 ti35 e_2 e_3 e_4) rfl rfl trivial ?_
        clear S; intro aa S
        refine AN.pure 3 S rfl (by kernel_rfl) (fun _ => Lf.run_ixa (S.ev rfl) (S.ev rfl) Try.underlying35 ti3 (by decide) (by decide)) rfl rfl trivial ?_
        clear S; intro aa S
        obtain ⟨x34, c_9, H⟩ := H
        refine AN.load 4 S rfl (by kernel_rfl) (fun _ hx => Lf.run_ld (S.ev rfl) fl3 (hx.cell _ _ (S.cl c_9))) rfl rfl trivial ?_
        clear S; intro aa S
        refine AN.pure 5 S rfl (by kernel_rfl) (fun _ => Lf.run_move (S.ev rfl)) rfl rfl trivial ?_
        clear S; intro aa S
        refine AN.pure 6 S rfl (by kernel_rfl) (fun _ => Lf.run_move (S.ev rfl)) rfl rfl trivial ?_
        clear S; intro aa S
        obtain ⟨q37, e_7, e_8, e_9, H⟩ := H
        refine AN.pure 7 S rfl (by kernel_rfl) (fun _ => Lf.run_ixs (S.ev rfl) (S.ev rfl) Try.underlying29 ti35 e_7 e_8 e_9) rfl rfl trivial ?_
        clear S; intro aa S
        refine AN.pure 8 S rfl (by kernel_rfl) (fun _ => Lf.run_ixa (S.ev rfl) (S.ev rfl) Try.underlying35 ti3 (by decide) (by decide)) rfl rfl trivial ?_
        clear S; intro aa S
        obtain ⟨x39, c_10, H⟩ := H
        refine AN.load 9 S rfl (by kernel_rfl) (fun _ hx => Lf.run_ld (S.ev rfl) fl3 (hx.cell _ _ (S.cl c_10))) rfl rfl trivial ?_
        clear S; intro aa S
        refine AN.pure 10 S rfl (by kernel_rfl) (fun _ => Lf.run_neq (S.ev rfl) (S.ev rfl)) rfl rfl trivial ?_
        clear S; intro aa S
        refine AN.done (by kernel_rfl) ?_
        refine W.cond S (b := (x34 != x39)) rfl (fun hb_3 => ?_) (fun hb_3 => ?_)
        · replace H := H.1 hb_3
          refine W.seq ?_
          replace S := S.sub [] trivial
          refine W.region ?_
          refine OL.pure S (Lf.run_assign (S.ev rfl)) rfl rfl trivial ?_
          clear S; intro aa S
          refine OL.nil ?_
          refine W.ret ?_
          exact Ret.one S rfl rfl H
        · replace H := H.2 hb_3
          refine W.skip ?_
          replace S := S.sub [(5, Value.slice x22.a x22.n x22.c), (6, Value.bool x23), (7, Value.int .i64 i7)] ⟨rfl, rfl, rfl, trivial⟩
          refine W.region ?_
          refine OL.pure S (Lf.run_move (S.ev rfl)) rfl rfl trivial ?_
          clear S; intro aa S
          refine OL.pure S (Lf.run_add (S.ev rfl) (S.ev rfl)) rfl rfl trivial ?_
          clear S; intro aa S
          refine OL.pure S (Lf.run_assign (S.ev rfl)) rfl rfl trivial ?_
          clear S; intro aa S
          refine OL.nil ?_
          exact ⟨((IntKind.i64.wrap (i7 + 1))), ⟨S.sub _ ⟨rfl, rfl, rfl, trivial⟩, H.1⟩, H.2⟩
      · replace H := H.2 hb_2
        refine W.exit_ ?_
        refine xhit ?_
        refine W.seq ?_
        replace S := S.sub [(6, Value.bool x23)] ⟨rfl, trivial⟩
        refine W.region ?_
        refine OL.pure S (Lf.run_move (S.ev rfl)) rfl rfl trivial ?_
        clear S; intro aa S
        refine OL.pure S (Lf.run_assign (S.ev rfl)) rfl rfl trivial ?_
        clear S; intro aa S
        refine OL.nil ?_
        refine W.ret ?_
        exact Ret.one S rfl rfl H

end Go.Proofs.Ytkgckfcekokieaa

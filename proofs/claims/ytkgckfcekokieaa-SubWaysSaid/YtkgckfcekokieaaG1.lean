/- Lifted by program off the elaborated code: each Go function, read as a proposition over typed variables and the heap. -/
import Derived.Test.YtkgckfcekokieaaG0
namespace Go.Proofs.Ytkgckfcekokieaa
open Go Go.Lf
set_option linter.unusedVariables false
set_option maxRecDepth 100000

/-- chattel chattellaw10.SubSelf -/
def L3 (x0 : Int) (x0_1 : ByteArray) (x0_2 : Bool) (x0_3 : Int) (x0_4 : Sv) (x0_5 : Sv) (vfrom1 : Int) (h : Heap) (R : Value → Heap → Prop) : Prop :=
  new 25 #[Value.int .i64 x0, Value.string x0_1, Value.bool x0_2, Value.int .i64 x0_3, Value.slice x0_4.a x0_4.n x0_4.c, Value.slice x0_5.a x0_5.n x0_5.c] h fun p2 h1 =>
  cal Try.prog 7 #[] h1 fun u h2 => asB u fun x8 =>
  ∃ J : Bool → Heap → Prop, (orj (!x8) (fun k =>
    ∃ (y11 : Int) (y11_1 : ByteArray) (y11_2 : Bool) (y11_3 : Int) (y11_4 : Sv) (y11_5 : Sv), cl h2 p2 = some (Value.int .i64 y11) ∧ cl h2 (p2.add 1) = some (Value.string y11_1) ∧ cl h2 (p2.add 2) = some (Value.bool y11_2) ∧ cl h2 (p2.add 3) = some (Value.int .i64 y11_3) ∧ cl h2 (p2.add 4) = some (Value.slice y11_4.a y11_4.n y11_4.c) ∧ cl h2 (p2.add 5) = some (Value.slice y11_5.a y11_5.n y11_5.c) ∧
    cal Try.prog 8 #[Value.agg #[Value.int .i64 y11, Value.string y11_1, Value.bool y11_2, Value.int .i64 y11_3, Value.slice y11_4.a y11_4.n y11_4.c, Value.slice y11_5.a y11_5.n y11_5.c], Value.int .i64 6] h2 fun u_1 h4 => asB u_1 fun x12 =>
    k (!x12) h4) h2 J) ∧ ∀ x14 h3, J x14 h3 →
  ifb x14 (
    cal Try.prog 7 #[] h3 fun u_2 h5 => asB u_2 fun x15 =>
    R (Value.bool x15) h5) (
    ∃ Sq : Heap → Prop, Sq h3 ∧ (
      ∃ (y19 : Int) (y19_1 : ByteArray) (y19_2 : Bool) (y19_3 : Int) (y19_4 : Sv) (y19_5 : Sv), hld Sq p2 (Value.int .i64 y19) ∧ hld Sq (p2.add 1) (Value.string y19_1) ∧ hld Sq (p2.add 2) (Value.bool y19_2) ∧ hld Sq (p2.add 3) (Value.int .i64 y19_3) ∧ hld Sq (p2.add 4) (Value.slice y19_4.a y19_4.n y19_4.c) ∧ hld Sq (p2.add 5) (Value.slice y19_5.a y19_5.n y19_5.c) ∧
      ∃ (y20 : Int) (y20_1 : ByteArray) (y20_2 : Bool) (y20_3 : Int) (y20_4 : Sv) (y20_5 : Sv), hld Sq p2 (Value.int .i64 y20) ∧ hld Sq (p2.add 1) (Value.string y20_1) ∧ hld Sq (p2.add 2) (Value.bool y20_2) ∧ hld Sq (p2.add 3) (Value.int .i64 y20_3) ∧ hld Sq (p2.add 4) (Value.slice y20_4.a y20_4.n y20_4.c) ∧ hld Sq (p2.add 5) (Value.slice y20_5.a y20_5.n y20_5.c) ∧
      cal Try.prog 10 #[Value.int .u64 vfrom1] h3 fun u_3 h6 => asM u_3 fun x18 =>
      Sq h6 ∧
      cal Try.prog 9 #[Value.map x18, Value.agg #[Value.int .i64 y19, Value.string y19_1, Value.bool y19_2, Value.int .i64 y19_3, Value.slice y19_4.a y19_4.n y19_4.c, Value.slice y19_5.a y19_5.n y19_5.c], Value.agg #[Value.int .i64 y20, Value.string y20_1, Value.bool y20_2, Value.int .i64 y20_3, Value.slice y20_4.a y20_4.n y20_4.c, Value.slice y20_5.a y20_5.n y20_5.c]] h6 fun u_4 h7 => asTup u_4 fun r21 =>
      elt r21 0 fun u_5 => asS u_5 fun x22 =>
      elt r21 1 fun u_6 => asB u_6 fun x23 =>
      ∃ (I : Int → Prop) (m : Int → Nat), I 0 ∧ ∀ i7, I i7 →
      ifb (decide (i7 < ((x22.n : Nat) : Int))) (
        ixS x22 i7 fun q32 =>
        ldI .i64 h7 (q32.add ((i7 : Int).toNat * 2)) fun x34 =>
        ixS x22 i7 fun q37 =>
        ldI .i64 h7 ((q37.add ((i7 : Int).toNat * 2)).add 1) fun x39 =>
        ifb (x34 != x39) (
          R (Value.bool false) h7) (
          I (IntKind.i64.wrap (i7 + 1)) ∧ m (IntKind.i64.wrap (i7 + 1)) < m i7)) (
        R (Value.bool x23) h7)))

set_option maxRecDepth 100000 in

theorem F3 {x0 x0_1 x0_2 x0_3 x0_4 x0_5 vfrom1 h : _} {R : Value → Heap → Prop} (H : L3 x0 x0_1 x0_2 x0_3 x0_4 x0_5 vfrom1 h R) : CallsH Try.prog 3 #[Value.agg #[Value.int .i64 x0, Value.string x0_1, Value.bool x0_2, Value.int .i64 x0_3, Value.slice x0_4.a x0_4.n x0_4.c, Value.slice x0_5.a x0_5.n x0_5.c], Value.int .u64 vfrom1] h R := by
  refine CallsH.enter (n := 42) Try.func3 rfl rfl rfl rfl ?_
  intro w0 aa ww S
  unfold L3 at H
  refine W.seq ?_
  replace S := S.sub [(0, Value.agg #[Value.int .i64 x0, Value.string x0_1, Value.bool x0_2, Value.int .i64 x0_3, Value.slice x0_4.a x0_4.n x0_4.c, Value.slice x0_5.a x0_5.n x0_5.c]), (1, Value.int .u64 vfrom1)] ⟨rfl, rfl, trivial⟩
  refine W.region ?_
  refine ol_box S H rfl rfl rfl trivial ?_
  clear S H aa; intro p2 aa ww h1 H S
  refine OL.pure S (Lf.run_assign (S.ev rfl)) rfl rfl trivial ?_
  clear S; intro aa S
  refine OL.nil ?_
  refine W.seq ?_
  refine W.seq ?_
  replace S := S.sub [(1, Value.int .u64 vfrom1), (2, Value.pointer (some p2))] ⟨rfl, rfl, trivial⟩
  refine W.region ?_
  refine ol_cal S H isfn7 rfl rfl trivial ?_
  clear S H aa; intro u aa ww h2 H S
  obtain ⟨x8, rfl, H⟩ := H
  refine OL.pure S (Lf.run_not (S.ev rfl)) rfl rfl trivial ?_
  clear S; intro aa S
  refine OL.pure S (Lf.run_move (S.ev rfl)) rfl rfl trivial ?_
  clear S; intro aa S
  obtain ⟨J, H, HK⟩ := H
  refine OL.cutN 4 (fun aa ww => ∃ x14 h3, St 42 ((14, Value.bool x14) :: [(1, Value.int .u64 vfrom1), (2, Value.pointer (some p2)), (8, Value.bool x8), (9, Value.bool (!x8)), (10, Value.bool (!x8))]) h3 w0 aa ww ∧ J x14 h3) ?_ ?_
  · rcases Bool.eq_false_or_eq_true (!x8) with hb | hb
    · replace H := H.1 hb
      refine OL.not S rfl rfl (GNo.mk rfl rfl hb) ?_
      clear S; intro aa S
      refine OL.not S rfl rfl (GNo.mk rfl rfl hb) ?_
      clear S; intro aa S
      refine OL.not S rfl rfl (GNo.mk rfl rfl hb) ?_
      clear S; intro aa S
      refine OL.pure S (Lf.run_pickT (S.ev rfl) hb (S.ev rfl)) rfl rfl trivial ?_
      clear S; intro aa S
      refine OL.nil ?_
      exact ⟨_, _, S.sub _ ⟨rfl, rfl, rfl, rfl, rfl, rfl, trivial⟩, H⟩
    · replace H := H.2 hb
      obtain ⟨y11, y11_1, y11_2, y11_3, y11_4, y11_5, c_1, c_2, c_3, c_4, c_5, c_6, H⟩ := H
      refine OL.pure S (Lf.run_ldA (cs := [Value.int .i64 y11, Value.string y11_1, Value.bool y11_2, Value.int .i64 y11_3, Value.slice y11_4.a y11_4.n y11_4.c, Value.slice y11_5.a y11_5.n y11_5.c]) (S.ev rfl) ag25 ti25 (by rw [S.heap]; exact RowL.toRow ⟨c_1, c_2, c_3, c_4, c_5, c_6, trivial⟩)) rfl rfl (GOk.mk rfl rfl hb) ?_
      clear S; intro aa S
      refine ol_cal S H isfn8 rfl rfl (GOk.mk rfl rfl hb) ?_
      clear S H aa; intro u_1 aa ww h4 H S
      obtain ⟨x12, rfl, H⟩ := H
      refine OL.pure S (Lf.run_not (S.ev rfl)) rfl rfl (GOk.mk rfl rfl hb) ?_
      clear S; intro aa S
      refine OL.pure S (Lf.run_pickF (S.ev rfl) hb (S.ev rfl)) rfl rfl trivial ?_
      clear S; intro aa S
      refine OL.nil ?_
      exact ⟨_, _, S.sub _ ⟨rfl, rfl, rfl, rfl, rfl, rfl, trivial⟩, H⟩
  · clear S aa
    rintro aa ww ⟨x14, h3, S, HJ⟩
    replace H := HK _ _ HJ
    clear HK HJ
    refine OL.nil ?_
    refine W.cond S (b := x14) rfl (fun hb_1 => ?_) (fun hb_1 => ?_)
    · replace H := H.1 hb_1
      refine W.seq ?_
      replace S := S.sub [] trivial
      refine W.region ?_
      refine ol_cal S H isfn7 rfl rfl trivial ?_
      clear S H aa; intro u_2 aa ww h5 H S
      obtain ⟨x15, rfl, H⟩ := H
      refine OL.pure S (Lf.run_assign (S.ev rfl)) rfl rfl trivial ?_
      clear S; intro aa S
      refine OL.nil ?_
      refine W.ret ?_
      exact Ret.one S rfl rfl H
    · replace H := H.2 hb_1
      refine W.skip ?_
      refine W.seq ?_
      replace S := S.sub [(1, Value.int .u64 vfrom1), (2, Value.pointer (some p2))] ⟨rfl, rfl, trivial⟩
      obtain ⟨Sq, HS, H⟩ := H
      refine W.regionN [2, 3] [1, 4] Sq S (by kernel_rfl) ?_
      clear S; intro ww S
      refine BN.pure 0 S (fun _ => HS) rfl (by kernel_rfl) (by kernel_rfl) (fun _ => Lf.run_move (S.ev rfl)) rfl rfl trivial ?_
      clear S; intro aa S
      obtain ⟨y19, y19_1, y19_2, y19_3, y19_4, y19_5, c_17, c_18, c_19, c_20, c_21, c_22, H⟩ := H
      refine BN.held 2 S HS rfl (by kernel_rfl) (fun _ hq => Lf.run_ldA (cs := [Value.int .i64 y19, Value.string y19_1, Value.bool y19_2, Value.int .i64 y19_3, Value.slice y19_4.a y19_4.n y19_4.c, Value.slice y19_5.a y19_5.n y19_5.c]) (S.ev rfl) ag25 ti25 (hlRow hq fun h_ hs_ => ⟨c_17 h_ hs_, c_18 h_ hs_, c_19 h_ hs_, c_20 h_ hs_, c_21 h_ hs_, c_22 h_ hs_, trivial⟩)) rfl rfl trivial ?_
      clear S; intro aa S
      obtain ⟨y20, y20_1, y20_2, y20_3, y20_4, y20_5, c_11, c_12, c_13, c_14, c_15, c_16, H⟩ := H
      refine BN.held 3 S HS rfl (by kernel_rfl) (fun _ hq => Lf.run_ldA (cs := [Value.int .i64 y20, Value.string y20_1, Value.bool y20_2, Value.int .i64 y20_3, Value.slice y20_4.a y20_4.n y20_4.c, Value.slice y20_5.a y20_5.n y20_5.c]) (S.ev rfl) ag25 ti25 (hlRow hq fun h_ hs_ => ⟨c_11 h_ hs_, c_12 h_ hs_, c_13 h_ hs_, c_14 h_ hs_, c_15 h_ hs_, c_16 h_ hs_, trivial⟩)) rfl rfl trivial ?_
      clear S; intro aa S
      refine BN.eff 1 rfl (by kernel_rfl) ?_
      refine ol_cal S H isfn10 rfl rfl trivial ?_
      clear S H aa; intro u_3 aa ww h6 H S
      obtain ⟨x18, rfl, H⟩ := H
      refine OL.nil ?_
      clear HS; obtain ⟨HS, H⟩ := H
      refine ⟨fun _ => by rw [S.heap]; exact HS, ?_⟩
      refine BN.eff 4 rfl (by kernel_rfl) ?_
      refine ol_cal S H isfn9 rfl rfl trivial ?_
      clear S H aa; intro u_4 aa ww h7 H S
      obtain ⟨r21, rfl, H⟩ := H
      refine OL.nil ?_
      refine ⟨noNeed (by kernel_rfl), ?_⟩
      refine BN.pure 5 S (noNeed (by kernel_rfl)) rfl (by kernel_rfl) (by kernel_rfl) (fun _ => Lf.run_move (S.ev rfl)) rfl rfl trivial ?_
      clear S; intro aa S
      obtain ⟨u_5, e, x22, rfl, H⟩ := H
      refine BN.pure 6 S (noNeed (by kernel_rfl)) rfl (by kernel_rfl) (by kernel_rfl) (fun _ => Lf.run_ex (S.ev rfl) e) rfl rfl trivial ?_
      clear S; intro aa S
      obtain ⟨u_6, e_1, x23, rfl, H⟩ := H
      refine BN.pure 7 S (noNeed (by kernel_rfl)) rfl (by kernel_rfl) (by kernel_rfl) (fun _ => Lf.run_ex (S.ev rfl) e_1) rfl rfl trivial ?_
      clear S; intro aa S
      refine BN.pure 8 S (noNeed (by kernel_rfl)) rfl (by kernel_rfl) (by kernel_rfl) (fun _ => Lf.run_assign (S.ev rfl)) rfl rfl trivial ?_
      clear S; intro aa S
      refine BN.pure 9 S (noNeed (by kernel_rfl)) rfl (by kernel_rfl) (by kernel_rfl) (fun _ => Lf.run_assign (S.ev rfl)) rfl rfl trivial ?_
      clear S; intro aa S
      refine BN.done (by kernel_rfl) ?_
      refine W.seq ?_
      refine W.seq ?_
      replace S := S.sub [(5, Value.slice x22.a x22.n x22.c), (6, Value.bool x23)] ⟨rfl, rfl, trivial⟩
      refine W.region ?_
      refine OL.pure S (Lf.run_assign (S.ev rfl)) rfl rfl trivial ?_
      clear S; intro aa S
      refine OL.nil ?_
      refine W.block ?_
      obtain ⟨I, m, H, HB⟩ := H
      refine W.loopS (σ := Int) (fun s aa ww => St 42 [(5, Value.slice x22.a x22.n x22.c), (6, Value.bool x23), (7, Value.int .i64 s)] h7 w0 aa ww ∧ I s) (fun s => m s) (0) ⟨S.sub _ ⟨rfl, rfl, rfl, trivial⟩, H⟩ ?_
      clear H S aa
      rintro i7 aa ww ⟨S, HI⟩
      replace S : St 42 [(5, Value.slice x22.a x22.n x22.c), (6, Value.bool x23), (7, Value.int .i64 i7)] h7 w0 aa ww := S
      have H := HB i7 HI
      clear HI
      refine W.seq ?_
      refine W.seq ?_
      replace S := S.sub [(5, Value.slice x22.a x22.n x22.c), (6, Value.bool x23), (7, Value.int .i64 i7)] ⟨rfl, rfl, rfl, trivial⟩
      refine W.region ?_
      refine OL.pure S (Lf.run_move (S.ev rfl)) rfl rfl trivial ?_
      clear S; intro aa S
      refine OL.pure S (Lf.run_move (S.ev rfl)) rfl rfl trivial ?_
      clear S; intro aa S
      refine OL.pure S (Lf.run_lens (S.ev rfl) rfl Try.underlying29) rfl rfl trivial ?_
      clear S; intro aa S
      refine OL.pure S (Lf.run_lss (S.ev rfl) (S.ev rfl)) rfl rfl trivial ?_
      clear S; intro aa S
      refine OL.nil ?_
      refine W.cond S (b := (decide (i7 < ((x22.n : Nat) : Int)))) rfl (fun hb_2 => ?_) (fun hb_2 => ?_)
      · replace H := H.1 hb_2
        refine W.skip ?_
        refine W.seq ?_
        refine W.block ?_
        refine W.seq ?_
        replace S := S.sub [(5, Value.slice x22.a x22.n x22.c), (6, Value.bool x23), (7, Value.int .i64 i7)] ⟨rfl, rfl, rfl, trivial⟩
        refine W.regionD S (by kernel_rfl) ?_
        clear S; intro ww S
        refine AN.pure 0 S rfl (by kernel_rfl) (fun _ => Lf.run_move (S.ev rfl)) rfl rfl trivial ?_
        clear S; intro aa S
        refine AN.pure 1 S rfl (by kernel_rfl) (fun _ => Lf.run_move (S.ev rfl)) rfl rfl trivial ?_
        clear S; intro aa S
        obtain ⟨q32, e_2, e_3, e_4, H⟩ := H
        refine AN.pure 2 S rfl (by kernel_rfl) (fun _ => Lf.run_ixs (S.ev rfl) (S.ev rfl) Try.underlying29 ti35 e_2 e_3 e_4) rfl rfl trivial ?_
        clear S; intro aa S
        refine AN.pure 3 S rfl (by kernel_rfl) (fun _ => Lf.run_ixa (S.ev rfl) (S.ev rfl) Try.underlying35 ti3 (by decide) (by decide)) rfl rfl trivial ?_
        clear S; intro aa S
        obtain ⟨x34, c_9, H⟩ := H
        refine AN.load 4 S rfl (by kernel_rfl) (fun _ hx => Lf.run_ld (S.ev rfl) fl3 (hx.cell _ _ (S.cl c_9))) rfl rfl trivial ?_
        clear S; intro aa S
        refine AN.pure 5 S rfl (by kernel_rfl) (fun _ => Lf.run_move (S.ev rfl)) rfl rfl trivial ?_
        clear S; intro aa S
        refine AN.pure 6 S rfl (by kernel_rfl) (fun _ => Lf.run_move (S.ev rfl)) rfl rfl trivial ?_
        clear S; intro aa S
        obtain ⟨q37, e_7, e_8, e_9, H⟩ := H
        refine AN.pure 7 S rfl (by kernel_rfl) (fun _ => Lf.run_ixs (S.ev rfl) (S.ev rfl) Try.underlying29 ti35 e_7 e_8 e_9) rfl rfl trivial ?_
        clear S; intro aa S
        refine AN.pure 8 S rfl (by kernel_rfl) (fun _ => Lf.run_ixa (S.ev rfl) (S.ev rfl) Try.underlying35 ti3 (by decide) (by decide)) rfl rfl trivial ?_
        clear S; intro aa S
        obtain ⟨x39, c_10, H⟩ := H
        refine AN.load 9 S rfl (by kernel_rfl) (fun _ hx => Lf.run_ld (S.ev rfl) fl3 (hx.cell _ _ (S.cl c_10))) rfl rfl trivial ?_
        clear S; intro aa S
        refine AN.pure 10 S rfl (by kernel_rfl) (fun _ => Lf.run_neq (S.ev rfl) (S.ev rfl)) rfl rfl trivial ?_
        clear S; intro aa S
        refine AN.done (by kernel_rfl) ?_
        refine W.cond S (b := (x34 != x39)) rfl (fun hb_3 => ?_) (fun hb_3 => ?_)
        · replace H := H.1 hb_3
          refine W.seq ?_
          replace S := S.sub [] trivial
          refine W.region ?_
          refine OL.pure S (Lf.run_assign (S.ev rfl)) rfl rfl trivial ?_
          clear S; intro aa S
          refine OL.nil ?_
          refine W.ret ?_
          exact Ret.one S rfl rfl H
        · replace H := H.2 hb_3
          refine W.skip ?_
          replace S := S.sub [(5, Value.slice x22.a x22.n x22.c), (6, Value.bool x23), (7, Value.int .i64 i7)] ⟨rfl, rfl, rfl, trivial⟩
          refine W.region ?_
          refine OL.pure S (Lf.run_move (S.ev rfl)) rfl rfl trivial ?_
          clear S; intro aa S
          refine OL.pure S (Lf.run_add (S.ev rfl) (S.ev rfl)) rfl rfl trivial ?_
          clear S; intro aa S
          refine OL.pure S (Lf.run_assign (S.ev rfl)) rfl rfl trivial ?_
          clear S; intro aa S
          refine OL.nil ?_
          exact ⟨((IntKind.i64.wrap (i7 + 1))), ⟨S.sub _ ⟨rfl, rfl, rfl, trivial⟩, H.1⟩, H.2⟩
      · replace H := H.2 hb_2
        refine W.exit_ ?_
        refine xhit ?_
        refine W.seq ?_
        replace S := S.sub [(6, Value.bool x23)] ⟨rfl, trivial⟩
        refine W.region ?_
        refine OL.pure S (Lf.run_move (S.ev rfl)) rfl rfl trivial ?_
        clear S; intro aa S
        refine OL.pure S (Lf.run_assign (S.ev rfl)) rfl rfl trivial ?_
        clear S; intro aa S
        refine OL.nil ?_
        refine W.ret ?_
        exact Ret.one S rfl rfl H

/-- chattel chattellaw10.SubThrough -/
def L4 (c0 : Int) (c0_1 : ByteArray) (c0_2 : Bool) (c0_3 : Int) (c0_4 : Sv) (c0_5 : Sv) (c0_6 : Sv) (c0_7 : Sv) (c0_8 : Sv) (c0_9 : Int) (c0_10 : Int) (c0_11 : Int) (c0_12 : Int) (c0_13 : Int) (c0_14 : Int) (c0_15 : Int) (c0_16 : Int) (c0_17 : Int) (h : Heap) (R : Value → Heap → Prop) : Prop :=
  new 39 #[Value.int .i64 c0, Value.string c0_1, Value.bool c0_2, Value.int .i64 c0_3, Value.slice c0_4.a c0_4.n c0_4.c, Value.slice c0_5.a c0_5.n c0_5.c, Value.slice c0_6.a c0_6.n c0_6.c, Value.slice c0_7.a c0_7.n c0_7.c, Value.slice c0_8.a c0_8.n c0_8.c, Value.int .u64 c0_9, Value.int .u64 c0_10, Value.int .u64 c0_11, Value.int .u64 c0_12, Value.int .u64 c0_13, Value.int .u64 c0_14, Value.int .u64 c0_15, Value.int .u64 c0_16, Value.int .u64 c0_17] h fun p1 h1 =>
  cal Try.prog 7 #[] h1 fun u h2 => asB u fun x13 =>
  ∃ J : Bool → Heap → Prop, (orj (!x13) (fun k =>
    ∃ (y17 : Int) (y17_1 : ByteArray) (y17_2 : Bool) (y17_3 : Int) (y17_4 : Sv) (y17_5 : Sv), cl h2 p1 = some (Value.int .i64 y17) ∧ cl h2 (p1.add 1) = some (Value.string y17_1) ∧ cl h2 (p1.add 2) = some (Value.bool y17_2) ∧ cl h2 (p1.add 3) = some (Value.int .i64 y17_3) ∧ cl h2 (p1.add 4) = some (Value.slice y17_4.a y17_4.n y17_4.c) ∧ cl h2 (p1.add 5) = some (Value.slice y17_5.a y17_5.n y17_5.c) ∧
    cal Try.prog 8 #[Value.agg #[Value.int .i64 y17, Value.string y17_1, Value.bool y17_2, Value.int .i64 y17_3, Value.slice y17_4.a y17_4.n y17_4.c, Value.slice y17_5.a y17_5.n y17_5.c], Value.int .i64 6] h2 fun u_1 h4 => asB u_1 fun x18 =>
    k (!x18) h4) h2 J) ∧ ∀ x20 h3, J x20 h3 →
  ∃ J_1 : Bool → Prop, (orr x20 (fun k_1 =>
    ldS h3 (p1.add 6) fun x23 =>
    ldS h3 (p1.add 7) fun x26 =>
    ldS h3 (p1.add 8) fun x30 =>
    k_1 (decide (60 < (IntKind.i64.wrap ((IntKind.i64.wrap (((x23.n : Nat) : Int) + ((x26.n : Nat) : Int))) + ((x30.n : Nat) : Int)))))) J_1) ∧ ∀ x34, J_1 x34 →
  ifb x34 (
    cal Try.prog 7 #[] h3 fun u_2 h5 => asB u_2 fun x35 =>
    R (Value.bool x35) h5) (
    ldI .u64 h3 (p1.add 17) fun x37 =>
    cal Try.prog 10 #[Value.int .u64 x37] h3 fun u_3 h6 => asM u_3 fun x38 =>
    ∃ T : Heap → Heap → Prop, Pre T ∧
    ∃ (y40 : Int) (y40_1 : ByteArray) (y40_2 : Bool) (y40_3 : Int) (y40_4 : Sv) (y40_5 : Sv), hld (T h6) p1 (Value.int .i64 y40) ∧ hld (T h6) (p1.add 1) (Value.string y40_1) ∧ hld (T h6) (p1.add 2) (Value.bool y40_2) ∧ hld (T h6) (p1.add 3) (Value.int .i64 y40_3) ∧ hld (T h6) (p1.add 4) (Value.slice y40_4.a y40_4.n y40_4.c) ∧ hld (T h6) (p1.add 5) (Value.slice y40_5.a y40_5.n y40_5.c) ∧
    hlS (T h6) (p1.add 6) fun x42 =>
    ∃ (y45 : Int) (y45_1 : ByteArray) (y45_2 : Bool) (y45_3 : Int) (y45_4 : Sv) (y45_5 : Sv), hld (T h6) p1 (Value.int .i64 y45) ∧ hld (T h6) (p1.add 1) (Value.string y45_1) ∧ hld (T h6) (p1.add 2) (Value.bool y45_2) ∧ hld (T h6) (p1.add 3) (Value.int .i64 y45_3) ∧ hld (T h6) (p1.add 4) (Value.slice y45_4.a y45_4.n y45_4.c) ∧ hld (T h6) (p1.add 5) (Value.slice y45_5.a y45_5.n y45_5.c) ∧
    hlS (T h6) (p1.add 7) fun x47 =>
    ∃ (y50 : Int) (y50_1 : ByteArray) (y50_2 : Bool) (y50_3 : Int) (y50_4 : Sv) (y50_5 : Sv), hld (T h6) p1 (Value.int .i64 y50) ∧ hld (T h6) (p1.add 1) (Value.string y50_1) ∧ hld (T h6) (p1.add 2) (Value.bool y50_2) ∧ hld (T h6) (p1.add 3) (Value.int .i64 y50_3) ∧ hld (T h6) (p1.add 4) (Value.slice y50_4.a y50_4.n y50_4.c) ∧ hld (T h6) (p1.add 5) (Value.slice y50_5.a y50_5.n y50_5.c) ∧
    hlS (T h6) (p1.add 8) fun x52 =>
    ∃ Fq4 : Int → ByteArray → Bool → Int → Sv → Sv → Nat → Nat → Heap → Prop, (∀ y43 y43_1 y43_2 y43_3 y43_4 y43_5 lo hi h h', T h h' → Fq4 y43 y43_1 y43_2 y43_3 y43_4 y43_5 lo hi h → Fq4 y43 y43_1 y43_2 y43_3 y43_4 y43_5 lo hi h') ∧
    ∃ Fq9 : Int → ByteArray → Bool → Int → Sv → Sv → Nat → Nat → Heap → Prop, (∀ y48 y48_1 y48_2 y48_3 y48_4 y48_5 lo hi h h', T h h' → Fq9 y48 y48_1 y48_2 y48_3 y48_4 y48_5 lo hi h → Fq9 y48 y48_1 y48_2 y48_3 y48_4 y48_5 lo hi h') ∧
    ∃ Fq14 : Int → ByteArray → Bool → Int → Sv → Sv → Nat → Nat → Heap → Prop, (∀ y53 y53_1 y53_2 y53_3 y53_4 y53_5 lo hi h h', T h h' → Fq14 y53 y53_1 y53_2 y53_3 y53_4 y53_5 lo hi h → Fq14 y53 y53_1 y53_2 y53_3 y53_4 y53_5 lo hi h') ∧
    ∃ Fq15 : Addr → Nat → Nat → Heap → Prop, (∀ p4 lo hi h h', T h h' → Fq15 p4 lo hi h → Fq15 p4 lo hi h') ∧
    ∃ Fq16 : Addr → Nat → Nat → Heap → Prop, (∀ p5 lo hi h h', T h h' → Fq16 p5 lo hi h → Fq16 p5 lo hi h') ∧
    ∃ Fq17 : Addr → Nat → Nat → Heap → Prop, (∀ p6 lo hi h h', T h h' → Fq17 p6 lo hi h → Fq17 p6 lo hi h') ∧
    (∀ (h7 : Heap), T h6 h7 →
      cal Try.prog 11 #[Value.agg #[Value.int .i64 y40, Value.string y40_1, Value.bool y40_2, Value.int .i64 y40_3, Value.slice y40_4.a y40_4.n y40_4.c, Value.slice y40_5.a y40_5.n y40_5.c], Value.slice x42.a x42.n x42.c] h7 fun u_4 h8 => ∃ (y43 : Int) (y43_1 : ByteArray) (y43_2 : Bool) (y43_3 : Int) (y43_4 : Sv) (y43_5 : Sv), u_4 = Value.agg #[Value.int .i64 y43, Value.string y43_1, Value.bool y43_2, Value.int .i64 y43_3, Value.slice y43_4.a y43_4.n y43_4.c, Value.slice y43_5.a y43_5.n y43_5.c] ∧
      T h7 h8 ∧ Fq4 y43 y43_1 y43_2 y43_3 y43_4 y43_5 h7.size h8.size h8) ∧
    (∀ (y43 : Int) (y43_1 : ByteArray) (y43_2 : Bool) (y43_3 : Int) (y43_4 : Sv) (y43_5 : Sv) (lo4 hi4 : Nat) (h11 : Heap), T h6 h11 → Fq4 y43 y43_1 y43_2 y43_3 y43_4 y43_5 lo4 hi4 h11 →
      cal Try.prog 11 #[Value.agg #[Value.int .i64 y45, Value.string y45_1, Value.bool y45_2, Value.int .i64 y45_3, Value.slice y45_4.a y45_4.n y45_4.c, Value.slice y45_5.a y45_5.n y45_5.c], Value.slice x47.a x47.n x47.c] h11 fun u_6 h12 => ∃ (y48 : Int) (y48_1 : ByteArray) (y48_2 : Bool) (y48_3 : Int) (y48_4 : Sv) (y48_5 : Sv), u_6 = Value.agg #[Value.int .i64 y48, Value.string y48_1, Value.bool y48_2, Value.int .i64 y48_3, Value.slice y48_4.a y48_4.n y48_4.c, Value.slice y48_5.a y48_5.n y48_5.c] ∧
      T h11 h12 ∧ Fq9 y48 y48_1 y48_2 y48_3 y48_4 y48_5 h11.size h12.size h12) ∧
    (∀ (y43 : Int) (y43_1 : ByteArray) (y43_2 : Bool) (y43_3 : Int) (y43_4 : Sv) (y43_5 : Sv) (lo4 hi4 : Nat) (y48 : Int) (y48_1 : ByteArray) (y48_2 : Bool) (y48_3 : Int) (y48_4 : Sv) (y48_5 : Sv) (lo9 hi9 : Nat) (h15 : Heap), T h6 h15 → Fq4 y43 y43_1 y43_2 y43_3 y43_4 y43_5 lo4 hi4 h15 → Fq9 y48 y48_1 y48_2 y48_3 y48_4 y48_5 lo9 hi9 h15 →
      cal Try.prog 11 #[Value.agg #[Value.int .i64 y50, Value.string y50_1, Value.bool y50_2, Value.int .i64 y50_3, Value.slice y50_4.a y50_4.n y50_4.c, Value.slice y50_5.a y50_5.n y50_5.c], Value.slice x52.a x52.n x52.c] h15 fun u_8 h16 => ∃ (y53 : Int) (y53_1 : ByteArray) (y53_2 : Bool) (y53_3 : Int) (y53_4 : Sv) (y53_5 : Sv), u_8 = Value.agg #[Value.int .i64 y53, Value.string y53_1, Value.bool y53_2, Value.int .i64 y53_3, Value.slice y53_4.a y53_4.n y53_4.c, Value.slice y53_5.a y53_5.n y53_5.c] ∧
      T h15 h16 ∧ Fq14 y53 y53_1 y53_2 y53_3 y53_4 y53_5 h15.size h16.size h16) ∧
    (∀ (h19 : Heap), T h6 h19 →
      new 25 #[Value.int .i64 0, Value.string (⟨#[]⟩ : ByteArray), Value.bool false, Value.int .i64 0, Value.slice (⟨none, 0, 0⟩ : Sv).a (⟨none, 0, 0⟩ : Sv).n (⟨none, 0, 0⟩ : Sv).c, Value.slice (⟨none, 0, 0⟩ : Sv).a (⟨none, 0, 0⟩ : Sv).n (⟨none, 0, 0⟩ : Sv).c] h19 fun p4 h20 =>
      T h19 h20 ∧ Fq15 p4 h19.size h20.size h20) ∧
    (∀ (h23 : Heap), T h6 h23 →
      new 25 #[Value.int .i64 0, Value.string (⟨#[]⟩ : ByteArray), Value.bool false, Value.int .i64 0, Value.slice (⟨none, 0, 0⟩ : Sv).a (⟨none, 0, 0⟩ : Sv).n (⟨none, 0, 0⟩ : Sv).c, Value.slice (⟨none, 0, 0⟩ : Sv).a (⟨none, 0, 0⟩ : Sv).n (⟨none, 0, 0⟩ : Sv).c] h23 fun p5 h24 =>
      T h23 h24 ∧ Fq16 p5 h23.size h24.size h24) ∧
    (∀ (h27 : Heap), T h6 h27 →
      new 25 #[Value.int .i64 0, Value.string (⟨#[]⟩ : ByteArray), Value.bool false, Value.int .i64 0, Value.slice (⟨none, 0, 0⟩ : Sv).a (⟨none, 0, 0⟩ : Sv).n (⟨none, 0, 0⟩ : Sv).c, Value.slice (⟨none, 0, 0⟩ : Sv).a (⟨none, 0, 0⟩ : Sv).n (⟨none, 0, 0⟩ : Sv).c] h27 fun p6 h28 =>
      T h27 h28 ∧ Fq17 p6 h27.size h28.size h28) ∧
    (∀ (y43 : Int) (y43_1 : ByteArray) (y43_2 : Bool) (y43_3 : Int) (y43_4 : Sv) (y43_5 : Sv) (lo4 hi4 : Nat) (y48 : Int) (y48_1 : ByteArray) (y48_2 : Bool) (y48_3 : Int) (y48_4 : Sv) (y48_5 : Sv) (lo9 hi9 : Nat) (y53 : Int) (y53_1 : ByteArray) (y53_2 : Bool) (y53_3 : Int) (y53_4 : Sv) (y53_5 : Sv) (lo14 hi14 : Nat) (p4 : Addr) (lo15 hi15 : Nat) (p5 : Addr) (lo16 hi16 : Nat) (p6 : Addr) (lo17 hi17 : Nat) (h31 : Heap), T h6 h31 → Dis h6.size h31.size [(lo4, hi4), (lo9, hi9), (lo14, hi14), (lo15, hi15), (lo16, hi16), (lo17, hi17)] → Fq4 y43 y43_1 y43_2 y43_3 y43_4 y43_5 lo4 hi4 h31 → Fq9 y48 y48_1 y48_2 y48_3 y48_4 y48_5 lo9 hi9 h31 → Fq14 y53 y53_1 y53_2 y53_3 y53_4 y53_5 lo14 hi14 h31 → Fq15 p4 lo15 hi15 h31 → Fq16 p5 lo16 hi16 h31 → Fq17 p6 lo17 hi17 h31 →
    stoA h31 p4 [Value.int .i64 y43, Value.string y43_1, Value.bool y43_2, Value.int .i64 y43_3, Value.slice y43_4.a y43_4.n y43_4.c, Value.slice y43_5.a y43_5.n y43_5.c] fun h32 =>
    stoA h32 p5 [Value.int .i64 y48, Value.string y48_1, Value.bool y48_2, Value.int .i64 y48_3, Value.slice y48_4.a y48_4.n y48_4.c, Value.slice y48_5.a y48_5.n y48_5.c] fun h33 =>
    stoA h33 p6 [Value.int .i64 y53, Value.string y53_1, Value.bool y53_2, Value.int .i64 y53_3, Value.slice y53_4.a y53_4.n y53_4.c, Value.slice y53_5.a y53_5.n y53_5.c] fun h34 =>
    ∃ (y56 : Int) (y56_1 : ByteArray) (y56_2 : Bool) (y56_3 : Int) (y56_4 : Sv) (y56_5 : Sv), cl h34 p4 = some (Value.int .i64 y56) ∧ cl h34 (p4.add 1) = some (Value.string y56_1) ∧ cl h34 (p4.add 2) = some (Value.bool y56_2) ∧ cl h34 (p4.add 3) = some (Value.int .i64 y56_3) ∧ cl h34 (p4.add 4) = some (Value.slice y56_4.a y56_4.n y56_4.c) ∧ cl h34 (p4.add 5) = some (Value.slice y56_5.a y56_5.n y56_5.c) ∧
    ∃ (y57 : Int) (y57_1 : ByteArray) (y57_2 : Bool) (y57_3 : Int) (y57_4 : Sv) (y57_5 : Sv), cl h34 p5 = some (Value.int .i64 y57) ∧ cl h34 (p5.add 1) = some (Value.string y57_1) ∧ cl h34 (p5.add 2) = some (Value.bool y57_2) ∧ cl h34 (p5.add 3) = some (Value.int .i64 y57_3) ∧ cl h34 (p5.add 4) = some (Value.slice y57_4.a y57_4.n y57_4.c) ∧ cl h34 (p5.add 5) = some (Value.slice y57_5.a y57_5.n y57_5.c) ∧
    cal Try.prog 9 #[Value.map x38, Value.agg #[Value.int .i64 y56, Value.string y56_1, Value.bool y56_2, Value.int .i64 y56_3, Value.slice y56_4.a y56_4.n y56_4.c, Value.slice y56_5.a y56_5.n y56_5.c], Value.agg #[Value.int .i64 y57, Value.string y57_1, Value.bool y57_2, Value.int .i64 y57_3, Value.slice y57_4.a y57_4.n y57_4.c, Value.slice y57_5.a y57_5.n y57_5.c]] h34 fun u_10 h35 => ∃ (x58 : Sv) (x58_1 : Bool), u_10 = Value.tuple #[Value.slice x58.a x58.n x58.c, Value.bool x58_1] ∧
    ∃ (y63 : Int) (y63_1 : ByteArray) (y63_2 : Bool) (y63_3 : Int) (y63_4 : Sv) (y63_5 : Sv), cl h35 p5 = some (Value.int .i64 y63) ∧ cl h35 (p5.add 1) = some (Value.string y63_1) ∧ cl h35 (p5.add 2) = some (Value.bool y63_2) ∧ cl h35 (p5.add 3) = some (Value.int .i64 y63_3) ∧ cl h35 (p5.add 4) = some (Value.slice y63_4.a y63_4.n y63_4.c) ∧ cl h35 (p5.add 5) = some (Value.slice y63_5.a y63_5.n y63_5.c) ∧
    ∃ (y64 : Int) (y64_1 : ByteArray) (y64_2 : Bool) (y64_3 : Int) (y64_4 : Sv) (y64_5 : Sv), cl h35 p6 = some (Value.int .i64 y64) ∧ cl h35 (p6.add 1) = some (Value.string y64_1) ∧ cl h35 (p6.add 2) = some (Value.bool y64_2) ∧ cl h35 (p6.add 3) = some (Value.int .i64 y64_3) ∧ cl h35 (p6.add 4) = some (Value.slice y64_4.a y64_4.n y64_4.c) ∧ cl h35 (p6.add 5) = some (Value.slice y64_5.a y64_5.n y64_5.c) ∧
    cal Try.prog 9 #[Value.map x38, Value.agg #[Value.int .i64 y63, Value.string y63_1, Value.bool y63_2, Value.int .i64 y63_3, Value.slice y63_4.a y63_4.n y63_4.c, Value.slice y63_5.a y63_5.n y63_5.c], Value.agg #[Value.int .i64 y64, Value.string y64_1, Value.bool y64_2, Value.int .i64 y64_3, Value.slice y64_4.a y64_4.n y64_4.c, Value.slice y64_5.a y64_5.n y64_5.c]] h35 fun u_11 h36 => ∃ (x65 : Sv) (x65_1 : Bool), u_11 = Value.tuple #[Value.slice x65.a x65.n x65.c, Value.bool x65_1] ∧
    ∃ (y70 : Int) (y70_1 : ByteArray) (y70_2 : Bool) (y70_3 : Int) (y70_4 : Sv) (y70_5 : Sv), cl h36 p4 = some (Value.int .i64 y70) ∧ cl h36 (p4.add 1) = some (Value.string y70_1) ∧ cl h36 (p4.add 2) = some (Value.bool y70_2) ∧ cl h36 (p4.add 3) = some (Value.int .i64 y70_3) ∧ cl h36 (p4.add 4) = some (Value.slice y70_4.a y70_4.n y70_4.c) ∧ cl h36 (p4.add 5) = some (Value.slice y70_5.a y70_5.n y70_5.c) ∧
    ∃ (y71 : Int) (y71_1 : ByteArray) (y71_2 : Bool) (y71_3 : Int) (y71_4 : Sv) (y71_5 : Sv), cl h36 p6 = some (Value.int .i64 y71) ∧ cl h36 (p6.add 1) = some (Value.string y71_1) ∧ cl h36 (p6.add 2) = some (Value.bool y71_2) ∧ cl h36 (p6.add 3) = some (Value.int .i64 y71_3) ∧ cl h36 (p6.add 4) = some (Value.slice y71_4.a y71_4.n y71_4.c) ∧ cl h36 (p6.add 5) = some (Value.slice y71_5.a y71_5.n y71_5.c) ∧
    cal Try.prog 9 #[Value.map x38, Value.agg #[Value.int .i64 y70, Value.string y70_1, Value.bool y70_2, Value.int .i64 y70_3, Value.slice y70_4.a y70_4.n y70_4.c, Value.slice y70_5.a y70_5.n y70_5.c], Value.agg #[Value.int .i64 y71, Value.string y71_1, Value.bool y71_2, Value.int .i64 y71_3, Value.slice y71_4.a y71_4.n y71_4.c, Value.slice y71_5.a y71_5.n y71_5.c]] h36 fun u_12 h37 => ∃ (x72 : Sv) (x72_1 : Bool), u_12 = Value.tuple #[Value.slice x72.a x72.n x72.c, Value.bool x72_1] ∧
    ifb (((!x58_1) || (!x65_1)) || (!x72_1)) (
      R (Value.bool false) h37) (
      cal Try.prog 12 #[Value.slice x58.a x58.n x58.c, Value.slice (⟨some (p1.add 9), 8, 8⟩ : Sv).a (⟨some (p1.add 9), 8, 8⟩ : Sv).n (⟨some (p1.add 9), 8, 8⟩ : Sv).c] h37 fun u_13 h38 => asB u_13 fun x88 =>
      ∃ J_2 : Bool → Heap → Prop, (orj (!x88) (fun k_2 =>
        cal Try.prog 12 #[Value.slice x65.a x65.n x65.c, Value.slice (⟨some (p1.add 9), 8, 8⟩ : Sv).a (⟨some (p1.add 9), 8, 8⟩ : Sv).n (⟨some (p1.add 9), 8, 8⟩ : Sv).c] h38 fun u_14 h40 => asB u_14 fun x94 =>
        k_2 (!x94) h40) h38 J_2) ∧ ∀ x96 h39, J_2 x96 h39 →
      ∃ J_3 : Bool → Heap → Prop, (orj x96 (fun k_3 =>
        cal Try.prog 12 #[Value.slice x72.a x72.n x72.c, Value.slice (⟨some (p1.add 9), 8, 8⟩ : Sv).a (⟨some (p1.add 9), 8, 8⟩ : Sv).n (⟨some (p1.add 9), 8, 8⟩ : Sv).c] h39 fun u_15 h42 => asB u_15 fun x101 =>
        k_3 x101 h42) h39 J_3) ∧ ∀ x102 h41, J_3 x102 h41 →
      R (Value.bool x102) h41)))

set_option maxRecDepth 100000 in

theorem F4 {c0 c0_1 c0_2 c0_3 c0_4 c0_5 c0_6 c0_7 c0_8 c0_9 c0_10 c0_11 c0_12 c0_13 c0_14 c0_15 c0_16 c0_17 h : _} {R : Value → Heap → Prop} (H : L4 c0 c0_1 c0_2 c0_3 c0_4 c0_5 c0_6 c0_7 c0_8 c0_9 c0_10 c0_11 c0_12 c0_13 c0_14 c0_15 c0_16 c0_17 h R) : CallsH Try.prog 4 #[Value.agg #[Value.int .i64 c0, Value.string c0_1, Value.bool c0_2, Value.int .i64 c0_3, Value.slice c0_4.a c0_4.n c0_4.c, Value.slice c0_5.a c0_5.n c0_5.c, Value.slice c0_6.a c0_6.n c0_6.c, Value.slice c0_7.a c0_7.n c0_7.c, Value.slice c0_8.a c0_8.n c0_8.c, Value.int .u64 c0_9, Value.int .u64 c0_10, Value.int .u64 c0_11, Value.int .u64 c0_12, Value.int .u64 c0_13, Value.int .u64 c0_14, Value.int .u64 c0_15, Value.int .u64 c0_16, Value.int .u64 c0_17]] h R := by
  refine CallsH.enter (n := 103) Try.func4 rfl rfl rfl rfl ?_
  intro w0 aa ww S
  unfold L4 at H
  refine W.seq ?_
  replace S := S.sub [(0, Value.agg #[Value.int .i64 c0, Value.string c0_1, Value.bool c0_2, Value.int .i64 c0_3, Value.slice c0_4.a c0_4.n c0_4.c, Value.slice c0_5.a c0_5.n c0_5.c, Value.slice c0_6.a c0_6.n c0_6.c, Value.slice c0_7.a c0_7.n c0_7.c, Value.slice c0_8.a c0_8.n c0_8.c, Value.int .u64 c0_9, Value.int .u64 c0_10, Value.int .u64 c0_11, Value.int .u64 c0_12, Value.int .u64 c0_13, Value.int .u64 c0_14, Value.int .u64 c0_15, Value.int .u64 c0_16, Value.int .u64 c0_17])] ⟨rfl, trivial⟩
  refine W.region ?_
  refine ol_box S H rfl rfl rfl trivial ?_
  clear S H aa; intro p1 aa ww h1 H S
  refine OL.pure S (Lf.run_assign (S.ev rfl)) rfl rfl trivial ?_
  clear S; intro aa S
  refine OL.nil ?_
  refine W.seq ?_
  refine W.seq ?_
  replace S := S.sub [(1, Value.pointer (some p1))] ⟨rfl, trivial⟩
  refine W.region ?_
  refine ol_cal S H isfn7 rfl rfl trivial ?_
  clear S H aa; intro u aa ww h2 H S
  obtain ⟨x13, rfl, H⟩ := H
  refine OL.pure S (Lf.run_not (S.ev rfl)) rfl rfl trivial ?_
  clear S; intro aa S
  refine OL.pure S (Lf.run_move (S.ev rfl)) rfl rfl trivial ?_
  clear S; intro aa S
  obtain ⟨J, H, HK⟩ := H
  refine OL.cutN 5 (fun aa ww => ∃ x20 h3, St 103 ((20, Value.bool x20) :: [(1, Value.pointer (some p1)), (13, Value.bool x13), (14, Value.bool (!x13)), (15, Value.bool (!x13))]) h3 w0 aa ww ∧ J x20 h3) ?_ ?_
  · rcases Bool.eq_false_or_eq_true (!x13) with hb | hb
    · replace H := H.1 hb
      refine OL.not S rfl rfl (GNo.mk rfl rfl hb) ?_
      clear S; intro aa S
      refine OL.not S rfl rfl (GNo.mk rfl rfl hb) ?_
      clear S; intro aa S
      refine OL.not S rfl rfl (GNo.mk rfl rfl hb) ?_
      clear S; intro aa S
      refine OL.not S rfl rfl (GNo.mk rfl rfl hb) ?_
      clear S; intro aa S
      refine OL.pure S (Lf.run_pickT (S.ev rfl) hb (S.ev rfl)) rfl rfl trivial ?_
      clear S; intro aa S
      refine OL.nil ?_
      exact ⟨_, _, S.sub _ ⟨rfl, rfl, rfl, rfl, rfl, trivial⟩, H⟩
    · replace H := H.2 hb
      refine OL.pure S (Lf.run_fa (S.ev rfl) fa39_0) rfl rfl (GOk.mk rfl rfl hb) ?_
      clear S; intro aa S
      obtain ⟨y17, y17_1, y17_2, y17_3, y17_4, y17_5, c_1, c_2, c_3, c_4, c_5, c_6, H⟩ := H
      refine OL.pure S (Lf.run_ldA (cs := [Value.int .i64 y17, Value.string y17_1, Value.bool y17_2, Value.int .i64 y17_3, Value.slice y17_4.a y17_4.n y17_4.c, Value.slice y17_5.a y17_5.n y17_5.c]) (S.ev rfl) ag25 ti25 (by rw [S.heap]; exact RowL.toRow ⟨c_1, c_2, c_3, c_4, c_5, c_6, trivial⟩)) rfl rfl (GOk.mk rfl rfl hb) ?_
      clear S; intro aa S
      refine ol_cal S H isfn8 rfl rfl (GOk.mk rfl rfl hb) ?_
      clear S H aa; intro u_1 aa ww h4 H S
      obtain ⟨x18, rfl, H⟩ := H
      refine OL.pure S (Lf.run_not (S.ev rfl)) rfl rfl (GOk.mk rfl rfl hb) ?_
      clear S; intro aa S
      refine OL.pure S (Lf.run_pickF (S.ev rfl) hb (S.ev rfl)) rfl rfl trivial ?_
      clear S; intro aa S
      refine OL.nil ?_
      exact ⟨_, _, S.sub _ ⟨rfl, rfl, rfl, rfl, rfl, trivial⟩, H⟩
  · clear S aa
    rintro aa ww ⟨x20, h3, S, HJ⟩
    replace H := HK _ _ HJ
    clear HK HJ
    refine OL.pure S (Lf.run_move (S.ev rfl)) rfl rfl trivial ?_
    clear S; intro aa S
    obtain ⟨J_1, H, HK_1⟩ := H
    refine OL.cutN 13 (fun aa ww => ∃ x34, St 103 ((34, Value.bool x34) :: [(1, Value.pointer (some p1)), (13, Value.bool x13), (14, Value.bool (!x13)), (15, Value.bool (!x13)), (20, Value.bool x20), (21, Value.bool x20)]) h3 w0 aa ww ∧ J_1 x34) ?_ ?_
    · rcases Bool.eq_false_or_eq_true x20 with hb_1 | hb_1
      · replace H := H.1 hb_1
        refine OL.not S rfl rfl (GNo.mk rfl rfl hb_1) ?_
        clear S; intro aa S
        refine OL.not S rfl rfl (GNo.mk rfl rfl hb_1) ?_
        clear S; intro aa S
        refine OL.not S rfl rfl (GNo.mk rfl rfl hb_1) ?_
        clear S; intro aa S
        refine OL.not S rfl rfl (GNo.mk rfl rfl hb_1) ?_
        clear S; intro aa S
        refine OL.not S rfl rfl (GNo.mk rfl rfl hb_1) ?_
        clear S; intro aa S
        refine OL.not S rfl rfl (GNo.mk rfl rfl hb_1) ?_
        clear S; intro aa S
        refine OL.not S rfl rfl (GNo.mk rfl rfl hb_1) ?_
        clear S; intro aa S
        refine OL.not S rfl rfl (GNo.mk rfl rfl hb_1) ?_
        clear S; intro aa S
        refine OL.not S rfl rfl (GNo.mk rfl rfl hb_1) ?_
        clear S; intro aa S
        refine OL.not S rfl rfl (GNo.mk rfl rfl hb_1) ?_
        clear S; intro aa S
        refine OL.not S rfl rfl (GNo.mk rfl rfl hb_1) ?_
        clear S; intro aa S
        refine OL.not S rfl rfl (GNo.mk rfl rfl hb_1) ?_
        clear S; intro aa S
        refine OL.pure S (Lf.run_pickT (S.ev rfl) hb_1 (S.ev rfl)) rfl rfl trivial ?_
        clear S; intro aa S
        refine OL.nil ?_
        exact ⟨_, S.sub _ ⟨rfl, rfl, rfl, rfl, rfl, rfl, rfl, trivial⟩, H⟩
      · replace H := H.2 hb_1
        refine OL.pure S (Lf.run_fa (S.ev rfl) fa39_1) rfl rfl (GOk.mk rfl rfl hb_1) ?_
        clear S; intro aa S
        obtain ⟨x23, c_7, H⟩ := H
        refine OL.pure S (Lf.run_ld (S.ev rfl) fl22 (S.cl c_7)) rfl rfl (GOk.mk rfl rfl hb_1) ?_
        clear S; intro aa S
        refine OL.pure S (Lf.run_lens (S.ev rfl) rfl Try.underlying22) rfl rfl (GOk.mk rfl rfl hb_1) ?_
        clear S; intro aa S
        refine OL.pure S (Lf.run_fa (S.ev rfl) fa39_2) rfl rfl (GOk.mk rfl rfl hb_1) ?_
        clear S; intro aa S
        obtain ⟨x26, c_8, H⟩ := H
        refine OL.pure S (Lf.run_ld (S.ev rfl) fl22 (S.cl c_8)) rfl rfl (GOk.mk rfl rfl hb_1) ?_
        clear S; intro aa S
        refine OL.pure S (Lf.run_lens (S.ev rfl) rfl Try.underlying22) rfl rfl (GOk.mk rfl rfl hb_1) ?_
        clear S; intro aa S
        refine OL.pure S (Lf.run_add (S.ev rfl) (S.ev rfl)) rfl rfl (GOk.mk rfl rfl hb_1) ?_
        clear S; intro aa S
        refine OL.pure S (Lf.run_fa (S.ev rfl) fa39_3) rfl rfl (GOk.mk rfl rfl hb_1) ?_
        clear S; intro aa S
        obtain ⟨x30, c_9, H⟩ := H
        refine OL.pure S (Lf.run_ld (S.ev rfl) fl22 (S.cl c_9)) rfl rfl (GOk.mk rfl rfl hb_1) ?_
        clear S; intro aa S
        refine OL.pure S (Lf.run_lens (S.ev rfl) rfl Try.underlying22) rfl rfl (GOk.mk rfl rfl hb_1) ?_
        clear S; intro aa S
        refine OL.pure S (Lf.run_add (S.ev rfl) (S.ev rfl)) rfl rfl (GOk.mk rfl rfl hb_1) ?_
        clear S; intro aa S
        refine OL.pure S (Lf.run_gtr (S.ev rfl) (S.ev rfl)) rfl rfl (GOk.mk rfl rfl hb_1) ?_
        clear S; intro aa S
        refine OL.pure S (Lf.run_pickF (S.ev rfl) hb_1 (S.ev rfl)) rfl rfl trivial ?_
        clear S; intro aa S
        refine OL.nil ?_
        exact ⟨_, S.sub _ ⟨rfl, rfl, rfl, rfl, rfl, rfl, rfl, trivial⟩, H⟩
    · clear S aa
      rintro aa ww ⟨x34, S, HJ⟩
      replace H := HK_1 _ HJ
      clear HK_1 HJ
      refine OL.nil ?_
      refine W.cond S (b := x34) rfl (fun hb_2 => ?_) (fun hb_2 => ?_)
      · replace H := H.1 hb_2
        refine W.seq ?_
        replace S := S.sub [] trivial
        refine W.region ?_
        refine ol_cal S H isfn7 rfl rfl trivial ?_
        clear S H aa; intro u_2 aa ww h5 H S
        obtain ⟨x35, rfl, H⟩ := H
        refine OL.pure S (Lf.run_assign (S.ev rfl)) rfl rfl trivial ?_
        clear S; intro aa S
        refine OL.nil ?_
        refine W.ret ?_
        exact Ret.one S rfl rfl H
      · replace H := H.2 hb_2
        refine W.skip ?_
        refine W.seq ?_
        replace S := S.sub [(1, Value.pointer (some p1))] ⟨rfl, trivial⟩
        refine W.region ?_
        refine OL.pure S (Lf.run_fa (S.ev rfl) fa39_5) rfl rfl trivial ?_
        clear S; intro aa S
        obtain ⟨x37, c_10, H⟩ := H
        refine OL.pure S (Lf.run_ld (S.ev rfl) fl26 (S.cl c_10)) rfl rfl trivial ?_
        clear S; intro aa S
        refine ol_cal S H isfn10 rfl rfl trivial ?_
        clear S H aa; intro u_3 aa ww h6 H S
        obtain ⟨x38, rfl, H⟩ := H
        refine OL.pure S (Lf.run_assign (S.ev rfl)) rfl rfl trivial ?_
        clear S; intro aa S
        refine OL.nil ?_
        refine W.seq ?_
        replace S := S.sub [(1, Value.pointer (some p1)), (3, Value.map x38)] ⟨rfl, rfl, trivial⟩
        refine W.regionD S (by kernel_rfl) ?_
        clear S; intro ww S
        refine AN.pure 0 S rfl (by kernel_rfl) (fun _ => Lf.run_fa (S.ev rfl) fa39_0) rfl rfl trivial ?_
        clear S; intro aa S
        refine AN.pure 2 S rfl (by kernel_rfl) (fun _ => Lf.run_fa (S.ev rfl) fa39_1) rfl rfl trivial ?_
        clear S; intro aa S
        refine AN.pure 5 S rfl (by kernel_rfl) (fun _ => Lf.run_fa (S.ev rfl) fa39_0) rfl rfl trivial ?_
        clear S; intro aa S
        refine AN.pure 7 S rfl (by kernel_rfl) (fun _ => Lf.run_fa (S.ev rfl) fa39_2) rfl rfl trivial ?_
        clear S; intro aa S
        refine AN.pure 10 S rfl (by kernel_rfl) (fun _ => Lf.run_fa (S.ev rfl) fa39_0) rfl rfl trivial ?_
        clear S; intro aa S
        refine AN.pure 12 S rfl (by kernel_rfl) (fun _ => Lf.run_fa (S.ev rfl) fa39_3) rfl rfl trivial ?_
        clear S; intro aa S
        obtain ⟨T, hT, H⟩ := H
        obtain ⟨y40, y40_1, y40_2, y40_3, y40_4, y40_5, c_11, c_12, c_13, c_14, c_15, c_16, H⟩ := H
        obtain ⟨x42, c_17, H⟩ := H
        obtain ⟨y45, y45_1, y45_2, y45_3, y45_4, y45_5, c_18, c_19, c_20, c_21, c_22, c_23, H⟩ := H
        obtain ⟨x47, c_24, H⟩ := H
        obtain ⟨y50, y50_1, y50_2, y50_3, y50_4, y50_5, c_25, c_26, c_27, c_28, c_29, c_30, H⟩ := H
        obtain ⟨x52, c_31, H⟩ := H
        obtain ⟨Fq4, sq, H⟩ := H
        obtain ⟨Fq9, sq_1, H⟩ := H
        obtain ⟨Fq14, sq_2, H⟩ := H
        obtain ⟨Fq15, sq_3, H⟩ := H
        obtain ⟨Fq16, sq_4, H⟩ := H
        obtain ⟨Fq17, sq_5, H⟩ := H
        obtain ⟨Oq, Oq_1, Oq_2, Oq_3, Oq_4, Oq_5, H⟩ := H
        let gq1 : GOp := ⟨1, 40, false, [1], fun lq => Value.agg #[Value.int .i64 y40, Value.string y40_1, Value.bool y40_2, Value.int .i64 y40_3, Value.slice y40_4.a y40_4.n y40_4.c, Value.slice y40_5.a y40_5.n y40_5.c], fun _ _ _ _ => True⟩
        let gq3 : GOp := ⟨3, 42, false, [3], fun lq => Value.slice x42.a x42.n x42.c, fun _ _ _ _ => True⟩
        let gq4 : GOp := ⟨4, 43, true, [4], fun lq => Value.agg #[Value.int .i64 (pI (pC 0 (nth lq 0))), Value.string (pT (pC 1 (nth lq 0))), Value.bool (pB (pC 2 (nth lq 0))), Value.int .i64 (pI (pC 3 (nth lq 0))), Value.slice (pS (pC 4 (nth lq 0))).a (pS (pC 4 (nth lq 0))).n (pS (pC 4 (nth lq 0))).c, Value.slice (pS (pC 5 (nth lq 0))).a (pS (pC 5 (nth lq 0))).n (pS (pC 5 (nth lq 0))).c], fun lq lo hi h => Fq4 (pI (pC 0 (nth lq 0))) (pT (pC 1 (nth lq 0))) (pB (pC 2 (nth lq 0))) (pI (pC 3 (nth lq 0))) (pS (pC 4 (nth lq 0))) (pS (pC 5 (nth lq 0))) lo hi h⟩
        let gq6 : GOp := ⟨6, 45, false, [6], fun lq => Value.agg #[Value.int .i64 y45, Value.string y45_1, Value.bool y45_2, Value.int .i64 y45_3, Value.slice y45_4.a y45_4.n y45_4.c, Value.slice y45_5.a y45_5.n y45_5.c], fun _ _ _ _ => True⟩
        let gq8 : GOp := ⟨8, 47, false, [8], fun lq => Value.slice x47.a x47.n x47.c, fun _ _ _ _ => True⟩
        let gq9 : GOp := ⟨9, 48, true, [9, 4], fun lq => Value.agg #[Value.int .i64 (pI (pC 0 (nth lq 0))), Value.string (pT (pC 1 (nth lq 0))), Value.bool (pB (pC 2 (nth lq 0))), Value.int .i64 (pI (pC 3 (nth lq 0))), Value.slice (pS (pC 4 (nth lq 0))).a (pS (pC 4 (nth lq 0))).n (pS (pC 4 (nth lq 0))).c, Value.slice (pS (pC 5 (nth lq 0))).a (pS (pC 5 (nth lq 0))).n (pS (pC 5 (nth lq 0))).c], fun lq lo hi h => Fq9 (pI (pC 0 (nth lq 0))) (pT (pC 1 (nth lq 0))) (pB (pC 2 (nth lq 0))) (pI (pC 3 (nth lq 0))) (pS (pC 4 (nth lq 0))) (pS (pC 5 (nth lq 0))) lo hi h⟩
        let gq11 : GOp := ⟨11, 50, false, [11], fun lq => Value.agg #[Value.int .i64 y50, Value.string y50_1, Value.bool y50_2, Value.int .i64 y50_3, Value.slice y50_4.a y50_4.n y50_4.c, Value.slice y50_5.a y50_5.n y50_5.c], fun _ _ _ _ => True⟩
        let gq13 : GOp := ⟨13, 52, false, [13], fun lq => Value.slice x52.a x52.n x52.c, fun _ _ _ _ => True⟩
        let gq14 : GOp := ⟨14, 53, true, [14, 4, 9], fun lq => Value.agg #[Value.int .i64 (pI (pC 0 (nth lq 0))), Value.string (pT (pC 1 (nth lq 0))), Value.bool (pB (pC 2 (nth lq 0))), Value.int .i64 (pI (pC 3 (nth lq 0))), Value.slice (pS (pC 4 (nth lq 0))).a (pS (pC 4 (nth lq 0))).n (pS (pC 4 (nth lq 0))).c, Value.slice (pS (pC 5 (nth lq 0))).a (pS (pC 5 (nth lq 0))).n (pS (pC 5 (nth lq 0))).c], fun lq lo hi h => Fq14 (pI (pC 0 (nth lq 0))) (pT (pC 1 (nth lq 0))) (pB (pC 2 (nth lq 0))) (pI (pC 3 (nth lq 0))) (pS (pC 4 (nth lq 0))) (pS (pC 5 (nth lq 0))) lo hi h⟩
        let gq15 : GOp := ⟨15, 4, true, [15], fun lq => Value.pointer (some (pA (nth lq 0))), fun lq lo hi h => Fq15 (pA (nth lq 0)) lo hi h⟩
        let gq16 : GOp := ⟨16, 5, true, [16], fun lq => Value.pointer (some (pA (nth lq 0))), fun lq lo hi h => Fq16 (pA (nth lq 0)) lo hi h⟩
        let gq17 : GOp := ⟨17, 6, true, [17], fun lq => Value.pointer (some (pA (nth lq 0))), fun lq lo hi h => Fq17 (pA (nth lq 0)) lo hi h⟩
        replace S := S.sub [(1, Value.pointer (some p1)), (3, Value.map x38), (39, Value.pointer (some p1)), (41, Value.pointer (some (p1.add 6))), (44, Value.pointer (some p1)), (46, Value.pointer (some (p1.add 7))), (49, Value.pointer (some p1)), (51, Value.pointer (some (p1.add 8)))] ⟨rfl, rfl, rfl, rfl, rfl, rfl, rfl, rfl, trivial⟩
        refine AN.group (fuel := 3) T hT [(gq1, []), (gq3, []), (gq4, [gq1, gq3]), (gq6, []), (gq8, []), (gq9, [gq4, gq6, gq8]), (gq11, []), (gq13, []), (gq14, [gq4, gq9, gq11, gq13]), (gq15, []), (gq16, []), (gq17, [])] [(1, 40, [1], []), (3, 42, [3], []), (4, 43, [4], [1, 3]), (6, 45, [6], []), (8, 47, [8], []), (9, 48, [9, 4], [4, 6, 8]), (11, 50, [11], []), (13, 52, [13], []), (14, 53, [14, 4, 9], [4, 9, 11, 13]), (15, 4, [15], []), (16, 5, [16], []), (17, 6, [17], [])] [1, 3, 39, 41, 44, 46, 49, 51] S rfl rfl (by kernel_rfl) (by simp) ⟨?_, ?_, ?_, ?_, ?_, ?_, ?_, ?_, ?_, ?_, ?_, ?_, trivial⟩ ?_
        · refine ⟨_, rfl, rfl, fun _ _ _ _ _ _ _ => trivial, ?_⟩
          intro Xg Bg aa ww h43 Ef S hTg hok
          replace S : St 103 ((1, Value.pointer (some p1)) :: (3, Value.map x38) :: (39, Value.pointer (some p1)) :: (41, Value.pointer (some (p1.add 6))) :: (44, Value.pointer (some p1)) :: (46, Value.pointer (some (p1.add 7))) :: (49, Value.pointer (some p1)) :: (51, Value.pointer (some (p1.add 8))) :: Ef) h43 w0 aa ww := S
          refine OL.pure S (Lf.run_ldA (cs := [Value.int .i64 y40, Value.string y40_1, Value.bool y40_2, Value.int .i64 y40_3, Value.slice y40_4.a y40_4.n y40_4.c, Value.slice y40_5.a y40_5.n y40_5.c]) (S.ev rfl) ag25 ti25 (by rw [S.heap]; exact RowL.toRow ⟨c_11 _ hTg, c_12 _ hTg, c_13 _ hTg, c_14 _ hTg, c_15 _ hTg, c_16 _ hTg, trivial⟩)) rfl rfl trivial ?_
          clear S; intro aa S
          refine OL.nil ?_
          exact ⟨undef, _, S, hT.refl _, trivial⟩
        · refine ⟨_, rfl, rfl, fun _ _ _ _ _ _ _ => trivial, ?_⟩
          intro Xg Bg aa ww h44 Ef S hTg hok
          replace S : St 103 ((1, Value.pointer (some p1)) :: (3, Value.map x38) :: (39, Value.pointer (some p1)) :: (41, Value.pointer (some (p1.add 6))) :: (44, Value.pointer (some p1)) :: (46, Value.pointer (some (p1.add 7))) :: (49, Value.pointer (some p1)) :: (51, Value.pointer (some (p1.add 8))) :: Ef) h44 w0 aa ww := S
          refine OL.pure S (Lf.run_ld (S.ev rfl) fl22 (S.cl (c_17 _ hTg))) rfl rfl trivial ?_
          clear S; intro aa S
          refine OL.nil ?_
          exact ⟨undef, _, S, hT.refl _, trivial⟩
        · refine ⟨_, rfl, rfl, fun _ _ _ _ _ ht hf => sq _ _ _ _ _ _ _ _ _ _ ht hf, ?_⟩
          intro Xg Bg aa ww h9 Ef S hTg hok
          obtain ⟨kq1, kq3, -⟩ := hok
          replace S : St 103 ((40, Value.agg #[Value.int .i64 y40, Value.string y40_1, Value.bool y40_2, Value.int .i64 y40_3, Value.slice y40_4.a y40_4.n y40_4.c, Value.slice y40_5.a y40_5.n y40_5.c]) :: (42, Value.slice x42.a x42.n x42.c) :: (1, Value.pointer (some p1)) :: (3, Value.map x38) :: (39, Value.pointer (some p1)) :: (41, Value.pointer (some (p1.add 6))) :: (44, Value.pointer (some p1)) :: (46, Value.pointer (some (p1.add 7))) :: (49, Value.pointer (some p1)) :: (51, Value.pointer (some (p1.add 8))) :: Ef) h9 w0 aa ww := S
          have H := Oq h9 hTg
          refine ol_cal S H isfn11 rfl rfl trivial ?_
          clear S H aa; intro u_5 aa ww h10 H S
          obtain ⟨y43_6, y43_7, y43_8, y43_9, y43_10, y43_11, rfl, H⟩ := H
          refine OL.nil ?_
          exact ⟨Value.agg #[Value.int .i64 y43_6, Value.string y43_7, Value.bool y43_8, Value.int .i64 y43_9, Value.slice y43_10.a y43_10.n y43_10.c, Value.slice y43_11.a y43_11.n y43_11.c], _, S, H.1, H.2⟩
        · refine ⟨_, rfl, rfl, fun _ _ _ _ _ _ _ => trivial, ?_⟩
          intro Xg Bg aa ww h45 Ef S hTg hok
          replace S : St 103 ((1, Value.pointer (some p1)) :: (3, Value.map x38) :: (39, Value.pointer (some p1)) :: (41, Value.pointer (some (p1.add 6))) :: (44, Value.pointer (some p1)) :: (46, Value.pointer (some (p1.add 7))) :: (49, Value.pointer (some p1)) :: (51, Value.pointer (some (p1.add 8))) :: Ef) h45 w0 aa ww := S
          refine OL.pure S (Lf.run_ldA (cs := [Value.int .i64 y45, Value.string y45_1, Value.bool y45_2, Value.int .i64 y45_3, Value.slice y45_4.a y45_4.n y45_4.c, Value.slice y45_5.a y45_5.n y45_5.c]) (S.ev rfl) ag25 ti25 (by rw [S.heap]; exact RowL.toRow ⟨c_18 _ hTg, c_19 _ hTg, c_20 _ hTg, c_21 _ hTg, c_22 _ hTg, c_23 _ hTg, trivial⟩)) rfl rfl trivial ?_
          clear S; intro aa S
          refine OL.nil ?_
          exact ⟨undef, _, S, hT.refl _, trivial⟩
        · refine ⟨_, rfl, rfl, fun _ _ _ _ _ _ _ => trivial, ?_⟩
          intro Xg Bg aa ww h46 Ef S hTg hok
          replace S : St 103 ((1, Value.pointer (some p1)) :: (3, Value.map x38) :: (39, Value.pointer (some p1)) :: (41, Value.pointer (some (p1.add 6))) :: (44, Value.pointer (some p1)) :: (46, Value.pointer (some (p1.add 7))) :: (49, Value.pointer (some p1)) :: (51, Value.pointer (some (p1.add 8))) :: Ef) h46 w0 aa ww := S
          refine OL.pure S (Lf.run_ld (S.ev rfl) fl22 (S.cl (c_24 _ hTg))) rfl rfl trivial ?_
          clear S; intro aa S
          refine OL.nil ?_
          exact ⟨undef, _, S, hT.refl _, trivial⟩
        · refine ⟨_, rfl, rfl, fun _ _ _ _ _ ht hf => sq_1 _ _ _ _ _ _ _ _ _ _ ht hf, ?_⟩
          intro Xg Bg aa ww h13 Ef S hTg hok
          obtain ⟨kq4, kq6, kq8, -⟩ := hok
          replace S : St 103 ((43, Value.agg #[Value.int .i64 (pI (pC 0 (Xg 4))), Value.string (pT (pC 1 (Xg 4))), Value.bool (pB (pC 2 (Xg 4))), Value.int .i64 (pI (pC 3 (Xg 4))), Value.slice (pS (pC 4 (Xg 4))).a (pS (pC 4 (Xg 4))).n (pS (pC 4 (Xg 4))).c, Value.slice (pS (pC 5 (Xg 4))).a (pS (pC 5 (Xg 4))).n (pS (pC 5 (Xg 4))).c]) :: (45, Value.agg #[Value.int .i64 y45, Value.string y45_1, Value.bool y45_2, Value.int .i64 y45_3, Value.slice y45_4.a y45_4.n y45_4.c, Value.slice y45_5.a y45_5.n y45_5.c]) :: (47, Value.slice x47.a x47.n x47.c) :: (1, Value.pointer (some p1)) :: (3, Value.map x38) :: (39, Value.pointer (some p1)) :: (41, Value.pointer (some (p1.add 6))) :: (44, Value.pointer (some p1)) :: (46, Value.pointer (some (p1.add 7))) :: (49, Value.pointer (some p1)) :: (51, Value.pointer (some (p1.add 8))) :: Ef) h13 w0 aa ww := S
          have H := Oq_1 (pI (pC 0 (Xg 4))) (pT (pC 1 (Xg 4))) (pB (pC 2 (Xg 4))) (pI (pC 3 (Xg 4))) (pS (pC 4 (Xg 4))) (pS (pC 5 (Xg 4))) (Bg 4).1 (Bg 4).2 h13 hTg kq4
          refine ol_cal S H isfn11 rfl rfl trivial ?_
          clear S H aa; intro u_7 aa ww h14 H S
          obtain ⟨y48_6, y48_7, y48_8, y48_9, y48_10, y48_11, rfl, H⟩ := H
          refine OL.nil ?_
          exact ⟨Value.agg #[Value.int .i64 y48_6, Value.string y48_7, Value.bool y48_8, Value.int .i64 y48_9, Value.slice y48_10.a y48_10.n y48_10.c, Value.slice y48_11.a y48_11.n y48_11.c], _, S, H.1, H.2⟩
        · refine ⟨_, rfl, rfl, fun _ _ _ _ _ _ _ => trivial, ?_⟩
          intro Xg Bg aa ww h47 Ef S hTg hok
          replace S : St 103 ((1, Value.pointer (some p1)) :: (3, Value.map x38) :: (39, Value.pointer (some p1)) :: (41, Value.pointer (some (p1.add 6))) :: (44, Value.pointer (some p1)) :: (46, Value.pointer (some (p1.add 7))) :: (49, Value.pointer (some p1)) :: (51, Value.pointer (some (p1.add 8))) :: Ef) h47 w0 aa ww := S
          refine OL.pure S (Lf.run_ldA (cs := [Value.int .i64 y50, Value.string y50_1, Value.bool y50_2, Value.int .i64 y50_3, Value.slice y50_4.a y50_4.n y50_4.c, Value.slice y50_5.a y50_5.n y50_5.c]) (S.ev rfl) ag25 ti25 (by rw [S.heap]; exact RowL.toRow ⟨c_25 _ hTg, c_26 _ hTg, c_27 _ hTg, c_28 _ hTg, c_29 _ hTg, c_30 _ hTg, trivial⟩)) rfl rfl trivial ?_
          clear S; intro aa S
          refine OL.nil ?_
          exact ⟨undef, _, S, hT.refl _, trivial⟩
        · refine ⟨_, rfl, rfl, fun _ _ _ _ _ _ _ => trivial, ?_⟩
          intro Xg Bg aa ww h48 Ef S hTg hok
          replace S : St 103 ((1, Value.pointer (some p1)) :: (3, Value.map x38) :: (39, Value.pointer (some p1)) :: (41, Value.pointer (some (p1.add 6))) :: (44, Value.pointer (some p1)) :: (46, Value.pointer (some (p1.add 7))) :: (49, Value.pointer (some p1)) :: (51, Value.pointer (some (p1.add 8))) :: Ef) h48 w0 aa ww := S
          refine OL.pure S (Lf.run_ld (S.ev rfl) fl22 (S.cl (c_31 _ hTg))) rfl rfl trivial ?_
          clear S; intro aa S
          refine OL.nil ?_
          exact ⟨undef, _, S, hT.refl _, trivial⟩
        · refine ⟨_, rfl, rfl, fun _ _ _ _ _ ht hf => sq_2 _ _ _ _ _ _ _ _ _ _ ht hf, ?_⟩
          intro Xg Bg aa ww h17 Ef S hTg hok
          obtain ⟨kq4, kq9, kq11, kq13, -⟩ := hok
          replace S : St 103 ((43, Value.agg #[Value.int .i64 (pI (pC 0 (Xg 4))), Value.string (pT (pC 1 (Xg 4))), Value.bool (pB (pC 2 (Xg 4))), Value.int .i64 (pI (pC 3 (Xg 4))), Value.slice (pS (pC 4 (Xg 4))).a (pS (pC 4 (Xg 4))).n (pS (pC 4 (Xg 4))).c, Value.slice (pS (pC 5 (Xg 4))).a (pS (pC 5 (Xg 4))).n (pS (pC 5 (Xg 4))).c]) :: (48, Value.agg #[Value.int .i64 (pI (pC 0 (Xg 9))), Value.string (pT (pC 1 (Xg 9))), Value.bool (pB (pC 2 (Xg 9))), Value.int .i64 (pI (pC 3 (Xg 9))), Value.slice (pS (pC 4 (Xg 9))).a (pS (pC 4 (Xg 9))).n (pS (pC 4 (Xg 9))).c, Value.slice (pS (pC 5 (Xg 9))).a (pS (pC 5 (Xg 9))).n (pS (pC 5 (Xg 9))).c]) :: (50, Value.agg #[Value.int .i64 y50, Value.string y50_1, Value.bool y50_2, Value.int .i64 y50_3, Value.slice y50_4.a y50_4.n y50_4.c, Value.slice y50_5.a y50_5.n y50_5.c]) :: (52, Value.slice x52.a x52.n x52.c) :: (1, Value.pointer (some p1)) :: (3, Value.map x38) :: (39, Value.pointer (some p1)) :: (41, Value.pointer (some (p1.add 6))) :: (44, Value.pointer (some p1)) :: (46, Value.pointer (some (p1.add 7))) :: (49, Value.pointer (some p1)) :: (51, Value.pointer (some (p1.add 8))) :: Ef) h17 w0 aa ww := S
          have H := Oq_2 (pI (pC 0 (Xg 4))) (pT (pC 1 (Xg 4))) (pB (pC 2 (Xg 4))) (pI (pC 3 (Xg 4))) (pS (pC 4 (Xg 4))) (pS (pC 5 (Xg 4))) (Bg 4).1 (Bg 4).2 (pI (pC 0 (Xg 9))) (pT (pC 1 (Xg 9))) (pB (pC 2 (Xg 9))) (pI (pC 3 (Xg 9))) (pS (pC 4 (Xg 9))) (pS (pC 5 (Xg 9))) (Bg 9).1 (Bg 9).2 h17 hTg kq4 kq9
          refine ol_cal S H isfn11 rfl rfl trivial ?_
          clear S H aa; intro u_9 aa ww h18 H S
          obtain ⟨y53_6, y53_7, y53_8, y53_9, y53_10, y53_11, rfl, H⟩ := H
          refine OL.nil ?_
          exact ⟨Value.agg #[Value.int .i64 y53_6, Value.string y53_7, Value.bool y53_8, Value.int .i64 y53_9, Value.slice y53_10.a y53_10.n y53_10.c, Value.slice y53_11.a y53_11.n y53_11.c], _, S, H.1, H.2⟩
        · refine ⟨_, rfl, rfl, fun _ _ _ _ _ ht hf => sq_3 _ _ _ _ _ ht hf, ?_⟩
          intro Xg Bg aa ww h21 Ef S hTg hok
          replace S : St 103 ((1, Value.pointer (some p1)) :: (3, Value.map x38) :: (39, Value.pointer (some p1)) :: (41, Value.pointer (some (p1.add 6))) :: (44, Value.pointer (some p1)) :: (46, Value.pointer (some (p1.add 7))) :: (49, Value.pointer (some p1)) :: (51, Value.pointer (some (p1.add 8))) :: Ef) h21 w0 aa ww := S
          have H := Oq_3 h21 hTg
          refine ol_alloc S H ti25 rfl rfl trivial ?_
          clear S H aa; intro p4_1 aa ww h22 H S
          refine OL.nil ?_
          exact ⟨Value.pointer (some p4_1), _, S, H.1, H.2⟩
        · refine ⟨_, rfl, rfl, fun _ _ _ _ _ ht hf => sq_4 _ _ _ _ _ ht hf, ?_⟩
          intro Xg Bg aa ww h25 Ef S hTg hok
          replace S : St 103 ((1, Value.pointer (some p1)) :: (3, Value.map x38) :: (39, Value.pointer (some p1)) :: (41, Value.pointer (some (p1.add 6))) :: (44, Value.pointer (some p1)) :: (46, Value.pointer (some (p1.add 7))) :: (49, Value.pointer (some p1)) :: (51, Value.pointer (some (p1.add 8))) :: Ef) h25 w0 aa ww := S
          have H := Oq_4 h25 hTg
          refine ol_alloc S H ti25 rfl rfl trivial ?_
          clear S H aa; intro p5_1 aa ww h26 H S
          refine OL.nil ?_
          exact ⟨Value.pointer (some p5_1), _, S, H.1, H.2⟩
        · refine ⟨_, rfl, rfl, fun _ _ _ _ _ ht hf => sq_5 _ _ _ _ _ ht hf, ?_⟩
          intro Xg Bg aa ww h29 Ef S hTg hok
          replace S : St 103 ((1, Value.pointer (some p1)) :: (3, Value.map x38) :: (39, Value.pointer (some p1)) :: (41, Value.pointer (some (p1.add 6))) :: (44, Value.pointer (some p1)) :: (46, Value.pointer (some (p1.add 7))) :: (49, Value.pointer (some p1)) :: (51, Value.pointer (some (p1.add 8))) :: Ef) h29 w0 aa ww := S
          have H := Oq_5 h29 hTg
          refine ol_alloc S H ti25 rfl rfl trivial ?_
          clear S H aa; intro p6_1 aa ww h30 H S
          refine OL.nil ?_
          exact ⟨Value.pointer (some p6_1), _, S, H.1, H.2⟩
        clear S aa ww
        intro Xg Bg aa ww h31 S hTg hok hdis
        obtain ⟨kq1, kq3, kq4, kq6, kq8, kq9, kq11, kq13, kq14, kq15, kq16, kq17, -⟩ := hok
        replace H := H (pI (pC 0 (Xg 4))) (pT (pC 1 (Xg 4))) (pB (pC 2 (Xg 4))) (pI (pC 3 (Xg 4))) (pS (pC 4 (Xg 4))) (pS (pC 5 (Xg 4))) (Bg 4).1 (Bg 4).2 (pI (pC 0 (Xg 9))) (pT (pC 1 (Xg 9))) (pB (pC 2 (Xg 9))) (pI (pC 3 (Xg 9))) (pS (pC 4 (Xg 9))) (pS (pC 5 (Xg 9))) (Bg 9).1 (Bg 9).2 (pI (pC 0 (Xg 14))) (pT (pC 1 (Xg 14))) (pB (pC 2 (Xg 14))) (pI (pC 3 (Xg 14))) (pS (pC 4 (Xg 14))) (pS (pC 5 (Xg 14))) (Bg 14).1 (Bg 14).2 (pA (Xg 15)) (Bg 15).1 (Bg 15).2 (pA (Xg 16)) (Bg 16).1 (Bg 16).2 (pA (Xg 17)) (Bg 17).1 (Bg 17).2 h31 hTg hdis kq4 kq9 kq14 kq15 kq16 kq17
        replace S := S.sub [(1, Value.pointer (some p1)), (3, Value.map x38), (4, Value.pointer (some (pA (Xg 15)))), (5, Value.pointer (some (pA (Xg 16)))), (6, Value.pointer (some (pA (Xg 17)))), (39, Value.pointer (some p1)), (40, Value.agg #[Value.int .i64 y40, Value.string y40_1, Value.bool y40_2, Value.int .i64 y40_3, Value.slice y40_4.a y40_4.n y40_4.c, Value.slice y40_5.a y40_5.n y40_5.c]), (41, Value.pointer (some (p1.add 6))), (42, Value.slice x42.a x42.n x42.c), (43, Value.agg #[Value.int .i64 (pI (pC 0 (Xg 4))), Value.string (pT (pC 1 (Xg 4))), Value.bool (pB (pC 2 (Xg 4))), Value.int .i64 (pI (pC 3 (Xg 4))), Value.slice (pS (pC 4 (Xg 4))).a (pS (pC 4 (Xg 4))).n (pS (pC 4 (Xg 4))).c, Value.slice (pS (pC 5 (Xg 4))).a (pS (pC 5 (Xg 4))).n (pS (pC 5 (Xg 4))).c]), (44, Value.pointer (some p1)), (45, Value.agg #[Value.int .i64 y45, Value.string y45_1, Value.bool y45_2, Value.int .i64 y45_3, Value.slice y45_4.a y45_4.n y45_4.c, Value.slice y45_5.a y45_5.n y45_5.c]), (46, Value.pointer (some (p1.add 7))), (47, Value.slice x47.a x47.n x47.c), (48, Value.agg #[Value.int .i64 (pI (pC 0 (Xg 9))), Value.string (pT (pC 1 (Xg 9))), Value.bool (pB (pC 2 (Xg 9))), Value.int .i64 (pI (pC 3 (Xg 9))), Value.slice (pS (pC 4 (Xg 9))).a (pS (pC 4 (Xg 9))).n (pS (pC 4 (Xg 9))).c, Value.slice (pS (pC 5 (Xg 9))).a (pS (pC 5 (Xg 9))).n (pS (pC 5 (Xg 9))).c]), (49, Value.pointer (some p1)), (50, Value.agg #[Value.int .i64 y50, Value.string y50_1, Value.bool y50_2, Value.int .i64 y50_3, Value.slice y50_4.a y50_4.n y50_4.c, Value.slice y50_5.a y50_5.n y50_5.c]), (51, Value.pointer (some (p1.add 8))), (52, Value.slice x52.a x52.n x52.c), (53, Value.agg #[Value.int .i64 (pI (pC 0 (Xg 14))), Value.string (pT (pC 1 (Xg 14))), Value.bool (pB (pC 2 (Xg 14))), Value.int .i64 (pI (pC 3 (Xg 14))), Value.slice (pS (pC 4 (Xg 14))).a (pS (pC 4 (Xg 14))).n (pS (pC 4 (Xg 14))).c, Value.slice (pS (pC 5 (Xg 14))).a (pS (pC 5 (Xg 14))).n (pS (pC 5 (Xg 14))).c])] ⟨rfl, rfl, rfl, rfl, rfl, rfl, rfl, rfl, rfl, rfl, rfl, rfl, rfl, rfl, rfl, rfl, rfl, rfl, rfl, rfl, trivial⟩
        generalize (pI (pC 0 (Xg 4))) = y43 at H S
        generalize (pT (pC 1 (Xg 4))) = y43_1 at H S
        generalize (pB (pC 2 (Xg 4))) = y43_2 at H S
        generalize (pI (pC 3 (Xg 4))) = y43_3 at H S
        generalize (pS (pC 4 (Xg 4))) = y43_4 at H S
        generalize (pS (pC 5 (Xg 4))) = y43_5 at H S
        generalize (pI (pC 0 (Xg 9))) = y48 at H S
        generalize (pT (pC 1 (Xg 9))) = y48_1 at H S
        generalize (pB (pC 2 (Xg 9))) = y48_2 at H S
        generalize (pI (pC 3 (Xg 9))) = y48_3 at H S
        generalize (pS (pC 4 (Xg 9))) = y48_4 at H S
        generalize (pS (pC 5 (Xg 9))) = y48_5 at H S
        generalize (pI (pC 0 (Xg 14))) = y53 at H S
        generalize (pT (pC 1 (Xg 14))) = y53_1 at H S
        generalize (pB (pC 2 (Xg 14))) = y53_2 at H S
        generalize (pI (pC 3 (Xg 14))) = y53_3 at H S
        generalize (pS (pC 4 (Xg 14))) = y53_4 at H S
        generalize (pS (pC 5 (Xg 14))) = y53_5 at H S
        generalize (pA (Xg 15)) = p4 at H S
        generalize (pA (Xg 16)) = p5 at H S
        generalize (pA (Xg 17)) = p6 at H S
        generalize Bg 4 = bq4 at H
        generalize Bg 9 = bq9 at H
        generalize Bg 14 = bq14 at H
        generalize Bg 15 = bq15 at H
        generalize Bg 16 = bq16 at H
        generalize Bg 17 = bq17 at H
        clear hTg hdis kq17 kq16 kq15 kq14 kq13 kq11 kq9 kq8 kq6 kq4 kq3 kq1 gq17 gq16 gq15 gq14 gq13 gq11 gq9 gq8 gq6 gq4 gq3 gq1 Oq Oq_1 Oq_2 Oq_3 Oq_4 Oq_5 sq sq_1 sq_2 sq_3 sq_4 sq_5
        refine AN.eff 18 rfl (by kernel_rfl) ?_
        refine ol_stoA S H rfl rfl ti25 trivial ?_
        clear S H aa; intro aa ww h32 H S
        refine OL.nil ?_
        refine AN.eff 19 rfl (by kernel_rfl) ?_
        refine ol_stoA S H rfl rfl ti25 trivial ?_
        clear S H aa; intro aa ww h33 H S
        refine OL.nil ?_
        refine AN.eff 20 rfl (by kernel_rfl) ?_
        refine ol_stoA S H rfl rfl ti25 trivial ?_
        clear S H aa; intro aa ww h34 H S
        refine OL.nil ?_
        refine AN.done (by kernel_rfl) ?_
        refine W.seq ?_
        replace S := S.sub [(1, Value.pointer (some p1)), (3, Value.map x38), (4, Value.pointer (some p4)), (5, Value.pointer (some p5)), (6, Value.pointer (some p6))] ⟨rfl, rfl, rfl, rfl, rfl, trivial⟩
        refine W.region ?_
        refine OL.pure S (Lf.run_move (S.ev rfl)) rfl rfl trivial ?_
        clear S; intro aa S
        obtain ⟨y56, y56_1, y56_2, y56_3, y56_4, y56_5, c_80, c_81, c_82, c_83, c_84, c_85, H⟩ := H
        refine OL.pure S (Lf.run_ldA (cs := [Value.int .i64 y56, Value.string y56_1, Value.bool y56_2, Value.int .i64 y56_3, Value.slice y56_4.a y56_4.n y56_4.c, Value.slice y56_5.a y56_5.n y56_5.c]) (S.ev rfl) ag25 ti25 (by rw [S.heap]; exact RowL.toRow ⟨c_80, c_81, c_82, c_83, c_84, c_85, trivial⟩)) rfl rfl trivial ?_
        clear S; intro aa S
        obtain ⟨y57, y57_1, y57_2, y57_3, y57_4, y57_5, c_74, c_75, c_76, c_77, c_78, c_79, H⟩ := H
        refine OL.pure S (Lf.run_ldA (cs := [Value.int .i64 y57, Value.string y57_1, Value.bool y57_2, Value.int .i64 y57_3, Value.slice y57_4.a y57_4.n y57_4.c, Value.slice y57_5.a y57_5.n y57_5.c]) (S.ev rfl) ag25 ti25 (by rw [S.heap]; exact RowL.toRow ⟨c_74, c_75, c_76, c_77, c_78, c_79, trivial⟩)) rfl rfl trivial ?_
        clear S; intro aa S
        refine ol_cal S H isfn9 rfl rfl trivial ?_
        clear S H aa; intro u_10 aa ww h35 H S
        obtain ⟨x58, x58_1, rfl, H⟩ := H
        refine OL.pure S (Lf.run_move (S.ev rfl)) rfl rfl trivial ?_
        clear S; intro aa S
        refine OL.pure S (Lf.run_ex (S.ev rfl) rfl) rfl rfl trivial ?_
        clear S; intro aa S
        refine OL.pure S (Lf.run_ex (S.ev rfl) rfl) rfl rfl trivial ?_
        clear S; intro aa S
        refine OL.pure S (Lf.run_assign (S.ev rfl)) rfl rfl trivial ?_
        clear S; intro aa S
        refine OL.pure S (Lf.run_assign (S.ev rfl)) rfl rfl trivial ?_
        clear S; intro aa S
        refine OL.nil ?_
        refine W.seq ?_
        replace S := S.sub [(1, Value.pointer (some p1)), (3, Value.map x38), (4, Value.pointer (some p4)), (5, Value.pointer (some p5)), (6, Value.pointer (some p6)), (7, Value.slice x58.a x58.n x58.c), (8, Value.bool x58_1)] ⟨rfl, rfl, rfl, rfl, rfl, rfl, rfl, trivial⟩
        refine W.region ?_
        refine OL.pure S (Lf.run_move (S.ev rfl)) rfl rfl trivial ?_
        clear S; intro aa S
        obtain ⟨y63, y63_1, y63_2, y63_3, y63_4, y63_5, c_68, c_69, c_70, c_71, c_72, c_73, H⟩ := H
        refine OL.pure S (Lf.run_ldA (cs := [Value.int .i64 y63, Value.string y63_1, Value.bool y63_2, Value.int .i64 y63_3, Value.slice y63_4.a y63_4.n y63_4.c, Value.slice y63_5.a y63_5.n y63_5.c]) (S.ev rfl) ag25 ti25 (by rw [S.heap]; exact RowL.toRow ⟨c_68, c_69, c_70, c_71, c_72, c_73, trivial⟩)) rfl rfl trivial ?_
        clear S; intro aa S
        obtain ⟨y64, y64_1, y64_2, y64_3, y64_4, y64_5, c_62, c_63, c_64, c_65, c_66, c_67, H⟩ := H
        refine OL.pure S (Lf.run_ldA (cs := [Value.int .i64 y64, Value.string y64_1, Value.bool y64_2, Value.int .i64 y64_3, Value.slice y64_4.a y64_4.n y64_4.c, Value.slice y64_5.a y64_5.n y64_5.c]) (S.ev rfl) ag25 ti25 (by rw [S.heap]; exact RowL.toRow ⟨c_62, c_63, c_64, c_65, c_66, c_67, trivial⟩)) rfl rfl trivial ?_
        clear S; intro aa S
        refine ol_cal S H isfn9 rfl rfl trivial ?_
        clear S H aa; intro u_11 aa ww h36 H S
        obtain ⟨x65, x65_1, rfl, H⟩ := H
        refine OL.pure S (Lf.run_move (S.ev rfl)) rfl rfl trivial ?_
        clear S; intro aa S
        refine OL.pure S (Lf.run_ex (S.ev rfl) rfl) rfl rfl trivial ?_
        clear S; intro aa S
        refine OL.pure S (Lf.run_ex (S.ev rfl) rfl) rfl rfl trivial ?_
        clear S; intro aa S
        refine OL.pure S (Lf.run_assign (S.ev rfl)) rfl rfl trivial ?_
        clear S; intro aa S
        refine OL.pure S (Lf.run_assign (S.ev rfl)) rfl rfl trivial ?_
        clear S; intro aa S
        refine OL.nil ?_
        refine W.seq ?_
        replace S := S.sub [(1, Value.pointer (some p1)), (3, Value.map x38), (4, Value.pointer (some p4)), (6, Value.pointer (some p6)), (7, Value.slice x58.a x58.n x58.c), (8, Value.bool x58_1), (9, Value.slice x65.a x65.n x65.c), (10, Value.bool x65_1)] ⟨rfl, rfl, rfl, rfl, rfl, rfl, rfl, rfl, trivial⟩
        refine W.region ?_
        refine OL.pure S (Lf.run_move (S.ev rfl)) rfl rfl trivial ?_
        clear S; intro aa S
        obtain ⟨y70, y70_1, y70_2, y70_3, y70_4, y70_5, c_56, c_57, c_58, c_59, c_60, c_61, H⟩ := H
        refine OL.pure S (Lf.run_ldA (cs := [Value.int .i64 y70, Value.string y70_1, Value.bool y70_2, Value.int .i64 y70_3, Value.slice y70_4.a y70_4.n y70_4.c, Value.slice y70_5.a y70_5.n y70_5.c]) (S.ev rfl) ag25 ti25 (by rw [S.heap]; exact RowL.toRow ⟨c_56, c_57, c_58, c_59, c_60, c_61, trivial⟩)) rfl rfl trivial ?_
        clear S; intro aa S
        obtain ⟨y71, y71_1, y71_2, y71_3, y71_4, y71_5, c_50, c_51, c_52, c_53, c_54, c_55, H⟩ := H
        refine OL.pure S (Lf.run_ldA (cs := [Value.int .i64 y71, Value.string y71_1, Value.bool y71_2, Value.int .i64 y71_3, Value.slice y71_4.a y71_4.n y71_4.c, Value.slice y71_5.a y71_5.n y71_5.c]) (S.ev rfl) ag25 ti25 (by rw [S.heap]; exact RowL.toRow ⟨c_50, c_51, c_52, c_53, c_54, c_55, trivial⟩)) rfl rfl trivial ?_
        clear S; intro aa S
        refine ol_cal S H isfn9 rfl rfl trivial ?_
        clear S H aa; intro u_12 aa ww h37 H S
        obtain ⟨x72, x72_1, rfl, H⟩ := H
        refine OL.pure S (Lf.run_move (S.ev rfl)) rfl rfl trivial ?_
        clear S; intro aa S
        refine OL.pure S (Lf.run_ex (S.ev rfl) rfl) rfl rfl trivial ?_
        clear S; intro aa S
        refine OL.pure S (Lf.run_ex (S.ev rfl) rfl) rfl rfl trivial ?_
        clear S; intro aa S
        refine OL.pure S (Lf.run_assign (S.ev rfl)) rfl rfl trivial ?_
        clear S; intro aa S
        refine OL.pure S (Lf.run_assign (S.ev rfl)) rfl rfl trivial ?_
        clear S; intro aa S
        refine OL.nil ?_
        refine W.seq ?_
        refine W.seq ?_
        replace S := S.sub [(1, Value.pointer (some p1)), (7, Value.slice x58.a x58.n x58.c), (8, Value.bool x58_1), (9, Value.slice x65.a x65.n x65.c), (10, Value.bool x65_1), (11, Value.slice x72.a x72.n x72.c), (12, Value.bool x72_1)] ⟨rfl, rfl, rfl, rfl, rfl, rfl, rfl, trivial⟩
        refine W.region ?_
        refine OL.pure S (Lf.run_move (S.ev rfl)) rfl rfl trivial ?_
        clear S; intro aa S
        refine OL.pure S (Lf.run_not (S.ev rfl)) rfl rfl trivial ?_
        clear S; intro aa S
        refine OL.pure S (Lf.run_move (S.ev rfl)) rfl rfl trivial ?_
        clear S; intro aa S
        refine OL.cutN 3 (fun aa ww => St 103 ((80, Value.bool ((!x58_1) || (!x65_1))) :: [(1, Value.pointer (some p1)), (7, Value.slice x58.a x58.n x58.c), (8, Value.bool x58_1), (9, Value.slice x65.a x65.n x65.c), (10, Value.bool x65_1), (11, Value.slice x72.a x72.n x72.c), (12, Value.bool x72_1), (75, Value.bool x58_1), (76, Value.bool (!x58_1)), (77, Value.bool (!x58_1))]) h37 w0 aa ww) ?_ ?_
        · rcases Bool.eq_false_or_eq_true (!x58_1) with hb_3 | hb_3
          · refine OL.not S rfl rfl (GNo.mk rfl rfl hb_3) ?_
            clear S; intro aa S
            refine OL.not S rfl rfl (GNo.mk rfl rfl hb_3) ?_
            clear S; intro aa S
            refine OL.pure S (Lf.run_pickT (S.ev rfl) hb_3 (S.ev rfl)) rfl rfl trivial ?_
            clear S; intro aa S
            refine OL.nil ?_
            exact (S.hd (by rw [hb_3, Bool.true_or])).sub _ ⟨rfl, rfl, rfl, rfl, rfl, rfl, rfl, rfl, rfl, rfl, rfl, trivial⟩
          · refine OL.pure S (Lf.run_move (S.ev rfl)) rfl rfl (GOk.mk rfl rfl hb_3) ?_
            clear S; intro aa S
            refine OL.pure S (Lf.run_not (S.ev rfl)) rfl rfl (GOk.mk rfl rfl hb_3) ?_
            clear S; intro aa S
            refine OL.pure S (Lf.run_pickF (S.ev rfl) hb_3 (S.ev rfl)) rfl rfl trivial ?_
            clear S; intro aa S
            refine OL.nil ?_
            exact (S.hd (by rw [hb_3, Bool.false_or])).sub _ ⟨rfl, rfl, rfl, rfl, rfl, rfl, rfl, rfl, rfl, rfl, rfl, trivial⟩
        · clear S aa
          intro aa ww S
          refine OL.pure S (Lf.run_move (S.ev rfl)) rfl rfl trivial ?_
          clear S; intro aa S
          refine OL.cutN 3 (fun aa ww => St 103 ((84, Value.bool (((!x58_1) || (!x65_1)) || (!x72_1))) :: [(1, Value.pointer (some p1)), (7, Value.slice x58.a x58.n x58.c), (8, Value.bool x58_1), (9, Value.slice x65.a x65.n x65.c), (10, Value.bool x65_1), (11, Value.slice x72.a x72.n x72.c), (12, Value.bool x72_1), (75, Value.bool x58_1), (76, Value.bool (!x58_1)), (77, Value.bool (!x58_1)), (80, Value.bool ((!x58_1) || (!x65_1))), (81, Value.bool ((!x58_1) || (!x65_1)))]) h37 w0 aa ww) ?_ ?_
          · rcases Bool.eq_false_or_eq_true ((!x58_1) || (!x65_1)) with hb_4 | hb_4
            · refine OL.not S rfl rfl (GNo.mk rfl rfl hb_4) ?_
              clear S; intro aa S
              refine OL.not S rfl rfl (GNo.mk rfl rfl hb_4) ?_
              clear S; intro aa S
              refine OL.pure S (Lf.run_pickT (S.ev rfl) hb_4 (S.ev rfl)) rfl rfl trivial ?_
              clear S; intro aa S
              refine OL.nil ?_
              exact (S.hd (by rw [hb_4, Bool.true_or])).sub _ ⟨rfl, rfl, rfl, rfl, rfl, rfl, rfl, rfl, rfl, rfl, rfl, rfl, rfl, trivial⟩
            · refine OL.pure S (Lf.run_move (S.ev rfl)) rfl rfl (GOk.mk rfl rfl hb_4) ?_
              clear S; intro aa S
              refine OL.pure S (Lf.run_not (S.ev rfl)) rfl rfl (GOk.mk rfl rfl hb_4) ?_
              clear S; intro aa S
              refine OL.pure S (Lf.run_pickF (S.ev rfl) hb_4 (S.ev rfl)) rfl rfl trivial ?_
              clear S; intro aa S
              refine OL.nil ?_
              exact (S.hd (by rw [hb_4, Bool.false_or])).sub _ ⟨rfl, rfl, rfl, rfl, rfl, rfl, rfl, rfl, rfl, rfl, rfl, rfl, rfl, trivial⟩
          · clear S aa
            intro aa ww S
            refine OL.nil ?_
            refine W.cond S (b := (((!x58_1) || (!x65_1)) || (!x72_1))) rfl (fun hb_5 => ?_) (fun hb_5 => ?_)
            · replace H := H.1 hb_5
              refine W.seq ?_
              replace S := S.sub [] trivial
              refine W.region ?_
              refine OL.pure S (Lf.run_assign (S.ev rfl)) rfl rfl trivial ?_
              clear S; intro aa S
              refine OL.nil ?_
              refine W.ret ?_
              exact Ret.one S rfl rfl H
            · replace H := H.2 hb_5
              refine W.skip ?_
              refine W.seq ?_
              replace S := S.sub [(1, Value.pointer (some p1)), (7, Value.slice x58.a x58.n x58.c), (9, Value.slice x65.a x65.n x65.c), (11, Value.slice x72.a x72.n x72.c)] ⟨rfl, rfl, rfl, rfl, trivial⟩
              refine W.region ?_
              refine OL.pure S (Lf.run_move (S.ev rfl)) rfl rfl trivial ?_
              clear S; intro aa S
              refine OL.pure S (Lf.run_fa (S.ev rfl) fa39_4) rfl rfl trivial ?_
              clear S; intro aa S
              refine OL.pure S (Lf.run_saNN Try.underlying37 ti26 (S.ev rfl)) rfl rfl trivial ?_
              clear S; intro aa S
              refine ol_cal S H isfn12 rfl rfl trivial ?_
              clear S H aa; intro u_13 aa ww h38 H S
              obtain ⟨x88, rfl, H⟩ := H
              refine OL.pure S (Lf.run_not (S.ev rfl)) rfl rfl trivial ?_
              clear S; intro aa S
              refine OL.pure S (Lf.run_move (S.ev rfl)) rfl rfl trivial ?_
              clear S; intro aa S
              obtain ⟨J_2, H, HK_2⟩ := H
              refine OL.cutN 6 (fun aa ww => ∃ x96 h39, St 103 ((96, Value.bool x96) :: [(1, Value.pointer (some p1)), (7, Value.slice x58.a x58.n x58.c), (9, Value.slice x65.a x65.n x65.c), (11, Value.slice x72.a x72.n x72.c), (85, Value.slice x58.a x58.n x58.c), (86, Value.pointer (some (p1.add 9))), (87, Value.slice (⟨some (p1.add 9), 8, 8⟩ : Sv).a (⟨some (p1.add 9), 8, 8⟩ : Sv).n (⟨some (p1.add 9), 8, 8⟩ : Sv).c), (88, Value.bool x88), (89, Value.bool (!x88)), (90, Value.bool (!x88))]) h39 w0 aa ww ∧ J_2 x96 h39) ?_ ?_
              · rcases Bool.eq_false_or_eq_true (!x88) with hb_6 | hb_6
                · replace H := H.1 hb_6
                  refine OL.not S rfl rfl (GNo.mk rfl rfl hb_6) ?_
                  clear S; intro aa S
                  refine OL.not S rfl rfl (GNo.mk rfl rfl hb_6) ?_
                  clear S; intro aa S
                  refine OL.not S rfl rfl (GNo.mk rfl rfl hb_6) ?_
                  clear S; intro aa S
                  refine OL.not S rfl rfl (GNo.mk rfl rfl hb_6) ?_
                  clear S; intro aa S
                  refine OL.not S rfl rfl (GNo.mk rfl rfl hb_6) ?_
                  clear S; intro aa S
                  refine OL.pure S (Lf.run_pickT (S.ev rfl) hb_6 (S.ev rfl)) rfl rfl trivial ?_
                  clear S; intro aa S
                  refine OL.nil ?_
                  exact ⟨_, _, S.sub _ ⟨rfl, rfl, rfl, rfl, rfl, rfl, rfl, rfl, rfl, rfl, rfl, trivial⟩, H⟩
                · replace H := H.2 hb_6
                  refine OL.pure S (Lf.run_move (S.ev rfl)) rfl rfl (GOk.mk rfl rfl hb_6) ?_
                  clear S; intro aa S
                  refine OL.pure S (Lf.run_fa (S.ev rfl) fa39_4) rfl rfl (GOk.mk rfl rfl hb_6) ?_
                  clear S; intro aa S
                  refine OL.pure S (Lf.run_saNN Try.underlying37 ti26 (S.ev rfl)) rfl rfl (GOk.mk rfl rfl hb_6) ?_
                  clear S; intro aa S
                  refine ol_cal S H isfn12 rfl rfl (GOk.mk rfl rfl hb_6) ?_
                  clear S H aa; intro u_14 aa ww h40 H S
                  obtain ⟨x94, rfl, H⟩ := H
                  refine OL.pure S (Lf.run_not (S.ev rfl)) rfl rfl (GOk.mk rfl rfl hb_6) ?_
                  clear S; intro aa S
                  refine OL.pure S (Lf.run_pickF (S.ev rfl) hb_6 (S.ev rfl)) rfl rfl trivial ?_
                  clear S; intro aa S
                  refine OL.nil ?_
                  exact ⟨_, _, S.sub _ ⟨rfl, rfl, rfl, rfl, rfl, rfl, rfl, rfl, rfl, rfl, rfl, trivial⟩, H⟩
              · clear S aa
                rintro aa ww ⟨x96, h39, S, HJ⟩
                replace H := HK_2 _ _ HJ
                clear HK_2 HJ
                refine OL.pure S (Lf.run_move (S.ev rfl)) rfl rfl trivial ?_
                clear S; intro aa S
                obtain ⟨J_3, H, HK_3⟩ := H
                refine OL.cutN 5 (fun aa ww => ∃ x102 h41, St 103 ((102, Value.bool x102) :: [(1, Value.pointer (some p1)), (7, Value.slice x58.a x58.n x58.c), (9, Value.slice x65.a x65.n x65.c), (11, Value.slice x72.a x72.n x72.c), (85, Value.slice x58.a x58.n x58.c), (86, Value.pointer (some (p1.add 9))), (87, Value.slice (⟨some (p1.add 9), 8, 8⟩ : Sv).a (⟨some (p1.add 9), 8, 8⟩ : Sv).n (⟨some (p1.add 9), 8, 8⟩ : Sv).c), (88, Value.bool x88), (89, Value.bool (!x88)), (90, Value.bool (!x88)), (96, Value.bool x96), (97, Value.bool x96)]) h41 w0 aa ww ∧ J_3 x102 h41) ?_ ?_
                · rcases Bool.eq_false_or_eq_true x96 with hb_7 | hb_7
                  · replace H := H.1 hb_7
                    refine OL.not S rfl rfl (GNo.mk rfl rfl hb_7) ?_
                    clear S; intro aa S
                    refine OL.not S rfl rfl (GNo.mk rfl rfl hb_7) ?_
                    clear S; intro aa S
                    refine OL.not S rfl rfl (GNo.mk rfl rfl hb_7) ?_
                    clear S; intro aa S
                    refine OL.not S rfl rfl (GNo.mk rfl rfl hb_7) ?_
                    clear S; intro aa S
                    refine OL.pure S (Lf.run_pickT (S.ev rfl) hb_7 (S.ev rfl)) rfl rfl trivial ?_
                    clear S; intro aa S
                    refine OL.nil ?_
                    exact ⟨_, _, S.sub _ ⟨rfl, rfl, rfl, rfl, rfl, rfl, rfl, rfl, rfl, rfl, rfl, rfl, rfl, trivial⟩, H⟩
                  · replace H := H.2 hb_7
                    refine OL.pure S (Lf.run_move (S.ev rfl)) rfl rfl (GOk.mk rfl rfl hb_7) ?_
                    clear S; intro aa S
                    refine OL.pure S (Lf.run_fa (S.ev rfl) fa39_4) rfl rfl (GOk.mk rfl rfl hb_7) ?_
                    clear S; intro aa S
                    refine OL.pure S (Lf.run_saNN Try.underlying37 ti26 (S.ev rfl)) rfl rfl (GOk.mk rfl rfl hb_7) ?_
                    clear S; intro aa S
                    refine ol_cal S H isfn12 rfl rfl (GOk.mk rfl rfl hb_7) ?_
                    clear S H aa; intro u_15 aa ww h42 H S
                    obtain ⟨x101, rfl, H⟩ := H
                    refine OL.pure S (Lf.run_pickF (S.ev rfl) hb_7 (S.ev rfl)) rfl rfl trivial ?_
                    clear S; intro aa S
                    refine OL.nil ?_
                    exact ⟨_, _, S.sub _ ⟨rfl, rfl, rfl, rfl, rfl, rfl, rfl, rfl, rfl, rfl, rfl, rfl, rfl, trivial⟩, H⟩
                · clear S aa
                  rintro aa ww ⟨x102, h41, S, HJ⟩
                  replace H := HK_3 _ _ HJ
                  clear HK_3 HJ
                  refine OL.pure S (Lf.run_assign (S.ev rfl)) rfl rfl trivial ?_
                  clear S; intro aa S
                  refine OL.nil ?_
                  refine W.ret ?_
                  exact Ret.one S rfl rfl H

/-- chattel chattellaw10.SubWays -/
def L5 (c0 : Int) (c0_1 : ByteArray) (c0_2 : Bool) (c0_3 : Int) (c0_4 : Sv) (c0_5 : Sv) (c0_6 : Sv) (c0_7 : Sv) (c0_8 : Sv) (c0_9 : Int) (c0_10 : Int) (c0_11 : Int) (c0_12 : Int) (c0_13 : Int) (c0_14 : Int) (c0_15 : Int) (c0_16 : Int) (c0_17 : Int) (more1 : Int) (h : Heap) (R : Value → Heap → Prop) : Prop :=
  new 39 #[Value.int .i64 c0, Value.string c0_1, Value.bool c0_2, Value.int .i64 c0_3, Value.slice c0_4.a c0_4.n c0_4.c, Value.slice c0_5.a c0_5.n c0_5.c, Value.slice c0_6.a c0_6.n c0_6.c, Value.slice c0_7.a c0_7.n c0_7.c, Value.slice c0_8.a c0_8.n c0_8.c, Value.int .u64 c0_9, Value.int .u64 c0_10, Value.int .u64 c0_11, Value.int .u64 c0_12, Value.int .u64 c0_13, Value.int .u64 c0_14, Value.int .u64 c0_15, Value.int .u64 c0_16, Value.int .u64 c0_17] h fun p2 h1 =>
  cal Try.prog 7 #[] h1 fun u h2 => asB u fun x11 =>
  ∃ J : Bool → Heap → Prop, (orj (!x11) (fun k =>
    ∃ (y15 : Int) (y15_1 : ByteArray) (y15_2 : Bool) (y15_3 : Int) (y15_4 : Sv) (y15_5 : Sv), cl h2 p2 = some (Value.int .i64 y15) ∧ cl h2 (p2.add 1) = some (Value.string y15_1) ∧ cl h2 (p2.add 2) = some (Value.bool y15_2) ∧ cl h2 (p2.add 3) = some (Value.int .i64 y15_3) ∧ cl h2 (p2.add 4) = some (Value.slice y15_4.a y15_4.n y15_4.c) ∧ cl h2 (p2.add 5) = some (Value.slice y15_5.a y15_5.n y15_5.c) ∧
    cal Try.prog 8 #[Value.agg #[Value.int .i64 y15, Value.string y15_1, Value.bool y15_2, Value.int .i64 y15_3, Value.slice y15_4.a y15_4.n y15_4.c, Value.slice y15_5.a y15_5.n y15_5.c], Value.int .i64 6] h2 fun u_1 h4 => asB u_1 fun x16 =>
    k (!x16) h4) h2 J) ∧ ∀ x18 h3, J x18 h3 →
  ∃ J_1 : Bool → Prop, (orr x18 (fun k_1 =>
    ldS h3 (p2.add 6) fun x21 =>
    ldS h3 (p2.add 7) fun x24 =>
    k_1 (decide (60 < (IntKind.i64.wrap (((x21.n : Nat) : Int) + ((x24.n : Nat) : Int)))))) J_1) ∧ ∀ x28, J_1 x28 →
  ifb x28 (
    cal Try.prog 7 #[] h3 fun u_2 h5 => asB u_2 fun x29 =>
    R (Value.bool x29) h5) (
    ∃ T : Heap → Heap → Prop, Pre T ∧
    ∃ (y31 : Int) (y31_1 : ByteArray) (y31_2 : Bool) (y31_3 : Int) (y31_4 : Sv) (y31_5 : Sv), hld (T h3) p2 (Value.int .i64 y31) ∧ hld (T h3) (p2.add 1) (Value.string y31_1) ∧ hld (T h3) (p2.add 2) (Value.bool y31_2) ∧ hld (T h3) (p2.add 3) (Value.int .i64 y31_3) ∧ hld (T h3) (p2.add 4) (Value.slice y31_4.a y31_4.n y31_4.c) ∧ hld (T h3) (p2.add 5) (Value.slice y31_5.a y31_5.n y31_5.c) ∧
    hlS (T h3) (p2.add 6) fun x33 =>
    ∃ (y36 : Int) (y36_1 : ByteArray) (y36_2 : Bool) (y36_3 : Int) (y36_4 : Sv) (y36_5 : Sv), hld (T h3) p2 (Value.int .i64 y36) ∧ hld (T h3) (p2.add 1) (Value.string y36_1) ∧ hld (T h3) (p2.add 2) (Value.bool y36_2) ∧ hld (T h3) (p2.add 3) (Value.int .i64 y36_3) ∧ hld (T h3) (p2.add 4) (Value.slice y36_4.a y36_4.n y36_4.c) ∧ hld (T h3) (p2.add 5) (Value.slice y36_5.a y36_5.n y36_5.c) ∧
    hlS (T h3) (p2.add 7) fun x38 =>
    ∃ Fq4 : Int → ByteArray → Bool → Int → Sv → Sv → Nat → Nat → Heap → Prop, (∀ y34 y34_1 y34_2 y34_3 y34_4 y34_5 lo hi h h', T h h' → Fq4 y34 y34_1 y34_2 y34_3 y34_4 y34_5 lo hi h → Fq4 y34 y34_1 y34_2 y34_3 y34_4 y34_5 lo hi h') ∧
    ∃ Fq9 : Int → ByteArray → Bool → Int → Sv → Sv → Nat → Nat → Heap → Prop, (∀ y39 y39_1 y39_2 y39_3 y39_4 y39_5 lo hi h h', T h h' → Fq9 y39 y39_1 y39_2 y39_3 y39_4 y39_5 lo hi h → Fq9 y39 y39_1 y39_2 y39_3 y39_4 y39_5 lo hi h') ∧
    ∃ Fq10 : Addr → Nat → Nat → Heap → Prop, (∀ p5 lo hi h h', T h h' → Fq10 p5 lo hi h → Fq10 p5 lo hi h') ∧
    ∃ Fq11 : Addr → Nat → Nat → Heap → Prop, (∀ p6 lo hi h h', T h h' → Fq11 p6 lo hi h → Fq11 p6 lo hi h') ∧
    (∀ (h6 : Heap), T h3 h6 →
      cal Try.prog 11 #[Value.agg #[Value.int .i64 y31, Value.string y31_1, Value.bool y31_2, Value.int .i64 y31_3, Value.slice y31_4.a y31_4.n y31_4.c, Value.slice y31_5.a y31_5.n y31_5.c], Value.slice x33.a x33.n x33.c] h6 fun u_3 h7 => ∃ (y34 : Int) (y34_1 : ByteArray) (y34_2 : Bool) (y34_3 : Int) (y34_4 : Sv) (y34_5 : Sv), u_3 = Value.agg #[Value.int .i64 y34, Value.string y34_1, Value.bool y34_2, Value.int .i64 y34_3, Value.slice y34_4.a y34_4.n y34_4.c, Value.slice y34_5.a y34_5.n y34_5.c] ∧
      T h6 h7 ∧ Fq4 y34 y34_1 y34_2 y34_3 y34_4 y34_5 h6.size h7.size h7) ∧
    (∀ (y34 : Int) (y34_1 : ByteArray) (y34_2 : Bool) (y34_3 : Int) (y34_4 : Sv) (y34_5 : Sv) (lo4 hi4 : Nat) (h10 : Heap), T h3 h10 → Fq4 y34 y34_1 y34_2 y34_3 y34_4 y34_5 lo4 hi4 h10 →
      cal Try.prog 11 #[Value.agg #[Value.int .i64 y36, Value.string y36_1, Value.bool y36_2, Value.int .i64 y36_3, Value.slice y36_4.a y36_4.n y36_4.c, Value.slice y36_5.a y36_5.n y36_5.c], Value.slice x38.a x38.n x38.c] h10 fun u_5 h11 => ∃ (y39 : Int) (y39_1 : ByteArray) (y39_2 : Bool) (y39_3 : Int) (y39_4 : Sv) (y39_5 : Sv), u_5 = Value.agg #[Value.int .i64 y39, Value.string y39_1, Value.bool y39_2, Value.int .i64 y39_3, Value.slice y39_4.a y39_4.n y39_4.c, Value.slice y39_5.a y39_5.n y39_5.c] ∧
      T h10 h11 ∧ Fq9 y39 y39_1 y39_2 y39_3 y39_4 y39_5 h10.size h11.size h11) ∧
    (∀ (h14 : Heap), T h3 h14 →
      new 25 #[Value.int .i64 0, Value.string (⟨#[]⟩ : ByteArray), Value.bool false, Value.int .i64 0, Value.slice (⟨none, 0, 0⟩ : Sv).a (⟨none, 0, 0⟩ : Sv).n (⟨none, 0, 0⟩ : Sv).c, Value.slice (⟨none, 0, 0⟩ : Sv).a (⟨none, 0, 0⟩ : Sv).n (⟨none, 0, 0⟩ : Sv).c] h14 fun p5 h15 =>
      T h14 h15 ∧ Fq10 p5 h14.size h15.size h15) ∧
    (∀ (h18 : Heap), T h3 h18 →
      new 25 #[Value.int .i64 0, Value.string (⟨#[]⟩ : ByteArray), Value.bool false, Value.int .i64 0, Value.slice (⟨none, 0, 0⟩ : Sv).a (⟨none, 0, 0⟩ : Sv).n (⟨none, 0, 0⟩ : Sv).c, Value.slice (⟨none, 0, 0⟩ : Sv).a (⟨none, 0, 0⟩ : Sv).n (⟨none, 0, 0⟩ : Sv).c] h18 fun p6 h19 =>
      T h18 h19 ∧ Fq11 p6 h18.size h19.size h19) ∧
    (∀ (y34 : Int) (y34_1 : ByteArray) (y34_2 : Bool) (y34_3 : Int) (y34_4 : Sv) (y34_5 : Sv) (lo4 hi4 : Nat) (y39 : Int) (y39_1 : ByteArray) (y39_2 : Bool) (y39_3 : Int) (y39_4 : Sv) (y39_5 : Sv) (lo9 hi9 : Nat) (p5 : Addr) (lo10 hi10 : Nat) (p6 : Addr) (lo11 hi11 : Nat) (h22 : Heap), T h3 h22 → Dis h3.size h22.size [(lo4, hi4), (lo9, hi9), (lo10, hi10), (lo11, hi11)] → Fq4 y34 y34_1 y34_2 y34_3 y34_4 y34_5 lo4 hi4 h22 → Fq9 y39 y39_1 y39_2 y39_3 y39_4 y39_5 lo9 hi9 h22 → Fq10 p5 lo10 hi10 h22 → Fq11 p6 lo11 hi11 h22 →
    stoA h22 p5 [Value.int .i64 y34, Value.string y34_1, Value.bool y34_2, Value.int .i64 y34_3, Value.slice y34_4.a y34_4.n y34_4.c, Value.slice y34_5.a y34_5.n y34_5.c] fun h23 =>
    stoA h23 p6 [Value.int .i64 y39, Value.string y39_1, Value.bool y39_2, Value.int .i64 y39_3, Value.slice y39_4.a y39_4.n y39_4.c, Value.slice y39_5.a y39_5.n y39_5.c] fun h24 =>
    ldI .u64 h24 (p2.add 17) fun x42 =>
    ∃ T_1 : Heap → Heap → Prop, Pre T_1 ∧
    ∃ (y44 : Int) (y44_1 : ByteArray) (y44_2 : Bool) (y44_3 : Int) (y44_4 : Sv) (y44_5 : Sv), hld (T_1 h24) p5 (Value.int .i64 y44) ∧ hld (T_1 h24) (p5.add 1) (Value.string y44_1) ∧ hld (T_1 h24) (p5.add 2) (Value.bool y44_2) ∧ hld (T_1 h24) (p5.add 3) (Value.int .i64 y44_3) ∧ hld (T_1 h24) (p5.add 4) (Value.slice y44_4.a y44_4.n y44_4.c) ∧ hld (T_1 h24) (p5.add 5) (Value.slice y44_5.a y44_5.n y44_5.c) ∧
    ∃ (y45 : Int) (y45_1 : ByteArray) (y45_2 : Bool) (y45_3 : Int) (y45_4 : Sv) (y45_5 : Sv), hld (T_1 h24) p6 (Value.int .i64 y45) ∧ hld (T_1 h24) (p6.add 1) (Value.string y45_1) ∧ hld (T_1 h24) (p6.add 2) (Value.bool y45_2) ∧ hld (T_1 h24) (p6.add 3) (Value.int .i64 y45_3) ∧ hld (T_1 h24) (p6.add 4) (Value.slice y45_4.a y45_4.n y45_4.c) ∧ hld (T_1 h24) (p6.add 5) (Value.slice y45_5.a y45_5.n y45_5.c) ∧
    ∃ Fq2 : Option Nat → Nat → Nat → Heap → Prop, (∀ x43 lo hi h h', T_1 h h' → Fq2 x43 lo hi h → Fq2 x43 lo hi h') ∧
    (∀ (h25 : Heap), T_1 h24 h25 →
      cal Try.prog 10 #[Value.int .u64 x42] h25 fun u_7 h26 => asM u_7 fun x43 =>
      T_1 h25 h26 ∧ Fq2 x43 h25.size h26.size h26) ∧
    (∀ (x43 : Option Nat) (lo2 hi2 : Nat) (h29 : Heap), T_1 h24 h29 → Dis h24.size h29.size [(lo2, hi2)] → Fq2 x43 lo2 hi2 h29 →
    cal Try.prog 9 #[Value.map x43, Value.agg #[Value.int .i64 y44, Value.string y44_1, Value.bool y44_2, Value.int .i64 y44_3, Value.slice y44_4.a y44_4.n y44_4.c, Value.slice y44_5.a y44_5.n y44_5.c], Value.agg #[Value.int .i64 y45, Value.string y45_1, Value.bool y45_2, Value.int .i64 y45_3, Value.slice y45_4.a y45_4.n y45_4.c, Value.slice y45_5.a y45_5.n y45_5.c]] h29 fun u_9 h30 => ∃ (x46 : Sv) (x46_1 : Bool), u_9 = Value.tuple #[Value.slice x46.a x46.n x46.c, Value.bool x46_1] ∧
    ldI .u64 h30 (p2.add 17) fun x51 =>
    ∃ T_2 : Heap → Heap → Prop, Pre T_2 ∧
    ∃ (y55 : Int) (y55_1 : ByteArray) (y55_2 : Bool) (y55_3 : Int) (y55_4 : Sv) (y55_5 : Sv), hld (T_2 h30) p5 (Value.int .i64 y55) ∧ hld (T_2 h30) (p5.add 1) (Value.string y55_1) ∧ hld (T_2 h30) (p5.add 2) (Value.bool y55_2) ∧ hld (T_2 h30) (p5.add 3) (Value.int .i64 y55_3) ∧ hld (T_2 h30) (p5.add 4) (Value.slice y55_4.a y55_4.n y55_4.c) ∧ hld (T_2 h30) (p5.add 5) (Value.slice y55_5.a y55_5.n y55_5.c) ∧
    ∃ (y56 : Int) (y56_1 : ByteArray) (y56_2 : Bool) (y56_3 : Int) (y56_4 : Sv) (y56_5 : Sv), hld (T_2 h30) p6 (Value.int .i64 y56) ∧ hld (T_2 h30) (p6.add 1) (Value.string y56_1) ∧ hld (T_2 h30) (p6.add 2) (Value.bool y56_2) ∧ hld (T_2 h30) (p6.add 3) (Value.int .i64 y56_3) ∧ hld (T_2 h30) (p6.add 4) (Value.slice y56_4.a y56_4.n y56_4.c) ∧ hld (T_2 h30) (p6.add 5) (Value.slice y56_5.a y56_5.n y56_5.c) ∧
    ∃ Fq4_1 : Option Nat → Nat → Nat → Heap → Prop, (∀ x54 lo hi h h', T_2 h h' → Fq4_1 x54 lo hi h → Fq4_1 x54 lo hi h') ∧
    (∀ (h31 : Heap), T_2 h30 h31 →
      cal Try.prog 10 #[Value.int .u64 (bitsI .or .u64 x51 more1)] h31 fun u_10 h32 => asM u_10 fun x54 =>
      T_2 h31 h32 ∧ Fq4_1 x54 h31.size h32.size h32) ∧
    (∀ (x54 : Option Nat) (lo4 hi4 : Nat) (h35 : Heap), T_2 h30 h35 → Dis h30.size h35.size [(lo4, hi4)] → Fq4_1 x54 lo4 hi4 h35 →
    cal Try.prog 9 #[Value.map x54, Value.agg #[Value.int .i64 y55, Value.string y55_1, Value.bool y55_2, Value.int .i64 y55_3, Value.slice y55_4.a y55_4.n y55_4.c, Value.slice y55_5.a y55_5.n y55_5.c], Value.agg #[Value.int .i64 y56, Value.string y56_1, Value.bool y56_2, Value.int .i64 y56_3, Value.slice y56_4.a y56_4.n y56_4.c, Value.slice y56_5.a y56_5.n y56_5.c]] h35 fun u_12 h36 => ∃ (x57 : Sv) (x57_1 : Bool), u_12 = Value.tuple #[Value.slice x57.a x57.n x57.c, Value.bool x57_1] ∧
    ∃ J_2 : Bool → Heap → Prop, (andj (x46_1 && x57_1) (fun k_2 =>
      cal Try.prog 12 #[Value.slice x57.a x57.n x57.c, Value.slice (⟨some (p2.add 9), 8, 8⟩ : Sv).a (⟨some (p2.add 9), 8, 8⟩ : Sv).n (⟨some (p2.add 9), 8, 8⟩ : Sv).c] h36 fun u_13 h38 => asB u_13 fun x68 =>
      ∃ J_3 : Bool → Heap → Prop, (orj (!x68) (fun k_3 =>
        cal Try.prog 12 #[Value.slice x46.a x46.n x46.c, Value.slice (⟨some (p2.add 9), 8, 8⟩ : Sv).a (⟨some (p2.add 9), 8, 8⟩ : Sv).n (⟨some (p2.add 9), 8, 8⟩ : Sv).c] h38 fun u_14 h40 => asB u_14 fun x74 =>
        k_3 x74 h40) h38 J_3) ∧ ∀ x75 h39, J_3 x75 h39 →
      k_2 x75 h39) h36 J_2) ∧ ∀ x76 h37, J_2 x76 h37 →
    R (Value.bool x76) h37))))

set_option maxRecDepth 100000 in

theorem F5 {c0 c0_1 c0_2 c0_3 c0_4 c0_5 c0_6 c0_7 c0_8 c0_9 c0_10 c0_11 c0_12 c0_13 c0_14 c0_15 c0_16 c0_17 more1 h : _} {R : Value → Heap → Prop} (H : L5 c0 c0_1 c0_2 c0_3 c0_4 c0_5 c0_6 c0_7 c0_8 c0_9 c0_10 c0_11 c0_12 c0_13 c0_14 c0_15 c0_16 c0_17 more1 h R) : CallsH Try.prog 5 #[Value.agg #[Value.int .i64 c0, Value.string c0_1, Value.bool c0_2, Value.int .i64 c0_3, Value.slice c0_4.a c0_4.n c0_4.c, Value.slice c0_5.a c0_5.n c0_5.c, Value.slice c0_6.a c0_6.n c0_6.c, Value.slice c0_7.a c0_7.n c0_7.c, Value.slice c0_8.a c0_8.n c0_8.c, Value.int .u64 c0_9, Value.int .u64 c0_10, Value.int .u64 c0_11, Value.int .u64 c0_12, Value.int .u64 c0_13, Value.int .u64 c0_14, Value.int .u64 c0_15, Value.int .u64 c0_16, Value.int .u64 c0_17], Value.int .u64 more1] h R := by
  refine CallsH.enter (n := 77) Try.func5 rfl rfl rfl rfl ?_
  intro w0 aa ww S
  unfold L5 at H
  refine W.seq ?_
  replace S := S.sub [(0, Value.agg #[Value.int .i64 c0, Value.string c0_1, Value.bool c0_2, Value.int .i64 c0_3, Value.slice c0_4.a c0_4.n c0_4.c, Value.slice c0_5.a c0_5.n c0_5.c, Value.slice c0_6.a c0_6.n c0_6.c, Value.slice c0_7.a c0_7.n c0_7.c, Value.slice c0_8.a c0_8.n c0_8.c, Value.int .u64 c0_9, Value.int .u64 c0_10, Value.int .u64 c0_11, Value.int .u64 c0_12, Value.int .u64 c0_13, Value.int .u64 c0_14, Value.int .u64 c0_15, Value.int .u64 c0_16, Value.int .u64 c0_17]), (1, Value.int .u64 more1)] ⟨rfl, rfl, trivial⟩
  refine W.region ?_
  refine ol_box S H rfl rfl rfl trivial ?_
  clear S H aa; intro p2 aa ww h1 H S
  refine OL.pure S (Lf.run_assign (S.ev rfl)) rfl rfl trivial ?_
  clear S; intro aa S
  refine OL.nil ?_
  refine W.seq ?_
  refine W.seq ?_
  replace S := S.sub [(1, Value.int .u64 more1), (2, Value.pointer (some p2))] ⟨rfl, rfl, trivial⟩
  refine W.region ?_
  refine ol_cal S H isfn7 rfl rfl trivial ?_
  clear S H aa; intro u aa ww h2 H S
  obtain ⟨x11, rfl, H⟩ := H
  refine OL.pure S (Lf.run_not (S.ev rfl)) rfl rfl trivial ?_
  clear S; intro aa S
  refine OL.pure S (Lf.run_move (S.ev rfl)) rfl rfl trivial ?_
  clear S; intro aa S
  obtain ⟨J, H, HK⟩ := H
  refine OL.cutN 5 (fun aa ww => ∃ x18 h3, St 77 ((18, Value.bool x18) :: [(1, Value.int .u64 more1), (2, Value.pointer (some p2)), (11, Value.bool x11), (12, Value.bool (!x11)), (13, Value.bool (!x11))]) h3 w0 aa ww ∧ J x18 h3) ?_ ?_
  · rcases Bool.eq_false_or_eq_true (!x11) with hb | hb
    · replace H := H.1 hb
      refine OL.not S rfl rfl (GNo.mk rfl rfl hb) ?_
      clear S; intro aa S
      refine OL.not S rfl rfl (GNo.mk rfl rfl hb) ?_
      clear S; intro aa S
      refine OL.not S rfl rfl (GNo.mk rfl rfl hb) ?_
      clear S; intro aa S
      refine OL.not S rfl rfl (GNo.mk rfl rfl hb) ?_
      clear S; intro aa S
      refine OL.pure S (Lf.run_pickT (S.ev rfl) hb (S.ev rfl)) rfl rfl trivial ?_
      clear S; intro aa S
      refine OL.nil ?_
      exact ⟨_, _, S.sub _ ⟨rfl, rfl, rfl, rfl, rfl, rfl, trivial⟩, H⟩
    · replace H := H.2 hb
      refine OL.pure S (Lf.run_fa (S.ev rfl) fa39_0) rfl rfl (GOk.mk rfl rfl hb) ?_
      clear S; intro aa S
      obtain ⟨y15, y15_1, y15_2, y15_3, y15_4, y15_5, c_1, c_2, c_3, c_4, c_5, c_6, H⟩ := H
      refine OL.pure S (Lf.run_ldA (cs := [Value.int .i64 y15, Value.string y15_1, Value.bool y15_2, Value.int .i64 y15_3, Value.slice y15_4.a y15_4.n y15_4.c, Value.slice y15_5.a y15_5.n y15_5.c]) (S.ev rfl) ag25 ti25 (by rw [S.heap]; exact RowL.toRow ⟨c_1, c_2, c_3, c_4, c_5, c_6, trivial⟩)) rfl rfl (GOk.mk rfl rfl hb) ?_
      clear S; intro aa S
      refine ol_cal S H isfn8 rfl rfl (GOk.mk rfl rfl hb) ?_
      clear S H aa; intro u_1 aa ww h4 H S
      obtain ⟨x16, rfl, H⟩ := H
      refine OL.pure S (Lf.run_not (S.ev rfl)) rfl rfl (GOk.mk rfl rfl hb) ?_
      clear S; intro aa S
      refine OL.pure S (Lf.run_pickF (S.ev rfl) hb (S.ev rfl)) rfl rfl trivial ?_
      clear S; intro aa S
      refine OL.nil ?_
      exact ⟨_, _, S.sub _ ⟨rfl, rfl, rfl, rfl, rfl, rfl, trivial⟩, H⟩
  · clear S aa
    rintro aa ww ⟨x18, h3, S, HJ⟩
    replace H := HK _ _ HJ
    clear HK HJ
    refine OL.pure S (Lf.run_move (S.ev rfl)) rfl rfl trivial ?_
    clear S; intro aa S
    obtain ⟨J_1, H, HK_1⟩ := H
    refine OL.cutN 9 (fun aa ww => ∃ x28, St 77 ((28, Value.bool x28) :: [(1, Value.int .u64 more1), (2, Value.pointer (some p2)), (11, Value.bool x11), (12, Value.bool (!x11)), (13, Value.bool (!x11)), (18, Value.bool x18), (19, Value.bool x18)]) h3 w0 aa ww ∧ J_1 x28) ?_ ?_
    · rcases Bool.eq_false_or_eq_true x18 with hb_1 | hb_1
      · replace H := H.1 hb_1
        refine OL.not S rfl rfl (GNo.mk rfl rfl hb_1) ?_
        clear S; intro aa S
        refine OL.not S rfl rfl (GNo.mk rfl rfl hb_1) ?_
        clear S; intro aa S
        refine OL.not S rfl rfl (GNo.mk rfl rfl hb_1) ?_
        clear S; intro aa S
        refine OL.not S rfl rfl (GNo.mk rfl rfl hb_1) ?_
        clear S; intro aa S
        refine OL.not S rfl rfl (GNo.mk rfl rfl hb_1) ?_
        clear S; intro aa S
        refine OL.not S rfl rfl (GNo.mk rfl rfl hb_1) ?_
        clear S; intro aa S
        refine OL.not S rfl rfl (GNo.mk rfl rfl hb_1) ?_
        clear S; intro aa S
        refine OL.not S rfl rfl (GNo.mk rfl rfl hb_1) ?_
        clear S; intro aa S
        refine OL.pure S (Lf.run_pickT (S.ev rfl) hb_1 (S.ev rfl)) rfl rfl trivial ?_
        clear S; intro aa S
        refine OL.nil ?_
        exact ⟨_, S.sub _ ⟨rfl, rfl, rfl, rfl, rfl, rfl, rfl, rfl, trivial⟩, H⟩
      · replace H := H.2 hb_1
        refine OL.pure S (Lf.run_fa (S.ev rfl) fa39_1) rfl rfl (GOk.mk rfl rfl hb_1) ?_
        clear S; intro aa S
        obtain ⟨x21, c_7, H⟩ := H
        refine OL.pure S (Lf.run_ld (S.ev rfl) fl22 (S.cl c_7)) rfl rfl (GOk.mk rfl rfl hb_1) ?_
        clear S; intro aa S
        refine OL.pure S (Lf.run_lens (S.ev rfl) rfl Try.underlying22) rfl rfl (GOk.mk rfl rfl hb_1) ?_
        clear S; intro aa S
        refine OL.pure S (Lf.run_fa (S.ev rfl) fa39_2) rfl rfl (GOk.mk rfl rfl hb_1) ?_
        clear S; intro aa S
        obtain ⟨x24, c_8, H⟩ := H
        refine OL.pure S (Lf.run_ld (S.ev rfl) fl22 (S.cl c_8)) rfl rfl (GOk.mk rfl rfl hb_1) ?_
        clear S; intro aa S
        refine OL.pure S (Lf.run_lens (S.ev rfl) rfl Try.underlying22) rfl rfl (GOk.mk rfl rfl hb_1) ?_
        clear S; intro aa S
        refine OL.pure S (Lf.run_add (S.ev rfl) (S.ev rfl)) rfl rfl (GOk.mk rfl rfl hb_1) ?_
        clear S; intro aa S
        refine OL.pure S (Lf.run_gtr (S.ev rfl) (S.ev rfl)) rfl rfl (GOk.mk rfl rfl hb_1) ?_
        clear S; intro aa S
        refine OL.pure S (Lf.run_pickF (S.ev rfl) hb_1 (S.ev rfl)) rfl rfl trivial ?_
        clear S; intro aa S
        refine OL.nil ?_
        exact ⟨_, S.sub _ ⟨rfl, rfl, rfl, rfl, rfl, rfl, rfl, rfl, trivial⟩, H⟩
    · clear S aa
      rintro aa ww ⟨x28, S, HJ⟩
      replace H := HK_1 _ HJ
      clear HK_1 HJ
      refine OL.nil ?_
      refine W.cond S (b := x28) rfl (fun hb_2 => ?_) (fun hb_2 => ?_)
      · replace H := H.1 hb_2
        refine W.seq ?_
        replace S := S.sub [] trivial
        refine W.region ?_
        refine ol_cal S H isfn7 rfl rfl trivial ?_
        clear S H aa; intro u_2 aa ww h5 H S
        obtain ⟨x29, rfl, H⟩ := H
        refine OL.pure S (Lf.run_assign (S.ev rfl)) rfl rfl trivial ?_
        clear S; intro aa S
        refine OL.nil ?_
        refine W.ret ?_
        exact Ret.one S rfl rfl H
      · replace H := H.2 hb_2
        refine W.skip ?_
        refine W.seq ?_
        replace S := S.sub [(1, Value.int .u64 more1), (2, Value.pointer (some p2))] ⟨rfl, rfl, trivial⟩
        refine W.regionD S (by kernel_rfl) ?_
        clear S; intro ww S
        refine AN.pure 0 S rfl (by kernel_rfl) (fun _ => Lf.run_fa (S.ev rfl) fa39_0) rfl rfl trivial ?_
        clear S; intro aa S
        refine AN.pure 2 S rfl (by kernel_rfl) (fun _ => Lf.run_fa (S.ev rfl) fa39_1) rfl rfl trivial ?_
        clear S; intro aa S
        refine AN.pure 5 S rfl (by kernel_rfl) (fun _ => Lf.run_fa (S.ev rfl) fa39_0) rfl rfl trivial ?_
        clear S; intro aa S
        refine AN.pure 7 S rfl (by kernel_rfl) (fun _ => Lf.run_fa (S.ev rfl) fa39_2) rfl rfl trivial ?_
        clear S; intro aa S
        obtain ⟨T, hT, H⟩ := H
        obtain ⟨y31, y31_1, y31_2, y31_3, y31_4, y31_5, c_9, c_10, c_11, c_12, c_13, c_14, H⟩ := H
        obtain ⟨x33, c_15, H⟩ := H
        obtain ⟨y36, y36_1, y36_2, y36_3, y36_4, y36_5, c_16, c_17, c_18, c_19, c_20, c_21, H⟩ := H
        obtain ⟨x38, c_22, H⟩ := H
        obtain ⟨Fq4, sq, H⟩ := H
        obtain ⟨Fq9, sq_1, H⟩ := H
        obtain ⟨Fq10, sq_2, H⟩ := H
        obtain ⟨Fq11, sq_3, H⟩ := H
        obtain ⟨Oq, Oq_1, Oq_2, Oq_3, H⟩ := H
        let gq1 : GOp := ⟨1, 31, false, [1], fun lq => Value.agg #[Value.int .i64 y31, Value.string y31_1, Value.bool y31_2, Value.int .i64 y31_3, Value.slice y31_4.a y31_4.n y31_4.c, Value.slice y31_5.a y31_5.n y31_5.c], fun _ _ _ _ => True⟩
        let gq3 : GOp := ⟨3, 33, false, [3], fun lq => Value.slice x33.a x33.n x33.c, fun _ _ _ _ => True⟩
        let gq4 : GOp := ⟨4, 34, true, [4], fun lq => Value.agg #[Value.int .i64 (pI (pC 0 (nth lq 0))), Value.string (pT (pC 1 (nth lq 0))), Value.bool (pB (pC 2 (nth lq 0))), Value.int .i64 (pI (pC 3 (nth lq 0))), Value.slice (pS (pC 4 (nth lq 0))).a (pS (pC 4 (nth lq 0))).n (pS (pC 4 (nth lq 0))).c, Value.slice (pS (pC 5 (nth lq 0))).a (pS (pC 5 (nth lq 0))).n (pS (pC 5 (nth lq 0))).c], fun lq lo hi h => Fq4 (pI (pC 0 (nth lq 0))) (pT (pC 1 (nth lq 0))) (pB (pC 2 (nth lq 0))) (pI (pC 3 (nth lq 0))) (pS (pC 4 (nth lq 0))) (pS (pC 5 (nth lq 0))) lo hi h⟩
        let gq6 : GOp := ⟨6, 36, false, [6], fun lq => Value.agg #[Value.int .i64 y36, Value.string y36_1, Value.bool y36_2, Value.int .i64 y36_3, Value.slice y36_4.a y36_4.n y36_4.c, Value.slice y36_5.a y36_5.n y36_5.c], fun _ _ _ _ => True⟩
        let gq8 : GOp := ⟨8, 38, false, [8], fun lq => Value.slice x38.a x38.n x38.c, fun _ _ _ _ => True⟩
        let gq9 : GOp := ⟨9, 39, true, [9, 4], fun lq => Value.agg #[Value.int .i64 (pI (pC 0 (nth lq 0))), Value.string (pT (pC 1 (nth lq 0))), Value.bool (pB (pC 2 (nth lq 0))), Value.int .i64 (pI (pC 3 (nth lq 0))), Value.slice (pS (pC 4 (nth lq 0))).a (pS (pC 4 (nth lq 0))).n (pS (pC 4 (nth lq 0))).c, Value.slice (pS (pC 5 (nth lq 0))).a (pS (pC 5 (nth lq 0))).n (pS (pC 5 (nth lq 0))).c], fun lq lo hi h => Fq9 (pI (pC 0 (nth lq 0))) (pT (pC 1 (nth lq 0))) (pB (pC 2 (nth lq 0))) (pI (pC 3 (nth lq 0))) (pS (pC 4 (nth lq 0))) (pS (pC 5 (nth lq 0))) lo hi h⟩
        let gq10 : GOp := ⟨10, 5, true, [10], fun lq => Value.pointer (some (pA (nth lq 0))), fun lq lo hi h => Fq10 (pA (nth lq 0)) lo hi h⟩
        let gq11 : GOp := ⟨11, 6, true, [11], fun lq => Value.pointer (some (pA (nth lq 0))), fun lq lo hi h => Fq11 (pA (nth lq 0)) lo hi h⟩
        replace S := S.sub [(1, Value.int .u64 more1), (2, Value.pointer (some p2)), (30, Value.pointer (some p2)), (32, Value.pointer (some (p2.add 6))), (35, Value.pointer (some p2)), (37, Value.pointer (some (p2.add 7)))] ⟨rfl, rfl, rfl, rfl, rfl, rfl, trivial⟩
        refine AN.group (fuel := 2) T hT [(gq1, []), (gq3, []), (gq4, [gq1, gq3]), (gq6, []), (gq8, []), (gq9, [gq4, gq6, gq8]), (gq10, []), (gq11, [])] [(1, 31, [1], []), (3, 33, [3], []), (4, 34, [4], [1, 3]), (6, 36, [6], []), (8, 38, [8], []), (9, 39, [9, 4], [4, 6, 8]), (10, 5, [10], []), (11, 6, [11], [])] [1, 2, 30, 32, 35, 37] S rfl rfl (by kernel_rfl) (by simp) ⟨?_, ?_, ?_, ?_, ?_, ?_, ?_, ?_, trivial⟩ ?_
        · refine ⟨_, rfl, rfl, fun _ _ _ _ _ _ _ => trivial, ?_⟩
          intro Xg Bg aa ww h45 Ef S hTg hok
          replace S : St 77 ((1, Value.int .u64 more1) :: (2, Value.pointer (some p2)) :: (30, Value.pointer (some p2)) :: (32, Value.pointer (some (p2.add 6))) :: (35, Value.pointer (some p2)) :: (37, Value.pointer (some (p2.add 7))) :: Ef) h45 w0 aa ww := S
          refine OL.pure S (Lf.run_ldA (cs := [Value.int .i64 y31, Value.string y31_1, Value.bool y31_2, Value.int .i64 y31_3, Value.slice y31_4.a y31_4.n y31_4.c, Value.slice y31_5.a y31_5.n y31_5.c]) (S.ev rfl) ag25 ti25 (by rw [S.heap]; exact RowL.toRow ⟨c_9 _ hTg, c_10 _ hTg, c_11 _ hTg, c_12 _ hTg, c_13 _ hTg, c_14 _ hTg, trivial⟩)) rfl rfl trivial ?_
          clear S; intro aa S
          refine OL.nil ?_
          exact ⟨undef, _, S, hT.refl _, trivial⟩
        · refine ⟨_, rfl, rfl, fun _ _ _ _ _ _ _ => trivial, ?_⟩
          intro Xg Bg aa ww h46 Ef S hTg hok
          replace S : St 77 ((1, Value.int .u64 more1) :: (2, Value.pointer (some p2)) :: (30, Value.pointer (some p2)) :: (32, Value.pointer (some (p2.add 6))) :: (35, Value.pointer (some p2)) :: (37, Value.pointer (some (p2.add 7))) :: Ef) h46 w0 aa ww := S
          refine OL.pure S (Lf.run_ld (S.ev rfl) fl22 (S.cl (c_15 _ hTg))) rfl rfl trivial ?_
          clear S; intro aa S
          refine OL.nil ?_
          exact ⟨undef, _, S, hT.refl _, trivial⟩
        · refine ⟨_, rfl, rfl, fun _ _ _ _ _ ht hf => sq _ _ _ _ _ _ _ _ _ _ ht hf, ?_⟩
          intro Xg Bg aa ww h8 Ef S hTg hok
          obtain ⟨kq1, kq3, -⟩ := hok
          replace S : St 77 ((31, Value.agg #[Value.int .i64 y31, Value.string y31_1, Value.bool y31_2, Value.int .i64 y31_3, Value.slice y31_4.a y31_4.n y31_4.c, Value.slice y31_5.a y31_5.n y31_5.c]) :: (33, Value.slice x33.a x33.n x33.c) :: (1, Value.int .u64 more1) :: (2, Value.pointer (some p2)) :: (30, Value.pointer (some p2)) :: (32, Value.pointer (some (p2.add 6))) :: (35, Value.pointer (some p2)) :: (37, Value.pointer (some (p2.add 7))) :: Ef) h8 w0 aa ww := S
          have H := Oq h8 hTg
          refine ol_cal S H isfn11 rfl rfl trivial ?_
          clear S H aa; intro u_4 aa ww h9 H S
          obtain ⟨y34_6, y34_7, y34_8, y34_9, y34_10, y34_11, rfl, H⟩ := H
          refine OL.nil ?_
          exact ⟨Value.agg #[Value.int .i64 y34_6, Value.string y34_7, Value.bool y34_8, Value.int .i64 y34_9, Value.slice y34_10.a y34_10.n y34_10.c, Value.slice y34_11.a y34_11.n y34_11.c], _, S, H.1, H.2⟩
        · refine ⟨_, rfl, rfl, fun _ _ _ _ _ _ _ => trivial, ?_⟩
          intro Xg Bg aa ww h47 Ef S hTg hok
          replace S : St 77 ((1, Value.int .u64 more1) :: (2, Value.pointer (some p2)) :: (30, Value.pointer (some p2)) :: (32, Value.pointer (some (p2.add 6))) :: (35, Value.pointer (some p2)) :: (37, Value.pointer (some (p2.add 7))) :: Ef) h47 w0 aa ww := S
          refine OL.pure S (Lf.run_ldA (cs := [Value.int .i64 y36, Value.string y36_1, Value.bool y36_2, Value.int .i64 y36_3, Value.slice y36_4.a y36_4.n y36_4.c, Value.slice y36_5.a y36_5.n y36_5.c]) (S.ev rfl) ag25 ti25 (by rw [S.heap]; exact RowL.toRow ⟨c_16 _ hTg, c_17 _ hTg, c_18 _ hTg, c_19 _ hTg, c_20 _ hTg, c_21 _ hTg, trivial⟩)) rfl rfl trivial ?_
          clear S; intro aa S
          refine OL.nil ?_
          exact ⟨undef, _, S, hT.refl _, trivial⟩
        · refine ⟨_, rfl, rfl, fun _ _ _ _ _ _ _ => trivial, ?_⟩
          intro Xg Bg aa ww h48 Ef S hTg hok
          replace S : St 77 ((1, Value.int .u64 more1) :: (2, Value.pointer (some p2)) :: (30, Value.pointer (some p2)) :: (32, Value.pointer (some (p2.add 6))) :: (35, Value.pointer (some p2)) :: (37, Value.pointer (some (p2.add 7))) :: Ef) h48 w0 aa ww := S
          refine OL.pure S (Lf.run_ld (S.ev rfl) fl22 (S.cl (c_22 _ hTg))) rfl rfl trivial ?_
          clear S; intro aa S
          refine OL.nil ?_
          exact ⟨undef, _, S, hT.refl _, trivial⟩
        · refine ⟨_, rfl, rfl, fun _ _ _ _ _ ht hf => sq_1 _ _ _ _ _ _ _ _ _ _ ht hf, ?_⟩
          intro Xg Bg aa ww h12 Ef S hTg hok
          obtain ⟨kq4, kq6, kq8, -⟩ := hok
          replace S : St 77 ((34, Value.agg #[Value.int .i64 (pI (pC 0 (Xg 4))), Value.string (pT (pC 1 (Xg 4))), Value.bool (pB (pC 2 (Xg 4))), Value.int .i64 (pI (pC 3 (Xg 4))), Value.slice (pS (pC 4 (Xg 4))).a (pS (pC 4 (Xg 4))).n (pS (pC 4 (Xg 4))).c, Value.slice (pS (pC 5 (Xg 4))).a (pS (pC 5 (Xg 4))).n (pS (pC 5 (Xg 4))).c]) :: (36, Value.agg #[Value.int .i64 y36, Value.string y36_1, Value.bool y36_2, Value.int .i64 y36_3, Value.slice y36_4.a y36_4.n y36_4.c, Value.slice y36_5.a y36_5.n y36_5.c]) :: (38, Value.slice x38.a x38.n x38.c) :: (1, Value.int .u64 more1) :: (2, Value.pointer (some p2)) :: (30, Value.pointer (some p2)) :: (32, Value.pointer (some (p2.add 6))) :: (35, Value.pointer (some p2)) :: (37, Value.pointer (some (p2.add 7))) :: Ef) h12 w0 aa ww := S
          have H := Oq_1 (pI (pC 0 (Xg 4))) (pT (pC 1 (Xg 4))) (pB (pC 2 (Xg 4))) (pI (pC 3 (Xg 4))) (pS (pC 4 (Xg 4))) (pS (pC 5 (Xg 4))) (Bg 4).1 (Bg 4).2 h12 hTg kq4
          refine ol_cal S H isfn11 rfl rfl trivial ?_
          clear S H aa; intro u_6 aa ww h13 H S
          obtain ⟨y39_6, y39_7, y39_8, y39_9, y39_10, y39_11, rfl, H⟩ := H
          refine OL.nil ?_
          exact ⟨Value.agg #[Value.int .i64 y39_6, Value.string y39_7, Value.bool y39_8, Value.int .i64 y39_9, Value.slice y39_10.a y39_10.n y39_10.c, Value.slice y39_11.a y39_11.n y39_11.c], _, S, H.1, H.2⟩
        · refine ⟨_, rfl, rfl, fun _ _ _ _ _ ht hf => sq_2 _ _ _ _ _ ht hf, ?_⟩
          intro Xg Bg aa ww h16 Ef S hTg hok
          replace S : St 77 ((1, Value.int .u64 more1) :: (2, Value.pointer (some p2)) :: (30, Value.pointer (some p2)) :: (32, Value.pointer (some (p2.add 6))) :: (35, Value.pointer (some p2)) :: (37, Value.pointer (some (p2.add 7))) :: Ef) h16 w0 aa ww := S
          have H := Oq_2 h16 hTg
          refine ol_alloc S H ti25 rfl rfl trivial ?_
          clear S H aa; intro p5_1 aa ww h17 H S
          refine OL.nil ?_
          exact ⟨Value.pointer (some p5_1), _, S, H.1, H.2⟩
        · refine ⟨_, rfl, rfl, fun _ _ _ _ _ ht hf => sq_3 _ _ _ _ _ ht hf, ?_⟩
          intro Xg Bg aa ww h20 Ef S hTg hok
          replace S : St 77 ((1, Value.int .u64 more1) :: (2, Value.pointer (some p2)) :: (30, Value.pointer (some p2)) :: (32, Value.pointer (some (p2.add 6))) :: (35, Value.pointer (some p2)) :: (37, Value.pointer (some (p2.add 7))) :: Ef) h20 w0 aa ww := S
          have H := Oq_3 h20 hTg
          refine ol_alloc S H ti25 rfl rfl trivial ?_
          clear S H aa; intro p6_1 aa ww h21 H S
          refine OL.nil ?_
          exact ⟨Value.pointer (some p6_1), _, S, H.1, H.2⟩
        clear S aa ww
        intro Xg Bg aa ww h22 S hTg hok hdis
        obtain ⟨kq1, kq3, kq4, kq6, kq8, kq9, kq10, kq11, -⟩ := hok
        replace H := H (pI (pC 0 (Xg 4))) (pT (pC 1 (Xg 4))) (pB (pC 2 (Xg 4))) (pI (pC 3 (Xg 4))) (pS (pC 4 (Xg 4))) (pS (pC 5 (Xg 4))) (Bg 4).1 (Bg 4).2 (pI (pC 0 (Xg 9))) (pT (pC 1 (Xg 9))) (pB (pC 2 (Xg 9))) (pI (pC 3 (Xg 9))) (pS (pC 4 (Xg 9))) (pS (pC 5 (Xg 9))) (Bg 9).1 (Bg 9).2 (pA (Xg 10)) (Bg 10).1 (Bg 10).2 (pA (Xg 11)) (Bg 11).1 (Bg 11).2 h22 hTg hdis kq4 kq9 kq10 kq11
        replace S := S.sub [(1, Value.int .u64 more1), (2, Value.pointer (some p2)), (5, Value.pointer (some (pA (Xg 10)))), (6, Value.pointer (some (pA (Xg 11)))), (30, Value.pointer (some p2)), (31, Value.agg #[Value.int .i64 y31, Value.string y31_1, Value.bool y31_2, Value.int .i64 y31_3, Value.slice y31_4.a y31_4.n y31_4.c, Value.slice y31_5.a y31_5.n y31_5.c]), (32, Value.pointer (some (p2.add 6))), (33, Value.slice x33.a x33.n x33.c), (34, Value.agg #[Value.int .i64 (pI (pC 0 (Xg 4))), Value.string (pT (pC 1 (Xg 4))), Value.bool (pB (pC 2 (Xg 4))), Value.int .i64 (pI (pC 3 (Xg 4))), Value.slice (pS (pC 4 (Xg 4))).a (pS (pC 4 (Xg 4))).n (pS (pC 4 (Xg 4))).c, Value.slice (pS (pC 5 (Xg 4))).a (pS (pC 5 (Xg 4))).n (pS (pC 5 (Xg 4))).c]), (35, Value.pointer (some p2)), (36, Value.agg #[Value.int .i64 y36, Value.string y36_1, Value.bool y36_2, Value.int .i64 y36_3, Value.slice y36_4.a y36_4.n y36_4.c, Value.slice y36_5.a y36_5.n y36_5.c]), (37, Value.pointer (some (p2.add 7))), (38, Value.slice x38.a x38.n x38.c), (39, Value.agg #[Value.int .i64 (pI (pC 0 (Xg 9))), Value.string (pT (pC 1 (Xg 9))), Value.bool (pB (pC 2 (Xg 9))), Value.int .i64 (pI (pC 3 (Xg 9))), Value.slice (pS (pC 4 (Xg 9))).a (pS (pC 4 (Xg 9))).n (pS (pC 4 (Xg 9))).c, Value.slice (pS (pC 5 (Xg 9))).a (pS (pC 5 (Xg 9))).n (pS (pC 5 (Xg 9))).c])] ⟨rfl, rfl, rfl, rfl, rfl, rfl, rfl, rfl, rfl, rfl, rfl, rfl, rfl, rfl, trivial⟩
        generalize (pI (pC 0 (Xg 4))) = y34 at H S
        generalize (pT (pC 1 (Xg 4))) = y34_1 at H S
        generalize (pB (pC 2 (Xg 4))) = y34_2 at H S
        generalize (pI (pC 3 (Xg 4))) = y34_3 at H S
        generalize (pS (pC 4 (Xg 4))) = y34_4 at H S
        generalize (pS (pC 5 (Xg 4))) = y34_5 at H S
        generalize (pI (pC 0 (Xg 9))) = y39 at H S
        generalize (pT (pC 1 (Xg 9))) = y39_1 at H S
        generalize (pB (pC 2 (Xg 9))) = y39_2 at H S
        generalize (pI (pC 3 (Xg 9))) = y39_3 at H S
        generalize (pS (pC 4 (Xg 9))) = y39_4 at H S
        generalize (pS (pC 5 (Xg 9))) = y39_5 at H S
        generalize (pA (Xg 10)) = p5 at H S
        generalize (pA (Xg 11)) = p6 at H S
        generalize Bg 4 = bq4 at H
        generalize Bg 9 = bq9 at H
        generalize Bg 10 = bq10 at H
        generalize Bg 11 = bq11 at H
        clear hTg hdis kq11 kq10 kq9 kq8 kq6 kq4 kq3 kq1 gq11 gq10 gq9 gq8 gq6 gq4 gq3 gq1 Oq Oq_1 Oq_2 Oq_3 sq sq_1 sq_2 sq_3
        refine AN.eff 12 rfl (by kernel_rfl) ?_
        refine ol_stoA S H rfl rfl ti25 trivial ?_
        clear S H aa; intro aa ww h23 H S
        refine OL.nil ?_
        refine AN.eff 13 rfl (by kernel_rfl) ?_
        refine ol_stoA S H rfl rfl ti25 trivial ?_
        clear S H aa; intro aa ww h24 H S
        refine OL.nil ?_
        refine AN.done (by kernel_rfl) ?_
        refine W.seq ?_
        replace S := S.sub [(1, Value.int .u64 more1), (2, Value.pointer (some p2)), (5, Value.pointer (some p5)), (6, Value.pointer (some p6))] ⟨rfl, rfl, rfl, rfl, trivial⟩
        refine W.regionD S (by kernel_rfl) ?_
        clear S; intro ww S
        refine AN.pure 0 S rfl (by kernel_rfl) (fun _ => Lf.run_fa (S.ev rfl) fa39_5) rfl rfl trivial ?_
        clear S; intro aa S
        obtain ⟨x42, c_23, H⟩ := H
        refine AN.load 1 S rfl (by kernel_rfl) (fun _ hx => Lf.run_ld (S.ev rfl) fl26 (hx.cell _ _ (S.cl c_23))) rfl rfl trivial ?_
        clear S; intro aa S
        obtain ⟨T_1, hT_1, H⟩ := H
        obtain ⟨y44, y44_1, y44_2, y44_3, y44_4, y44_5, c_24, c_25, c_26, c_27, c_28, c_29, H⟩ := H
        obtain ⟨y45, y45_1, y45_2, y45_3, y45_4, y45_5, c_30, c_31, c_32, c_33, c_34, c_35, H⟩ := H
        obtain ⟨Fq2, sq_4, H⟩ := H
        obtain ⟨Oq_4, H⟩ := H
        let gq2 : GOp := ⟨2, 43, true, [2], fun lq => Value.map (pM (nth lq 0)), fun lq lo hi h => Fq2 (pM (nth lq 0)) lo hi h⟩
        let gq3 : GOp := ⟨3, 44, false, [3], fun lq => Value.agg #[Value.int .i64 y44, Value.string y44_1, Value.bool y44_2, Value.int .i64 y44_3, Value.slice y44_4.a y44_4.n y44_4.c, Value.slice y44_5.a y44_5.n y44_5.c], fun _ _ _ _ => True⟩
        let gq4 : GOp := ⟨4, 45, false, [4], fun lq => Value.agg #[Value.int .i64 y45, Value.string y45_1, Value.bool y45_2, Value.int .i64 y45_3, Value.slice y45_4.a y45_4.n y45_4.c, Value.slice y45_5.a y45_5.n y45_5.c], fun _ _ _ _ => True⟩
        replace S := S.sub [(1, Value.int .u64 more1), (2, Value.pointer (some p2)), (5, Value.pointer (some p5)), (6, Value.pointer (some p6)), (41, Value.pointer (some (p2.add 17))), (42, Value.int .u64 x42)] ⟨rfl, rfl, rfl, rfl, rfl, rfl, trivial⟩
        refine AN.group (fuel := 6) T_1 hT_1 [(gq2, []), (gq3, []), (gq4, [])] [(2, 43, [2], []), (3, 44, [3], []), (4, 45, [4], [])] [1, 2, 5, 6, 41, 42] S rfl rfl (by kernel_rfl) (by simp) ⟨?_, ?_, ?_, trivial⟩ ?_
        · refine ⟨_, rfl, rfl, fun _ _ _ _ _ ht hf => sq_4 _ _ _ _ _ ht hf, ?_⟩
          intro Xg Bg aa ww h27 Ef S hTg hok
          replace S : St 77 ((1, Value.int .u64 more1) :: (2, Value.pointer (some p2)) :: (5, Value.pointer (some p5)) :: (6, Value.pointer (some p6)) :: (41, Value.pointer (some (p2.add 17))) :: (42, Value.int .u64 x42) :: Ef) h27 w0 aa ww := S
          have H := Oq_4 h27 hTg
          refine ol_cal S H isfn10 rfl rfl trivial ?_
          clear S H aa; intro u_8 aa ww h28 H S
          obtain ⟨x43_1, rfl, H⟩ := H
          refine OL.nil ?_
          exact ⟨Value.map x43_1, _, S, H.1, H.2⟩
        · refine ⟨_, rfl, rfl, fun _ _ _ _ _ _ _ => trivial, ?_⟩
          intro Xg Bg aa ww h43 Ef S hTg hok
          replace S : St 77 ((1, Value.int .u64 more1) :: (2, Value.pointer (some p2)) :: (5, Value.pointer (some p5)) :: (6, Value.pointer (some p6)) :: (41, Value.pointer (some (p2.add 17))) :: (42, Value.int .u64 x42) :: Ef) h43 w0 aa ww := S
          refine OL.pure S (Lf.run_ldA (cs := [Value.int .i64 y44, Value.string y44_1, Value.bool y44_2, Value.int .i64 y44_3, Value.slice y44_4.a y44_4.n y44_4.c, Value.slice y44_5.a y44_5.n y44_5.c]) (S.ev rfl) ag25 ti25 (by rw [S.heap]; exact RowL.toRow ⟨c_24 _ hTg, c_25 _ hTg, c_26 _ hTg, c_27 _ hTg, c_28 _ hTg, c_29 _ hTg, trivial⟩)) rfl rfl trivial ?_
          clear S; intro aa S
          refine OL.nil ?_
          exact ⟨undef, _, S, hT_1.refl _, trivial⟩
        · refine ⟨_, rfl, rfl, fun _ _ _ _ _ _ _ => trivial, ?_⟩
          intro Xg Bg aa ww h44 Ef S hTg hok
          replace S : St 77 ((1, Value.int .u64 more1) :: (2, Value.pointer (some p2)) :: (5, Value.pointer (some p5)) :: (6, Value.pointer (some p6)) :: (41, Value.pointer (some (p2.add 17))) :: (42, Value.int .u64 x42) :: Ef) h44 w0 aa ww := S
          refine OL.pure S (Lf.run_ldA (cs := [Value.int .i64 y45, Value.string y45_1, Value.bool y45_2, Value.int .i64 y45_3, Value.slice y45_4.a y45_4.n y45_4.c, Value.slice y45_5.a y45_5.n y45_5.c]) (S.ev rfl) ag25 ti25 (by rw [S.heap]; exact RowL.toRow ⟨c_30 _ hTg, c_31 _ hTg, c_32 _ hTg, c_33 _ hTg, c_34 _ hTg, c_35 _ hTg, trivial⟩)) rfl rfl trivial ?_
          clear S; intro aa S
          refine OL.nil ?_
          exact ⟨undef, _, S, hT_1.refl _, trivial⟩
        clear S aa ww
        intro Xg Bg aa ww h29 S hTg hok hdis
        obtain ⟨kq2, kq3, kq4, -⟩ := hok
        replace H := H (pM (Xg 2)) (Bg 2).1 (Bg 2).2 h29 hTg hdis kq2
        replace S := S.sub [(1, Value.int .u64 more1), (2, Value.pointer (some p2)), (5, Value.pointer (some p5)), (6, Value.pointer (some p6)), (41, Value.pointer (some (p2.add 17))), (42, Value.int .u64 x42), (43, Value.map (pM (Xg 2))), (44, Value.agg #[Value.int .i64 y44, Value.string y44_1, Value.bool y44_2, Value.int .i64 y44_3, Value.slice y44_4.a y44_4.n y44_4.c, Value.slice y44_5.a y44_5.n y44_5.c]), (45, Value.agg #[Value.int .i64 y45, Value.string y45_1, Value.bool y45_2, Value.int .i64 y45_3, Value.slice y45_4.a y45_4.n y45_4.c, Value.slice y45_5.a y45_5.n y45_5.c])] ⟨rfl, rfl, rfl, rfl, rfl, rfl, rfl, rfl, rfl, trivial⟩
        generalize (pM (Xg 2)) = x43 at H S
        generalize Bg 2 = bq2 at H
        clear hTg hdis kq4 kq3 kq2 gq4 gq3 gq2 Oq_4 sq_4
        refine AN.eff 5 rfl (by kernel_rfl) ?_
        refine ol_cal S H isfn9 rfl rfl trivial ?_
        clear S H aa; intro u_9 aa ww h30 H S
        obtain ⟨x46, x46_1, rfl, H⟩ := H
        refine OL.nil ?_
        refine AN.pure 6 S rfl (by kernel_rfl) (fun _ => Lf.run_move (S.ev rfl)) rfl rfl trivial ?_
        clear S; intro aa S
        refine AN.pure 7 S rfl (by kernel_rfl) (fun _ => Lf.run_ex (S.ev rfl) rfl) rfl rfl trivial ?_
        clear S; intro aa S
        refine AN.pure 8 S rfl (by kernel_rfl) (fun _ => Lf.run_ex (S.ev rfl) rfl) rfl rfl trivial ?_
        clear S; intro aa S
        refine AN.pure 9 S rfl (by kernel_rfl) (fun _ => Lf.run_assign (S.ev rfl)) rfl rfl trivial ?_
        clear S; intro aa S
        refine AN.pure 10 S rfl (by kernel_rfl) (fun _ => Lf.run_assign (S.ev rfl)) rfl rfl trivial ?_
        clear S; intro aa S
        refine AN.done (by kernel_rfl) ?_
        refine W.seq ?_
        replace S := S.sub [(1, Value.int .u64 more1), (2, Value.pointer (some p2)), (5, Value.pointer (some p5)), (6, Value.pointer (some p6)), (7, Value.slice x46.a x46.n x46.c), (8, Value.bool x46_1)] ⟨rfl, rfl, rfl, rfl, rfl, rfl, trivial⟩
        refine W.regionD S (by kernel_rfl) ?_
        clear S; intro ww S
        refine AN.pure 0 S rfl (by kernel_rfl) (fun _ => Lf.run_fa (S.ev rfl) fa39_5) rfl rfl trivial ?_
        clear S; intro aa S
        obtain ⟨x51, c_36, H⟩ := H
        refine AN.load 1 S rfl (by kernel_rfl) (fun _ hx => Lf.run_ld (S.ev rfl) fl26 (hx.cell _ _ (S.cl c_36))) rfl rfl trivial ?_
        clear S; intro aa S
        refine AN.pure 2 S rfl (by kernel_rfl) (fun _ => Lf.run_move (S.ev rfl)) rfl rfl trivial ?_
        clear S; intro aa S
        refine AN.pure 3 S rfl (by kernel_rfl) (fun _ => Lf.run_bits (op := .or) (by simp) (S.ev rfl) (S.ev rfl)) rfl rfl trivial ?_
        clear S; intro aa S
        obtain ⟨T_2, hT_2, H⟩ := H
        obtain ⟨y55, y55_1, y55_2, y55_3, y55_4, y55_5, c_37, c_38, c_39, c_40, c_41, c_42, H⟩ := H
        obtain ⟨y56, y56_1, y56_2, y56_3, y56_4, y56_5, c_43, c_44, c_45, c_46, c_47, c_48, H⟩ := H
        obtain ⟨Fq4_1, sq_5, H⟩ := H
        obtain ⟨Oq_5, H⟩ := H
        let gq4 : GOp := ⟨4, 54, true, [4], fun lq => Value.map (pM (nth lq 0)), fun lq lo hi h => Fq4_1 (pM (nth lq 0)) lo hi h⟩
        let gq5 : GOp := ⟨5, 55, false, [5], fun lq => Value.agg #[Value.int .i64 y55, Value.string y55_1, Value.bool y55_2, Value.int .i64 y55_3, Value.slice y55_4.a y55_4.n y55_4.c, Value.slice y55_5.a y55_5.n y55_5.c], fun _ _ _ _ => True⟩
        let gq6 : GOp := ⟨6, 56, false, [6], fun lq => Value.agg #[Value.int .i64 y56, Value.string y56_1, Value.bool y56_2, Value.int .i64 y56_3, Value.slice y56_4.a y56_4.n y56_4.c, Value.slice y56_5.a y56_5.n y56_5.c], fun _ _ _ _ => True⟩
        replace S := S.sub [(1, Value.int .u64 more1), (2, Value.pointer (some p2)), (5, Value.pointer (some p5)), (6, Value.pointer (some p6)), (7, Value.slice x46.a x46.n x46.c), (8, Value.bool x46_1), (50, Value.pointer (some (p2.add 17))), (51, Value.int .u64 x51), (52, Value.int .u64 more1), (53, Value.int .u64 (bitsI .or .u64 x51 more1))] ⟨rfl, rfl, rfl, rfl, rfl, rfl, rfl, rfl, rfl, rfl, trivial⟩
        refine AN.group (fuel := 6) T_2 hT_2 [(gq4, []), (gq5, []), (gq6, [])] [(4, 54, [4], []), (5, 55, [5], []), (6, 56, [6], [])] [1, 2, 5, 6, 7, 8, 50, 51, 52, 53] S rfl rfl (by kernel_rfl) (by simp) ⟨?_, ?_, ?_, trivial⟩ ?_
        · refine ⟨_, rfl, rfl, fun _ _ _ _ _ ht hf => sq_5 _ _ _ _ _ ht hf, ?_⟩
          intro Xg Bg aa ww h33 Ef S hTg hok
          replace S : St 77 ((1, Value.int .u64 more1) :: (2, Value.pointer (some p2)) :: (5, Value.pointer (some p5)) :: (6, Value.pointer (some p6)) :: (7, Value.slice x46.a x46.n x46.c) :: (8, Value.bool x46_1) :: (50, Value.pointer (some (p2.add 17))) :: (51, Value.int .u64 x51) :: (52, Value.int .u64 more1) :: (53, Value.int .u64 (bitsI .or .u64 x51 more1)) :: Ef) h33 w0 aa ww := S
          have H := Oq_5 h33 hTg
          refine ol_cal S H isfn10 rfl rfl trivial ?_
          clear S H aa; intro u_11 aa ww h34 H S
          obtain ⟨x54_1, rfl, H⟩ := H
          refine OL.nil ?_
          exact ⟨Value.map x54_1, _, S, H.1, H.2⟩
        · refine ⟨_, rfl, rfl, fun _ _ _ _ _ _ _ => trivial, ?_⟩
          intro Xg Bg aa ww h41 Ef S hTg hok
          replace S : St 77 ((1, Value.int .u64 more1) :: (2, Value.pointer (some p2)) :: (5, Value.pointer (some p5)) :: (6, Value.pointer (some p6)) :: (7, Value.slice x46.a x46.n x46.c) :: (8, Value.bool x46_1) :: (50, Value.pointer (some (p2.add 17))) :: (51, Value.int .u64 x51) :: (52, Value.int .u64 more1) :: (53, Value.int .u64 (bitsI .or .u64 x51 more1)) :: Ef) h41 w0 aa ww := S
          refine OL.pure S (Lf.run_ldA (cs := [Value.int .i64 y55, Value.string y55_1, Value.bool y55_2, Value.int .i64 y55_3, Value.slice y55_4.a y55_4.n y55_4.c, Value.slice y55_5.a y55_5.n y55_5.c]) (S.ev rfl) ag25 ti25 (by rw [S.heap]; exact RowL.toRow ⟨c_37 _ hTg, c_38 _ hTg, c_39 _ hTg, c_40 _ hTg, c_41 _ hTg, c_42 _ hTg, trivial⟩)) rfl rfl trivial ?_
          clear S; intro aa S
          refine OL.nil ?_
          exact ⟨undef, _, S, hT_2.refl _, trivial⟩
        · refine ⟨_, rfl, rfl, fun _ _ _ _ _ _ _ => trivial, ?_⟩
          intro Xg Bg aa ww h42 Ef S hTg hok
          replace S : St 77 ((1, Value.int .u64 more1) :: (2, Value.pointer (some p2)) :: (5, Value.pointer (some p5)) :: (6, Value.pointer (some p6)) :: (7, Value.slice x46.a x46.n x46.c) :: (8, Value.bool x46_1) :: (50, Value.pointer (some (p2.add 17))) :: (51, Value.int .u64 x51) :: (52, Value.int .u64 more1) :: (53, Value.int .u64 (bitsI .or .u64 x51 more1)) :: Ef) h42 w0 aa ww := S
          refine OL.pure S (Lf.run_ldA (cs := [Value.int .i64 y56, Value.string y56_1, Value.bool y56_2, Value.int .i64 y56_3, Value.slice y56_4.a y56_4.n y56_4.c, Value.slice y56_5.a y56_5.n y56_5.c]) (S.ev rfl) ag25 ti25 (by rw [S.heap]; exact RowL.toRow ⟨c_43 _ hTg, c_44 _ hTg, c_45 _ hTg, c_46 _ hTg, c_47 _ hTg, c_48 _ hTg, trivial⟩)) rfl rfl trivial ?_
          clear S; intro aa S
          refine OL.nil ?_
          exact ⟨undef, _, S, hT_2.refl _, trivial⟩
        clear S aa ww
        intro Xg Bg aa ww h35 S hTg hok hdis
        obtain ⟨kq4, kq5, kq6, -⟩ := hok
        replace H := H (pM (Xg 4)) (Bg 4).1 (Bg 4).2 h35 hTg hdis kq4
        replace S := S.sub [(1, Value.int .u64 more1), (2, Value.pointer (some p2)), (5, Value.pointer (some p5)), (6, Value.pointer (some p6)), (7, Value.slice x46.a x46.n x46.c), (8, Value.bool x46_1), (50, Value.pointer (some (p2.add 17))), (51, Value.int .u64 x51), (52, Value.int .u64 more1), (53, Value.int .u64 (bitsI .or .u64 x51 more1)), (54, Value.map (pM (Xg 4))), (55, Value.agg #[Value.int .i64 y55, Value.string y55_1, Value.bool y55_2, Value.int .i64 y55_3, Value.slice y55_4.a y55_4.n y55_4.c, Value.slice y55_5.a y55_5.n y55_5.c]), (56, Value.agg #[Value.int .i64 y56, Value.string y56_1, Value.bool y56_2, Value.int .i64 y56_3, Value.slice y56_4.a y56_4.n y56_4.c, Value.slice y56_5.a y56_5.n y56_5.c])] ⟨rfl, rfl, rfl, rfl, rfl, rfl, rfl, rfl, rfl, rfl, rfl, rfl, rfl, trivial⟩
        generalize (pM (Xg 4)) = x54 at H S
        generalize Bg 4 = bq4 at H
        clear hTg hdis kq6 kq5 kq4 gq6 gq5 gq4 Oq_5 sq_5
        refine AN.eff 7 rfl (by kernel_rfl) ?_
        refine ol_cal S H isfn9 rfl rfl trivial ?_
        clear S H aa; intro u_12 aa ww h36 H S
        obtain ⟨x57, x57_1, rfl, H⟩ := H
        refine OL.nil ?_
        refine AN.pure 8 S rfl (by kernel_rfl) (fun _ => Lf.run_move (S.ev rfl)) rfl rfl trivial ?_
        clear S; intro aa S
        refine AN.pure 9 S rfl (by kernel_rfl) (fun _ => Lf.run_ex (S.ev rfl) rfl) rfl rfl trivial ?_
        clear S; intro aa S
        refine AN.pure 10 S rfl (by kernel_rfl) (fun _ => Lf.run_ex (S.ev rfl) rfl) rfl rfl trivial ?_
        clear S; intro aa S
        refine AN.pure 11 S rfl (by kernel_rfl) (fun _ => Lf.run_assign (S.ev rfl)) rfl rfl trivial ?_
        clear S; intro aa S
        refine AN.pure 12 S rfl (by kernel_rfl) (fun _ => Lf.run_assign (S.ev rfl)) rfl rfl trivial ?_
        clear S; intro aa S
        refine AN.done (by kernel_rfl) ?_
        refine W.seq ?_
        replace S := S.sub [(2, Value.pointer (some p2)), (7, Value.slice x46.a x46.n x46.c), (8, Value.bool x46_1), (9, Value.slice x57.a x57.n x57.c), (10, Value.bool x57_1)] ⟨rfl, rfl, rfl, rfl, rfl, trivial⟩
        refine W.region ?_
        refine OL.pure S (Lf.run_move (S.ev rfl)) rfl rfl trivial ?_
        clear S; intro aa S
        refine OL.pure S (Lf.run_move (S.ev rfl)) rfl rfl trivial ?_
        clear S; intro aa S
        refine OL.cutN 2 (fun aa ww => St 77 ((63, Value.bool (x46_1 && x57_1)) :: [(2, Value.pointer (some p2)), (7, Value.slice x46.a x46.n x46.c), (8, Value.bool x46_1), (9, Value.slice x57.a x57.n x57.c), (10, Value.bool x57_1), (60, Value.bool x46_1), (61, Value.bool x46_1)]) h36 w0 aa ww) ?_ ?_
        · rcases Bool.eq_false_or_eq_true x46_1 with hb_3 | hb_3
          · refine OL.pure S (Lf.run_move (S.ev rfl)) rfl rfl (GOk.mk rfl rfl hb_3) ?_
            clear S; intro aa S
            refine OL.pure S (Lf.run_pickT (S.ev rfl) hb_3 (S.ev rfl)) rfl rfl trivial ?_
            clear S; intro aa S
            refine OL.nil ?_
            exact (S.hd (by rw [hb_3, Bool.true_and])).sub _ ⟨rfl, rfl, rfl, rfl, rfl, rfl, rfl, rfl, trivial⟩
          · refine OL.not S rfl rfl (GNo.mk rfl rfl hb_3) ?_
            clear S; intro aa S
            refine OL.pure S (Lf.run_pickF (S.ev rfl) hb_3 (S.ev rfl)) rfl rfl trivial ?_
            clear S; intro aa S
            refine OL.nil ?_
            exact (S.hd (by rw [hb_3, Bool.false_and])).sub _ ⟨rfl, rfl, rfl, rfl, rfl, rfl, rfl, rfl, trivial⟩
        · clear S aa
          intro aa ww S
          refine OL.pure S (Lf.run_move (S.ev rfl)) rfl rfl trivial ?_
          clear S; intro aa S
          obtain ⟨J_2, H, HK_2⟩ := H
          refine OL.cutN 12 (fun aa ww => ∃ x76 h37, St 77 ((76, Value.bool x76) :: [(2, Value.pointer (some p2)), (7, Value.slice x46.a x46.n x46.c), (8, Value.bool x46_1), (9, Value.slice x57.a x57.n x57.c), (10, Value.bool x57_1), (60, Value.bool x46_1), (61, Value.bool x46_1), (63, Value.bool (x46_1 && x57_1)), (64, Value.bool (x46_1 && x57_1))]) h37 w0 aa ww ∧ J_2 x76 h37) ?_ ?_
          · rcases Bool.eq_false_or_eq_true (x46_1 && x57_1) with hb_4 | hb_4
            · replace H := H.1 hb_4
              refine OL.pure S (Lf.run_move (S.ev rfl)) rfl rfl (GOk.mk rfl rfl hb_4) ?_
              clear S; intro aa S
              refine OL.pure S (Lf.run_fa (S.ev rfl) fa39_4) rfl rfl (GOk.mk rfl rfl hb_4) ?_
              clear S; intro aa S
              refine OL.pure S (Lf.run_saNN Try.underlying37 ti26 (S.ev rfl)) rfl rfl (GOk.mk rfl rfl hb_4) ?_
              clear S; intro aa S
              refine ol_cal S H isfn12 rfl rfl (GOk.mk rfl rfl hb_4) ?_
              clear S H aa; intro u_13 aa ww h38 H S
              obtain ⟨x68, rfl, H⟩ := H
              refine OL.pure S (Lf.run_not (S.ev rfl)) rfl rfl (GOk.mk rfl rfl hb_4) ?_
              clear S; intro aa S
              refine OL.pure S (Lf.run_move (S.ev rfl)) rfl rfl (GOk.mk rfl rfl hb_4) ?_
              clear S; intro aa S
              obtain ⟨J_3, H, HK_3⟩ := H
              refine OL.cutN 5 (fun aa ww => ∃ x75 h39, St 77 ((75, Value.bool x75) :: [(2, Value.pointer (some p2)), (7, Value.slice x46.a x46.n x46.c), (8, Value.bool x46_1), (9, Value.slice x57.a x57.n x57.c), (10, Value.bool x57_1), (60, Value.bool x46_1), (61, Value.bool x46_1), (63, Value.bool (x46_1 && x57_1)), (64, Value.bool (x46_1 && x57_1)), (65, Value.slice x57.a x57.n x57.c), (66, Value.pointer (some (p2.add 9))), (67, Value.slice (⟨some (p2.add 9), 8, 8⟩ : Sv).a (⟨some (p2.add 9), 8, 8⟩ : Sv).n (⟨some (p2.add 9), 8, 8⟩ : Sv).c), (68, Value.bool x68), (69, Value.bool (!x68)), (70, Value.bool (!x68))]) h39 w0 aa ww ∧ J_3 x75 h39) ?_ ?_
              · rcases Bool.eq_false_or_eq_true (!x68) with hb_5 | hb_5
                · replace H := H.1 hb_5
                  refine OL.not S rfl rfl (GNo.mk rfl rfl hb_5) ?_
                  clear S; intro aa S
                  refine OL.not S rfl rfl (GNo.mk rfl rfl hb_5) ?_
                  clear S; intro aa S
                  refine OL.not S rfl rfl (GNo.mk rfl rfl hb_5) ?_
                  clear S; intro aa S
                  refine OL.not S rfl rfl (GNo.mk rfl rfl hb_5) ?_
                  clear S; intro aa S
                  refine OL.pure S (Lf.run_pickT (S.ev rfl) hb_5 (S.ev rfl)) rfl rfl (GOk.mk rfl rfl hb_4) ?_
                  clear S; intro aa S
                  refine OL.nil ?_
                  exact ⟨_, _, S.sub _ ⟨rfl, rfl, rfl, rfl, rfl, rfl, rfl, rfl, rfl, rfl, rfl, rfl, rfl, rfl, rfl, rfl, trivial⟩, H⟩
                · replace H := H.2 hb_5
                  refine OL.pure S (Lf.run_move (S.ev rfl)) rfl rfl (GOk.mk rfl rfl hb_5) ?_
                  clear S; intro aa S
                  refine OL.pure S (Lf.run_fa (S.ev rfl) fa39_4) rfl rfl (GOk.mk rfl rfl hb_5) ?_
                  clear S; intro aa S
                  refine OL.pure S (Lf.run_saNN Try.underlying37 ti26 (S.ev rfl)) rfl rfl (GOk.mk rfl rfl hb_5) ?_
                  clear S; intro aa S
                  refine ol_cal S H isfn12 rfl rfl (GOk.mk rfl rfl hb_5) ?_
                  clear S H aa; intro u_14 aa ww h40 H S
                  obtain ⟨x74, rfl, H⟩ := H
                  refine OL.pure S (Lf.run_pickF (S.ev rfl) hb_5 (S.ev rfl)) rfl rfl (GOk.mk rfl rfl hb_4) ?_
                  clear S; intro aa S
                  refine OL.nil ?_
                  exact ⟨_, _, S.sub _ ⟨rfl, rfl, rfl, rfl, rfl, rfl, rfl, rfl, rfl, rfl, rfl, rfl, rfl, rfl, rfl, rfl, trivial⟩, H⟩
              · clear S aa
                rintro aa ww ⟨x75, h39, S, HJ⟩
                replace H := HK_3 _ _ HJ
                clear HK_3 HJ
                refine OL.pure S (Lf.run_pickT (S.ev rfl) hb_4 (S.ev rfl)) rfl rfl trivial ?_
                clear S; intro aa S
                refine OL.nil ?_
                exact ⟨_, _, S.sub _ ⟨rfl, rfl, rfl, rfl, rfl, rfl, rfl, rfl, rfl, rfl, trivial⟩, H⟩
            · replace H := H.2 hb_4
              refine OL.not S rfl rfl (GNo.mk rfl rfl hb_4) ?_
              clear S; intro aa S
              refine OL.not S rfl rfl (GNo.mk rfl rfl hb_4) ?_
              clear S; intro aa S
              refine OL.not S rfl rfl (GNo.mk rfl rfl hb_4) ?_
              clear S; intro aa S
              refine OL.not S rfl rfl (GNo.mk rfl rfl hb_4) ?_
              clear S; intro aa S
              refine OL.not S rfl rfl (GNo.mk rfl rfl hb_4) ?_
              clear S; intro aa S
              refine OL.not S rfl rfl (GNo.mk rfl rfl hb_4) ?_
              clear S; intro aa S
              refine OL.not S rfl rfl (GNo.un rfl rfl) ?_
              clear S; intro aa S
              refine OL.not S rfl rfl (GNo.un rfl rfl) ?_
              clear S; intro aa S
              refine OL.not S rfl rfl (GNo.un rfl rfl) ?_
              clear S; intro aa S
              refine OL.not S rfl rfl (GNo.un rfl rfl) ?_
              clear S; intro aa S
              refine OL.not S rfl rfl (GNo.mk rfl rfl hb_4) ?_
              clear S; intro aa S
              refine OL.pure S (Lf.run_pickF (S.ev rfl) hb_4 (S.ev rfl)) rfl rfl trivial ?_
              clear S; intro aa S
              refine OL.nil ?_
              exact ⟨_, _, S.sub _ ⟨rfl, rfl, rfl, rfl, rfl, rfl, rfl, rfl, rfl, rfl, trivial⟩, H⟩
          · clear S aa
            rintro aa ww ⟨x76, h37, S, HJ⟩
            replace H := HK_2 _ _ HJ
            clear HK_2 HJ
            refine OL.pure S (Lf.run_assign (S.ev rfl)) rfl rfl trivial ?_
            clear S; intro aa S
            refine OL.nil ?_
            refine W.ret ?_
            exact Ret.one S rfl rfl H

/-- chattel chattellaw10.SubBoth -/
def L6 (c0 : Int) (c0_1 : ByteArray) (c0_2 : Bool) (c0_3 : Int) (c0_4 : Sv) (c0_5 : Sv) (c0_6 : Sv) (c0_7 : Sv) (c0_8 : Sv) (c0_9 : Int) (c0_10 : Int) (c0_11 : Int) (c0_12 : Int) (c0_13 : Int) (c0_14 : Int) (c0_15 : Int) (c0_16 : Int) (c0_17 : Int) (h : Heap) (R : Value → Heap → Prop) : Prop :=
  new 39 #[Value.int .i64 c0, Value.string c0_1, Value.bool c0_2, Value.int .i64 c0_3, Value.slice c0_4.a c0_4.n c0_4.c, Value.slice c0_5.a c0_5.n c0_5.c, Value.slice c0_6.a c0_6.n c0_6.c, Value.slice c0_7.a c0_7.n c0_7.c, Value.slice c0_8.a c0_8.n c0_8.c, Value.int .u64 c0_9, Value.int .u64 c0_10, Value.int .u64 c0_11, Value.int .u64 c0_12, Value.int .u64 c0_13, Value.int .u64 c0_14, Value.int .u64 c0_15, Value.int .u64 c0_16, Value.int .u64 c0_17] h fun p1 h1 =>
  cal Try.prog 7 #[] h1 fun u h2 => asB u fun x12 =>
  ∃ J : Bool → Heap → Prop, (orj (!x12) (fun k =>
    ∃ (y16 : Int) (y16_1 : ByteArray) (y16_2 : Bool) (y16_3 : Int) (y16_4 : Sv) (y16_5 : Sv), cl h2 p1 = some (Value.int .i64 y16) ∧ cl h2 (p1.add 1) = some (Value.string y16_1) ∧ cl h2 (p1.add 2) = some (Value.bool y16_2) ∧ cl h2 (p1.add 3) = some (Value.int .i64 y16_3) ∧ cl h2 (p1.add 4) = some (Value.slice y16_4.a y16_4.n y16_4.c) ∧ cl h2 (p1.add 5) = some (Value.slice y16_5.a y16_5.n y16_5.c) ∧
    cal Try.prog 8 #[Value.agg #[Value.int .i64 y16, Value.string y16_1, Value.bool y16_2, Value.int .i64 y16_3, Value.slice y16_4.a y16_4.n y16_4.c, Value.slice y16_5.a y16_5.n y16_5.c], Value.int .i64 6] h2 fun u_1 h4 => asB u_1 fun x17 =>
    k (!x17) h4) h2 J) ∧ ∀ x19 h3, J x19 h3 →
  ∃ J_1 : Bool → Prop, (orr x19 (fun k_1 =>
    ldS h3 (p1.add 6) fun x22 =>
    ldS h3 (p1.add 7) fun x25 =>
    k_1 (decide (60 < (IntKind.i64.wrap (((x22.n : Nat) : Int) + ((x25.n : Nat) : Int)))))) J_1) ∧ ∀ x29, J_1 x29 →
  ifb x29 (
    cal Try.prog 7 #[] h3 fun u_2 h5 => asB u_2 fun x30 =>
    R (Value.bool x30) h5) (
    ldI .u64 h3 (p1.add 17) fun x32 =>
    cal Try.prog 10 #[Value.int .u64 x32] h3 fun u_3 h6 => asM u_3 fun x33 =>
    ∃ T : Heap → Heap → Prop, Pre T ∧
    ∃ (y35 : Int) (y35_1 : ByteArray) (y35_2 : Bool) (y35_3 : Int) (y35_4 : Sv) (y35_5 : Sv), hld (T h6) p1 (Value.int .i64 y35) ∧ hld (T h6) (p1.add 1) (Value.string y35_1) ∧ hld (T h6) (p1.add 2) (Value.bool y35_2) ∧ hld (T h6) (p1.add 3) (Value.int .i64 y35_3) ∧ hld (T h6) (p1.add 4) (Value.slice y35_4.a y35_4.n y35_4.c) ∧ hld (T h6) (p1.add 5) (Value.slice y35_5.a y35_5.n y35_5.c) ∧
    hlS (T h6) (p1.add 6) fun x37 =>
    ∃ (y40 : Int) (y40_1 : ByteArray) (y40_2 : Bool) (y40_3 : Int) (y40_4 : Sv) (y40_5 : Sv), hld (T h6) p1 (Value.int .i64 y40) ∧ hld (T h6) (p1.add 1) (Value.string y40_1) ∧ hld (T h6) (p1.add 2) (Value.bool y40_2) ∧ hld (T h6) (p1.add 3) (Value.int .i64 y40_3) ∧ hld (T h6) (p1.add 4) (Value.slice y40_4.a y40_4.n y40_4.c) ∧ hld (T h6) (p1.add 5) (Value.slice y40_5.a y40_5.n y40_5.c) ∧
    hlS (T h6) (p1.add 7) fun x42 =>
    ∃ Fq4 : Int → ByteArray → Bool → Int → Sv → Sv → Nat → Nat → Heap → Prop, (∀ y38 y38_1 y38_2 y38_3 y38_4 y38_5 lo hi h h', T h h' → Fq4 y38 y38_1 y38_2 y38_3 y38_4 y38_5 lo hi h → Fq4 y38 y38_1 y38_2 y38_3 y38_4 y38_5 lo hi h') ∧
    ∃ Fq9 : Int → ByteArray → Bool → Int → Sv → Sv → Nat → Nat → Heap → Prop, (∀ y43 y43_1 y43_2 y43_3 y43_4 y43_5 lo hi h h', T h h' → Fq9 y43 y43_1 y43_2 y43_3 y43_4 y43_5 lo hi h → Fq9 y43 y43_1 y43_2 y43_3 y43_4 y43_5 lo hi h') ∧
    ∃ Fq10 : Addr → Nat → Nat → Heap → Prop, (∀ p4 lo hi h h', T h h' → Fq10 p4 lo hi h → Fq10 p4 lo hi h') ∧
    ∃ Fq11 : Addr → Nat → Nat → Heap → Prop, (∀ p5 lo hi h h', T h h' → Fq11 p5 lo hi h → Fq11 p5 lo hi h') ∧
    (∀ (h7 : Heap), T h6 h7 →
      cal Try.prog 11 #[Value.agg #[Value.int .i64 y35, Value.string y35_1, Value.bool y35_2, Value.int .i64 y35_3, Value.slice y35_4.a y35_4.n y35_4.c, Value.slice y35_5.a y35_5.n y35_5.c], Value.slice x37.a x37.n x37.c] h7 fun u_4 h8 => ∃ (y38 : Int) (y38_1 : ByteArray) (y38_2 : Bool) (y38_3 : Int) (y38_4 : Sv) (y38_5 : Sv), u_4 = Value.agg #[Value.int .i64 y38, Value.string y38_1, Value.bool y38_2, Value.int .i64 y38_3, Value.slice y38_4.a y38_4.n y38_4.c, Value.slice y38_5.a y38_5.n y38_5.c] ∧
      T h7 h8 ∧ Fq4 y38 y38_1 y38_2 y38_3 y38_4 y38_5 h7.size h8.size h8) ∧
    (∀ (y38 : Int) (y38_1 : ByteArray) (y38_2 : Bool) (y38_3 : Int) (y38_4 : Sv) (y38_5 : Sv) (lo4 hi4 : Nat) (h11 : Heap), T h6 h11 → Fq4 y38 y38_1 y38_2 y38_3 y38_4 y38_5 lo4 hi4 h11 →
      cal Try.prog 11 #[Value.agg #[Value.int .i64 y40, Value.string y40_1, Value.bool y40_2, Value.int .i64 y40_3, Value.slice y40_4.a y40_4.n y40_4.c, Value.slice y40_5.a y40_5.n y40_5.c], Value.slice x42.a x42.n x42.c] h11 fun u_6 h12 => ∃ (y43 : Int) (y43_1 : ByteArray) (y43_2 : Bool) (y43_3 : Int) (y43_4 : Sv) (y43_5 : Sv), u_6 = Value.agg #[Value.int .i64 y43, Value.string y43_1, Value.bool y43_2, Value.int .i64 y43_3, Value.slice y43_4.a y43_4.n y43_4.c, Value.slice y43_5.a y43_5.n y43_5.c] ∧
      T h11 h12 ∧ Fq9 y43 y43_1 y43_2 y43_3 y43_4 y43_5 h11.size h12.size h12) ∧
    (∀ (h15 : Heap), T h6 h15 →
      new 25 #[Value.int .i64 0, Value.string (⟨#[]⟩ : ByteArray), Value.bool false, Value.int .i64 0, Value.slice (⟨none, 0, 0⟩ : Sv).a (⟨none, 0, 0⟩ : Sv).n (⟨none, 0, 0⟩ : Sv).c, Value.slice (⟨none, 0, 0⟩ : Sv).a (⟨none, 0, 0⟩ : Sv).n (⟨none, 0, 0⟩ : Sv).c] h15 fun p4 h16 =>
      T h15 h16 ∧ Fq10 p4 h15.size h16.size h16) ∧
    (∀ (h19 : Heap), T h6 h19 →
      new 25 #[Value.int .i64 0, Value.string (⟨#[]⟩ : ByteArray), Value.bool false, Value.int .i64 0, Value.slice (⟨none, 0, 0⟩ : Sv).a (⟨none, 0, 0⟩ : Sv).n (⟨none, 0, 0⟩ : Sv).c, Value.slice (⟨none, 0, 0⟩ : Sv).a (⟨none, 0, 0⟩ : Sv).n (⟨none, 0, 0⟩ : Sv).c] h19 fun p5 h20 =>
      T h19 h20 ∧ Fq11 p5 h19.size h20.size h20) ∧
    (∀ (y38 : Int) (y38_1 : ByteArray) (y38_2 : Bool) (y38_3 : Int) (y38_4 : Sv) (y38_5 : Sv) (lo4 hi4 : Nat) (y43 : Int) (y43_1 : ByteArray) (y43_2 : Bool) (y43_3 : Int) (y43_4 : Sv) (y43_5 : Sv) (lo9 hi9 : Nat) (p4 : Addr) (lo10 hi10 : Nat) (p5 : Addr) (lo11 hi11 : Nat) (h23 : Heap), T h6 h23 → Dis h6.size h23.size [(lo4, hi4), (lo9, hi9), (lo10, hi10), (lo11, hi11)] → Fq4 y38 y38_1 y38_2 y38_3 y38_4 y38_5 lo4 hi4 h23 → Fq9 y43 y43_1 y43_2 y43_3 y43_4 y43_5 lo9 hi9 h23 → Fq10 p4 lo10 hi10 h23 → Fq11 p5 lo11 hi11 h23 →
    stoA h23 p4 [Value.int .i64 y38, Value.string y38_1, Value.bool y38_2, Value.int .i64 y38_3, Value.slice y38_4.a y38_4.n y38_4.c, Value.slice y38_5.a y38_5.n y38_5.c] fun h24 =>
    stoA h24 p5 [Value.int .i64 y43, Value.string y43_1, Value.bool y43_2, Value.int .i64 y43_3, Value.slice y43_4.a y43_4.n y43_4.c, Value.slice y43_5.a y43_5.n y43_5.c] fun h25 =>
    ∃ (y46 : Int) (y46_1 : ByteArray) (y46_2 : Bool) (y46_3 : Int) (y46_4 : Sv) (y46_5 : Sv), cl h25 p4 = some (Value.int .i64 y46) ∧ cl h25 (p4.add 1) = some (Value.string y46_1) ∧ cl h25 (p4.add 2) = some (Value.bool y46_2) ∧ cl h25 (p4.add 3) = some (Value.int .i64 y46_3) ∧ cl h25 (p4.add 4) = some (Value.slice y46_4.a y46_4.n y46_4.c) ∧ cl h25 (p4.add 5) = some (Value.slice y46_5.a y46_5.n y46_5.c) ∧
    ∃ (y47 : Int) (y47_1 : ByteArray) (y47_2 : Bool) (y47_3 : Int) (y47_4 : Sv) (y47_5 : Sv), cl h25 p5 = some (Value.int .i64 y47) ∧ cl h25 (p5.add 1) = some (Value.string y47_1) ∧ cl h25 (p5.add 2) = some (Value.bool y47_2) ∧ cl h25 (p5.add 3) = some (Value.int .i64 y47_3) ∧ cl h25 (p5.add 4) = some (Value.slice y47_4.a y47_4.n y47_4.c) ∧ cl h25 (p5.add 5) = some (Value.slice y47_5.a y47_5.n y47_5.c) ∧
    cal Try.prog 9 #[Value.map x33, Value.agg #[Value.int .i64 y46, Value.string y46_1, Value.bool y46_2, Value.int .i64 y46_3, Value.slice y46_4.a y46_4.n y46_4.c, Value.slice y46_5.a y46_5.n y46_5.c], Value.agg #[Value.int .i64 y47, Value.string y47_1, Value.bool y47_2, Value.int .i64 y47_3, Value.slice y47_4.a y47_4.n y47_4.c, Value.slice y47_5.a y47_5.n y47_5.c]] h25 fun u_8 h26 => ∃ (x48 : Sv) (x48_1 : Bool), u_8 = Value.tuple #[Value.slice x48.a x48.n x48.c, Value.bool x48_1] ∧
    ∃ (y53 : Int) (y53_1 : ByteArray) (y53_2 : Bool) (y53_3 : Int) (y53_4 : Sv) (y53_5 : Sv), cl h26 p5 = some (Value.int .i64 y53) ∧ cl h26 (p5.add 1) = some (Value.string y53_1) ∧ cl h26 (p5.add 2) = some (Value.bool y53_2) ∧ cl h26 (p5.add 3) = some (Value.int .i64 y53_3) ∧ cl h26 (p5.add 4) = some (Value.slice y53_4.a y53_4.n y53_4.c) ∧ cl h26 (p5.add 5) = some (Value.slice y53_5.a y53_5.n y53_5.c) ∧
    ∃ (y54 : Int) (y54_1 : ByteArray) (y54_2 : Bool) (y54_3 : Int) (y54_4 : Sv) (y54_5 : Sv), cl h26 p4 = some (Value.int .i64 y54) ∧ cl h26 (p4.add 1) = some (Value.string y54_1) ∧ cl h26 (p4.add 2) = some (Value.bool y54_2) ∧ cl h26 (p4.add 3) = some (Value.int .i64 y54_3) ∧ cl h26 (p4.add 4) = some (Value.slice y54_4.a y54_4.n y54_4.c) ∧ cl h26 (p4.add 5) = some (Value.slice y54_5.a y54_5.n y54_5.c) ∧
    cal Try.prog 9 #[Value.map x33, Value.agg #[Value.int .i64 y53, Value.string y53_1, Value.bool y53_2, Value.int .i64 y53_3, Value.slice y53_4.a y53_4.n y53_4.c, Value.slice y53_5.a y53_5.n y53_5.c], Value.agg #[Value.int .i64 y54, Value.string y54_1, Value.bool y54_2, Value.int .i64 y54_3, Value.slice y54_4.a y54_4.n y54_4.c, Value.slice y54_5.a y54_5.n y54_5.c]] h26 fun u_9 h27 => ∃ (x55 : Sv) (x55_1 : Bool), u_9 = Value.tuple #[Value.slice x55.a x55.n x55.c, Value.bool x55_1] ∧
    ∃ (y60 : Int) (y60_1 : ByteArray) (y60_2 : Bool) (y60_3 : Int) (y60_4 : Sv) (y60_5 : Sv), cl h27 p4 = some (Value.int .i64 y60) ∧ cl h27 (p4.add 1) = some (Value.string y60_1) ∧ cl h27 (p4.add 2) = some (Value.bool y60_2) ∧ cl h27 (p4.add 3) = some (Value.int .i64 y60_3) ∧ cl h27 (p4.add 4) = some (Value.slice y60_4.a y60_4.n y60_4.c) ∧ cl h27 (p4.add 5) = some (Value.slice y60_5.a y60_5.n y60_5.c) ∧
    ∃ (y61 : Int) (y61_1 : ByteArray) (y61_2 : Bool) (y61_3 : Int) (y61_4 : Sv) (y61_5 : Sv), cl h27 p5 = some (Value.int .i64 y61) ∧ cl h27 (p5.add 1) = some (Value.string y61_1) ∧ cl h27 (p5.add 2) = some (Value.bool y61_2) ∧ cl h27 (p5.add 3) = some (Value.int .i64 y61_3) ∧ cl h27 (p5.add 4) = some (Value.slice y61_4.a y61_4.n y61_4.c) ∧ cl h27 (p5.add 5) = some (Value.slice y61_5.a y61_5.n y61_5.c) ∧
    cal Try.prog 13 #[Value.map x33, Value.agg #[Value.int .i64 y60, Value.string y60_1, Value.bool y60_2, Value.int .i64 y60_3, Value.slice y60_4.a y60_4.n y60_4.c, Value.slice y60_5.a y60_5.n y60_5.c], Value.agg #[Value.int .i64 y61, Value.string y61_1, Value.bool y61_2, Value.int .i64 y61_3, Value.slice y61_4.a y61_4.n y61_4.c, Value.slice y61_5.a y61_5.n y61_5.c]] h27 fun u_10 h28 => ∃ (x62 : Sv) (x62_1 : Bool), u_10 = Value.tuple #[Value.slice x62.a x62.n x62.c, Value.bool x62_1] ∧
    ∃ J_2 : Bool → Heap → Prop, (
      ifb x48_1 (
        ifb x55_1 (
          ifb x62_1 (
            cal Try.prog 12 #[Value.slice x48.a x48.n x48.c, Value.slice (⟨some (p1.add 9), 8, 8⟩ : Sv).a (⟨some (p1.add 9), 8, 8⟩ : Sv).n (⟨some (p1.add 9), 8, 8⟩ : Sv).c] h28 fun u_11 h29 => asB u_11 fun x76 =>
            ifb x76 (
              cal Try.prog 12 #[Value.slice x55.a x55.n x55.c, Value.slice (⟨some (p1.add 9), 8, 8⟩ : Sv).a (⟨some (p1.add 9), 8, 8⟩ : Sv).n (⟨some (p1.add 9), 8, 8⟩ : Sv).c] h29 fun u_12 h30 => asB u_12 fun x81 =>
              cal Try.prog 12 #[Value.slice x62.a x62.n x62.c, Value.slice (⟨some (p1.add 9), 8, 8⟩ : Sv).a (⟨some (p1.add 9), 8, 8⟩ : Sv).n (⟨some (p1.add 9), 8, 8⟩ : Sv).c] h30 fun u_13 h31 => asB u_13 fun x86 =>
              J_2 (x81 == x86) h31) (
              cal Try.prog 12 #[Value.slice x62.a x62.n x62.c, Value.slice (⟨some (p1.add 9), 8, 8⟩ : Sv).a (⟨some (p1.add 9), 8, 8⟩ : Sv).n (⟨some (p1.add 9), 8, 8⟩ : Sv).c] h29 fun u_14 h32 => asB u_14 fun x86_1 =>
              J_2 (false == x86_1) h32)) (
            J_2 false h28)) (
          J_2 false h28)) (
        J_2 false h28)) ∧ (∀ x2 h33, J_2 x2 h33 →
    R (Value.bool x2) h33)))

set_option maxRecDepth 100000 in

theorem F6 {c0 c0_1 c0_2 c0_3 c0_4 c0_5 c0_6 c0_7 c0_8 c0_9 c0_10 c0_11 c0_12 c0_13 c0_14 c0_15 c0_16 c0_17 h : _} {R : Value → Heap → Prop} (H : L6 c0 c0_1 c0_2 c0_3 c0_4 c0_5 c0_6 c0_7 c0_8 c0_9 c0_10 c0_11 c0_12 c0_13 c0_14 c0_15 c0_16 c0_17 h R) : CallsH Try.prog 6 #[Value.agg #[Value.int .i64 c0, Value.string c0_1, Value.bool c0_2, Value.int .i64 c0_3, Value.slice c0_4.a c0_4.n c0_4.c, Value.slice c0_5.a c0_5.n c0_5.c, Value.slice c0_6.a c0_6.n c0_6.c, Value.slice c0_7.a c0_7.n c0_7.c, Value.slice c0_8.a c0_8.n c0_8.c, Value.int .u64 c0_9, Value.int .u64 c0_10, Value.int .u64 c0_11, Value.int .u64 c0_12, Value.int .u64 c0_13, Value.int .u64 c0_14, Value.int .u64 c0_15, Value.int .u64 c0_16, Value.int .u64 c0_17]] h R := by
  refine CallsH.enter (n := 89) Try.func6 rfl rfl rfl rfl ?_
  intro w0 aa ww S
  unfold L6 at H
  refine W.seq ?_
  replace S := S.sub [(0, Value.agg #[Value.int .i64 c0, Value.string c0_1, Value.bool c0_2, Value.int .i64 c0_3, Value.slice c0_4.a c0_4.n c0_4.c, Value.slice c0_5.a c0_5.n c0_5.c, Value.slice c0_6.a c0_6.n c0_6.c, Value.slice c0_7.a c0_7.n c0_7.c, Value.slice c0_8.a c0_8.n c0_8.c, Value.int .u64 c0_9, Value.int .u64 c0_10, Value.int .u64 c0_11, Value.int .u64 c0_12, Value.int .u64 c0_13, Value.int .u64 c0_14, Value.int .u64 c0_15, Value.int .u64 c0_16, Value.int .u64 c0_17])] ⟨rfl, trivial⟩
  refine W.region ?_
  refine ol_box S H rfl rfl rfl trivial ?_
  clear S H aa; intro p1 aa ww h1 H S
  refine OL.pure S (Lf.run_assign (S.ev rfl)) rfl rfl trivial ?_
  clear S; intro aa S
  refine OL.nil ?_
  refine W.seq ?_
  refine W.seq ?_
  replace S := S.sub [(1, Value.pointer (some p1))] ⟨rfl, trivial⟩
  refine W.region ?_
  refine ol_cal S H isfn7 rfl rfl trivial ?_
  clear S H aa; intro u aa ww h2 H S
  obtain ⟨x12, rfl, H⟩ := H
  refine OL.pure S (Lf.run_not (S.ev rfl)) rfl rfl trivial ?_
  clear S; intro aa S
  refine OL.pure S (Lf.run_move (S.ev rfl)) rfl rfl trivial ?_
  clear S; intro aa S
  obtain ⟨J, H, HK⟩ := H
  refine OL.cutN 5 (fun aa ww => ∃ x19 h3, St 89 ((19, Value.bool x19) :: [(1, Value.pointer (some p1)), (12, Value.bool x12), (13, Value.bool (!x12)), (14, Value.bool (!x12))]) h3 w0 aa ww ∧ J x19 h3) ?_ ?_
  · rcases Bool.eq_false_or_eq_true (!x12) with hb | hb
    · replace H := H.1 hb
      refine OL.not S rfl rfl (GNo.mk rfl rfl hb) ?_
      clear S; intro aa S
      refine OL.not S rfl rfl (GNo.mk rfl rfl hb) ?_
      clear S; intro aa S
      refine OL.not S rfl rfl (GNo.mk rfl rfl hb) ?_
      clear S; intro aa S
      refine OL.not S rfl rfl (GNo.mk rfl rfl hb) ?_
      clear S; intro aa S
      refine OL.pure S (Lf.run_pickT (S.ev rfl) hb (S.ev rfl)) rfl rfl trivial ?_
      clear S; intro aa S
      refine OL.nil ?_
      exact ⟨_, _, S.sub _ ⟨rfl, rfl, rfl, rfl, rfl, trivial⟩, H⟩
    · replace H := H.2 hb
      refine OL.pure S (Lf.run_fa (S.ev rfl) fa39_0) rfl rfl (GOk.mk rfl rfl hb) ?_
      clear S; intro aa S
      obtain ⟨y16, y16_1, y16_2, y16_3, y16_4, y16_5, c_1, c_2, c_3, c_4, c_5, c_6, H⟩ := H
      refine OL.pure S (Lf.run_ldA (cs := [Value.int .i64 y16, Value.string y16_1, Value.bool y16_2, Value.int .i64 y16_3, Value.slice y16_4.a y16_4.n y16_4.c, Value.slice y16_5.a y16_5.n y16_5.c]) (S.ev rfl) ag25 ti25 (by rw [S.heap]; exact RowL.toRow ⟨c_1, c_2, c_3, c_4, c_5, c_6, trivial⟩)) rfl rfl (GOk.mk rfl rfl hb) ?_
      clear S; intro aa S
      refine ol_cal S H isfn8 rfl rfl (GOk.mk rfl rfl hb) ?_
      clear S H aa; intro u_1 aa ww h4 H S
      obtain ⟨x17, rfl, H⟩ := H
      refine OL.pure S (Lf.run_not (S.ev rfl)) rfl rfl (GOk.mk rfl rfl hb) ?_
      clear S; intro aa S
      refine OL.pure S (Lf.run_pickF (S.ev rfl) hb (S.ev rfl)) rfl rfl trivial ?_
      clear S; intro aa S
      refine OL.nil ?_
      exact ⟨_, _, S.sub _ ⟨rfl, rfl, rfl, rfl, rfl, trivial⟩, H⟩
  · clear S aa
    rintro aa ww ⟨x19, h3, S, HJ⟩
    replace H := HK _ _ HJ
    clear HK HJ
    refine OL.pure S (Lf.run_move (S.ev rfl)) rfl rfl trivial ?_
    clear S; intro aa S
    obtain ⟨J_1, H, HK_1⟩ := H
    refine OL.cutN 9 (fun aa ww => ∃ x29, St 89 ((29, Value.bool x29) :: [(1, Value.pointer (some p1)), (12, Value.bool x12), (13, Value.bool (!x12)), (14, Value.bool (!x12)), (19, Value.bool x19), (20, Value.bool x19)]) h3 w0 aa ww ∧ J_1 x29) ?_ ?_
    · rcases Bool.eq_false_or_eq_true x19 with hb_1 | hb_1
      · replace H := H.1 hb_1
        refine OL.not S rfl rfl (GNo.mk rfl rfl hb_1) ?_
        clear S; intro aa S
        refine OL.not S rfl rfl (GNo.mk rfl rfl hb_1) ?_
        clear S; intro aa S
        refine OL.not S rfl rfl (GNo.mk rfl rfl hb_1) ?_
        clear S; intro aa S
        refine OL.not S rfl rfl (GNo.mk rfl rfl hb_1) ?_
        clear S; intro aa S
        refine OL.not S rfl rfl (GNo.mk rfl rfl hb_1) ?_
        clear S; intro aa S
        refine OL.not S rfl rfl (GNo.mk rfl rfl hb_1) ?_
        clear S; intro aa S
        refine OL.not S rfl rfl (GNo.mk rfl rfl hb_1) ?_
        clear S; intro aa S
        refine OL.not S rfl rfl (GNo.mk rfl rfl hb_1) ?_
        clear S; intro aa S
        refine OL.pure S (Lf.run_pickT (S.ev rfl) hb_1 (S.ev rfl)) rfl rfl trivial ?_
        clear S; intro aa S
        refine OL.nil ?_
        exact ⟨_, S.sub _ ⟨rfl, rfl, rfl, rfl, rfl, rfl, rfl, trivial⟩, H⟩
      · replace H := H.2 hb_1
        refine OL.pure S (Lf.run_fa (S.ev rfl) fa39_1) rfl rfl (GOk.mk rfl rfl hb_1) ?_
        clear S; intro aa S
        obtain ⟨x22, c_7, H⟩ := H
        refine OL.pure S (Lf.run_ld (S.ev rfl) fl22 (S.cl c_7)) rfl rfl (GOk.mk rfl rfl hb_1) ?_
        clear S; intro aa S
        refine OL.pure S (Lf.run_lens (S.ev rfl) rfl Try.underlying22) rfl rfl (GOk.mk rfl rfl hb_1) ?_
        clear S; intro aa S
        refine OL.pure S (Lf.run_fa (S.ev rfl) fa39_2) rfl rfl (GOk.mk rfl rfl hb_1) ?_
        clear S; intro aa S
        obtain ⟨x25, c_8, H⟩ := H
        refine OL.pure S (Lf.run_ld (S.ev rfl) fl22 (S.cl c_8)) rfl rfl (GOk.mk rfl rfl hb_1) ?_
        clear S; intro aa S
        refine OL.pure S (Lf.run_lens (S.ev rfl) rfl Try.underlying22) rfl rfl (GOk.mk rfl rfl hb_1) ?_
        clear S; intro aa S
        refine OL.pure S (Lf.run_add (S.ev rfl) (S.ev rfl)) rfl rfl (GOk.mk rfl rfl hb_1) ?_
        clear S; intro aa S
        refine OL.pure S (Lf.run_gtr (S.ev rfl) (S.ev rfl)) rfl rfl (GOk.mk rfl rfl hb_1) ?_
        clear S; intro aa S
        refine OL.pure S (Lf.run_pickF (S.ev rfl) hb_1 (S.ev rfl)) rfl rfl trivial ?_
        clear S; intro aa S
        refine OL.nil ?_
        exact ⟨_, S.sub _ ⟨rfl, rfl, rfl, rfl, rfl, rfl, rfl, trivial⟩, H⟩
    · clear S aa
      rintro aa ww ⟨x29, S, HJ⟩
      replace H := HK_1 _ HJ
      clear HK_1 HJ
      refine OL.nil ?_
      refine W.cond S (b := x29) rfl (fun hb_2 => ?_) (fun hb_2 => ?_)
      · replace H := H.1 hb_2
        refine W.seq ?_
        replace S := S.sub [] trivial
        refine W.region ?_
        refine ol_cal S H isfn7 rfl rfl trivial ?_
        clear S H aa; intro u_2 aa ww h5 H S
        obtain ⟨x30, rfl, H⟩ := H
        refine OL.pure S (Lf.run_assign (S.ev rfl)) rfl rfl trivial ?_
        clear S; intro aa S
        refine OL.nil ?_
        refine W.ret ?_
        exact Ret.one S rfl rfl H
      · replace H := H.2 hb_2
        refine W.skip ?_
        refine W.seq ?_
        replace S := S.sub [(1, Value.pointer (some p1))] ⟨rfl, trivial⟩
        refine W.region ?_
        refine OL.pure S (Lf.run_fa (S.ev rfl) fa39_5) rfl rfl trivial ?_
        clear S; intro aa S
        obtain ⟨x32, c_9, H⟩ := H
        refine OL.pure S (Lf.run_ld (S.ev rfl) fl26 (S.cl c_9)) rfl rfl trivial ?_
        clear S; intro aa S
        refine ol_cal S H isfn10 rfl rfl trivial ?_
        clear S H aa; intro u_3 aa ww h6 H S
        obtain ⟨x33, rfl, H⟩ := H
        refine OL.pure S (Lf.run_assign (S.ev rfl)) rfl rfl trivial ?_
        clear S; intro aa S
        refine OL.nil ?_
        refine W.seq ?_
        replace S := S.sub [(1, Value.pointer (some p1)), (3, Value.map x33)] ⟨rfl, rfl, trivial⟩
        refine W.regionD S (by kernel_rfl) ?_
        clear S; intro ww S
        refine AN.pure 0 S rfl (by kernel_rfl) (fun _ => Lf.run_fa (S.ev rfl) fa39_0) rfl rfl trivial ?_
        clear S; intro aa S
        refine AN.pure 2 S rfl (by kernel_rfl) (fun _ => Lf.run_fa (S.ev rfl) fa39_1) rfl rfl trivial ?_
        clear S; intro aa S
        refine AN.pure 5 S rfl (by kernel_rfl) (fun _ => Lf.run_fa (S.ev rfl) fa39_0) rfl rfl trivial ?_
        clear S; intro aa S
        refine AN.pure 7 S rfl (by kernel_rfl) (fun _ => Lf.run_fa (S.ev rfl) fa39_2) rfl rfl trivial ?_
        clear S; intro aa S
        obtain ⟨T, hT, H⟩ := H
        obtain ⟨y35, y35_1, y35_2, y35_3, y35_4, y35_5, c_10, c_11, c_12, c_13, c_14, c_15, H⟩ := H
        obtain ⟨x37, c_16, H⟩ := H
        obtain ⟨y40, y40_1, y40_2, y40_3, y40_4, y40_5, c_17, c_18, c_19, c_20, c_21, c_22, H⟩ := H
        obtain ⟨x42, c_23, H⟩ := H
        obtain ⟨Fq4, sq, H⟩ := H
        obtain ⟨Fq9, sq_1, H⟩ := H
        obtain ⟨Fq10, sq_2, H⟩ := H
        obtain ⟨Fq11, sq_3, H⟩ := H
        obtain ⟨Oq, Oq_1, Oq_2, Oq_3, H⟩ := H
        let gq1 : GOp := ⟨1, 35, false, [1], fun lq => Value.agg #[Value.int .i64 y35, Value.string y35_1, Value.bool y35_2, Value.int .i64 y35_3, Value.slice y35_4.a y35_4.n y35_4.c, Value.slice y35_5.a y35_5.n y35_5.c], fun _ _ _ _ => True⟩
        let gq3 : GOp := ⟨3, 37, false, [3], fun lq => Value.slice x37.a x37.n x37.c, fun _ _ _ _ => True⟩
        let gq4 : GOp := ⟨4, 38, true, [4], fun lq => Value.agg #[Value.int .i64 (pI (pC 0 (nth lq 0))), Value.string (pT (pC 1 (nth lq 0))), Value.bool (pB (pC 2 (nth lq 0))), Value.int .i64 (pI (pC 3 (nth lq 0))), Value.slice (pS (pC 4 (nth lq 0))).a (pS (pC 4 (nth lq 0))).n (pS (pC 4 (nth lq 0))).c, Value.slice (pS (pC 5 (nth lq 0))).a (pS (pC 5 (nth lq 0))).n (pS (pC 5 (nth lq 0))).c], fun lq lo hi h => Fq4 (pI (pC 0 (nth lq 0))) (pT (pC 1 (nth lq 0))) (pB (pC 2 (nth lq 0))) (pI (pC 3 (nth lq 0))) (pS (pC 4 (nth lq 0))) (pS (pC 5 (nth lq 0))) lo hi h⟩
        let gq6 : GOp := ⟨6, 40, false, [6], fun lq => Value.agg #[Value.int .i64 y40, Value.string y40_1, Value.bool y40_2, Value.int .i64 y40_3, Value.slice y40_4.a y40_4.n y40_4.c, Value.slice y40_5.a y40_5.n y40_5.c], fun _ _ _ _ => True⟩
        let gq8 : GOp := ⟨8, 42, false, [8], fun lq => Value.slice x42.a x42.n x42.c, fun _ _ _ _ => True⟩
        let gq9 : GOp := ⟨9, 43, true, [9, 4], fun lq => Value.agg #[Value.int .i64 (pI (pC 0 (nth lq 0))), Value.string (pT (pC 1 (nth lq 0))), Value.bool (pB (pC 2 (nth lq 0))), Value.int .i64 (pI (pC 3 (nth lq 0))), Value.slice (pS (pC 4 (nth lq 0))).a (pS (pC 4 (nth lq 0))).n (pS (pC 4 (nth lq 0))).c, Value.slice (pS (pC 5 (nth lq 0))).a (pS (pC 5 (nth lq 0))).n (pS (pC 5 (nth lq 0))).c], fun lq lo hi h => Fq9 (pI (pC 0 (nth lq 0))) (pT (pC 1 (nth lq 0))) (pB (pC 2 (nth lq 0))) (pI (pC 3 (nth lq 0))) (pS (pC 4 (nth lq 0))) (pS (pC 5 (nth lq 0))) lo hi h⟩
        let gq10 : GOp := ⟨10, 4, true, [10], fun lq => Value.pointer (some (pA (nth lq 0))), fun lq lo hi h => Fq10 (pA (nth lq 0)) lo hi h⟩
        let gq11 : GOp := ⟨11, 5, true, [11], fun lq => Value.pointer (some (pA (nth lq 0))), fun lq lo hi h => Fq11 (pA (nth lq 0)) lo hi h⟩
        replace S := S.sub [(1, Value.pointer (some p1)), (3, Value.map x33), (34, Value.pointer (some p1)), (36, Value.pointer (some (p1.add 6))), (39, Value.pointer (some p1)), (41, Value.pointer (some (p1.add 7)))] ⟨rfl, rfl, rfl, rfl, rfl, rfl, trivial⟩
        refine AN.group (fuel := 2) T hT [(gq1, []), (gq3, []), (gq4, [gq1, gq3]), (gq6, []), (gq8, []), (gq9, [gq4, gq6, gq8]), (gq10, []), (gq11, [])] [(1, 35, [1], []), (3, 37, [3], []), (4, 38, [4], [1, 3]), (6, 40, [6], []), (8, 42, [8], []), (9, 43, [9, 4], [4, 6, 8]), (10, 4, [10], []), (11, 5, [11], [])] [1, 3, 34, 36, 39, 41] S rfl rfl (by kernel_rfl) (by simp) ⟨?_, ?_, ?_, ?_, ?_, ?_, ?_, ?_, trivial⟩ ?_
        · refine ⟨_, rfl, rfl, fun _ _ _ _ _ _ _ => trivial, ?_⟩
          intro Xg Bg aa ww h34 Ef S hTg hok
          replace S : St 89 ((1, Value.pointer (some p1)) :: (3, Value.map x33) :: (34, Value.pointer (some p1)) :: (36, Value.pointer (some (p1.add 6))) :: (39, Value.pointer (some p1)) :: (41, Value.pointer (some (p1.add 7))) :: Ef) h34 w0 aa ww := S
          refine OL.pure S (Lf.run_ldA (cs := [Value.int .i64 y35, Value.string y35_1, Value.bool y35_2, Value.int .i64 y35_3, Value.slice y35_4.a y35_4.n y35_4.c, Value.slice y35_5.a y35_5.n y35_5.c]) (S.ev rfl) ag25 ti25 (by rw [S.heap]; exact RowL.toRow ⟨c_10 _ hTg, c_11 _ hTg, c_12 _ hTg, c_13 _ hTg, c_14 _ hTg, c_15 _ hTg, trivial⟩)) rfl rfl trivial ?_
          clear S; intro aa S
          refine OL.nil ?_
          exact ⟨undef, _, S, hT.refl _, trivial⟩
        · refine ⟨_, rfl, rfl, fun _ _ _ _ _ _ _ => trivial, ?_⟩
          intro Xg Bg aa ww h35 Ef S hTg hok
          replace S : St 89 ((1, Value.pointer (some p1)) :: (3, Value.map x33) :: (34, Value.pointer (some p1)) :: (36, Value.pointer (some (p1.add 6))) :: (39, Value.pointer (some p1)) :: (41, Value.pointer (some (p1.add 7))) :: Ef) h35 w0 aa ww := S
          refine OL.pure S (Lf.run_ld (S.ev rfl) fl22 (S.cl (c_16 _ hTg))) rfl rfl trivial ?_
          clear S; intro aa S
          refine OL.nil ?_
          exact ⟨undef, _, S, hT.refl _, trivial⟩
        · refine ⟨_, rfl, rfl, fun _ _ _ _ _ ht hf => sq _ _ _ _ _ _ _ _ _ _ ht hf, ?_⟩
          intro Xg Bg aa ww h9 Ef S hTg hok
          obtain ⟨kq1, kq3, -⟩ := hok
          replace S : St 89 ((35, Value.agg #[Value.int .i64 y35, Value.string y35_1, Value.bool y35_2, Value.int .i64 y35_3, Value.slice y35_4.a y35_4.n y35_4.c, Value.slice y35_5.a y35_5.n y35_5.c]) :: (37, Value.slice x37.a x37.n x37.c) :: (1, Value.pointer (some p1)) :: (3, Value.map x33) :: (34, Value.pointer (some p1)) :: (36, Value.pointer (some (p1.add 6))) :: (39, Value.pointer (some p1)) :: (41, Value.pointer (some (p1.add 7))) :: Ef) h9 w0 aa ww := S
          have H := Oq h9 hTg
          refine ol_cal S H isfn11 rfl rfl trivial ?_
          clear S H aa; intro u_5 aa ww h10 H S
          obtain ⟨y38_6, y38_7, y38_8, y38_9, y38_10, y38_11, rfl, H⟩ := H
          refine OL.nil ?_
          exact ⟨Value.agg #[Value.int .i64 y38_6, Value.string y38_7, Value.bool y38_8, Value.int .i64 y38_9, Value.slice y38_10.a y38_10.n y38_10.c, Value.slice y38_11.a y38_11.n y38_11.c], _, S, H.1, H.2⟩
        · refine ⟨_, rfl, rfl, fun _ _ _ _ _ _ _ => trivial, ?_⟩
          intro Xg Bg aa ww h36 Ef S hTg hok
          replace S : St 89 ((1, Value.pointer (some p1)) :: (3, Value.map x33) :: (34, Value.pointer (some p1)) :: (36, Value.pointer (some (p1.add 6))) :: (39, Value.pointer (some p1)) :: (41, Value.pointer (some (p1.add 7))) :: Ef) h36 w0 aa ww := S
          refine OL.pure S (Lf.run_ldA (cs := [Value.int .i64 y40, Value.string y40_1, Value.bool y40_2, Value.int .i64 y40_3, Value.slice y40_4.a y40_4.n y40_4.c, Value.slice y40_5.a y40_5.n y40_5.c]) (S.ev rfl) ag25 ti25 (by rw [S.heap]; exact RowL.toRow ⟨c_17 _ hTg, c_18 _ hTg, c_19 _ hTg, c_20 _ hTg, c_21 _ hTg, c_22 _ hTg, trivial⟩)) rfl rfl trivial ?_
          clear S; intro aa S
          refine OL.nil ?_
          exact ⟨undef, _, S, hT.refl _, trivial⟩
        · refine ⟨_, rfl, rfl, fun _ _ _ _ _ _ _ => trivial, ?_⟩
          intro Xg Bg aa ww h37 Ef S hTg hok
          replace S : St 89 ((1, Value.pointer (some p1)) :: (3, Value.map x33) :: (34, Value.pointer (some p1)) :: (36, Value.pointer (some (p1.add 6))) :: (39, Value.pointer (some p1)) :: (41, Value.pointer (some (p1.add 7))) :: Ef) h37 w0 aa ww := S
          refine OL.pure S (Lf.run_ld (S.ev rfl) fl22 (S.cl (c_23 _ hTg))) rfl rfl trivial ?_
          clear S; intro aa S
          refine OL.nil ?_
          exact ⟨undef, _, S, hT.refl _, trivial⟩
        · refine ⟨_, rfl, rfl, fun _ _ _ _ _ ht hf => sq_1 _ _ _ _ _ _ _ _ _ _ ht hf, ?_⟩
          intro Xg Bg aa ww h13 Ef S hTg hok
          obtain ⟨kq4, kq6, kq8, -⟩ := hok
          replace S : St 89 ((38, Value.agg #[Value.int .i64 (pI (pC 0 (Xg 4))), Value.string (pT (pC 1 (Xg 4))), Value.bool (pB (pC 2 (Xg 4))), Value.int .i64 (pI (pC 3 (Xg 4))), Value.slice (pS (pC 4 (Xg 4))).a (pS (pC 4 (Xg 4))).n (pS (pC 4 (Xg 4))).c, Value.slice (pS (pC 5 (Xg 4))).a (pS (pC 5 (Xg 4))).n (pS (pC 5 (Xg 4))).c]) :: (40, Value.agg #[Value.int .i64 y40, Value.string y40_1, Value.bool y40_2, Value.int .i64 y40_3, Value.slice y40_4.a y40_4.n y40_4.c, Value.slice y40_5.a y40_5.n y40_5.c]) :: (42, Value.slice x42.a x42.n x42.c) :: (1, Value.pointer (some p1)) :: (3, Value.map x33) :: (34, Value.pointer (some p1)) :: (36, Value.pointer (some (p1.add 6))) :: (39, Value.pointer (some p1)) :: (41, Value.pointer (some (p1.add 7))) :: Ef) h13 w0 aa ww := S
          have H := Oq_1 (pI (pC 0 (Xg 4))) (pT (pC 1 (Xg 4))) (pB (pC 2 (Xg 4))) (pI (pC 3 (Xg 4))) (pS (pC 4 (Xg 4))) (pS (pC 5 (Xg 4))) (Bg 4).1 (Bg 4).2 h13 hTg kq4
          refine ol_cal S H isfn11 rfl rfl trivial ?_
          clear S H aa; intro u_7 aa ww h14 H S
          obtain ⟨y43_6, y43_7, y43_8, y43_9, y43_10, y43_11, rfl, H⟩ := H
          refine OL.nil ?_
          exact ⟨Value.agg #[Value.int .i64 y43_6, Value.string y43_7, Value.bool y43_8, Value.int .i64 y43_9, Value.slice y43_10.a y43_10.n y43_10.c, Value.slice y43_11.a y43_11.n y43_11.c], _, S, H.1, H.2⟩
        · refine ⟨_, rfl, rfl, fun _ _ _ _ _ ht hf => sq_2 _ _ _ _ _ ht hf, ?_⟩
          intro Xg Bg aa ww h17 Ef S hTg hok
          replace S : St 89 ((1, Value.pointer (some p1)) :: (3, Value.map x33) :: (34, Value.pointer (some p1)) :: (36, Value.pointer (some (p1.add 6))) :: (39, Value.pointer (some p1)) :: (41, Value.pointer (some (p1.add 7))) :: Ef) h17 w0 aa ww := S
          have H := Oq_2 h17 hTg
          refine ol_alloc S H ti25 rfl rfl trivial ?_
          clear S H aa; intro p4_1 aa ww h18 H S
          refine OL.nil ?_
          exact ⟨Value.pointer (some p4_1), _, S, H.1, H.2⟩
        · refine ⟨_, rfl, rfl, fun _ _ _ _ _ ht hf => sq_3 _ _ _ _ _ ht hf, ?_⟩
          intro Xg Bg aa ww h21 Ef S hTg hok
          replace S : St 89 ((1, Value.pointer (some p1)) :: (3, Value.map x33) :: (34, Value.pointer (some p1)) :: (36, Value.pointer (some (p1.add 6))) :: (39, Value.pointer (some p1)) :: (41, Value.pointer (some (p1.add 7))) :: Ef) h21 w0 aa ww := S
          have H := Oq_3 h21 hTg
          refine ol_alloc S H ti25 rfl rfl trivial ?_
          clear S H aa; intro p5_1 aa ww h22 H S
          refine OL.nil ?_
          exact ⟨Value.pointer (some p5_1), _, S, H.1, H.2⟩
        clear S aa ww
        intro Xg Bg aa ww h23 S hTg hok hdis
        obtain ⟨kq1, kq3, kq4, kq6, kq8, kq9, kq10, kq11, -⟩ := hok
        replace H := H (pI (pC 0 (Xg 4))) (pT (pC 1 (Xg 4))) (pB (pC 2 (Xg 4))) (pI (pC 3 (Xg 4))) (pS (pC 4 (Xg 4))) (pS (pC 5 (Xg 4))) (Bg 4).1 (Bg 4).2 (pI (pC 0 (Xg 9))) (pT (pC 1 (Xg 9))) (pB (pC 2 (Xg 9))) (pI (pC 3 (Xg 9))) (pS (pC 4 (Xg 9))) (pS (pC 5 (Xg 9))) (Bg 9).1 (Bg 9).2 (pA (Xg 10)) (Bg 10).1 (Bg 10).2 (pA (Xg 11)) (Bg 11).1 (Bg 11).2 h23 hTg hdis kq4 kq9 kq10 kq11
        replace S := S.sub [(1, Value.pointer (some p1)), (3, Value.map x33), (4, Value.pointer (some (pA (Xg 10)))), (5, Value.pointer (some (pA (Xg 11)))), (34, Value.pointer (some p1)), (35, Value.agg #[Value.int .i64 y35, Value.string y35_1, Value.bool y35_2, Value.int .i64 y35_3, Value.slice y35_4.a y35_4.n y35_4.c, Value.slice y35_5.a y35_5.n y35_5.c]), (36, Value.pointer (some (p1.add 6))), (37, Value.slice x37.a x37.n x37.c), (38, Value.agg #[Value.int .i64 (pI (pC 0 (Xg 4))), Value.string (pT (pC 1 (Xg 4))), Value.bool (pB (pC 2 (Xg 4))), Value.int .i64 (pI (pC 3 (Xg 4))), Value.slice (pS (pC 4 (Xg 4))).a (pS (pC 4 (Xg 4))).n (pS (pC 4 (Xg 4))).c, Value.slice (pS (pC 5 (Xg 4))).a (pS (pC 5 (Xg 4))).n (pS (pC 5 (Xg 4))).c]), (39, Value.pointer (some p1)), (40, Value.agg #[Value.int .i64 y40, Value.string y40_1, Value.bool y40_2, Value.int .i64 y40_3, Value.slice y40_4.a y40_4.n y40_4.c, Value.slice y40_5.a y40_5.n y40_5.c]), (41, Value.pointer (some (p1.add 7))), (42, Value.slice x42.a x42.n x42.c), (43, Value.agg #[Value.int .i64 (pI (pC 0 (Xg 9))), Value.string (pT (pC 1 (Xg 9))), Value.bool (pB (pC 2 (Xg 9))), Value.int .i64 (pI (pC 3 (Xg 9))), Value.slice (pS (pC 4 (Xg 9))).a (pS (pC 4 (Xg 9))).n (pS (pC 4 (Xg 9))).c, Value.slice (pS (pC 5 (Xg 9))).a (pS (pC 5 (Xg 9))).n (pS (pC 5 (Xg 9))).c])] ⟨rfl, rfl, rfl, rfl, rfl, rfl, rfl, rfl, rfl, rfl, rfl, rfl, rfl, rfl, trivial⟩
        generalize (pI (pC 0 (Xg 4))) = y38 at H S
        generalize (pT (pC 1 (Xg 4))) = y38_1 at H S
        generalize (pB (pC 2 (Xg 4))) = y38_2 at H S
        generalize (pI (pC 3 (Xg 4))) = y38_3 at H S
        generalize (pS (pC 4 (Xg 4))) = y38_4 at H S
        generalize (pS (pC 5 (Xg 4))) = y38_5 at H S
        generalize (pI (pC 0 (Xg 9))) = y43 at H S
        generalize (pT (pC 1 (Xg 9))) = y43_1 at H S
        generalize (pB (pC 2 (Xg 9))) = y43_2 at H S
        generalize (pI (pC 3 (Xg 9))) = y43_3 at H S
        generalize (pS (pC 4 (Xg 9))) = y43_4 at H S
        generalize (pS (pC 5 (Xg 9))) = y43_5 at H S
        generalize (pA (Xg 10)) = p4 at H S
        generalize (pA (Xg 11)) = p5 at H S
        generalize Bg 4 = bq4 at H
        generalize Bg 9 = bq9 at H
        generalize Bg 10 = bq10 at H
        generalize Bg 11 = bq11 at H
        clear hTg hdis kq11 kq10 kq9 kq8 kq6 kq4 kq3 kq1 gq11 gq10 gq9 gq8 gq6 gq4 gq3 gq1 Oq Oq_1 Oq_2 Oq_3 sq sq_1 sq_2 sq_3
        refine AN.eff 12 rfl (by kernel_rfl) ?_
        refine ol_stoA S H rfl rfl ti25 trivial ?_
        clear S H aa; intro aa ww h24 H S
        refine OL.nil ?_
        refine AN.eff 13 rfl (by kernel_rfl) ?_
        refine ol_stoA S H rfl rfl ti25 trivial ?_
        clear S H aa; intro aa ww h25 H S
        refine OL.nil ?_
        refine AN.done (by kernel_rfl) ?_
        refine W.seq ?_
        replace S := S.sub [(1, Value.pointer (some p1)), (3, Value.map x33), (4, Value.pointer (some p4)), (5, Value.pointer (some p5))] ⟨rfl, rfl, rfl, rfl, trivial⟩
        refine W.region ?_
        refine OL.pure S (Lf.run_move (S.ev rfl)) rfl rfl trivial ?_
        clear S; intro aa S
        obtain ⟨y46, y46_1, y46_2, y46_3, y46_4, y46_5, c_72, c_73, c_74, c_75, c_76, c_77, H⟩ := H
        refine OL.pure S (Lf.run_ldA (cs := [Value.int .i64 y46, Value.string y46_1, Value.bool y46_2, Value.int .i64 y46_3, Value.slice y46_4.a y46_4.n y46_4.c, Value.slice y46_5.a y46_5.n y46_5.c]) (S.ev rfl) ag25 ti25 (by rw [S.heap]; exact RowL.toRow ⟨c_72, c_73, c_74, c_75, c_76, c_77, trivial⟩)) rfl rfl trivial ?_
        clear S; intro aa S
        obtain ⟨y47, y47_1, y47_2, y47_3, y47_4, y47_5, c_66, c_67, c_68, c_69, c_70, c_71, H⟩ := H
        refine OL.pure S (Lf.run_ldA (cs := [Value.int .i64 y47, Value.string y47_1, Value.bool y47_2, Value.int .i64 y47_3, Value.slice y47_4.a y47_4.n y47_4.c, Value.slice y47_5.a y47_5.n y47_5.c]) (S.ev rfl) ag25 ti25 (by rw [S.heap]; exact RowL.toRow ⟨c_66, c_67, c_68, c_69, c_70, c_71, trivial⟩)) rfl rfl trivial ?_
        clear S; intro aa S
        refine ol_cal S H isfn9 rfl rfl trivial ?_
        clear S H aa; intro u_8 aa ww h26 H S
        obtain ⟨x48, x48_1, rfl, H⟩ := H
        refine OL.pure S (Lf.run_move (S.ev rfl)) rfl rfl trivial ?_
        clear S; intro aa S
        refine OL.pure S (Lf.run_ex (S.ev rfl) rfl) rfl rfl trivial ?_
        clear S; intro aa S
        refine OL.pure S (Lf.run_ex (S.ev rfl) rfl) rfl rfl trivial ?_
        clear S; intro aa S
        refine OL.pure S (Lf.run_assign (S.ev rfl)) rfl rfl trivial ?_
        clear S; intro aa S
        refine OL.pure S (Lf.run_assign (S.ev rfl)) rfl rfl trivial ?_
        clear S; intro aa S
        refine OL.nil ?_
        refine W.seq ?_
        replace S := S.sub [(1, Value.pointer (some p1)), (3, Value.map x33), (4, Value.pointer (some p4)), (5, Value.pointer (some p5)), (6, Value.slice x48.a x48.n x48.c), (7, Value.bool x48_1)] ⟨rfl, rfl, rfl, rfl, rfl, rfl, trivial⟩
        refine W.region ?_
        refine OL.pure S (Lf.run_move (S.ev rfl)) rfl rfl trivial ?_
        clear S; intro aa S
        obtain ⟨y53, y53_1, y53_2, y53_3, y53_4, y53_5, c_60, c_61, c_62, c_63, c_64, c_65, H⟩ := H
        refine OL.pure S (Lf.run_ldA (cs := [Value.int .i64 y53, Value.string y53_1, Value.bool y53_2, Value.int .i64 y53_3, Value.slice y53_4.a y53_4.n y53_4.c, Value.slice y53_5.a y53_5.n y53_5.c]) (S.ev rfl) ag25 ti25 (by rw [S.heap]; exact RowL.toRow ⟨c_60, c_61, c_62, c_63, c_64, c_65, trivial⟩)) rfl rfl trivial ?_
        clear S; intro aa S
        obtain ⟨y54, y54_1, y54_2, y54_3, y54_4, y54_5, c_54, c_55, c_56, c_57, c_58, c_59, H⟩ := H
        refine OL.pure S (Lf.run_ldA (cs := [Value.int .i64 y54, Value.string y54_1, Value.bool y54_2, Value.int .i64 y54_3, Value.slice y54_4.a y54_4.n y54_4.c, Value.slice y54_5.a y54_5.n y54_5.c]) (S.ev rfl) ag25 ti25 (by rw [S.heap]; exact RowL.toRow ⟨c_54, c_55, c_56, c_57, c_58, c_59, trivial⟩)) rfl rfl trivial ?_
        clear S; intro aa S
        refine ol_cal S H isfn9 rfl rfl trivial ?_
        clear S H aa; intro u_9 aa ww h27 H S
        obtain ⟨x55, x55_1, rfl, H⟩ := H
        refine OL.pure S (Lf.run_move (S.ev rfl)) rfl rfl trivial ?_
        clear S; intro aa S
        refine OL.pure S (Lf.run_ex (S.ev rfl) rfl) rfl rfl trivial ?_
        clear S; intro aa S
        refine OL.pure S (Lf.run_ex (S.ev rfl) rfl) rfl rfl trivial ?_
        clear S; intro aa S
        refine OL.pure S (Lf.run_assign (S.ev rfl)) rfl rfl trivial ?_
        clear S; intro aa S
        refine OL.pure S (Lf.run_assign (S.ev rfl)) rfl rfl trivial ?_
        clear S; intro aa S
        refine OL.nil ?_
        refine W.seq ?_
        replace S := S.sub [(1, Value.pointer (some p1)), (3, Value.map x33), (4, Value.pointer (some p4)), (5, Value.pointer (some p5)), (6, Value.slice x48.a x48.n x48.c), (7, Value.bool x48_1), (8, Value.slice x55.a x55.n x55.c), (9, Value.bool x55_1)] ⟨rfl, rfl, rfl, rfl, rfl, rfl, rfl, rfl, trivial⟩
        refine W.region ?_
        refine OL.pure S (Lf.run_move (S.ev rfl)) rfl rfl trivial ?_
        clear S; intro aa S
        obtain ⟨y60, y60_1, y60_2, y60_3, y60_4, y60_5, c_48, c_49, c_50, c_51, c_52, c_53, H⟩ := H
        refine OL.pure S (Lf.run_ldA (cs := [Value.int .i64 y60, Value.string y60_1, Value.bool y60_2, Value.int .i64 y60_3, Value.slice y60_4.a y60_4.n y60_4.c, Value.slice y60_5.a y60_5.n y60_5.c]) (S.ev rfl) ag25 ti25 (by rw [S.heap]; exact RowL.toRow ⟨c_48, c_49, c_50, c_51, c_52, c_53, trivial⟩)) rfl rfl trivial ?_
        clear S; intro aa S
        obtain ⟨y61, y61_1, y61_2, y61_3, y61_4, y61_5, c_42, c_43, c_44, c_45, c_46, c_47, H⟩ := H
        refine OL.pure S (Lf.run_ldA (cs := [Value.int .i64 y61, Value.string y61_1, Value.bool y61_2, Value.int .i64 y61_3, Value.slice y61_4.a y61_4.n y61_4.c, Value.slice y61_5.a y61_5.n y61_5.c]) (S.ev rfl) ag25 ti25 (by rw [S.heap]; exact RowL.toRow ⟨c_42, c_43, c_44, c_45, c_46, c_47, trivial⟩)) rfl rfl trivial ?_
        clear S; intro aa S
        refine ol_cal S H isfn13 rfl rfl trivial ?_
        clear S H aa; intro u_10 aa ww h28 H S
        obtain ⟨x62, x62_1, rfl, H⟩ := H
        refine OL.pure S (Lf.run_move (S.ev rfl)) rfl rfl trivial ?_
        clear S; intro aa S
        refine OL.pure S (Lf.run_ex (S.ev rfl) rfl) rfl rfl trivial ?_
        clear S; intro aa S
        refine OL.pure S (Lf.run_ex (S.ev rfl) rfl) rfl rfl trivial ?_
        clear S; intro aa S
        refine OL.pure S (Lf.run_assign (S.ev rfl)) rfl rfl trivial ?_
        clear S; intro aa S
        refine OL.pure S (Lf.run_assign (S.ev rfl)) rfl rfl trivial ?_
        clear S; intro aa S
        refine OL.nil ?_
        refine W.seq ?_
        replace S := S.sub [(1, Value.pointer (some p1)), (6, Value.slice x48.a x48.n x48.c), (7, Value.bool x48_1), (8, Value.slice x55.a x55.n x55.c), (9, Value.bool x55_1), (10, Value.slice x62.a x62.n x62.c), (11, Value.bool x62_1)] ⟨rfl, rfl, rfl, rfl, rfl, rfl, rfl, trivial⟩
        obtain ⟨J_2, H, HK_2⟩ := H
        refine W.mono (N' := fun aa ww => ∃ x2 h33, St 89 [(2, Value.bool x2)] h33 w0 aa ww ∧ J_2 x2 h33) ?_ ?_
        · refine W.regionD S (by kernel_rfl) ?_
          clear S; intro ww S
          refine AN.pure 0 S rfl (by kernel_rfl) (fun _ => Lf.run_move (S.ev rfl)) rfl rfl trivial ?_
          clear S; intro aa S
          refine AN.pure 1 S rfl (by kernel_rfl) (fun _ => Lf.run_move (S.ev rfl)) rfl rfl trivial ?_
          clear S; intro aa S
          rcases Bool.eq_false_or_eq_true x48_1 with hb_3 | hb_3
          · replace H := H.1 hb_3
            refine AN.pure 2 S rfl (by kernel_rfl) (fun _ => Lf.run_move (S.ev rfl)) rfl rfl (GOk.mk rfl rfl hb_3) ?_
            clear S; intro aa S
            refine AN.pure 3 S rfl (by kernel_rfl) (fun _ => run_pickT (S.ev rfl) hb_3 (S.ev rfl)) rfl rfl trivial ?_
            clear S; intro aa S
            refine AN.pure 4 S rfl (by kernel_rfl) (fun _ => Lf.run_move (S.ev rfl)) rfl rfl trivial ?_
            clear S; intro aa S
            rcases Bool.eq_false_or_eq_true x55_1 with hb_4 | hb_4
            · replace H := H.1 hb_4
              refine AN.pure 5 S rfl (by kernel_rfl) (fun _ => Lf.run_move (S.ev rfl)) rfl rfl (GOk.mk rfl rfl hb_4) ?_
              clear S; intro aa S
              refine AN.pure 6 S rfl (by kernel_rfl) (fun _ => run_pickT (S.ev rfl) hb_4 (S.ev rfl)) rfl rfl trivial ?_
              clear S; intro aa S
              refine AN.pure 7 S rfl (by kernel_rfl) (fun _ => Lf.run_move (S.ev rfl)) rfl rfl trivial ?_
              clear S; intro aa S
              rcases Bool.eq_false_or_eq_true x62_1 with hb_5 | hb_5
              · replace H := H.1 hb_5
                refine AN.pure 8 S rfl (by kernel_rfl) (fun _ => Lf.run_move (S.ev rfl)) rfl rfl (GOk.mk rfl rfl hb_5) ?_
                clear S; intro aa S
                refine AN.pure 9 S rfl (by kernel_rfl) (fun _ => Lf.run_fa (S.ev rfl) fa39_4) rfl rfl (GOk.mk rfl rfl hb_5) ?_
                clear S; intro aa S
                refine AN.pure 10 S rfl (by kernel_rfl) (fun _ => Lf.run_saNN Try.underlying37 ti26 (S.ev rfl)) rfl rfl (GOk.mk rfl rfl hb_5) ?_
                clear S; intro aa S
                refine AN.pure 18 S rfl (by kernel_rfl) (fun _ => Lf.run_move (S.ev rfl)) rfl rfl (GOk.mk rfl rfl hb_5) ?_
                clear S; intro aa S
                refine AN.pure 19 S rfl (by kernel_rfl) (fun _ => Lf.run_fa (S.ev rfl) fa39_4) rfl rfl (GOk.mk rfl rfl hb_5) ?_
                clear S; intro aa S
                refine AN.pure 20 S rfl (by kernel_rfl) (fun _ => Lf.run_saNN Try.underlying37 ti26 (S.ev rfl)) rfl rfl (GOk.mk rfl rfl hb_5) ?_
                clear S; intro aa S
                refine AN.eff 11 rfl (by kernel_rfl) ?_
                refine ol_cal S H isfn12 rfl rfl (GOk.mk rfl rfl hb_5) ?_
                clear S H aa; intro u_11 aa ww h29 H S
                obtain ⟨x76, rfl, H⟩ := H
                refine OL.nil ?_
                refine AN.pure 12 S rfl (by kernel_rfl) (fun _ => Lf.run_move (S.ev rfl)) rfl rfl (GOk.mk rfl rfl hb_5) ?_
                clear S; intro aa S
                rcases Bool.eq_false_or_eq_true x76 with hb_6 | hb_6
                · replace H := H.1 hb_6
                  refine AN.pure 13 S rfl (by kernel_rfl) (fun _ => Lf.run_move (S.ev rfl)) rfl rfl (GOk.mk rfl rfl hb_6) ?_
                  clear S; intro aa S
                  refine AN.pure 14 S rfl (by kernel_rfl) (fun _ => Lf.run_fa (S.ev rfl) fa39_4) rfl rfl (GOk.mk rfl rfl hb_6) ?_
                  clear S; intro aa S
                  refine AN.pure 15 S rfl (by kernel_rfl) (fun _ => Lf.run_saNN Try.underlying37 ti26 (S.ev rfl)) rfl rfl (GOk.mk rfl rfl hb_6) ?_
                  clear S; intro aa S
                  refine AN.eff 16 rfl (by kernel_rfl) ?_
                  refine ol_cal S H isfn12 rfl rfl (GOk.mk rfl rfl hb_6) ?_
                  clear S H aa; intro u_12 aa ww h30 H S
                  obtain ⟨x81, rfl, H⟩ := H
                  refine OL.nil ?_
                  refine AN.pure 17 S rfl (by kernel_rfl) (fun _ => run_pickT (S.ev rfl) hb_6 (S.ev rfl)) rfl rfl (GOk.mk rfl rfl hb_5) ?_
                  clear S; intro aa S
                  refine AN.eff 21 rfl (by kernel_rfl) ?_
                  refine ol_cal S H isfn12 rfl rfl (GOk.mk rfl rfl hb_5) ?_
                  clear S H aa; intro u_13 aa ww h31 H S
                  obtain ⟨x86, rfl, H⟩ := H
                  refine OL.nil ?_
                  refine AN.pure 22 S rfl (by kernel_rfl) (fun _ => Lf.run_eqlb Try.underlying4 (S.ev rfl) (S.ev rfl)) rfl rfl (GOk.mk rfl rfl hb_5) ?_
                  clear S; intro aa S
                  refine AN.pure 23 S rfl (by kernel_rfl) (fun _ => run_pickT (S.ev rfl) hb_5 (S.ev rfl)) rfl rfl trivial ?_
                  clear S; intro aa S
                  refine AN.pure 24 S rfl (by kernel_rfl) (fun _ => Lf.run_assign (S.ev rfl)) rfl rfl trivial ?_
                  clear S; intro aa S
                  refine AN.done (by kernel_rfl) ?_
                  exact ⟨(x81 == x86), h31, S.sub _ ⟨rfl, trivial⟩, H⟩
                · replace H := H.2 hb_6
                  refine AN.not 13 S rfl (by kernel_rfl) rfl rfl (GNo.mk rfl rfl hb_6) ?_
                  clear S; intro aa S
                  refine AN.not 14 S rfl (by kernel_rfl) rfl rfl (GNo.mk rfl rfl hb_6) ?_
                  clear S; intro aa S
                  refine AN.not 15 S rfl (by kernel_rfl) rfl rfl (GNo.mk rfl rfl hb_6) ?_
                  clear S; intro aa S
                  refine AN.not 16 S rfl (by kernel_rfl) rfl rfl (GNo.mk rfl rfl hb_6) ?_
                  clear S; intro aa S
                  refine AN.pure 17 S rfl (by kernel_rfl) (fun _ => run_pickF (S.ev rfl) hb_6 (S.ev rfl)) rfl rfl (GOk.mk rfl rfl hb_5) ?_
                  clear S; intro aa S
                  refine AN.eff 21 rfl (by kernel_rfl) ?_
                  refine ol_cal S H isfn12 rfl rfl (GOk.mk rfl rfl hb_5) ?_
                  clear S H aa; intro u_14 aa ww h32 H S
                  obtain ⟨x86_1, rfl, H⟩ := H
                  refine OL.nil ?_
                  refine AN.pure 22 S rfl (by kernel_rfl) (fun _ => Lf.run_eqlb Try.underlying4 (S.ev rfl) (S.ev rfl)) rfl rfl (GOk.mk rfl rfl hb_5) ?_
                  clear S; intro aa S
                  refine AN.pure 23 S rfl (by kernel_rfl) (fun _ => run_pickT (S.ev rfl) hb_5 (S.ev rfl)) rfl rfl trivial ?_
                  clear S; intro aa S
                  refine AN.pure 24 S rfl (by kernel_rfl) (fun _ => Lf.run_assign (S.ev rfl)) rfl rfl trivial ?_
                  clear S; intro aa S
                  refine AN.done (by kernel_rfl) ?_
                  exact ⟨(false == x86_1), h32, S.sub _ ⟨rfl, trivial⟩, H⟩
              · replace H := H.2 hb_5
                refine AN.not 8 S rfl (by kernel_rfl) rfl rfl (GNo.mk rfl rfl hb_5) ?_
                clear S; intro aa S
                refine AN.not 9 S rfl (by kernel_rfl) rfl rfl (GNo.mk rfl rfl hb_5) ?_
                clear S; intro aa S
                refine AN.not 10 S rfl (by kernel_rfl) rfl rfl (GNo.mk rfl rfl hb_5) ?_
                clear S; intro aa S
                refine AN.not 18 S rfl (by kernel_rfl) rfl rfl (GNo.mk rfl rfl hb_5) ?_
                clear S; intro aa S
                refine AN.not 19 S rfl (by kernel_rfl) rfl rfl (GNo.mk rfl rfl hb_5) ?_
                clear S; intro aa S
                refine AN.not 20 S rfl (by kernel_rfl) rfl rfl (GNo.mk rfl rfl hb_5) ?_
                clear S; intro aa S
                refine AN.not 11 S rfl (by kernel_rfl) rfl rfl (GNo.mk rfl rfl hb_5) ?_
                clear S; intro aa S
                refine AN.not 12 S rfl (by kernel_rfl) rfl rfl (GNo.mk rfl rfl hb_5) ?_
                clear S; intro aa S
                refine AN.not 13 S rfl (by kernel_rfl) rfl rfl (GNo.un rfl rfl) ?_
                clear S; intro aa S
                refine AN.not 14 S rfl (by kernel_rfl) rfl rfl (GNo.un rfl rfl) ?_
                clear S; intro aa S
                refine AN.not 15 S rfl (by kernel_rfl) rfl rfl (GNo.un rfl rfl) ?_
                clear S; intro aa S
                refine AN.not 16 S rfl (by kernel_rfl) rfl rfl (GNo.un rfl rfl) ?_
                clear S; intro aa S
                refine AN.not 17 S rfl (by kernel_rfl) rfl rfl (GNo.mk rfl rfl hb_5) ?_
                clear S; intro aa S
                refine AN.not 21 S rfl (by kernel_rfl) rfl rfl (GNo.mk rfl rfl hb_5) ?_
                clear S; intro aa S
                refine AN.not 22 S rfl (by kernel_rfl) rfl rfl (GNo.mk rfl rfl hb_5) ?_
                clear S; intro aa S
                refine AN.pure 23 S rfl (by kernel_rfl) (fun _ => run_pickF (S.ev rfl) hb_5 (S.ev rfl)) rfl rfl trivial ?_
                clear S; intro aa S
                refine AN.pure 24 S rfl (by kernel_rfl) (fun _ => Lf.run_assign (S.ev rfl)) rfl rfl trivial ?_
                clear S; intro aa S
                refine AN.done (by kernel_rfl) ?_
                exact ⟨false, h28, S.sub _ ⟨rfl, trivial⟩, H⟩
            · replace H := H.2 hb_4
              refine AN.not 5 S rfl (by kernel_rfl) rfl rfl (GNo.mk rfl rfl hb_4) ?_
              clear S; intro aa S
              refine AN.pure 6 S rfl (by kernel_rfl) (fun _ => run_pickF (S.ev rfl) hb_4 (S.ev rfl)) rfl rfl trivial ?_
              clear S; intro aa S
              refine AN.pure 7 S rfl (by kernel_rfl) (fun _ => Lf.run_move (S.ev rfl)) rfl rfl trivial ?_
              clear S; intro aa S
              have hb_7 : (false : Bool) = false := rfl
              refine AN.not 8 S rfl (by kernel_rfl) rfl rfl (GNo.mk rfl rfl hb_7) ?_
              clear S; intro aa S
              refine AN.not 9 S rfl (by kernel_rfl) rfl rfl (GNo.mk rfl rfl hb_7) ?_
              clear S; intro aa S
              refine AN.not 10 S rfl (by kernel_rfl) rfl rfl (GNo.mk rfl rfl hb_7) ?_
              clear S; intro aa S
              refine AN.not 18 S rfl (by kernel_rfl) rfl rfl (GNo.mk rfl rfl hb_7) ?_
              clear S; intro aa S
              refine AN.not 19 S rfl (by kernel_rfl) rfl rfl (GNo.mk rfl rfl hb_7) ?_
              clear S; intro aa S
              refine AN.not 20 S rfl (by kernel_rfl) rfl rfl (GNo.mk rfl rfl hb_7) ?_
              clear S; intro aa S
              refine AN.not 11 S rfl (by kernel_rfl) rfl rfl (GNo.mk rfl rfl hb_7) ?_
              clear S; intro aa S
              refine AN.not 12 S rfl (by kernel_rfl) rfl rfl (GNo.mk rfl rfl hb_7) ?_
              clear S; intro aa S
              refine AN.not 13 S rfl (by kernel_rfl) rfl rfl (GNo.un rfl rfl) ?_
              clear S; intro aa S
              refine AN.not 14 S rfl (by kernel_rfl) rfl rfl (GNo.un rfl rfl) ?_
              clear S; intro aa S
              refine AN.not 15 S rfl (by kernel_rfl) rfl rfl (GNo.un rfl rfl) ?_
              clear S; intro aa S
              refine AN.not 16 S rfl (by kernel_rfl) rfl rfl (GNo.un rfl rfl) ?_
              clear S; intro aa S
              refine AN.not 17 S rfl (by kernel_rfl) rfl rfl (GNo.mk rfl rfl hb_7) ?_
              clear S; intro aa S
              refine AN.not 21 S rfl (by kernel_rfl) rfl rfl (GNo.mk rfl rfl hb_7) ?_
              clear S; intro aa S
              refine AN.not 22 S rfl (by kernel_rfl) rfl rfl (GNo.mk rfl rfl hb_7) ?_
              clear S; intro aa S
              refine AN.pure 23 S rfl (by kernel_rfl) (fun _ => run_pickF (S.ev rfl) hb_7 (S.ev rfl)) rfl rfl trivial ?_
              clear S; intro aa S
              refine AN.pure 24 S rfl (by kernel_rfl) (fun _ => Lf.run_assign (S.ev rfl)) rfl rfl trivial ?_
              clear S; intro aa S
              refine AN.done (by kernel_rfl) ?_
              exact ⟨false, h28, S.sub _ ⟨rfl, trivial⟩, H⟩
          · replace H := H.2 hb_3
            refine AN.not 2 S rfl (by kernel_rfl) rfl rfl (GNo.mk rfl rfl hb_3) ?_
            clear S; intro aa S
            refine AN.pure 3 S rfl (by kernel_rfl) (fun _ => run_pickF (S.ev rfl) hb_3 (S.ev rfl)) rfl rfl trivial ?_
            clear S; intro aa S
            refine AN.pure 4 S rfl (by kernel_rfl) (fun _ => Lf.run_move (S.ev rfl)) rfl rfl trivial ?_
            clear S; intro aa S
            have hb_8 : (false : Bool) = false := rfl
            refine AN.not 5 S rfl (by kernel_rfl) rfl rfl (GNo.mk rfl rfl hb_8) ?_
            clear S; intro aa S
            refine AN.pure 6 S rfl (by kernel_rfl) (fun _ => run_pickF (S.ev rfl) hb_8 (S.ev rfl)) rfl rfl trivial ?_
            clear S; intro aa S
            refine AN.pure 7 S rfl (by kernel_rfl) (fun _ => Lf.run_move (S.ev rfl)) rfl rfl trivial ?_
            clear S; intro aa S
            have hb_9 : (false : Bool) = false := rfl
            refine AN.not 8 S rfl (by kernel_rfl) rfl rfl (GNo.mk rfl rfl hb_9) ?_
            clear S; intro aa S
            refine AN.not 9 S rfl (by kernel_rfl) rfl rfl (GNo.mk rfl rfl hb_9) ?_
            clear S; intro aa S
            refine AN.not 10 S rfl (by kernel_rfl) rfl rfl (GNo.mk rfl rfl hb_9) ?_
            clear S; intro aa S
            refine AN.not 18 S rfl (by kernel_rfl) rfl rfl (GNo.mk rfl rfl hb_9) ?_
            clear S; intro aa S
            refine AN.not 19 S rfl (by kernel_rfl) rfl rfl (GNo.mk rfl rfl hb_9) ?_
            clear S; intro aa S
            refine AN.not 20 S rfl (by kernel_rfl) rfl rfl (GNo.mk rfl rfl hb_9) ?_
            clear S; intro aa S
            refine AN.not 11 S rfl (by kernel_rfl) rfl rfl (GNo.mk rfl rfl hb_9) ?_
            clear S; intro aa S
            refine AN.not 12 S rfl (by kernel_rfl) rfl rfl (GNo.mk rfl rfl hb_9) ?_
            clear S; intro aa S
            refine AN.not 13 S rfl (by kernel_rfl) rfl rfl (GNo.un rfl rfl) ?_
            clear S; intro aa S
            refine AN.not 14 S rfl (by kernel_rfl) rfl rfl (GNo.un rfl rfl) ?_
            clear S; intro aa S
            refine AN.not 15 S rfl (by kernel_rfl) rfl rfl (GNo.un rfl rfl) ?_
            clear S; intro aa S
            refine AN.not 16 S rfl (by kernel_rfl) rfl rfl (GNo.un rfl rfl) ?_
            clear S; intro aa S
            refine AN.not 17 S rfl (by kernel_rfl) rfl rfl (GNo.mk rfl rfl hb_9) ?_
            clear S; intro aa S
            refine AN.not 21 S rfl (by kernel_rfl) rfl rfl (GNo.mk rfl rfl hb_9) ?_
            clear S; intro aa S
            refine AN.not 22 S rfl (by kernel_rfl) rfl rfl (GNo.mk rfl rfl hb_9) ?_
            clear S; intro aa S
            refine AN.pure 23 S rfl (by kernel_rfl) (fun _ => run_pickF (S.ev rfl) hb_9 (S.ev rfl)) rfl rfl trivial ?_
            clear S; intro aa S
            refine AN.pure 24 S rfl (by kernel_rfl) (fun _ => Lf.run_assign (S.ev rfl)) rfl rfl trivial ?_
            clear S; intro aa S
            refine AN.done (by kernel_rfl) ?_
            exact ⟨false, h28, S.sub _ ⟨rfl, trivial⟩, H⟩
        · clear H S aa
          rintro aa ww ⟨x2, h33, S, HJ⟩
          have H := HK_2 _ _ HJ
          clear HK_2 HJ
          refine W.ret ?_
          exact Ret.one S rfl rfl H

/-- chattel chattellaw10.does -/
def L7  (h : Heap) (R : Value → Heap → Prop) : Prop :=
  cal Try.prog 14 #[Value.int .i64 1] h fun u h1 => ∃ (y6 : Int) (y6_1 : ByteArray) (y6_2 : Bool) (y6_3 : Int) (y6_4 : Sv) (y6_5 : Sv), u = Value.agg #[Value.int .i64 y6, Value.string y6_1, Value.bool y6_2, Value.int .i64 y6_3, Value.slice y6_4.a y6_4.n y6_4.c, Value.slice y6_5.a y6_5.n y6_5.c] ∧
  cal Try.prog 14 #[Value.int .i64 2] h1 fun u_1 h2 => ∃ (y7 : Int) (y7_1 : ByteArray) (y7_2 : Bool) (y7_3 : Int) (y7_4 : Sv) (y7_5 : Sv), u_1 = Value.agg #[Value.int .i64 y7, Value.string y7_1, Value.bool y7_2, Value.int .i64 y7_3, Value.slice y7_4.a y7_4.n y7_4.c, Value.slice y7_5.a y7_5.n y7_5.c] ∧
  cal Try.prog 9 #[Value.map none, Value.agg #[Value.int .i64 y6, Value.string y6_1, Value.bool y6_2, Value.int .i64 y6_3, Value.slice y6_4.a y6_4.n y6_4.c, Value.slice y6_5.a y6_5.n y6_5.c], Value.agg #[Value.int .i64 y7, Value.string y7_1, Value.bool y7_2, Value.int .i64 y7_3, Value.slice y7_4.a y7_4.n y7_4.c, Value.slice y7_5.a y7_5.n y7_5.c]] h2 fun u_2 h3 => asTup u_2 fun r8 =>
  elt r8 0 fun u_3 => asS u_3 fun x9 =>
  elt r8 1 fun u_4 => asB u_4 fun x10 =>
  cal Try.prog 14 #[Value.int .i64 1] h3 fun u_5 h4 => ∃ (y12 : Int) (y12_1 : ByteArray) (y12_2 : Bool) (y12_3 : Int) (y12_4 : Sv) (y12_5 : Sv), u_5 = Value.agg #[Value.int .i64 y12, Value.string y12_1, Value.bool y12_2, Value.int .i64 y12_3, Value.slice y12_4.a y12_4.n y12_4.c, Value.slice y12_5.a y12_5.n y12_5.c] ∧
  cal Try.prog 9 #[Value.map none, Value.agg #[Value.int .i64 y12, Value.string y12_1, Value.bool y12_2, Value.int .i64 y12_3, Value.slice y12_4.a y12_4.n y12_4.c, Value.slice y12_5.a y12_5.n y12_5.c], Value.agg #[Value.int .i64 1, Value.string (⟨#[]⟩ : ByteArray), Value.bool false, Value.int .i64 0, Value.slice (⟨none, 0, 0⟩ : Sv).a (⟨none, 0, 0⟩ : Sv).n (⟨none, 0, 0⟩ : Sv).c, Value.slice (⟨none, 0, 0⟩ : Sv).a (⟨none, 0, 0⟩ : Sv).n (⟨none, 0, 0⟩ : Sv).c]] h4 fun u_6 h5 => asTup u_6 fun r14 =>
  elt r14 0 fun u_7 => asS u_7 fun x15 =>
  elt r14 1 fun u_8 => asB u_8 fun x16 =>
  ∃ J : Bool → Prop, (andr ((x10 && (!x16)) && (((x9.n : Nat) : Int) == 1)) (fun k =>
    ixS x9 0 fun q29 =>
    ∃ (y30 : Int) (y30_1 : Int), cl h5 q29 = some (Value.int .i64 y30) ∧ cl h5 (q29.add 1) = some (Value.int .i64 y30_1) ∧
    k (y30 == 1 && y30_1 == 2)) J) ∧ ∀ x33, J x33 →
  R (Value.bool x33) h5

set_option maxRecDepth 100000 in

theorem F7 {h : _} {R : Value → Heap → Prop} (H : L7 h R) : CallsH Try.prog 7 #[] h R := by
  refine CallsH.enter (n := 34) Try.func7 rfl rfl rfl rfl ?_
  intro w0 aa ww S
  unfold L7 at H
  refine W.seq ?_
  replace S := S.sub [] trivial
  refine W.region ?_
  refine OL.pure S (Lf.run_assign (S.ev rfl)) rfl rfl trivial ?_
  clear S; intro aa S
  refine OL.nil ?_
  refine W.seq ?_
  replace S := S.sub [] trivial
  refine W.region ?_
  refine ol_cal S H isfn14 rfl rfl trivial ?_
  clear S H aa; intro u aa ww h1 H S
  obtain ⟨y6, y6_1, y6_2, y6_3, y6_4, y6_5, rfl, H⟩ := H
  refine ol_cal S H isfn14 rfl rfl trivial ?_
  clear S H aa; intro u_1 aa ww h2 H S
  obtain ⟨y7, y7_1, y7_2, y7_3, y7_4, y7_5, rfl, H⟩ := H
  refine ol_cal S H isfn9 rfl rfl trivial ?_
  clear S H aa; intro u_2 aa ww h3 H S
  obtain ⟨r8, rfl, H⟩ := H
  refine OL.pure S (Lf.run_move (S.ev rfl)) rfl rfl trivial ?_
  clear S; intro aa S
  obtain ⟨u_3, e, x9, rfl, H⟩ := H
  refine OL.pure S (Lf.run_ex (S.ev rfl) e) rfl rfl trivial ?_
  clear S; intro aa S
  obtain ⟨u_4, e_1, x10, rfl, H⟩ := H
  refine OL.pure S (Lf.run_ex (S.ev rfl) e_1) rfl rfl trivial ?_
  clear S; intro aa S
  refine OL.pure S (Lf.run_assign (S.ev rfl)) rfl rfl trivial ?_
  clear S; intro aa S
  refine OL.pure S (Lf.run_assign (S.ev rfl)) rfl rfl trivial ?_
  clear S; intro aa S
  refine OL.nil ?_
  refine W.seq ?_
  replace S := S.sub [(1, Value.slice x9.a x9.n x9.c), (2, Value.bool x10)] ⟨rfl, rfl, trivial⟩
  refine W.region ?_
  refine ol_cal S H isfn14 rfl rfl trivial ?_
  clear S H aa; intro u_5 aa ww h4 H S
  obtain ⟨y12, y12_1, y12_2, y12_3, y12_4, y12_5, rfl, H⟩ := H
  refine OL.pure S (Lf.run_build (cs := #[Value.int .i64 1, Value.string (⟨#[]⟩ : ByteArray), Value.bool false, Value.int .i64 0, Value.slice (⟨none, 0, 0⟩ : Sv).a (⟨none, 0, 0⟩ : Sv).n (⟨none, 0, 0⟩ : Sv).c, Value.slice (⟨none, 0, 0⟩ : Sv).a (⟨none, 0, 0⟩ : Sv).n (⟨none, 0, 0⟩ : Sv).c]) pl25 ti25 (parts_map S rfl) (by kernel_rfl)) rfl rfl trivial ?_
  clear S; intro aa S
  refine ol_cal S H isfn9 rfl rfl trivial ?_
  clear S H aa; intro u_6 aa ww h5 H S
  obtain ⟨r14, rfl, H⟩ := H
  refine OL.pure S (Lf.run_move (S.ev rfl)) rfl rfl trivial ?_
  clear S; intro aa S
  obtain ⟨u_7, e_2, x15, rfl, H⟩ := H
  refine OL.pure S (Lf.run_ex (S.ev rfl) e_2) rfl rfl trivial ?_
  clear S; intro aa S
  obtain ⟨u_8, e_3, x16, rfl, H⟩ := H
  refine OL.pure S (Lf.run_ex (S.ev rfl) e_3) rfl rfl trivial ?_
  clear S; intro aa S
  refine OL.pure S (Lf.run_assign (S.ev rfl)) rfl rfl trivial ?_
  clear S; intro aa S
  refine OL.pure S (Lf.run_assign (S.ev rfl)) rfl rfl trivial ?_
  clear S; intro aa S
  refine OL.nil ?_
  refine W.seq ?_
  replace S := S.sub [(1, Value.slice x9.a x9.n x9.c), (2, Value.bool x10), (4, Value.bool x16)] ⟨rfl, rfl, rfl, trivial⟩
  refine W.region ?_
  refine OL.pure S (Lf.run_move (S.ev rfl)) rfl rfl trivial ?_
  clear S; intro aa S
  refine OL.pure S (Lf.run_move (S.ev rfl)) rfl rfl trivial ?_
  clear S; intro aa S
  refine OL.cutN 3 (fun aa ww => St 34 ((21, Value.bool (x10 && (!x16))) :: [(1, Value.slice x9.a x9.n x9.c), (2, Value.bool x10), (4, Value.bool x16), (17, Value.bool x10), (18, Value.bool x10)]) h5 w0 aa ww) ?_ ?_
  · rcases Bool.eq_false_or_eq_true x10 with hb | hb
    · refine OL.pure S (Lf.run_move (S.ev rfl)) rfl rfl (GOk.mk rfl rfl hb) ?_
      clear S; intro aa S
      refine OL.pure S (Lf.run_not (S.ev rfl)) rfl rfl (GOk.mk rfl rfl hb) ?_
      clear S; intro aa S
      refine OL.pure S (Lf.run_pickT (S.ev rfl) hb (S.ev rfl)) rfl rfl trivial ?_
      clear S; intro aa S
      refine OL.nil ?_
      exact (S.hd (by rw [hb, Bool.true_and])).sub _ ⟨rfl, rfl, rfl, rfl, rfl, rfl, trivial⟩
    · refine OL.not S rfl rfl (GNo.mk rfl rfl hb) ?_
      clear S; intro aa S
      refine OL.not S rfl rfl (GNo.mk rfl rfl hb) ?_
      clear S; intro aa S
      refine OL.pure S (Lf.run_pickF (S.ev rfl) hb (S.ev rfl)) rfl rfl trivial ?_
      clear S; intro aa S
      refine OL.nil ?_
      exact (S.hd (by rw [hb, Bool.false_and])).sub _ ⟨rfl, rfl, rfl, rfl, rfl, rfl, trivial⟩
  · clear S aa
    intro aa ww S
    refine OL.pure S (Lf.run_move (S.ev rfl)) rfl rfl trivial ?_
    clear S; intro aa S
    refine OL.cutN 4 (fun aa ww => St 34 ((26, Value.bool ((x10 && (!x16)) && (((x9.n : Nat) : Int) == 1))) :: [(1, Value.slice x9.a x9.n x9.c), (2, Value.bool x10), (4, Value.bool x16), (17, Value.bool x10), (18, Value.bool x10), (21, Value.bool (x10 && (!x16))), (22, Value.bool (x10 && (!x16)))]) h5 w0 aa ww) ?_ ?_
    · rcases Bool.eq_false_or_eq_true (x10 && (!x16)) with hb_1 | hb_1
      · refine OL.pure S (Lf.run_move (S.ev rfl)) rfl rfl (GOk.mk rfl rfl hb_1) ?_
        clear S; intro aa S
        refine OL.pure S (Lf.run_lens (S.ev rfl) rfl Try.underlying29) rfl rfl (GOk.mk rfl rfl hb_1) ?_
        clear S; intro aa S
        refine OL.pure S (Lf.run_eql (S.ev rfl) (S.ev rfl)) rfl rfl (GOk.mk rfl rfl hb_1) ?_
        clear S; intro aa S
        refine OL.pure S (Lf.run_pickT (S.ev rfl) hb_1 (S.ev rfl)) rfl rfl trivial ?_
        clear S; intro aa S
        refine OL.nil ?_
        exact (S.hd (by rw [hb_1, Bool.true_and])).sub _ ⟨rfl, rfl, rfl, rfl, rfl, rfl, rfl, rfl, trivial⟩
      · refine OL.not S rfl rfl (GNo.mk rfl rfl hb_1) ?_
        clear S; intro aa S
        refine OL.not S rfl rfl (GNo.mk rfl rfl hb_1) ?_
        clear S; intro aa S
        refine OL.not S rfl rfl (GNo.mk rfl rfl hb_1) ?_
        clear S; intro aa S
        refine OL.pure S (Lf.run_pickF (S.ev rfl) hb_1 (S.ev rfl)) rfl rfl trivial ?_
        clear S; intro aa S
        refine OL.nil ?_
        exact (S.hd (by rw [hb_1, Bool.false_and])).sub _ ⟨rfl, rfl, rfl, rfl, rfl, rfl, rfl, rfl, trivial⟩
    · clear S aa
      intro aa ww S
      refine OL.pure S (Lf.run_move (S.ev rfl)) rfl rfl trivial ?_
      clear S; intro aa S
      obtain ⟨J, H, HK⟩ := H
      refine OL.cutN 6 (fun aa ww => ∃ x33, St 34 ((33, Value.bool x33) :: [(1, Value.slice x9.a x9.n x9.c), (2, Value.bool x10), (4, Value.bool x16), (17, Value.bool x10), (18, Value.bool x10), (21, Value.bool (x10 && (!x16))), (22, Value.bool (x10 && (!x16))), (26, Value.bool ((x10 && (!x16)) && (((x9.n : Nat) : Int) == 1))), (27, Value.bool ((x10 && (!x16)) && (((x9.n : Nat) : Int) == 1)))]) h5 w0 aa ww ∧ J x33) ?_ ?_
      · rcases Bool.eq_false_or_eq_true ((x10 && (!x16)) && (((x9.n : Nat) : Int) == 1)) with hb_2 | hb_2
        · replace H := H.1 hb_2
          refine OL.pure S (Lf.run_move (S.ev rfl)) rfl rfl (GOk.mk rfl rfl hb_2) ?_
          clear S; intro aa S
          obtain ⟨q29, e_4, e_5, e_6, H⟩ := H
          refine OL.pure S (Lf.run_ixs (S.ev rfl) (S.ev rfl) Try.underlying29 ti35 e_4 e_5 e_6) rfl rfl (GOk.mk rfl rfl hb_2) ?_
          clear S; intro aa S
          obtain ⟨y30, y30_1, c_1, c_2, H⟩ := H
          refine OL.pure S (Lf.run_ldA (cs := [Value.int .i64 y30, Value.int .i64 y30_1]) (S.ev rfl) ag35 ti35 (by rw [S.heap]; exact RowL.toRow ⟨c_1, c_2, trivial⟩)) rfl rfl (GOk.mk rfl rfl hb_2) ?_
          clear S; intro aa S
          refine OL.pure S (Lf.run_buildArr (cs := #[Value.int .i64 1, Value.int .i64 2]) Try.underlying35 ti3 ti35 (parts_map S rfl) (by kernel_rfl)) rfl rfl (GOk.mk rfl rfl hb_2) ?_
          clear S; intro aa S
          refine OL.pure S (Lf.run_eqlA2 Try.underlying35 Try.underlying3 ti3 (by kernel_rfl) (S.ev rfl) (S.ev rfl)) rfl rfl (GOk.mk rfl rfl hb_2) ?_
          clear S; intro aa S
          refine OL.pure S (Lf.run_pickT (S.ev rfl) hb_2 (S.ev rfl)) rfl rfl trivial ?_
          clear S; intro aa S
          refine OL.nil ?_
          exact ⟨_, S.sub _ ⟨rfl, rfl, rfl, rfl, rfl, rfl, rfl, rfl, rfl, rfl, trivial⟩, H⟩
        · replace H := H.2 hb_2
          refine OL.not S rfl rfl (GNo.mk rfl rfl hb_2) ?_
          clear S; intro aa S
          refine OL.not S rfl rfl (GNo.mk rfl rfl hb_2) ?_
          clear S; intro aa S
          refine OL.not S rfl rfl (GNo.mk rfl rfl hb_2) ?_
          clear S; intro aa S
          refine OL.not S rfl rfl (GNo.mk rfl rfl hb_2) ?_
          clear S; intro aa S
          refine OL.not S rfl rfl (GNo.mk rfl rfl hb_2) ?_
          clear S; intro aa S
          refine OL.pure S (Lf.run_pickF (S.ev rfl) hb_2 (S.ev rfl)) rfl rfl trivial ?_
          clear S; intro aa S
          refine OL.nil ?_
          exact ⟨_, S.sub _ ⟨rfl, rfl, rfl, rfl, rfl, rfl, rfl, rfl, rfl, rfl, trivial⟩, H⟩
      · clear S aa
        rintro aa ww ⟨x33, S, HJ⟩
        replace H := HK _ HJ
        clear HK HJ
        refine OL.pure S (Lf.run_assign (S.ev rfl)) rfl rfl trivial ?_
        clear S; intro aa S
        refine OL.nil ?_
        refine W.ret ?_
        exact Ret.one S rfl rfl H

/-- chattel chattelref07.Small -/
def L8 (x0 : Int) (x0_1 : ByteArray) (x0_2 : Bool) (x0_3 : Int) (x0_4 : Sv) (x0_5 : Sv) (deep1 : Int) (h : Heap) (R : Value → Heap → Prop) : Prop :=
  new 25 #[Value.int .i64 x0, Value.string x0_1, Value.bool x0_2, Value.int .i64 x0_3, Value.slice x0_4.a x0_4.n x0_4.c, Value.slice x0_5.a x0_5.n x0_5.c] h fun p2 h1 =>
  ∃ J : Bool → Prop, (orr (deep1 == 0) (fun k =>
    ldS h1 (p2.add 5) fun x10 =>
    k (decide (4 < ((x10.n : Nat) : Int)))) J) ∧ ∀ x13, J x13 →
  ∃ J_1 : Bool → Prop, (orr x13 (fun k_1 =>
    ldS h1 (p2.add 4) fun x16 =>
    k_1 (decide (6 < ((x16.n : Nat) : Int)))) J_1) ∧ ∀ x19, J_1 x19 →
  ∃ J_2 : Bool → Prop, (orr x19 (fun k_2 =>
    ldT h1 (p2.add 1) fun x22 =>
    k_2 (decide (60 < ((x22.size : Nat) : Int)))) J_2) ∧ ∀ x25, J_2 x25 →
  ifb x25 (
    R (Value.bool false) h1) (
    ∃ (I : Int → Heap → Prop) (m : Int → Heap → Nat), I 0 h1 ∧ ∀ i5 h2, I i5 h2 →
    ldS h2 (p2.add 5) fun x28 =>
    ifb (decide (i5 < ((x28.n : Nat) : Int))) (
      ldS h2 (p2.add 5) fun x34 =>
      ixS x34 i5 fun q36 =>
      ∃ (y37 : Int) (y37_1 : ByteArray) (y37_2 : Bool) (y37_3 : Int) (y37_4 : Sv) (y37_5 : Sv), cl h2 (q36.add ((i5 : Int).toNat * 6)) = some (Value.int .i64 y37) ∧ cl h2 ((q36.add ((i5 : Int).toNat * 6)).add 1) = some (Value.string y37_1) ∧ cl h2 ((q36.add ((i5 : Int).toNat * 6)).add 2) = some (Value.bool y37_2) ∧ cl h2 ((q36.add ((i5 : Int).toNat * 6)).add 3) = some (Value.int .i64 y37_3) ∧ cl h2 ((q36.add ((i5 : Int).toNat * 6)).add 4) = some (Value.slice y37_4.a y37_4.n y37_4.c) ∧ cl h2 ((q36.add ((i5 : Int).toNat * 6)).add 5) = some (Value.slice y37_5.a y37_5.n y37_5.c) ∧
      cal Try.prog 8 #[Value.agg #[Value.int .i64 y37, Value.string y37_1, Value.bool y37_2, Value.int .i64 y37_3, Value.slice y37_4.a y37_4.n y37_4.c, Value.slice y37_5.a y37_5.n y37_5.c], Value.int .i64 (IntKind.i64.wrap (deep1 - 1))] h2 fun u h3 => asB u fun x40 =>
      ifb (!x40) (
        R (Value.bool false) h3) (
        I (IntKind.i64.wrap (i5 + 1)) h3 ∧ m (IntKind.i64.wrap (i5 + 1)) h3 < m i5 h2)) (
      R (Value.bool true) h2))

set_option maxRecDepth 100000 in

theorem F8 {x0 x0_1 x0_2 x0_3 x0_4 x0_5 deep1 h : _} {R : Value → Heap → Prop} (H : L8 x0 x0_1 x0_2 x0_3 x0_4 x0_5 deep1 h R) : CallsH Try.prog 8 #[Value.agg #[Value.int .i64 x0, Value.string x0_1, Value.bool x0_2, Value.int .i64 x0_3, Value.slice x0_4.a x0_4.n x0_4.c, Value.slice x0_5.a x0_5.n x0_5.c], Value.int .i64 deep1] h R := by
  refine CallsH.enter (n := 42) Try.func8 rfl rfl rfl rfl ?_
  intro w0 aa ww S
  unfold L8 at H
  refine W.seq ?_
  replace S := S.sub [(0, Value.agg #[Value.int .i64 x0, Value.string x0_1, Value.bool x0_2, Value.int .i64 x0_3, Value.slice x0_4.a x0_4.n x0_4.c, Value.slice x0_5.a x0_5.n x0_5.c]), (1, Value.int .i64 deep1)] ⟨rfl, rfl, trivial⟩
  refine W.region ?_
  refine ol_box S H rfl rfl rfl trivial ?_
  clear S H aa; intro p2 aa ww h1 H S
  refine OL.pure S (Lf.run_assign (S.ev rfl)) rfl rfl trivial ?_
  clear S; intro aa S
  refine OL.nil ?_
  refine W.seq ?_
  refine W.seq ?_
  replace S := S.sub [(1, Value.int .i64 deep1), (2, Value.pointer (some p2))] ⟨rfl, rfl, trivial⟩
  refine W.region ?_
  refine OL.pure S (Lf.run_move (S.ev rfl)) rfl rfl trivial ?_
  clear S; intro aa S
  refine OL.pure S (Lf.run_eql (S.ev rfl) (S.ev rfl)) rfl rfl trivial ?_
  clear S; intro aa S
  refine OL.pure S (Lf.run_move (S.ev rfl)) rfl rfl trivial ?_
  clear S; intro aa S
  obtain ⟨J, H, HK⟩ := H
  refine OL.cutN 5 (fun aa ww => ∃ x13, St 42 ((13, Value.bool x13) :: [(1, Value.int .i64 deep1), (2, Value.pointer (some p2)), (6, Value.int .i64 deep1), (7, Value.bool (deep1 == 0)), (8, Value.bool (deep1 == 0))]) h1 w0 aa ww ∧ J x13) ?_ ?_
  · rcases Bool.eq_false_or_eq_true (deep1 == 0) with hb | hb
    · replace H := H.1 hb
      refine OL.not S rfl rfl (GNo.mk rfl rfl hb) ?_
      clear S; intro aa S
      refine OL.not S rfl rfl (GNo.mk rfl rfl hb) ?_
      clear S; intro aa S
      refine OL.not S rfl rfl (GNo.mk rfl rfl hb) ?_
      clear S; intro aa S
      refine OL.not S rfl rfl (GNo.mk rfl rfl hb) ?_
      clear S; intro aa S
      refine OL.pure S (Lf.run_pickT (S.ev rfl) hb (S.ev rfl)) rfl rfl trivial ?_
      clear S; intro aa S
      refine OL.nil ?_
      exact ⟨_, S.sub _ ⟨rfl, rfl, rfl, rfl, rfl, rfl, trivial⟩, H⟩
    · replace H := H.2 hb
      refine OL.pure S (Lf.run_fa (S.ev rfl) fa25_5) rfl rfl (GOk.mk rfl rfl hb) ?_
      clear S; intro aa S
      obtain ⟨x10, c, H⟩ := H
      refine OL.pure S (Lf.run_ld (S.ev rfl) fl23 (S.cl c)) rfl rfl (GOk.mk rfl rfl hb) ?_
      clear S; intro aa S
      refine OL.pure S (Lf.run_lens (S.ev rfl) rfl Try.underlying23) rfl rfl (GOk.mk rfl rfl hb) ?_
      clear S; intro aa S
      refine OL.pure S (Lf.run_gtr (S.ev rfl) (S.ev rfl)) rfl rfl (GOk.mk rfl rfl hb) ?_
      clear S; intro aa S
      refine OL.pure S (Lf.run_pickF (S.ev rfl) hb (S.ev rfl)) rfl rfl trivial ?_
      clear S; intro aa S
      refine OL.nil ?_
      exact ⟨_, S.sub _ ⟨rfl, rfl, rfl, rfl, rfl, rfl, trivial⟩, H⟩
  · clear S aa
    rintro aa ww ⟨x13, S, HJ⟩
    replace H := HK _ HJ
    clear HK HJ
    refine OL.pure S (Lf.run_move (S.ev rfl)) rfl rfl trivial ?_
    clear S; intro aa S
    obtain ⟨J_1, H, HK_1⟩ := H
    refine OL.cutN 5 (fun aa ww => ∃ x19, St 42 ((19, Value.bool x19) :: [(1, Value.int .i64 deep1), (2, Value.pointer (some p2)), (6, Value.int .i64 deep1), (7, Value.bool (deep1 == 0)), (8, Value.bool (deep1 == 0)), (13, Value.bool x13), (14, Value.bool x13)]) h1 w0 aa ww ∧ J_1 x19) ?_ ?_
    · rcases Bool.eq_false_or_eq_true x13 with hb_1 | hb_1
      · replace H := H.1 hb_1
        refine OL.not S rfl rfl (GNo.mk rfl rfl hb_1) ?_
        clear S; intro aa S
        refine OL.not S rfl rfl (GNo.mk rfl rfl hb_1) ?_
        clear S; intro aa S
        refine OL.not S rfl rfl (GNo.mk rfl rfl hb_1) ?_
        clear S; intro aa S
        refine OL.not S rfl rfl (GNo.mk rfl rfl hb_1) ?_
        clear S; intro aa S
        refine OL.pure S (Lf.run_pickT (S.ev rfl) hb_1 (S.ev rfl)) rfl rfl trivial ?_
        clear S; intro aa S
        refine OL.nil ?_
        exact ⟨_, S.sub _ ⟨rfl, rfl, rfl, rfl, rfl, rfl, rfl, rfl, trivial⟩, H⟩
      · replace H := H.2 hb_1
        refine OL.pure S (Lf.run_fa (S.ev rfl) fa25_4) rfl rfl (GOk.mk rfl rfl hb_1) ?_
        clear S; intro aa S
        obtain ⟨x16, c_1, H⟩ := H
        refine OL.pure S (Lf.run_ld (S.ev rfl) fl22 (S.cl c_1)) rfl rfl (GOk.mk rfl rfl hb_1) ?_
        clear S; intro aa S
        refine OL.pure S (Lf.run_lens (S.ev rfl) rfl Try.underlying22) rfl rfl (GOk.mk rfl rfl hb_1) ?_
        clear S; intro aa S
        refine OL.pure S (Lf.run_gtr (S.ev rfl) (S.ev rfl)) rfl rfl (GOk.mk rfl rfl hb_1) ?_
        clear S; intro aa S
        refine OL.pure S (Lf.run_pickF (S.ev rfl) hb_1 (S.ev rfl)) rfl rfl trivial ?_
        clear S; intro aa S
        refine OL.nil ?_
        exact ⟨_, S.sub _ ⟨rfl, rfl, rfl, rfl, rfl, rfl, rfl, rfl, trivial⟩, H⟩
    · clear S aa
      rintro aa ww ⟨x19, S, HJ⟩
      replace H := HK_1 _ HJ
      clear HK_1 HJ
      refine OL.pure S (Lf.run_move (S.ev rfl)) rfl rfl trivial ?_
      clear S; intro aa S
      obtain ⟨J_2, H, HK_2⟩ := H
      refine OL.cutN 5 (fun aa ww => ∃ x25, St 42 ((25, Value.bool x25) :: [(1, Value.int .i64 deep1), (2, Value.pointer (some p2)), (6, Value.int .i64 deep1), (7, Value.bool (deep1 == 0)), (8, Value.bool (deep1 == 0)), (13, Value.bool x13), (14, Value.bool x13), (19, Value.bool x19), (20, Value.bool x19)]) h1 w0 aa ww ∧ J_2 x25) ?_ ?_
      · rcases Bool.eq_false_or_eq_true x19 with hb_2 | hb_2
        · replace H := H.1 hb_2
          refine OL.not S rfl rfl (GNo.mk rfl rfl hb_2) ?_
          clear S; intro aa S
          refine OL.not S rfl rfl (GNo.mk rfl rfl hb_2) ?_
          clear S; intro aa S
          refine OL.not S rfl rfl (GNo.mk rfl rfl hb_2) ?_
          clear S; intro aa S
          refine OL.not S rfl rfl (GNo.mk rfl rfl hb_2) ?_
          clear S; intro aa S
          refine OL.pure S (Lf.run_pickT (S.ev rfl) hb_2 (S.ev rfl)) rfl rfl trivial ?_
          clear S; intro aa S
          refine OL.nil ?_
          exact ⟨_, S.sub _ ⟨rfl, rfl, rfl, rfl, rfl, rfl, rfl, rfl, rfl, rfl, trivial⟩, H⟩
        · replace H := H.2 hb_2
          refine OL.pure S (Lf.run_fa (S.ev rfl) fa25_1) rfl rfl (GOk.mk rfl rfl hb_2) ?_
          clear S; intro aa S
          obtain ⟨x22, c_2, H⟩ := H
          refine OL.pure S (Lf.run_ld (S.ev rfl) fl9 (S.cl c_2)) rfl rfl (GOk.mk rfl rfl hb_2) ?_
          clear S; intro aa S
          refine OL.pure S (Lf.run_lent (S.ev rfl) rfl Try.underlying9) rfl rfl (GOk.mk rfl rfl hb_2) ?_
          clear S; intro aa S
          refine OL.pure S (Lf.run_gtr (S.ev rfl) (S.ev rfl)) rfl rfl (GOk.mk rfl rfl hb_2) ?_
          clear S; intro aa S
          refine OL.pure S (Lf.run_pickF (S.ev rfl) hb_2 (S.ev rfl)) rfl rfl trivial ?_
          clear S; intro aa S
          refine OL.nil ?_
          exact ⟨_, S.sub _ ⟨rfl, rfl, rfl, rfl, rfl, rfl, rfl, rfl, rfl, rfl, trivial⟩, H⟩
      · clear S aa
        rintro aa ww ⟨x25, S, HJ⟩
        replace H := HK_2 _ HJ
        clear HK_2 HJ
        refine OL.nil ?_
        refine W.cond S (b := x25) rfl (fun hb_3 => ?_) (fun hb_3 => ?_)
        · replace H := H.1 hb_3
          refine W.seq ?_
          replace S := S.sub [] trivial
          refine W.region ?_
          refine OL.pure S (Lf.run_assign (S.ev rfl)) rfl rfl trivial ?_
          clear S; intro aa S
          refine OL.nil ?_
          refine W.ret ?_
          exact Ret.one S rfl rfl H
        · replace H := H.2 hb_3
          refine W.skip ?_
          refine W.seq ?_
          refine W.seq ?_
          replace S := S.sub [(1, Value.int .i64 deep1), (2, Value.pointer (some p2))] ⟨rfl, rfl, trivial⟩
          refine W.region ?_
          refine OL.pure S (Lf.run_assign (S.ev rfl)) rfl rfl trivial ?_
          clear S; intro aa S
          refine OL.nil ?_
          refine W.block ?_
          obtain ⟨I, m, H, HB⟩ := H
          refine W.loopS (σ := Int × Heap) (fun s aa ww => St 42 [(1, Value.int .i64 deep1), (2, Value.pointer (some p2)), (5, Value.int .i64 s.1)] s.2 w0 aa ww ∧ I s.1 s.2) (fun s => m s.1 s.2) (0, h1) ⟨S.sub _ ⟨rfl, rfl, rfl, trivial⟩, H⟩ ?_
          clear H S aa
          rintro ⟨i5, h2⟩ aa ww ⟨S, HI⟩
          replace S : St 42 [(1, Value.int .i64 deep1), (2, Value.pointer (some p2)), (5, Value.int .i64 i5)] h2 w0 aa ww := S
          have H := HB i5 h2 HI
          clear HI
          refine W.seq ?_
          refine W.seq ?_
          replace S := S.sub [(1, Value.int .i64 deep1), (2, Value.pointer (some p2)), (5, Value.int .i64 i5)] ⟨rfl, rfl, rfl, trivial⟩
          refine W.region ?_
          refine OL.pure S (Lf.run_move (S.ev rfl)) rfl rfl trivial ?_
          clear S; intro aa S
          refine OL.pure S (Lf.run_fa (S.ev rfl) fa25_5) rfl rfl trivial ?_
          clear S; intro aa S
          obtain ⟨x28, c_3, H⟩ := H
          refine OL.pure S (Lf.run_ld (S.ev rfl) fl23 (S.cl c_3)) rfl rfl trivial ?_
          clear S; intro aa S
          refine OL.pure S (Lf.run_lens (S.ev rfl) rfl Try.underlying23) rfl rfl trivial ?_
          clear S; intro aa S
          refine OL.pure S (Lf.run_lss (S.ev rfl) (S.ev rfl)) rfl rfl trivial ?_
          clear S; intro aa S
          refine OL.nil ?_
          refine W.cond S (b := (decide (i5 < ((x28.n : Nat) : Int)))) rfl (fun hb_4 => ?_) (fun hb_4 => ?_)
          · replace H := H.1 hb_4
            refine W.skip ?_
            refine W.seq ?_
            refine W.block ?_
            refine W.seq ?_
            replace S := S.sub [(1, Value.int .i64 deep1), (2, Value.pointer (some p2)), (5, Value.int .i64 i5)] ⟨rfl, rfl, rfl, trivial⟩
            refine W.region ?_
            refine OL.pure S (Lf.run_fa (S.ev rfl) fa25_5) rfl rfl trivial ?_
            clear S; intro aa S
            obtain ⟨x34, c_4, H⟩ := H
            refine OL.pure S (Lf.run_ld (S.ev rfl) fl23 (S.cl c_4)) rfl rfl trivial ?_
            clear S; intro aa S
            refine OL.pure S (Lf.run_move (S.ev rfl)) rfl rfl trivial ?_
            clear S; intro aa S
            obtain ⟨q36, e, e_1, e_2, H⟩ := H
            refine OL.pure S (Lf.run_ixs (S.ev rfl) (S.ev rfl) Try.underlying23 ti25 e e_1 e_2) rfl rfl trivial ?_
            clear S; intro aa S
            obtain ⟨y37, y37_1, y37_2, y37_3, y37_4, y37_5, c_6, c_7, c_8, c_9, c_10, c_11, H⟩ := H
            refine OL.pure S (Lf.run_ldA (cs := [Value.int .i64 y37, Value.string y37_1, Value.bool y37_2, Value.int .i64 y37_3, Value.slice y37_4.a y37_4.n y37_4.c, Value.slice y37_5.a y37_5.n y37_5.c]) (S.ev rfl) ag25 ti25 (by rw [S.heap]; exact RowL.toRow ⟨c_6, c_7, c_8, c_9, c_10, c_11, trivial⟩)) rfl rfl trivial ?_
            clear S; intro aa S
            refine OL.pure S (Lf.run_move (S.ev rfl)) rfl rfl trivial ?_
            clear S; intro aa S
            refine OL.pure S (Lf.run_sub (S.ev rfl) (S.ev rfl)) rfl rfl trivial ?_
            clear S; intro aa S
            refine ol_cal S H isfn8 rfl rfl trivial ?_
            clear S H aa; intro u aa ww h3 H S
            obtain ⟨x40, rfl, H⟩ := H
            refine OL.pure S (Lf.run_not (S.ev rfl)) rfl rfl trivial ?_
            clear S; intro aa S
            refine OL.nil ?_
            refine W.cond S (b := (!x40)) rfl (fun hb_5 => ?_) (fun hb_5 => ?_)
            · replace H := H.1 hb_5
              refine W.seq ?_
              replace S := S.sub [] trivial
              refine W.region ?_
              refine OL.pure S (Lf.run_assign (S.ev rfl)) rfl rfl trivial ?_
              clear S; intro aa S
              refine OL.nil ?_
              refine W.ret ?_
              exact Ret.one S rfl rfl H
            · replace H := H.2 hb_5
              refine W.skip ?_
              replace S := S.sub [(1, Value.int .i64 deep1), (2, Value.pointer (some p2)), (5, Value.int .i64 i5)] ⟨rfl, rfl, rfl, trivial⟩
              refine W.region ?_
              refine OL.pure S (Lf.run_move (S.ev rfl)) rfl rfl trivial ?_
              clear S; intro aa S
              refine OL.pure S (Lf.run_add (S.ev rfl) (S.ev rfl)) rfl rfl trivial ?_
              clear S; intro aa S
              refine OL.pure S (Lf.run_assign (S.ev rfl)) rfl rfl trivial ?_
              clear S; intro aa S
              refine OL.nil ?_
              exact ⟨((IntKind.i64.wrap (i5 + 1)), h3), ⟨S.sub _ ⟨rfl, rfl, rfl, trivial⟩, H.1⟩, H.2⟩
          · replace H := H.2 hb_4
            refine W.exit_ ?_
            refine xhit ?_
            refine W.seq ?_
            replace S := S.sub [] trivial
            refine W.region ?_
            refine OL.pure S (Lf.run_assign (S.ev rfl)) rfl rfl trivial ?_
            clear S; intro aa S
            refine OL.nil ?_
            refine W.ret ?_
            exact Ret.one S rfl rfl H

/-- chattel sub.Pairs -/
def L9 (ways0 : Option Nat) (a1 : Int) (a1_1 : ByteArray) (a1_2 : Bool) (a1_3 : Int) (a1_4 : Sv) (a1_5 : Sv) (b2 : Int) (b2_1 : ByteArray) (b2_2 : Bool) (b2_3 : Int) (b2_4 : Sv) (b2_5 : Sv) (h : Heap) (R : Value → Heap → Prop) : Prop :=
  new 25 #[Value.int .i64 a1, Value.string a1_1, Value.bool a1_2, Value.int .i64 a1_3, Value.slice a1_4.a a1_4.n a1_4.c, Value.slice a1_5.a a1_5.n a1_5.c] h fun p4 h1 =>
  new 25 #[Value.int .i64 b2, Value.string b2_1, Value.bool b2_2, Value.int .i64 b2_3, Value.slice b2_4.a b2_4.n b2_4.c, Value.slice b2_5.a b2_5.n b2_5.c] h1 fun p5 h2 =>
  ∃ (y9 : Int) (y9_1 : ByteArray) (y9_2 : Bool) (y9_3 : Int) (y9_4 : Sv) (y9_5 : Sv), cl h2 p4 = some (Value.int .i64 y9) ∧ cl h2 (p4.add 1) = some (Value.string y9_1) ∧ cl h2 (p4.add 2) = some (Value.bool y9_2) ∧ cl h2 (p4.add 3) = some (Value.int .i64 y9_3) ∧ cl h2 (p4.add 4) = some (Value.slice y9_4.a y9_4.n y9_4.c) ∧ cl h2 (p4.add 5) = some (Value.slice y9_5.a y9_5.n y9_5.c) ∧
  ∃ (y10 : Int) (y10_1 : ByteArray) (y10_2 : Bool) (y10_3 : Int) (y10_4 : Sv) (y10_5 : Sv), cl h2 p5 = some (Value.int .i64 y10) ∧ cl h2 (p5.add 1) = some (Value.string y10_1) ∧ cl h2 (p5.add 2) = some (Value.bool y10_2) ∧ cl h2 (p5.add 3) = some (Value.int .i64 y10_3) ∧ cl h2 (p5.add 4) = some (Value.slice y10_4.a y10_4.n y10_4.c) ∧ cl h2 (p5.add 5) = some (Value.slice y10_5.a y10_5.n y10_5.c) ∧
  cal Try.prog 15 #[Value.agg #[Value.int .i64 y9, Value.string y9_1, Value.bool y9_2, Value.int .i64 y9_3, Value.slice y9_4.a y9_4.n y9_4.c, Value.slice y9_5.a y9_5.n y9_5.c], Value.agg #[Value.int .i64 y10, Value.string y10_1, Value.bool y10_2, Value.int .i64 y10_3, Value.slice y10_4.a y10_4.n y10_4.c, Value.slice y10_5.a y10_5.n y10_5.c]] h2 fun u h3 => asB u fun x11 =>
  ifb (!x11) (
    R (.tuple #[Value.slice (⟨none, 0, 0⟩ : Sv).a (⟨none, 0, 0⟩ : Sv).n (⟨none, 0, 0⟩ : Sv).c, Value.bool false]) h3) (
    new 49 #[Value.map ways0, Value.slice (⟨none, 0, 0⟩ : Sv).a (⟨none, 0, 0⟩ : Sv).n (⟨none, 0, 0⟩ : Sv).c] h3 fun p15 h4 =>
    ∃ (y17 : Int) (y17_1 : ByteArray) (y17_2 : Bool) (y17_3 : Int) (y17_4 : Sv) (y17_5 : Sv), cl h4 p4 = some (Value.int .i64 y17) ∧ cl h4 (p4.add 1) = some (Value.string y17_1) ∧ cl h4 (p4.add 2) = some (Value.bool y17_2) ∧ cl h4 (p4.add 3) = some (Value.int .i64 y17_3) ∧ cl h4 (p4.add 4) = some (Value.slice y17_4.a y17_4.n y17_4.c) ∧ cl h4 (p4.add 5) = some (Value.slice y17_5.a y17_5.n y17_5.c) ∧
    ∃ (y18 : Int) (y18_1 : ByteArray) (y18_2 : Bool) (y18_3 : Int) (y18_4 : Sv) (y18_5 : Sv), cl h4 p5 = some (Value.int .i64 y18) ∧ cl h4 (p5.add 1) = some (Value.string y18_1) ∧ cl h4 (p5.add 2) = some (Value.bool y18_2) ∧ cl h4 (p5.add 3) = some (Value.int .i64 y18_3) ∧ cl h4 (p5.add 4) = some (Value.slice y18_4.a y18_4.n y18_4.c) ∧ cl h4 (p5.add 5) = some (Value.slice y18_5.a y18_5.n y18_5.c) ∧
    cal Try.prog 16 #[Value.pointer (some p15), Value.agg #[Value.int .i64 y17, Value.string y17_1, Value.bool y17_2, Value.int .i64 y17_3, Value.slice y17_4.a y17_4.n y17_4.c, Value.slice y17_5.a y17_5.n y17_5.c], Value.agg #[Value.int .i64 y18, Value.string y18_1, Value.bool y18_2, Value.int .i64 y18_3, Value.slice y18_4.a y18_4.n y18_4.c, Value.slice y18_5.a y18_5.n y18_5.c], Value.int .i64 1] h4 fun u_1 h5 =>
    ldS h5 (p15.add 1) fun x23 =>
    R (.tuple #[Value.slice x23.a x23.n x23.c, Value.bool true]) h5)

set_option maxRecDepth 100000 in

theorem F9 {ways0 a1 a1_1 a1_2 a1_3 a1_4 a1_5 b2 b2_1 b2_2 b2_3 b2_4 b2_5 h : _} {R : Value → Heap → Prop} (H : L9 ways0 a1 a1_1 a1_2 a1_3 a1_4 a1_5 b2 b2_1 b2_2 b2_3 b2_4 b2_5 h R) : CallsH Try.prog 9 #[Value.map ways0, Value.agg #[Value.int .i64 a1, Value.string a1_1, Value.bool a1_2, Value.int .i64 a1_3, Value.slice a1_4.a a1_4.n a1_4.c, Value.slice a1_5.a a1_5.n a1_5.c], Value.agg #[Value.int .i64 b2, Value.string b2_1, Value.bool b2_2, Value.int .i64 b2_3, Value.slice b2_4.a b2_4.n b2_4.c, Value.slice b2_5.a b2_5.n b2_5.c]] h R := by
  refine CallsH.enter (n := 24) Try.func9 rfl rfl rfl rfl ?_
  intro w0 aa ww S
  unfold L9 at H
  refine W.seq ?_
  replace S := S.sub [(0, Value.map ways0), (1, Value.agg #[Value.int .i64 a1, Value.string a1_1, Value.bool a1_2, Value.int .i64 a1_3, Value.slice a1_4.a a1_4.n a1_4.c, Value.slice a1_5.a a1_5.n a1_5.c]), (2, Value.agg #[Value.int .i64 b2, Value.string b2_1, Value.bool b2_2, Value.int .i64 b2_3, Value.slice b2_4.a b2_4.n b2_4.c, Value.slice b2_5.a b2_5.n b2_5.c])] ⟨rfl, rfl, rfl, trivial⟩
  refine W.region ?_
  refine ol_box S H rfl rfl rfl trivial ?_
  clear S H aa; intro p4 aa ww h1 H S
  refine ol_box S H rfl rfl rfl trivial ?_
  clear S H aa; intro p5 aa ww h2 H S
  refine OL.pure S (Lf.run_assign (S.ev rfl)) rfl rfl trivial ?_
  clear S; intro aa S
  refine OL.pure S (Lf.run_assign (S.ev rfl)) rfl rfl trivial ?_
  clear S; intro aa S
  refine OL.nil ?_
  refine W.seq ?_
  refine W.seq ?_
  replace S := S.sub [(0, Value.map ways0), (4, Value.pointer (some p4)), (5, Value.pointer (some p5))] ⟨rfl, rfl, rfl, trivial⟩
  refine W.region ?_
  obtain ⟨y9, y9_1, y9_2, y9_3, y9_4, y9_5, c_23, c_24, c_25, c_26, c_27, c_28, H⟩ := H
  refine OL.pure S (Lf.run_ldA (cs := [Value.int .i64 y9, Value.string y9_1, Value.bool y9_2, Value.int .i64 y9_3, Value.slice y9_4.a y9_4.n y9_4.c, Value.slice y9_5.a y9_5.n y9_5.c]) (S.ev rfl) ag25 ti25 (by rw [S.heap]; exact RowL.toRow ⟨c_23, c_24, c_25, c_26, c_27, c_28, trivial⟩)) rfl rfl trivial ?_
  clear S; intro aa S
  obtain ⟨y10, y10_1, y10_2, y10_3, y10_4, y10_5, c_17, c_18, c_19, c_20, c_21, c_22, H⟩ := H
  refine OL.pure S (Lf.run_ldA (cs := [Value.int .i64 y10, Value.string y10_1, Value.bool y10_2, Value.int .i64 y10_3, Value.slice y10_4.a y10_4.n y10_4.c, Value.slice y10_5.a y10_5.n y10_5.c]) (S.ev rfl) ag25 ti25 (by rw [S.heap]; exact RowL.toRow ⟨c_17, c_18, c_19, c_20, c_21, c_22, trivial⟩)) rfl rfl trivial ?_
  clear S; intro aa S
  refine ol_cal S H isfn15 rfl rfl trivial ?_
  clear S H aa; intro u aa ww h3 H S
  obtain ⟨x11, rfl, H⟩ := H
  refine OL.pure S (Lf.run_not (S.ev rfl)) rfl rfl trivial ?_
  clear S; intro aa S
  refine OL.nil ?_
  refine W.cond S (b := (!x11)) rfl (fun hb => ?_) (fun hb => ?_)
  · replace H := H.1 hb
    refine W.seq ?_
    replace S := S.sub [] trivial
    refine W.region ?_
    refine OL.pure S (Lf.run_assign (S.ev rfl)) rfl rfl trivial ?_
    clear S; intro aa S
    refine OL.pure S (Lf.run_assign (S.ev rfl)) rfl rfl trivial ?_
    clear S; intro aa S
    refine OL.nil ?_
    refine W.ret ?_
    exact Ret.two S rfl rfl rfl H
  · replace H := H.2 hb
    refine W.skip ?_
    refine W.seq ?_
    replace S := S.sub [(0, Value.map ways0), (4, Value.pointer (some p4)), (5, Value.pointer (some p5))] ⟨rfl, rfl, rfl, trivial⟩
    refine W.region ?_
    refine OL.pure S (Lf.run_move (S.ev rfl)) rfl rfl trivial ?_
    clear S; intro aa S
    refine OL.pure S (Lf.run_build (cs := #[Value.map ways0, Value.slice (⟨none, 0, 0⟩ : Sv).a (⟨none, 0, 0⟩ : Sv).n (⟨none, 0, 0⟩ : Sv).c]) pl49 ti49 (parts_map S rfl) (by kernel_rfl)) rfl rfl trivial ?_
    clear S; intro aa S
    refine ol_box S H rfl rfl rfl trivial ?_
    clear S H aa; intro p15 aa ww h4 H S
    refine OL.pure S (Lf.run_assign (S.ev rfl)) rfl rfl trivial ?_
    clear S; intro aa S
    refine OL.nil ?_
    refine W.seq ?_
    replace S := S.sub [(4, Value.pointer (some p4)), (5, Value.pointer (some p5)), (8, Value.pointer (some p15))] ⟨rfl, rfl, rfl, trivial⟩
    refine W.region ?_
    refine OL.pure S (Lf.run_move (S.ev rfl)) rfl rfl trivial ?_
    clear S; intro aa S
    obtain ⟨y17, y17_1, y17_2, y17_3, y17_4, y17_5, c_11, c_12, c_13, c_14, c_15, c_16, H⟩ := H
    refine OL.pure S (Lf.run_ldA (cs := [Value.int .i64 y17, Value.string y17_1, Value.bool y17_2, Value.int .i64 y17_3, Value.slice y17_4.a y17_4.n y17_4.c, Value.slice y17_5.a y17_5.n y17_5.c]) (S.ev rfl) ag25 ti25 (by rw [S.heap]; exact RowL.toRow ⟨c_11, c_12, c_13, c_14, c_15, c_16, trivial⟩)) rfl rfl trivial ?_
    clear S; intro aa S
    obtain ⟨y18, y18_1, y18_2, y18_3, y18_4, y18_5, c_5, c_6, c_7, c_8, c_9, c_10, H⟩ := H
    refine OL.pure S (Lf.run_ldA (cs := [Value.int .i64 y18, Value.string y18_1, Value.bool y18_2, Value.int .i64 y18_3, Value.slice y18_4.a y18_4.n y18_4.c, Value.slice y18_5.a y18_5.n y18_5.c]) (S.ev rfl) ag25 ti25 (by rw [S.heap]; exact RowL.toRow ⟨c_5, c_6, c_7, c_8, c_9, c_10, trivial⟩)) rfl rfl trivial ?_
    clear S; intro aa S
    refine ol_cal S H isfn16 rfl rfl trivial ?_
    clear S H aa; intro u_1 aa ww h5 H S
    refine OL.nil ?_
    refine W.seq ?_
    replace S := S.sub [(8, Value.pointer (some p15))] ⟨rfl, trivial⟩
    refine W.region ?_
    refine OL.pure S (Lf.run_move (S.ev rfl)) rfl rfl trivial ?_
    clear S; intro aa S
    refine OL.pure S (Lf.run_nc (S.ev rfl)) rfl rfl trivial ?_
    clear S; intro aa S
    refine OL.pure S (Lf.run_fa (S.ev rfl) fa49_1) rfl rfl trivial ?_
    clear S; intro aa S
    obtain ⟨x23, c_4, H⟩ := H
    refine OL.pure S (Lf.run_ld (S.ev rfl) fl29 (S.cl c_4)) rfl rfl trivial ?_
    clear S; intro aa S
    refine OL.pure S (Lf.run_assign (S.ev rfl)) rfl rfl trivial ?_
    clear S; intro aa S
    refine OL.pure S (Lf.run_assign (S.ev rfl)) rfl rfl trivial ?_
    clear S; intro aa S
    refine OL.nil ?_
    refine W.ret ?_
    exact Ret.two S rfl rfl rfl H

/-- chattel chattellaw10.ways -/
def L10 (vfrom0 : Int) (h : Heap) (R : Value → Heap → Prop) : Prop :=
  ∃ (I : Int → Sv → Int → Heap → Prop) (m : Int → Sv → Int → Heap → Nat), I vfrom0 (⟨none, 0, 0⟩ : Sv) 0 h ∧ ∀ vfrom0_1 l3 i4 h1, I vfrom0_1 l3 i4 h1 →
  ifb (decide (i4 < 8)) (
    newS 3 #[Value.int .i64 (IntKind.i64.wrap ((vfrom0_1 : Int).tmod 4))] 1 h1 fun s13 h2 =>
    appS 3 (Value.int .i64 0).cells 1 8 h2 l3 s13 fun s14 h3 =>
    I (IntKind.u64.wrap ((vfrom0_1 : Int).tdiv 4)) s14 (IntKind.i64.wrap (i4 + 1)) h3 ∧ m (IntKind.u64.wrap ((vfrom0_1 : Int).tdiv 4)) s14 (IntKind.i64.wrap (i4 + 1)) h3 < m vfrom0_1 l3 i4 h1) (
    newM h1 fun m17 h4 =>
    insS h4 (Value.map (some m17)) (⟨#[83]⟩ : ByteArray) (Value.slice l3.a l3.n l3.c) fun h5 =>
    R (Value.map (some m17)) h5)

set_option maxRecDepth 100000 in

theorem F10 {vfrom0 h : _} {R : Value → Heap → Prop} (H : L10 vfrom0 h R) : CallsH Try.prog 10 #[Value.int .u64 vfrom0] h R := by
  refine CallsH.enter (n := 20) Try.func10 rfl rfl rfl rfl ?_
  intro w0 aa ww S
  unfold L10 at H
  refine W.seq ?_
  replace S := S.sub [(0, Value.int .u64 vfrom0)] ⟨rfl, trivial⟩
  refine W.region ?_
  refine OL.pure S (Lf.run_assign (S.ev rfl)) rfl rfl trivial ?_
  clear S; intro aa S
  refine OL.nil ?_
  refine W.seq ?_
  replace S := S.sub [(0, Value.int .u64 vfrom0)] ⟨rfl, trivial⟩
  refine W.region ?_
  refine OL.pure S (Lf.run_assign (S.ev rfl)) rfl rfl trivial ?_
  clear S; intro aa S
  refine OL.nil ?_
  refine W.seq ?_
  refine W.seq ?_
  replace S := S.sub [(0, Value.int .u64 vfrom0), (3, Value.slice (⟨none, 0, 0⟩ : Sv).a (⟨none, 0, 0⟩ : Sv).n (⟨none, 0, 0⟩ : Sv).c)] ⟨rfl, rfl, trivial⟩
  refine W.region ?_
  refine OL.pure S (Lf.run_assign (S.ev rfl)) rfl rfl trivial ?_
  clear S; intro aa S
  refine OL.nil ?_
  refine W.block ?_
  obtain ⟨I, m, H, HB⟩ := H
  refine W.loopS (σ := Int × Sv × Int × Heap) (fun s aa ww => St 20 [(0, Value.int .u64 s.1), (3, Value.slice s.2.1.a s.2.1.n s.2.1.c), (4, Value.int .i64 s.2.2.1)] s.2.2.2 w0 aa ww ∧ I s.1 s.2.1 s.2.2.1 s.2.2.2) (fun s => m s.1 s.2.1 s.2.2.1 s.2.2.2) (vfrom0, (⟨none, 0, 0⟩ : Sv), 0, h) ⟨S.sub _ ⟨rfl, rfl, rfl, trivial⟩, H⟩ ?_
  clear H S aa
  rintro ⟨vfrom0_1, l3, i4, h1⟩ aa ww ⟨S, HI⟩
  replace S : St 20 [(0, Value.int .u64 vfrom0_1), (3, Value.slice l3.a l3.n l3.c), (4, Value.int .i64 i4)] h1 w0 aa ww := S
  have H := HB vfrom0_1 l3 i4 h1 HI
  clear HI
  refine W.seq ?_
  refine W.seq ?_
  replace S := S.sub [(0, Value.int .u64 vfrom0_1), (3, Value.slice l3.a l3.n l3.c), (4, Value.int .i64 i4)] ⟨rfl, rfl, rfl, trivial⟩
  refine W.region ?_
  refine OL.pure S (Lf.run_move (S.ev rfl)) rfl rfl trivial ?_
  clear S; intro aa S
  refine OL.pure S (Lf.run_lss (S.ev rfl) (S.ev rfl)) rfl rfl trivial ?_
  clear S; intro aa S
  refine OL.nil ?_
  refine W.cond S (b := (decide (i4 < 8))) rfl (fun hb => ?_) (fun hb => ?_)
  · replace H := H.1 hb
    refine W.skip ?_
    refine W.seq ?_
    refine W.block ?_
    refine W.seq ?_
    replace S := S.sub [(0, Value.int .u64 vfrom0_1), (3, Value.slice l3.a l3.n l3.c), (4, Value.int .i64 i4)] ⟨rfl, rfl, rfl, trivial⟩
    refine W.region ?_
    refine OL.pure S (Lf.run_move (S.ev rfl)) rfl rfl trivial ?_
    clear S; intro aa S
    refine OL.pure S (Lf.run_move (S.ev rfl)) rfl rfl trivial ?_
    clear S; intro aa S
    refine OL.pure S (Lf.run_rem (S.ev rfl) (S.ev rfl) (by decide)) rfl rfl trivial ?_
    clear S; intro aa S
    refine OL.pure S (Lf.run_cvi Try.underlying26 Try.underlying3 (S.ev rfl)) rfl rfl trivial ?_
    clear S; intro aa S
    refine ol_newS S H Try.underlying22 ti3 (by decide) (parts_map S rfl) (by kernel_rfl) (by decide) rfl trivial ?_
    clear S H aa; intro s13 aa ww h2 H S
    refine ol_appS S H Try.underlying22 ti3 rfl rfl rfl trivial ?_
    clear S H aa; intro s14 aa ww h3 H S
    refine OL.pure S (Lf.run_assign (S.ev rfl)) rfl rfl trivial ?_
    clear S; intro aa S
    refine OL.nil ?_
    replace S := S.sub [(0, Value.int .u64 vfrom0_1), (3, Value.slice s14.a s14.n s14.c), (4, Value.int .i64 i4)] ⟨rfl, rfl, rfl, trivial⟩
    refine W.region ?_
    refine OL.pure S (Lf.run_move (S.ev rfl)) rfl rfl trivial ?_
    clear S; intro aa S
    refine OL.pure S (Lf.run_quo (S.ev rfl) (S.ev rfl) (by decide)) rfl rfl trivial ?_
    clear S; intro aa S
    refine OL.pure S (Lf.run_assign (S.ev rfl)) rfl rfl trivial ?_
    clear S; intro aa S
    refine OL.nil ?_
    replace S := S.sub [(0, Value.int .u64 (IntKind.u64.wrap ((vfrom0_1 : Int).tdiv 4))), (3, Value.slice s14.a s14.n s14.c), (4, Value.int .i64 i4)] ⟨rfl, rfl, rfl, trivial⟩
    refine W.region ?_
    refine OL.pure S (Lf.run_move (S.ev rfl)) rfl rfl trivial ?_
    clear S; intro aa S
    refine OL.pure S (Lf.run_add (S.ev rfl) (S.ev rfl)) rfl rfl trivial ?_
    clear S; intro aa S
    refine OL.pure S (Lf.run_assign (S.ev rfl)) rfl rfl trivial ?_
    clear S; intro aa S
    refine OL.nil ?_
    exact ⟨((IntKind.u64.wrap ((vfrom0_1 : Int).tdiv 4)), s14, (IntKind.i64.wrap (i4 + 1)), h3), ⟨S.sub _ ⟨rfl, rfl, rfl, trivial⟩, H.1⟩, H.2⟩
  · replace H := H.2 hb
    refine W.exit_ ?_
    refine xhit ?_
    refine W.seq ?_
    replace S := S.sub [(3, Value.slice l3.a l3.n l3.c)] ⟨rfl, trivial⟩
    refine W.region ?_
    refine ol_newM S H rfl trivial ?_
    clear S H aa; intro m17 aa ww h4 H S
    refine OL.pure S (Lf.run_move (S.ev rfl)) rfl rfl trivial ?_
    clear S; intro aa S
    refine ol_insS S H Try.underlying33 Try.underlying9 rfl rfl rfl trivial ?_
    clear S H aa; intro aa ww h5 H S
    refine OL.pure S (Lf.run_move (S.ev rfl)) rfl rfl trivial ?_
    clear S; intro aa S
    refine OL.pure S (Lf.run_assign (S.ev rfl)) rfl rfl trivial ?_
    clear S; intro aa S
    refine OL.nil ?_
    refine W.ret ?_
    exact Ret.one S rfl rfl H

end Go.Proofs.Ytkgckfcekokieaa

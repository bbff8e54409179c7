/- Lifted by program off the elaborated code: each Go function, read as a proposition over typed variables and the heap. -/
import Derived.Test.YtohlfkomjmjheaaG0
namespace Go.Proofs.Ytohlfkomjmjheaa
open Go Go.Lf
set_option linter.unusedVariables false
set_option maxRecDepth 100000

/-- chattel chattellaw07.TypesWf -/
def L3 (x0 : Int) (x0_1 : ByteArray) (x0_2 : Bool) (x0_3 : Int) (x0_4 : Sv) (x0_5 : Sv) (needs1 : Sv) (h : Heap) (R : Value → Heap → Prop) : Prop :=
  new 25 #[Value.int .i64 x0, Value.string x0_1, Value.bool x0_2, Value.int .i64 x0_3, Value.slice x0_4.a x0_4.n x0_4.c, Value.slice x0_5.a x0_5.n x0_5.c] h fun p2 h1 =>
  cal Try.prog 8 #[] h1 fun u h2 => asB u fun x6 =>
  ∃ J : Bool → Heap → Prop, (orj (!x6) (fun k =>
    ∃ (y9 : Int) (y9_1 : ByteArray) (y9_2 : Bool) (y9_3 : Int) (y9_4 : Sv) (y9_5 : Sv), cl h2 p2 = some (Value.int .i64 y9) ∧ cl h2 (p2.add 1) = some (Value.string y9_1) ∧ cl h2 (p2.add 2) = some (Value.bool y9_2) ∧ cl h2 (p2.add 3) = some (Value.int .i64 y9_3) ∧ cl h2 (p2.add 4) = some (Value.slice y9_4.a y9_4.n y9_4.c) ∧ cl h2 (p2.add 5) = some (Value.slice y9_5.a y9_5.n y9_5.c) ∧
    cal Try.prog 9 #[Value.agg #[Value.int .i64 y9, Value.string y9_1, Value.bool y9_2, Value.int .i64 y9_3, Value.slice y9_4.a y9_4.n y9_4.c, Value.slice y9_5.a y9_5.n y9_5.c], Value.int .i64 6] h2 fun u_1 h4 => asB u_1 fun x10 =>
    k (!x10) h4) h2 J) ∧ ∀ x12 h3, J x12 h3 →
  ifb (x12 || (decide (10 < ((needs1.n : Nat) : Int)))) (
    cal Try.prog 8 #[] h3 fun u_2 h5 => asB u_2 fun x18 =>
    R (Value.bool x18) h5) (
    newM h3 fun m19 h6 =>
    insS h6 (Value.map (some m19)) (⟨#[83]⟩ : ByteArray) (Value.slice needs1.a needs1.n needs1.c) fun h7 =>
    ∃ Sq : Heap → Prop, Sq h7 ∧ (
      ∃ (y22 : Int) (y22_1 : ByteArray) (y22_2 : Bool) (y22_3 : Int) (y22_4 : Sv) (y22_5 : Sv), cl h7 p2 = some (Value.int .i64 y22) ∧ cl h7 (p2.add 1) = some (Value.string y22_1) ∧ cl h7 (p2.add 2) = some (Value.bool y22_2) ∧ cl h7 (p2.add 3) = some (Value.int .i64 y22_3) ∧ cl h7 (p2.add 4) = some (Value.slice y22_4.a y22_4.n y22_4.c) ∧ cl h7 (p2.add 5) = some (Value.slice y22_5.a y22_5.n y22_5.c) ∧
      ∃ (y25 : Int) (y25_1 : ByteArray) (y25_2 : Bool) (y25_3 : Int) (y25_4 : Sv) (y25_5 : Sv), hld Sq p2 (Value.int .i64 y25) ∧ hld Sq (p2.add 1) (Value.string y25_1) ∧ hld Sq (p2.add 2) (Value.bool y25_2) ∧ hld Sq (p2.add 3) (Value.int .i64 y25_3) ∧ hld Sq (p2.add 4) (Value.slice y25_4.a y25_4.n y25_4.c) ∧ hld Sq (p2.add 5) (Value.slice y25_5.a y25_5.n y25_5.c) ∧
      cal Try.prog 11 #[Value.agg #[Value.int .i64 y22, Value.string y22_1, Value.bool y22_2, Value.int .i64 y22_3, Value.slice y22_4.a y22_4.n y22_4.c, Value.slice y22_5.a y22_5.n y22_5.c], Value.map (some m19)] h7 fun u_3 h8 => asS u_3 fun x24 =>
      Sq h8 ∧
      cal Try.prog 12 #[Value.agg #[Value.int .i64 y25, Value.string y25_1, Value.bool y25_2, Value.int .i64 y25_3, Value.slice y25_4.a y25_4.n y25_4.c, Value.slice y25_5.a y25_5.n y25_5.c], Value.map (some m19)] h8 fun u_4 h9 => asS u_4 fun x27 =>
      cal Try.prog 10 #[Value.slice x24.a x24.n x24.c, Value.slice x27.a x27.n x27.c] h9 fun u_5 h10 => asB u_5 fun x28 =>
      R (Value.bool x28) h10))

set_option maxRecDepth 100000 in

theorem F3 {x0 x0_1 x0_2 x0_3 x0_4 x0_5 needs1 h : _} {R : Value → Heap → Prop} (H : L3 x0 x0_1 x0_2 x0_3 x0_4 x0_5 needs1 h R) : CallsH Try.prog 3 #[Value.agg #[Value.int .i64 x0, Value.string x0_1, Value.bool x0_2, Value.int .i64 x0_3, Value.slice x0_4.a x0_4.n x0_4.c, Value.slice x0_5.a x0_5.n x0_5.c], Value.slice needs1.a needs1.n needs1.c] h R := by
  refine CallsH.enter (n := 29) Try.func3 rfl rfl rfl rfl ?_
  intro w0 aa ww S
  unfold L3 at H
  refine W.seq ?_
  replace S := S.sub [(0, Value.agg #[Value.int .i64 x0, Value.string x0_1, Value.bool x0_2, Value.int .i64 x0_3, Value.slice x0_4.a x0_4.n x0_4.c, Value.slice x0_5.a x0_5.n x0_5.c]), (1, Value.slice needs1.a needs1.n needs1.c)] ⟨rfl, rfl, trivial⟩
  refine W.region ?_
  refine ol_box S H rfl rfl rfl trivial ?_
  clear S H aa; intro p2 aa ww h1 H S
  refine OL.pure S (Lf.run_assign (S.ev rfl)) rfl rfl trivial ?_
  clear S; intro aa S
  refine OL.nil ?_
  refine W.seq ?_
  refine W.seq ?_
  replace S := S.sub [(1, Value.slice needs1.a needs1.n needs1.c), (2, Value.pointer (some p2))] ⟨rfl, rfl, trivial⟩
  refine W.region ?_
  refine ol_cal S H isfn8 rfl rfl trivial ?_
  clear S H aa; intro u aa ww h2 H S
  obtain ⟨x6, rfl, H⟩ := H
  refine OL.pure S (Lf.run_not (S.ev rfl)) rfl rfl trivial ?_
  clear S; intro aa S
  refine OL.pure S (Lf.run_move (S.ev rfl)) rfl rfl trivial ?_
  clear S; intro aa S
  obtain ⟨J, H, HK⟩ := H
  refine OL.cutN 4 (fun aa ww => ∃ x12 h3, St 29 ((12, Value.bool x12) :: [(1, Value.slice needs1.a needs1.n needs1.c), (2, Value.pointer (some p2)), (6, Value.bool x6), (7, Value.bool (!x6)), (8, Value.bool (!x6))]) h3 w0 aa ww ∧ J x12 h3) ?_ ?_
  · rcases Bool.eq_false_or_eq_true (!x6) with hb | hb
    · replace H := H.1 hb
      refine OL.not S rfl rfl (GNo.mk rfl rfl hb) ?_
      clear S; intro aa S
      refine OL.not S rfl rfl (GNo.mk rfl rfl hb) ?_
      clear S; intro aa S
      refine OL.not S rfl rfl (GNo.mk rfl rfl hb) ?_
      clear S; intro aa S
      refine OL.pure S (Lf.run_pickT (S.ev rfl) hb (S.ev rfl)) rfl rfl trivial ?_
      clear S; intro aa S
      refine OL.nil ?_
      exact ⟨_, _, S.sub _ ⟨rfl, rfl, rfl, rfl, rfl, rfl, trivial⟩, H⟩
    · replace H := H.2 hb
      obtain ⟨y9, y9_1, y9_2, y9_3, y9_4, y9_5, c_1, c_2, c_3, c_4, c_5, c_6, H⟩ := H
      refine OL.pure S (Lf.run_ldA (cs := [Value.int .i64 y9, Value.string y9_1, Value.bool y9_2, Value.int .i64 y9_3, Value.slice y9_4.a y9_4.n y9_4.c, Value.slice y9_5.a y9_5.n y9_5.c]) (S.ev rfl) ag25 ti25 (by rw [S.heap]; exact RowL.toRow ⟨c_1, c_2, c_3, c_4, c_5, c_6, trivial⟩)) rfl rfl (GOk.mk rfl rfl hb) ?_
      clear S; intro aa S
      refine ol_cal S H isfn9 rfl rfl (GOk.mk rfl rfl hb) ?_
      clear S H aa; intro u_1 aa ww h4 H S
      obtain ⟨x10, rfl, H⟩ := H
      refine OL.pure S (Lf.run_not (S.ev rfl)) rfl rfl (GOk.mk rfl rfl hb) ?_
      clear S; intro aa S
      refine OL.pure S (Lf.run_pickF (S.ev rfl) hb (S.ev rfl)) rfl rfl trivial ?_
      clear S; intro aa S
      refine OL.nil ?_
      exact ⟨_, _, S.sub _ ⟨rfl, rfl, rfl, rfl, rfl, rfl, trivial⟩, H⟩
  · clear S aa
    rintro aa ww ⟨x12, h3, S, HJ⟩
    replace H := HK _ _ HJ
    clear HK HJ
    refine OL.pure S (Lf.run_move (S.ev rfl)) rfl rfl trivial ?_
    clear S; intro aa S
    refine OL.cutN 4 (fun aa ww => St 29 ((17, Value.bool (x12 || (decide (10 < ((needs1.n : Nat) : Int))))) :: [(1, Value.slice needs1.a needs1.n needs1.c), (2, Value.pointer (some p2)), (6, Value.bool x6), (7, Value.bool (!x6)), (8, Value.bool (!x6)), (12, Value.bool x12), (13, Value.bool x12)]) h3 w0 aa ww) ?_ ?_
    · rcases Bool.eq_false_or_eq_true x12 with hb_1 | hb_1
      · refine OL.not S rfl rfl (GNo.mk rfl rfl hb_1) ?_
        clear S; intro aa S
        refine OL.not S rfl rfl (GNo.mk rfl rfl hb_1) ?_
        clear S; intro aa S
        refine OL.not S rfl rfl (GNo.mk rfl rfl hb_1) ?_
        clear S; intro aa S
        refine OL.pure S (Lf.run_pickT (S.ev rfl) hb_1 (S.ev rfl)) rfl rfl trivial ?_
        clear S; intro aa S
        refine OL.nil ?_
        exact (S.hd (by rw [hb_1, Bool.true_or])).sub _ ⟨rfl, rfl, rfl, rfl, rfl, rfl, rfl, rfl, trivial⟩
      · refine OL.pure S (Lf.run_move (S.ev rfl)) rfl rfl (GOk.mk rfl rfl hb_1) ?_
        clear S; intro aa S
        refine OL.pure S (Lf.run_lens (S.ev rfl) rfl Try.underlying26) rfl rfl (GOk.mk rfl rfl hb_1) ?_
        clear S; intro aa S
        refine OL.pure S (Lf.run_gtr (S.ev rfl) (S.ev rfl)) rfl rfl (GOk.mk rfl rfl hb_1) ?_
        clear S; intro aa S
        refine OL.pure S (Lf.run_pickF (S.ev rfl) hb_1 (S.ev rfl)) rfl rfl trivial ?_
        clear S; intro aa S
        refine OL.nil ?_
        exact (S.hd (by rw [hb_1, Bool.false_or])).sub _ ⟨rfl, rfl, rfl, rfl, rfl, rfl, rfl, rfl, trivial⟩
    · clear S aa
      intro aa ww S
      refine OL.nil ?_
      refine W.cond S (b := (x12 || (decide (10 < ((needs1.n : Nat) : Int))))) rfl (fun hb_2 => ?_) (fun hb_2 => ?_)
      · replace H := H.1 hb_2
        refine W.seq ?_
        replace S := S.sub [] trivial
        refine W.region ?_
        refine ol_cal S H isfn8 rfl rfl trivial ?_
        clear S H aa; intro u_2 aa ww h5 H S
        obtain ⟨x18, rfl, H⟩ := H
        refine OL.pure S (Lf.run_assign (S.ev rfl)) rfl rfl trivial ?_
        clear S; intro aa S
        refine OL.nil ?_
        refine W.ret ?_
        exact Ret.one S rfl rfl H
      · replace H := H.2 hb_2
        refine W.skip ?_
        refine W.seq ?_
        replace S := S.sub [(1, Value.slice needs1.a needs1.n needs1.c), (2, Value.pointer (some p2))] ⟨rfl, rfl, trivial⟩
        refine W.region ?_
        refine ol_newM S H rfl trivial ?_
        clear S H aa; intro m19 aa ww h6 H S
        refine OL.pure S (Lf.run_move (S.ev rfl)) rfl rfl trivial ?_
        clear S; intro aa S
        refine ol_insS S H Try.underlying30 Try.underlying9 rfl rfl rfl trivial ?_
        clear S H aa; intro aa ww h7 H S
        refine OL.pure S (Lf.run_move (S.ev rfl)) rfl rfl trivial ?_
        clear S; intro aa S
        refine OL.pure S (Lf.run_assign (S.ev rfl)) rfl rfl trivial ?_
        clear S; intro aa S
        refine OL.nil ?_
        refine W.seq ?_
        replace S := S.sub [(2, Value.pointer (some p2)), (5, Value.map (some m19))] ⟨rfl, rfl, trivial⟩
        obtain ⟨Sq, HS, H⟩ := H
        refine W.regionN [3] [2, 5, 6] Sq S (by kernel_rfl) ?_
        clear S; intro ww S
        obtain ⟨y22, y22_1, y22_2, y22_3, y22_4, y22_5, c_15, c_16, c_17, c_18, c_19, c_20, H⟩ := H
        refine BN.load 0 S (fun _ => HS) rfl (by kernel_rfl) (by kernel_rfl) (fun _ hx => Lf.run_ldA (cs := [Value.int .i64 y22, Value.string y22_1, Value.bool y22_2, Value.int .i64 y22_3, Value.slice y22_4.a y22_4.n y22_4.c, Value.slice y22_5.a y22_5.n y22_5.c]) (S.ev rfl) ag25 ti25 (hx.row (S.row ⟨c_15, c_16, c_17, c_18, c_19, c_20, trivial⟩))) rfl rfl trivial ?_
        clear S; intro aa S
        refine BN.pure 1 S (fun _ => HS) rfl (by kernel_rfl) (by kernel_rfl) (fun _ => Lf.run_move (S.ev rfl)) rfl rfl trivial ?_
        clear S; intro aa S
        refine BN.pure 4 S (fun _ => HS) rfl (by kernel_rfl) (by kernel_rfl) (fun _ => Lf.run_move (S.ev rfl)) rfl rfl trivial ?_
        clear S; intro aa S
        obtain ⟨y25, y25_1, y25_2, y25_3, y25_4, y25_5, c_9, c_10, c_11, c_12, c_13, c_14, H⟩ := H
        refine BN.held 3 S HS rfl (by kernel_rfl) (fun _ hq => Lf.run_ldA (cs := [Value.int .i64 y25, Value.string y25_1, Value.bool y25_2, Value.int .i64 y25_3, Value.slice y25_4.a y25_4.n y25_4.c, Value.slice y25_5.a y25_5.n y25_5.c]) (S.ev rfl) ag25 ti25 (hlRow hq fun h_ hs_ => ⟨c_9 h_ hs_, c_10 h_ hs_, c_11 h_ hs_, c_12 h_ hs_, c_13 h_ hs_, c_14 h_ hs_, trivial⟩)) rfl rfl trivial ?_
        clear S; intro aa S
        refine BN.eff 2 rfl (by kernel_rfl) ?_
        refine ol_cal S H isfn11 rfl rfl trivial ?_
        clear S H aa; intro u_3 aa ww h8 H S
        obtain ⟨x24, rfl, H⟩ := H
        refine OL.nil ?_
        clear HS; obtain ⟨HS, H⟩ := H
        refine ⟨fun _ => by rw [S.heap]; exact HS, ?_⟩
        refine BN.eff 5 rfl (by kernel_rfl) ?_
        refine ol_cal S H isfn12 rfl rfl trivial ?_
        clear S H aa; intro u_4 aa ww h9 H S
        obtain ⟨x27, rfl, H⟩ := H
        refine OL.nil ?_
        refine ⟨noNeed (by kernel_rfl), ?_⟩
        refine BN.eff 6 rfl (by kernel_rfl) ?_
        refine ol_cal S H isfn10 rfl rfl trivial ?_
        clear S H aa; intro u_5 aa ww h10 H S
        obtain ⟨x28, rfl, H⟩ := H
        refine OL.nil ?_
        refine ⟨noNeed (by kernel_rfl), ?_⟩
        refine BN.pure 7 S (noNeed (by kernel_rfl)) rfl (by kernel_rfl) (by kernel_rfl) (fun _ => Lf.run_assign (S.ev rfl)) rfl rfl trivial ?_
        clear S; intro aa S
        refine BN.done (by kernel_rfl) ?_
        refine W.ret ?_
        exact Ret.one S rfl rfl H

/-- chattel chattellaw07.TypesMaps -/
def L4 (x0 : Int) (x0_1 : ByteArray) (x0_2 : Bool) (x0_3 : Int) (x0_4 : Sv) (x0_5 : Sv) (vby1 : Int) (h : Heap) (R : Value → Heap → Prop) : Prop :=
  new 25 #[Value.int .i64 x0, Value.string x0_1, Value.bool x0_2, Value.int .i64 x0_3, Value.slice x0_4.a x0_4.n x0_4.c, Value.slice x0_5.a x0_5.n x0_5.c] h fun p2 h1 =>
  new 3 #[Value.int .i64 vby1] h1 fun p3 h2 =>
  cal Try.prog 8 #[] h2 fun u h3 => asB u fun x12 =>
  ∃ J : Bool → Heap → Prop, (orj (!x12) (fun k =>
    ∃ (y15 : Int) (y15_1 : ByteArray) (y15_2 : Bool) (y15_3 : Int) (y15_4 : Sv) (y15_5 : Sv), cl h3 p2 = some (Value.int .i64 y15) ∧ cl h3 (p2.add 1) = some (Value.string y15_1) ∧ cl h3 (p2.add 2) = some (Value.bool y15_2) ∧ cl h3 (p2.add 3) = some (Value.int .i64 y15_3) ∧ cl h3 (p2.add 4) = some (Value.slice y15_4.a y15_4.n y15_4.c) ∧ cl h3 (p2.add 5) = some (Value.slice y15_5.a y15_5.n y15_5.c) ∧
    cal Try.prog 9 #[Value.agg #[Value.int .i64 y15, Value.string y15_1, Value.bool y15_2, Value.int .i64 y15_3, Value.slice y15_4.a y15_4.n y15_4.c, Value.slice y15_5.a y15_5.n y15_5.c], Value.int .i64 6] h3 fun u_1 h5 => asB u_1 fun x16 =>
    k (!x16) h5) h3 J) ∧ ∀ x18 h4, J x18 h4 →
  ifb x18 (
    cal Try.prog 8 #[] h4 fun u_2 h6 => asB u_2 fun x19 =>
    R (Value.bool x19) h6) (
    ∃ (y20 : Int) (y20_1 : ByteArray) (y20_2 : Bool) (y20_3 : Int) (y20_4 : Sv) (y20_5 : Sv), cl h4 p2 = some (Value.int .i64 y20) ∧ cl h4 (p2.add 1) = some (Value.string y20_1) ∧ cl h4 (p2.add 2) = some (Value.bool y20_2) ∧ cl h4 (p2.add 3) = some (Value.int .i64 y20_3) ∧ cl h4 (p2.add 4) = some (Value.slice y20_4.a y20_4.n y20_4.c) ∧ cl h4 (p2.add 5) = some (Value.slice y20_5.a y20_5.n y20_5.c) ∧
    cal Try.prog 13 #[Value.agg #[Value.int .i64 y20, Value.string y20_1, Value.bool y20_2, Value.int .i64 y20_3, Value.slice y20_4.a y20_4.n y20_4.c, Value.slice y20_5.a y20_5.n y20_5.c]] h4 fun u_3 h7 => asT u_3 fun x21 =>
    new 3 #[Value.int .i64 0] h7 fun p6 h8 =>
    sto h8 p6 (Value.int .i64 0) fun h9 =>
    ∃ (y22 : Int) (y22_1 : ByteArray) (y22_2 : Bool) (y22_3 : Int) (y22_4 : Sv) (y22_5 : Sv), cl h9 p2 = some (Value.int .i64 y22) ∧ cl h9 (p2.add 1) = some (Value.string y22_1) ∧ cl h9 (p2.add 2) = some (Value.bool y22_2) ∧ cl h9 (p2.add 3) = some (Value.int .i64 y22_3) ∧ cl h9 (p2.add 4) = some (Value.slice y22_4.a y22_4.n y22_4.c) ∧ cl h9 (p2.add 5) = some (Value.slice y22_5.a y22_5.n y22_5.c) ∧
    cal Try.prog 14 #[Value.agg #[Value.int .i64 y22, Value.string y22_1, Value.bool y22_2, Value.int .i64 y22_3, Value.slice y22_4.a y22_4.n y22_4.c, Value.slice y22_5.a y22_5.n y22_5.c], (Value.func (.func 15) #[] #[Value.pointer (some p6), Value.pointer (some p3)])] h9 fun u_4 h10 => ∃ (y24 : Int) (y24_1 : ByteArray) (y24_2 : Bool) (y24_3 : Int) (y24_4 : Sv) (y24_5 : Sv), u_4 = Value.agg #[Value.int .i64 y24, Value.string y24_1, Value.bool y24_2, Value.int .i64 y24_3, Value.slice y24_4.a y24_4.n y24_4.c, Value.slice y24_5.a y24_5.n y24_5.c] ∧
    new 25 #[Value.int .i64 0, Value.string (⟨#[]⟩ : ByteArray), Value.bool false, Value.int .i64 0, Value.slice (⟨none, 0, 0⟩ : Sv).a (⟨none, 0, 0⟩ : Sv).n (⟨none, 0, 0⟩ : Sv).c, Value.slice (⟨none, 0, 0⟩ : Sv).a (⟨none, 0, 0⟩ : Sv).n (⟨none, 0, 0⟩ : Sv).c] h10 fun p9 h11 =>
    stoA h11 p9 [Value.int .i64 y24, Value.string y24_1, Value.bool y24_2, Value.int .i64 y24_3, Value.slice y24_4.a y24_4.n y24_4.c, Value.slice y24_5.a y24_5.n y24_5.c] fun h12 =>
    ∃ (y25 : Int) (y25_1 : ByteArray) (y25_2 : Bool) (y25_3 : Int) (y25_4 : Sv) (y25_5 : Sv), cl h12 p2 = some (Value.int .i64 y25) ∧ cl h12 (p2.add 1) = some (Value.string y25_1) ∧ cl h12 (p2.add 2) = some (Value.bool y25_2) ∧ cl h12 (p2.add 3) = some (Value.int .i64 y25_3) ∧ cl h12 (p2.add 4) = some (Value.slice y25_4.a y25_4.n y25_4.c) ∧ cl h12 (p2.add 5) = some (Value.slice y25_5.a y25_5.n y25_5.c) ∧
    cal Try.prog 16 #[Value.agg #[Value.int .i64 y25, Value.string y25_1, Value.bool y25_2, Value.int .i64 y25_3, Value.slice y25_4.a y25_4.n y25_4.c, Value.slice y25_5.a y25_5.n y25_5.c]] h12 fun u_5 h13 => asS u_5 fun x26 =>
    ∃ (I : Sv → Sv → Int → Heap → Prop) (m : Sv → Sv → Int → Heap → Nat), I (⟨none, 0, 0⟩ : Sv) (⟨none, 0, 0⟩ : Sv) 0 h13 ∧ ∀ want7 nulls8 i11 h14, I want7 nulls8 i11 h14 →
    ifb (decide (i11 < ((x26.n : Nat) : Int))) (
      ldI .i64 h14 p3 fun x36 =>
      newS 3 #[Value.int .i64 (bitsI .xor .i64 (IntKind.i64.wrap (i11 + 1)) x36)] 1 h14 fun s38 h15 =>
      appS 3 (Value.int .i64 0).cells 1 8 h15 want7 s38 fun s39 h16 =>
      newS 3 #[Value.int .i64 0] 1 h16 fun s41 h17 =>
      appS 3 (Value.int .i64 0).cells 1 8 h17 nulls8 s41 fun s42 h18 =>
      I s39 s42 (IntKind.i64.wrap (i11 + 1)) h18 ∧ m s39 s42 (IntKind.i64.wrap (i11 + 1)) h18 < m want7 nulls8 i11 h14) (
      ∃ J_1 : Bool → Heap → Prop, (
        ∃ Sq : Heap → Prop, Sq h14 ∧ (
          ldI .i64 h14 p6 fun x43 =>
          ifb (x43 == ((x26.n : Nat) : Int)) (
            ∃ (y47 : Int) (y47_1 : ByteArray) (y47_2 : Bool) (y47_3 : Int) (y47_4 : Sv) (y47_5 : Sv), cl h14 p9 = some (Value.int .i64 y47) ∧ cl h14 (p9.add 1) = some (Value.string y47_1) ∧ cl h14 (p9.add 2) = some (Value.bool y47_2) ∧ cl h14 (p9.add 3) = some (Value.int .i64 y47_3) ∧ cl h14 (p9.add 4) = some (Value.slice y47_4.a y47_4.n y47_4.c) ∧ cl h14 (p9.add 5) = some (Value.slice y47_5.a y47_5.n y47_5.c) ∧
            ∃ (y48 : Int) (y48_1 : ByteArray) (y48_2 : Bool) (y48_3 : Int) (y48_4 : Sv) (y48_5 : Sv), cl h14 p2 = some (Value.int .i64 y48) ∧ cl h14 (p2.add 1) = some (Value.string y48_1) ∧ cl h14 (p2.add 2) = some (Value.bool y48_2) ∧ cl h14 (p2.add 3) = some (Value.int .i64 y48_3) ∧ cl h14 (p2.add 4) = some (Value.slice y48_4.a y48_4.n y48_4.c) ∧ cl h14 (p2.add 5) = some (Value.slice y48_5.a y48_5.n y48_5.c) ∧
            cal Try.prog 17 #[Value.agg #[Value.int .i64 y47, Value.string y47_1, Value.bool y47_2, Value.int .i64 y47_3, Value.slice y47_4.a y47_4.n y47_4.c, Value.slice y47_5.a y47_5.n y47_5.c], Value.agg #[Value.int .i64 y48, Value.string y48_1, Value.bool y48_2, Value.int .i64 y48_3, Value.slice y48_4.a y48_4.n y48_4.c, Value.slice y48_5.a y48_5.n y48_5.c]] h14 fun u_6 h19 => asB u_6 fun x49 =>
            Sq h19 ∧
            ifb x49 (
              ∃ (y52 : Int) (y52_1 : ByteArray) (y52_2 : Bool) (y52_3 : Int) (y52_4 : Sv) (y52_5 : Sv), cl h19 p9 = some (Value.int .i64 y52) ∧ cl h19 (p9.add 1) = some (Value.string y52_1) ∧ cl h19 (p9.add 2) = some (Value.bool y52_2) ∧ cl h19 (p9.add 3) = some (Value.int .i64 y52_3) ∧ cl h19 (p9.add 4) = some (Value.slice y52_4.a y52_4.n y52_4.c) ∧ cl h19 (p9.add 5) = some (Value.slice y52_5.a y52_5.n y52_5.c) ∧
              cal Try.prog 16 #[Value.agg #[Value.int .i64 y52, Value.string y52_1, Value.bool y52_2, Value.int .i64 y52_3, Value.slice y52_4.a y52_4.n y52_4.c, Value.slice y52_5.a y52_5.n y52_5.c]] h19 fun u_7 h20 => asS u_7 fun x53 =>
              Sq h20 ∧
              cal Try.prog 18 #[Value.slice x53.a x53.n x53.c, Value.slice want7.a want7.n want7.c] h20 fun u_8 h21 => asB u_8 fun x55 =>
              Sq h21 ∧
              ifb x55 (
                ∃ (y58 : Int) (y58_1 : ByteArray) (y58_2 : Bool) (y58_3 : Int) (y58_4 : Sv) (y58_5 : Sv), cl h21 p2 = some (Value.int .i64 y58) ∧ cl h21 (p2.add 1) = some (Value.string y58_1) ∧ cl h21 (p2.add 2) = some (Value.bool y58_2) ∧ cl h21 (p2.add 3) = some (Value.int .i64 y58_3) ∧ cl h21 (p2.add 4) = some (Value.slice y58_4.a y58_4.n y58_4.c) ∧ cl h21 (p2.add 5) = some (Value.slice y58_5.a y58_5.n y58_5.c) ∧
                cal Try.prog 13 #[Value.agg #[Value.int .i64 y58, Value.string y58_1, Value.bool y58_2, Value.int .i64 y58_3, Value.slice y58_4.a y58_4.n y58_4.c, Value.slice y58_5.a y58_5.n y58_5.c]] h21 fun u_9 h22 => asT u_9 fun x59 =>
                Sq h22 ∧
                ifb (x59.toList == x21.toList) (
                  ∃ (y64 : Int) (y64_1 : ByteArray) (y64_2 : Bool) (y64_3 : Int) (y64_4 : Sv) (y64_5 : Sv), cl h22 p2 = some (Value.int .i64 y64) ∧ cl h22 (p2.add 1) = some (Value.string y64_1) ∧ cl h22 (p2.add 2) = some (Value.bool y64_2) ∧ cl h22 (p2.add 3) = some (Value.int .i64 y64_3) ∧ cl h22 (p2.add 4) = some (Value.slice y64_4.a y64_4.n y64_4.c) ∧ cl h22 (p2.add 5) = some (Value.slice y64_5.a y64_5.n y64_5.c) ∧
                  cal Try.prog 19 #[Value.agg #[Value.int .i64 y64, Value.string y64_1, Value.bool y64_2, Value.int .i64 y64_3, Value.slice y64_4.a y64_4.n y64_4.c, Value.slice y64_5.a y64_5.n y64_5.c]] h22 fun u_10 h23 => ∃ (y65 : Int) (y65_1 : ByteArray) (y65_2 : Bool) (y65_3 : Int) (y65_4 : Sv) (y65_5 : Sv), u_10 = Value.agg #[Value.int .i64 y65, Value.string y65_1, Value.bool y65_2, Value.int .i64 y65_3, Value.slice y65_4.a y65_4.n y65_4.c, Value.slice y65_5.a y65_5.n y65_5.c] ∧
                  Sq h23 ∧
                  cal Try.prog 16 #[Value.agg #[Value.int .i64 y65, Value.string y65_1, Value.bool y65_2, Value.int .i64 y65_3, Value.slice y65_4.a y65_4.n y65_4.c, Value.slice y65_5.a y65_5.n y65_5.c]] h23 fun u_11 h24 => asS u_11 fun x66 =>
                  Sq h24 ∧
                  cal Try.prog 18 #[Value.slice x66.a x66.n x66.c, Value.slice nulls8.a nulls8.n nulls8.c] h24 fun u_12 h25 => asB u_12 fun x68 =>
                  Sq h25 ∧
                  ifb x68 (
                    ∃ (y71 : Int) (y71_1 : ByteArray) (y71_2 : Bool) (y71_3 : Int) (y71_4 : Sv) (y71_5 : Sv), cl h25 p2 = some (Value.int .i64 y71) ∧ cl h25 (p2.add 1) = some (Value.string y71_1) ∧ cl h25 (p2.add 2) = some (Value.bool y71_2) ∧ cl h25 (p2.add 3) = some (Value.int .i64 y71_3) ∧ cl h25 (p2.add 4) = some (Value.slice y71_4.a y71_4.n y71_4.c) ∧ cl h25 (p2.add 5) = some (Value.slice y71_5.a y71_5.n y71_5.c) ∧
                    ∃ Sq_1 : Heap → Prop, (∀ h, Sq_1 h → Sq h) ∧ Sq_1 h25 ∧
                    ∃ (y73 : Int) (y73_1 : ByteArray) (y73_2 : Bool) (y73_3 : Int) (y73_4 : Sv) (y73_5 : Sv), hld Sq_1 p2 (Value.int .i64 y73) ∧ hld Sq_1 (p2.add 1) (Value.string y73_1) ∧ hld Sq_1 (p2.add 2) (Value.bool y73_2) ∧ hld Sq_1 (p2.add 3) (Value.int .i64 y73_3) ∧ hld Sq_1 (p2.add 4) (Value.slice y73_4.a y73_4.n y73_4.c) ∧ hld Sq_1 (p2.add 5) (Value.slice y73_5.a y73_5.n y73_5.c) ∧
                    cal Try.prog 19 #[Value.agg #[Value.int .i64 y71, Value.string y71_1, Value.bool y71_2, Value.int .i64 y71_3, Value.slice y71_4.a y71_4.n y71_4.c, Value.slice y71_5.a y71_5.n y71_5.c]] h25 fun u_13 h26 => ∃ (y72 : Int) (y72_1 : ByteArray) (y72_2 : Bool) (y72_3 : Int) (y72_4 : Sv) (y72_5 : Sv), u_13 = Value.agg #[Value.int .i64 y72, Value.string y72_1, Value.bool y72_2, Value.int .i64 y72_3, Value.slice y72_4.a y72_4.n y72_4.c, Value.slice y72_5.a y72_5.n y72_5.c] ∧
                    Sq_1 h26 ∧
                    cal Try.prog 17 #[Value.agg #[Value.int .i64 y72, Value.string y72_1, Value.bool y72_2, Value.int .i64 y72_3, Value.slice y72_4.a y72_4.n y72_4.c, Value.slice y72_5.a y72_5.n y72_5.c], Value.agg #[Value.int .i64 y73, Value.string y73_1, Value.bool y73_2, Value.int .i64 y73_3, Value.slice y73_4.a y73_4.n y73_4.c, Value.slice y73_5.a y73_5.n y73_5.c]] h26 fun u_14 h27 => asB u_14 fun x74 =>
                    Sq_1 h27 ∧
                    ifb x74 (
                      ∃ (y77 : Int) (y77_1 : ByteArray) (y77_2 : Bool) (y77_3 : Int) (y77_4 : Sv) (y77_5 : Sv), cl h27 p2 = some (Value.int .i64 y77) ∧ cl h27 (p2.add 1) = some (Value.string y77_1) ∧ cl h27 (p2.add 2) = some (Value.bool y77_2) ∧ cl h27 (p2.add 3) = some (Value.int .i64 y77_3) ∧ cl h27 (p2.add 4) = some (Value.slice y77_4.a y77_4.n y77_4.c) ∧ cl h27 (p2.add 5) = some (Value.slice y77_5.a y77_5.n y77_5.c) ∧
                      ∃ Sq_2 : Heap → Prop, (∀ h, Sq_2 h → Sq_1 h) ∧ Sq_2 h27 ∧
                      ∃ (y79 : Int) (y79_1 : ByteArray) (y79_2 : Bool) (y79_3 : Int) (y79_4 : Sv) (y79_5 : Sv), hld Sq_2 p2 (Value.int .i64 y79) ∧ hld Sq_2 (p2.add 1) (Value.string y79_1) ∧ hld Sq_2 (p2.add 2) (Value.bool y79_2) ∧ hld Sq_2 (p2.add 3) (Value.int .i64 y79_3) ∧ hld Sq_2 (p2.add 4) (Value.slice y79_4.a y79_4.n y79_4.c) ∧ hld Sq_2 (p2.add 5) (Value.slice y79_5.a y79_5.n y79_5.c) ∧
                      cal Try.prog 14 #[Value.agg #[Value.int .i64 y77, Value.string y77_1, Value.bool y77_2, Value.int .i64 y77_3, Value.slice y77_4.a y77_4.n y77_4.c, Value.slice y77_5.a y77_5.n y77_5.c], Value.nilFunc] h27 fun u_15 h28 => ∃ (y78 : Int) (y78_1 : ByteArray) (y78_2 : Bool) (y78_3 : Int) (y78_4 : Sv) (y78_5 : Sv), u_15 = Value.agg #[Value.int .i64 y78, Value.string y78_1, Value.bool y78_2, Value.int .i64 y78_3, Value.slice y78_4.a y78_4.n y78_4.c, Value.slice y78_5.a y78_5.n y78_5.c] ∧
                      Sq_2 h28 ∧
                      cal Try.prog 20 #[Value.agg #[Value.int .i64 y78, Value.string y78_1, Value.bool y78_2, Value.int .i64 y78_3, Value.slice y78_4.a y78_4.n y78_4.c, Value.slice y78_5.a y78_5.n y78_5.c], Value.agg #[Value.int .i64 y79, Value.string y79_1, Value.bool y79_2, Value.int .i64 y79_3, Value.slice y79_4.a y79_4.n y79_4.c, Value.slice y79_5.a y79_5.n y79_5.c]] h28 fun u_16 h29 => asB u_16 fun x80 =>
                      J_1 x80 h29) (
                      J_1 false h27)) (
                    J_1 false h25)) (
                  J_1 false h22)) (
                J_1 false h21)) (
              J_1 false h19)) (
            J_1 false h14))) ∧ (∀ x4 h30, J_1 x4 h30 →
      R (Value.bool x4) h30)))

set_option maxRecDepth 100000 in

theorem F4 {x0 x0_1 x0_2 x0_3 x0_4 x0_5 vby1 h : _} {R : Value → Heap → Prop} (H : L4 x0 x0_1 x0_2 x0_3 x0_4 x0_5 vby1 h R) : CallsH Try.prog 4 #[Value.agg #[Value.int .i64 x0, Value.string x0_1, Value.bool x0_2, Value.int .i64 x0_3, Value.slice x0_4.a x0_4.n x0_4.c, Value.slice x0_5.a x0_5.n x0_5.c], Value.int .i64 vby1] h R := by
  refine CallsH.enter (n := 82) Try.func4 rfl rfl rfl rfl ?_
  intro w0 aa ww S
  unfold L4 at H
  refine W.seq ?_
  replace S := S.sub [(0, Value.agg #[Value.int .i64 x0, Value.string x0_1, Value.bool x0_2, Value.int .i64 x0_3, Value.slice x0_4.a x0_4.n x0_4.c, Value.slice x0_5.a x0_5.n x0_5.c]), (1, Value.int .i64 vby1)] ⟨rfl, rfl, trivial⟩
  refine W.region ?_
  refine ol_box S H rfl rfl rfl trivial ?_
  clear S H aa; intro p2 aa ww h1 H S
  refine ol_box S H rfl rfl rfl trivial ?_
  clear S H aa; intro p3 aa ww h2 H S
  refine OL.pure S (Lf.run_assign (S.ev rfl)) rfl rfl trivial ?_
  clear S; intro aa S
  refine OL.nil ?_
  refine W.seq ?_
  refine W.seq ?_
  replace S := S.sub [(2, Value.pointer (some p2)), (3, Value.pointer (some p3))] ⟨rfl, rfl, trivial⟩
  refine W.region ?_
  refine ol_cal S H isfn8 rfl rfl trivial ?_
  clear S H aa; intro u aa ww h3 H S
  obtain ⟨x12, rfl, H⟩ := H
  refine OL.pure S (Lf.run_not (S.ev rfl)) rfl rfl trivial ?_
  clear S; intro aa S
  refine OL.pure S (Lf.run_move (S.ev rfl)) rfl rfl trivial ?_
  clear S; intro aa S
  obtain ⟨J, H, HK⟩ := H
  refine OL.cutN 4 (fun aa ww => ∃ x18 h4, St 82 ((18, Value.bool x18) :: [(2, Value.pointer (some p2)), (3, Value.pointer (some p3)), (12, Value.bool x12), (13, Value.bool (!x12)), (14, Value.bool (!x12))]) h4 w0 aa ww ∧ J x18 h4) ?_ ?_
  · rcases Bool.eq_false_or_eq_true (!x12) with hb | hb
    · replace H := H.1 hb
      refine OL.not S rfl rfl (GNo.mk rfl rfl hb) ?_
      clear S; intro aa S
      refine OL.not S rfl rfl (GNo.mk rfl rfl hb) ?_
      clear S; intro aa S
      refine OL.not S rfl rfl (GNo.mk rfl rfl hb) ?_
      clear S; intro aa S
      refine OL.pure S (Lf.run_pickT (S.ev rfl) hb (S.ev rfl)) rfl rfl trivial ?_
      clear S; intro aa S
      refine OL.nil ?_
      exact ⟨_, _, S.sub _ ⟨rfl, rfl, rfl, rfl, rfl, rfl, trivial⟩, H⟩
    · replace H := H.2 hb
      obtain ⟨y15, y15_1, y15_2, y15_3, y15_4, y15_5, c_1, c_2, c_3, c_4, c_5, c_6, H⟩ := H
      refine OL.pure S (Lf.run_ldA (cs := [Value.int .i64 y15, Value.string y15_1, Value.bool y15_2, Value.int .i64 y15_3, Value.slice y15_4.a y15_4.n y15_4.c, Value.slice y15_5.a y15_5.n y15_5.c]) (S.ev rfl) ag25 ti25 (by rw [S.heap]; exact RowL.toRow ⟨c_1, c_2, c_3, c_4, c_5, c_6, trivial⟩)) rfl rfl (GOk.mk rfl rfl hb) ?_
      clear S; intro aa S
      refine ol_cal S H isfn9 rfl rfl (GOk.mk rfl rfl hb) ?_
      clear S H aa; intro u_1 aa ww h5 H S
      obtain ⟨x16, rfl, H⟩ := H
      refine OL.pure S (Lf.run_not (S.ev rfl)) rfl rfl (GOk.mk rfl rfl hb) ?_
      clear S; intro aa S
      refine OL.pure S (Lf.run_pickF (S.ev rfl) hb (S.ev rfl)) rfl rfl trivial ?_
      clear S; intro aa S
      refine OL.nil ?_
      exact ⟨_, _, S.sub _ ⟨rfl, rfl, rfl, rfl, rfl, rfl, trivial⟩, H⟩
  · clear S aa
    rintro aa ww ⟨x18, h4, S, HJ⟩
    replace H := HK _ _ HJ
    clear HK HJ
    refine OL.nil ?_
    refine W.cond S (b := x18) rfl (fun hb_1 => ?_) (fun hb_1 => ?_)
    · replace H := H.1 hb_1
      refine W.seq ?_
      replace S := S.sub [] trivial
      refine W.region ?_
      refine ol_cal S H isfn8 rfl rfl trivial ?_
      clear S H aa; intro u_2 aa ww h6 H S
      obtain ⟨x19, rfl, H⟩ := H
      refine OL.pure S (Lf.run_assign (S.ev rfl)) rfl rfl trivial ?_
      clear S; intro aa S
      refine OL.nil ?_
      refine W.ret ?_
      exact Ret.one S rfl rfl H
    · replace H := H.2 hb_1
      refine W.skip ?_
      refine W.seq ?_
      replace S := S.sub [(2, Value.pointer (some p2)), (3, Value.pointer (some p3))] ⟨rfl, rfl, trivial⟩
      refine W.region ?_
      obtain ⟨y20, y20_1, y20_2, y20_3, y20_4, y20_5, c_87, c_88, c_89, c_90, c_91, c_92, H⟩ := H
      refine OL.pure S (Lf.run_ldA (cs := [Value.int .i64 y20, Value.string y20_1, Value.bool y20_2, Value.int .i64 y20_3, Value.slice y20_4.a y20_4.n y20_4.c, Value.slice y20_5.a y20_5.n y20_5.c]) (S.ev rfl) ag25 ti25 (by rw [S.heap]; exact RowL.toRow ⟨c_87, c_88, c_89, c_90, c_91, c_92, trivial⟩)) rfl rfl trivial ?_
      clear S; intro aa S
      refine ol_cal S H isfn13 rfl rfl trivial ?_
      clear S H aa; intro u_3 aa ww h7 H S
      obtain ⟨x21, rfl, H⟩ := H
      refine OL.pure S (Lf.run_assign (S.ev rfl)) rfl rfl trivial ?_
      clear S; intro aa S
      refine OL.nil ?_
      refine W.seq ?_
      replace S := S.sub [(2, Value.pointer (some p2)), (3, Value.pointer (some p3)), (5, Value.string x21)] ⟨rfl, rfl, rfl, trivial⟩
      refine W.region ?_
      refine ol_alloc S H ti3 rfl rfl trivial ?_
      clear S H aa; intro p6 aa ww h8 H S
      refine ol_sto S H rfl rfl rfl ti3 trivial ?_
      clear S H aa; intro aa ww h9 H S
      refine OL.nil ?_
      refine W.seq ?_
      replace S := S.sub [(2, Value.pointer (some p2)), (3, Value.pointer (some p3)), (5, Value.string x21), (6, Value.pointer (some p6))] ⟨rfl, rfl, rfl, rfl, trivial⟩
      refine W.region ?_
      refine OL.pure S (Lf.run_assign (S.ev rfl)) rfl rfl trivial ?_
      clear S; intro aa S
      refine OL.pure S (Lf.run_assign (S.ev rfl)) rfl rfl trivial ?_
      clear S; intro aa S
      refine OL.nil ?_
      refine W.seq ?_
      replace S := S.sub [(2, Value.pointer (some p2)), (3, Value.pointer (some p3)), (5, Value.string x21), (6, Value.pointer (some p6)), (7, Value.slice (⟨none, 0, 0⟩ : Sv).a (⟨none, 0, 0⟩ : Sv).n (⟨none, 0, 0⟩ : Sv).c), (8, Value.slice (⟨none, 0, 0⟩ : Sv).a (⟨none, 0, 0⟩ : Sv).n (⟨none, 0, 0⟩ : Sv).c)] ⟨rfl, rfl, rfl, rfl, rfl, rfl, trivial⟩
      refine W.region ?_
      obtain ⟨y22, y22_1, y22_2, y22_3, y22_4, y22_5, c_81, c_82, c_83, c_84, c_85, c_86, H⟩ := H
      refine OL.pure S (Lf.run_ldA (cs := [Value.int .i64 y22, Value.string y22_1, Value.bool y22_2, Value.int .i64 y22_3, Value.slice y22_4.a y22_4.n y22_4.c, Value.slice y22_5.a y22_5.n y22_5.c]) (S.ev rfl) ag25 ti25 (by rw [S.heap]; exact RowL.toRow ⟨c_81, c_82, c_83, c_84, c_85, c_86, trivial⟩)) rfl rfl trivial ?_
      clear S; intro aa S
      refine OL.pure S (Lf.run_mf (evs_map S rfl)) rfl rfl trivial ?_
      clear S; intro aa S
      refine ol_cal S H isfn14 rfl rfl trivial ?_
      clear S H aa; intro u_4 aa ww h10 H S
      obtain ⟨y24, y24_1, y24_2, y24_3, y24_4, y24_5, rfl, H⟩ := H
      refine ol_alloc S H ti25 rfl rfl trivial ?_
      clear S H aa; intro p9 aa ww h11 H S
      refine ol_stoA S H rfl rfl ti25 trivial ?_
      clear S H aa; intro aa ww h12 H S
      refine OL.nil ?_
      refine W.seq ?_
      replace S := S.sub [(2, Value.pointer (some p2)), (3, Value.pointer (some p3)), (5, Value.string x21), (6, Value.pointer (some p6)), (7, Value.slice (⟨none, 0, 0⟩ : Sv).a (⟨none, 0, 0⟩ : Sv).n (⟨none, 0, 0⟩ : Sv).c), (8, Value.slice (⟨none, 0, 0⟩ : Sv).a (⟨none, 0, 0⟩ : Sv).n (⟨none, 0, 0⟩ : Sv).c), (9, Value.pointer (some p9))] ⟨rfl, rfl, rfl, rfl, rfl, rfl, rfl, trivial⟩
      refine W.region ?_
      obtain ⟨y25, y25_1, y25_2, y25_3, y25_4, y25_5, c_75, c_76, c_77, c_78, c_79, c_80, H⟩ := H
      refine OL.pure S (Lf.run_ldA (cs := [Value.int .i64 y25, Value.string y25_1, Value.bool y25_2, Value.int .i64 y25_3, Value.slice y25_4.a y25_4.n y25_4.c, Value.slice y25_5.a y25_5.n y25_5.c]) (S.ev rfl) ag25 ti25 (by rw [S.heap]; exact RowL.toRow ⟨c_75, c_76, c_77, c_78, c_79, c_80, trivial⟩)) rfl rfl trivial ?_
      clear S; intro aa S
      refine ol_cal S H isfn16 rfl rfl trivial ?_
      clear S H aa; intro u_5 aa ww h13 H S
      obtain ⟨x26, rfl, H⟩ := H
      refine OL.pure S (Lf.run_lens (S.ev rfl) rfl Try.underlying22) rfl rfl trivial ?_
      clear S; intro aa S
      refine OL.pure S (Lf.run_assign (S.ev rfl)) rfl rfl trivial ?_
      clear S; intro aa S
      refine OL.nil ?_
      refine W.seq ?_
      refine W.seq ?_
      replace S := S.sub [(2, Value.pointer (some p2)), (3, Value.pointer (some p3)), (5, Value.string x21), (6, Value.pointer (some p6)), (7, Value.slice (⟨none, 0, 0⟩ : Sv).a (⟨none, 0, 0⟩ : Sv).n (⟨none, 0, 0⟩ : Sv).c), (8, Value.slice (⟨none, 0, 0⟩ : Sv).a (⟨none, 0, 0⟩ : Sv).n (⟨none, 0, 0⟩ : Sv).c), (9, Value.pointer (some p9)), (10, Value.int .i64 ((x26.n : Nat) : Int))] ⟨rfl, rfl, rfl, rfl, rfl, rfl, rfl, rfl, trivial⟩
      refine W.region ?_
      refine OL.pure S (Lf.run_assign (S.ev rfl)) rfl rfl trivial ?_
      clear S; intro aa S
      refine OL.nil ?_
      refine W.block ?_
      obtain ⟨I, m, H, HB⟩ := H
      refine W.loopS (σ := Sv × Sv × Int × Heap) (fun s aa ww => St 82 [(2, Value.pointer (some p2)), (3, Value.pointer (some p3)), (5, Value.string x21), (6, Value.pointer (some p6)), (7, Value.slice s.1.a s.1.n s.1.c), (8, Value.slice s.2.1.a s.2.1.n s.2.1.c), (9, Value.pointer (some p9)), (10, Value.int .i64 ((x26.n : Nat) : Int)), (11, Value.int .i64 s.2.2.1)] s.2.2.2 w0 aa ww ∧ I s.1 s.2.1 s.2.2.1 s.2.2.2) (fun s => m s.1 s.2.1 s.2.2.1 s.2.2.2) ((⟨none, 0, 0⟩ : Sv), (⟨none, 0, 0⟩ : Sv), 0, h13) ⟨S.sub _ ⟨rfl, rfl, rfl, rfl, rfl, rfl, rfl, rfl, rfl, trivial⟩, H⟩ ?_
      clear H S aa
      rintro ⟨want7, nulls8, i11, h14⟩ aa ww ⟨S, HI⟩
      replace S : St 82 [(2, Value.pointer (some p2)), (3, Value.pointer (some p3)), (5, Value.string x21), (6, Value.pointer (some p6)), (7, Value.slice want7.a want7.n want7.c), (8, Value.slice nulls8.a nulls8.n nulls8.c), (9, Value.pointer (some p9)), (10, Value.int .i64 ((x26.n : Nat) : Int)), (11, Value.int .i64 i11)] h14 w0 aa ww := S
      have H := HB want7 nulls8 i11 h14 HI
      clear HI
      refine W.seq ?_
      refine W.seq ?_
      replace S := S.sub [(2, Value.pointer (some p2)), (3, Value.pointer (some p3)), (5, Value.string x21), (6, Value.pointer (some p6)), (7, Value.slice want7.a want7.n want7.c), (8, Value.slice nulls8.a nulls8.n nulls8.c), (9, Value.pointer (some p9)), (10, Value.int .i64 ((x26.n : Nat) : Int)), (11, Value.int .i64 i11)] ⟨rfl, rfl, rfl, rfl, rfl, rfl, rfl, rfl, rfl, trivial⟩
      refine W.region ?_
      refine OL.pure S (Lf.run_move (S.ev rfl)) rfl rfl trivial ?_
      clear S; intro aa S
      refine OL.pure S (Lf.run_move (S.ev rfl)) rfl rfl trivial ?_
      clear S; intro aa S
      refine OL.pure S (Lf.run_lss (S.ev rfl) (S.ev rfl)) rfl rfl trivial ?_
      clear S; intro aa S
      refine OL.nil ?_
      refine W.cond S (b := (decide (i11 < ((x26.n : Nat) : Int)))) rfl (fun hb_2 => ?_) (fun hb_2 => ?_)
      · replace H := H.1 hb_2
        refine W.skip ?_
        refine W.seq ?_
        refine W.block ?_
        refine W.seq ?_
        replace S := S.sub [(2, Value.pointer (some p2)), (3, Value.pointer (some p3)), (5, Value.string x21), (6, Value.pointer (some p6)), (7, Value.slice want7.a want7.n want7.c), (8, Value.slice nulls8.a nulls8.n nulls8.c), (9, Value.pointer (some p9)), (10, Value.int .i64 ((x26.n : Nat) : Int)), (11, Value.int .i64 i11)] ⟨rfl, rfl, rfl, rfl, rfl, rfl, rfl, rfl, rfl, trivial⟩
        refine W.region ?_
        refine OL.pure S (Lf.run_move (S.ev rfl)) rfl rfl trivial ?_
        clear S; intro aa S
        refine OL.pure S (Lf.run_move (S.ev rfl)) rfl rfl trivial ?_
        clear S; intro aa S
        refine OL.pure S (Lf.run_add (S.ev rfl) (S.ev rfl)) rfl rfl trivial ?_
        clear S; intro aa S
        obtain ⟨x36, c_10, H⟩ := H
        refine OL.pure S (Lf.run_ld (S.ev rfl) fl3 (S.cl c_10)) rfl rfl trivial ?_
        clear S; intro aa S
        refine OL.pure S (Lf.run_bits (op := .xor) (by simp) (S.ev rfl) (S.ev rfl)) rfl rfl trivial ?_
        clear S; intro aa S
        refine ol_newS S H Try.underlying22 ti3 (by decide) (parts_map S rfl) (by kernel_rfl) (by decide) rfl trivial ?_
        clear S H aa; intro s38 aa ww h15 H S
        refine ol_appS S H Try.underlying22 ti3 rfl rfl rfl trivial ?_
        clear S H aa; intro s39 aa ww h16 H S
        refine OL.pure S (Lf.run_assign (S.ev rfl)) rfl rfl trivial ?_
        clear S; intro aa S
        refine OL.nil ?_
        replace S := S.sub [(2, Value.pointer (some p2)), (3, Value.pointer (some p3)), (5, Value.string x21), (6, Value.pointer (some p6)), (7, Value.slice s39.a s39.n s39.c), (8, Value.slice nulls8.a nulls8.n nulls8.c), (9, Value.pointer (some p9)), (10, Value.int .i64 ((x26.n : Nat) : Int)), (11, Value.int .i64 i11)] ⟨rfl, rfl, rfl, rfl, rfl, rfl, rfl, rfl, rfl, trivial⟩
        refine W.region ?_
        refine OL.pure S (Lf.run_move (S.ev rfl)) rfl rfl trivial ?_
        clear S; intro aa S
        refine ol_newS S H Try.underlying22 ti3 (by decide) (parts_map S rfl) (by kernel_rfl) (by decide) rfl trivial ?_
        clear S H aa; intro s41 aa ww h17 H S
        refine ol_appS S H Try.underlying22 ti3 rfl rfl rfl trivial ?_
        clear S H aa; intro s42 aa ww h18 H S
        refine OL.pure S (Lf.run_assign (S.ev rfl)) rfl rfl trivial ?_
        clear S; intro aa S
        refine OL.nil ?_
        replace S := S.sub [(2, Value.pointer (some p2)), (3, Value.pointer (some p3)), (5, Value.string x21), (6, Value.pointer (some p6)), (7, Value.slice s39.a s39.n s39.c), (8, Value.slice s42.a s42.n s42.c), (9, Value.pointer (some p9)), (10, Value.int .i64 ((x26.n : Nat) : Int)), (11, Value.int .i64 i11)] ⟨rfl, rfl, rfl, rfl, rfl, rfl, rfl, rfl, rfl, trivial⟩
        refine W.region ?_
        refine OL.pure S (Lf.run_move (S.ev rfl)) rfl rfl trivial ?_
        clear S; intro aa S
        refine OL.pure S (Lf.run_add (S.ev rfl) (S.ev rfl)) rfl rfl trivial ?_
        clear S; intro aa S
        refine OL.pure S (Lf.run_assign (S.ev rfl)) rfl rfl trivial ?_
        clear S; intro aa S
        refine OL.nil ?_
        exact ⟨(s39, s42, (IntKind.i64.wrap (i11 + 1)), h18), ⟨S.sub _ ⟨rfl, rfl, rfl, rfl, rfl, rfl, rfl, rfl, rfl, trivial⟩, H.1⟩, H.2⟩
      · replace H := H.2 hb_2
        refine W.exit_ ?_
        refine xhit ?_
        refine W.seq ?_
        replace S := S.sub [(2, Value.pointer (some p2)), (5, Value.string x21), (6, Value.pointer (some p6)), (7, Value.slice want7.a want7.n want7.c), (8, Value.slice nulls8.a nulls8.n nulls8.c), (9, Value.pointer (some p9)), (10, Value.int .i64 ((x26.n : Nat) : Int))] ⟨rfl, rfl, rfl, rfl, rfl, rfl, rfl, trivial⟩
        obtain ⟨J_1, H, HK_1⟩ := H
        refine W.mono (N' := fun aa ww => ∃ x4 h30, St 82 [(4, Value.bool x4)] h30 w0 aa ww ∧ J_1 x4 h30) ?_ ?_
        · obtain ⟨Sq, HS, H⟩ := H
          refine W.regionN [30, 36] [6, 10, 12, 16, 22, 23, 25, 29, 31, 35, 37] Sq S (by kernel_rfl) ?_
          clear S; intro ww S
          obtain ⟨x43, c_11, H⟩ := H
          refine BN.load 0 S (fun _ => HS) rfl (by kernel_rfl) (by kernel_rfl) (fun _ hx => Lf.run_ld (S.ev rfl) fl3 (hx.cell _ _ (S.cl c_11))) rfl rfl trivial ?_
          clear S; intro aa S
          refine BN.pure 1 S (fun _ => HS) rfl (by kernel_rfl) (by kernel_rfl) (fun _ => Lf.run_move (S.ev rfl)) rfl rfl trivial ?_
          clear S; intro aa S
          refine BN.pure 2 S (fun _ => HS) rfl (by kernel_rfl) (by kernel_rfl) (fun _ => Lf.run_eql (S.ev rfl) (S.ev rfl)) rfl rfl trivial ?_
          clear S; intro aa S
          refine BN.pure 3 S (fun _ => HS) rfl (by kernel_rfl) (by kernel_rfl) (fun _ => Lf.run_move (S.ev rfl)) rfl rfl trivial ?_
          clear S; intro aa S
          rcases Bool.eq_false_or_eq_true (x43 == ((x26.n : Nat) : Int)) with hb_3 | hb_3
          · replace H := H.1 hb_3
            obtain ⟨y47, y47_1, y47_2, y47_3, y47_4, y47_5, c_69, c_70, c_71, c_72, c_73, c_74, H⟩ := H
            refine BN.load 4 S (fun _ => HS) rfl (by kernel_rfl) (by kernel_rfl) (fun _ hx => Lf.run_ldA (cs := [Value.int .i64 y47, Value.string y47_1, Value.bool y47_2, Value.int .i64 y47_3, Value.slice y47_4.a y47_4.n y47_4.c, Value.slice y47_5.a y47_5.n y47_5.c]) (S.ev rfl) ag25 ti25 (hx.row (S.row ⟨c_69, c_70, c_71, c_72, c_73, c_74, trivial⟩))) rfl rfl (GOk.mk rfl rfl hb_3) ?_
            clear S; intro aa S
            obtain ⟨y48, y48_1, y48_2, y48_3, y48_4, y48_5, c_63, c_64, c_65, c_66, c_67, c_68, H⟩ := H
            refine BN.load 5 S (fun _ => HS) rfl (by kernel_rfl) (by kernel_rfl) (fun _ hx => Lf.run_ldA (cs := [Value.int .i64 y48, Value.string y48_1, Value.bool y48_2, Value.int .i64 y48_3, Value.slice y48_4.a y48_4.n y48_4.c, Value.slice y48_5.a y48_5.n y48_5.c]) (S.ev rfl) ag25 ti25 (hx.row (S.row ⟨c_63, c_64, c_65, c_66, c_67, c_68, trivial⟩))) rfl rfl (GOk.mk rfl rfl hb_3) ?_
            clear S; intro aa S
            refine BN.eff 6 rfl (by kernel_rfl) ?_
            refine ol_cal S H isfn17 rfl rfl (GOk.mk rfl rfl hb_3) ?_
            clear S H aa; intro u_6 aa ww h19 H S
            obtain ⟨x49, rfl, H⟩ := H
            refine OL.nil ?_
            clear HS; obtain ⟨HS, H⟩ := H
            refine ⟨fun _ => by rw [S.heap]; exact HS, ?_⟩
            refine BN.pure 7 S (fun _ => HS) rfl (by kernel_rfl) (by kernel_rfl) (fun _ => run_pickT (S.ev rfl) hb_3 (S.ev rfl)) rfl rfl trivial ?_
            clear S; intro aa S
            refine BN.pure 8 S (fun _ => HS) rfl (by kernel_rfl) (by kernel_rfl) (fun _ => Lf.run_move (S.ev rfl)) rfl rfl trivial ?_
            clear S; intro aa S
            rcases Bool.eq_false_or_eq_true x49 with hb_4 | hb_4
            · replace H := H.1 hb_4
              obtain ⟨y52, y52_1, y52_2, y52_3, y52_4, y52_5, c_57, c_58, c_59, c_60, c_61, c_62, H⟩ := H
              refine BN.load 9 S (fun _ => HS) rfl (by kernel_rfl) (by kernel_rfl) (fun _ hx => Lf.run_ldA (cs := [Value.int .i64 y52, Value.string y52_1, Value.bool y52_2, Value.int .i64 y52_3, Value.slice y52_4.a y52_4.n y52_4.c, Value.slice y52_5.a y52_5.n y52_5.c]) (S.ev rfl) ag25 ti25 (hx.row (S.row ⟨c_57, c_58, c_59, c_60, c_61, c_62, trivial⟩))) rfl rfl (GOk.mk rfl rfl hb_4) ?_
              clear S; intro aa S
              refine BN.pure 11 S (fun _ => HS) rfl (by kernel_rfl) (by kernel_rfl) (fun _ => Lf.run_move (S.ev rfl)) rfl rfl (GOk.mk rfl rfl hb_4) ?_
              clear S; intro aa S
              refine BN.eff 10 rfl (by kernel_rfl) ?_
              refine ol_cal S H isfn16 rfl rfl (GOk.mk rfl rfl hb_4) ?_
              clear S H aa; intro u_7 aa ww h20 H S
              obtain ⟨x53, rfl, H⟩ := H
              refine OL.nil ?_
              clear HS; obtain ⟨HS, H⟩ := H
              refine ⟨fun _ => by rw [S.heap]; exact HS, ?_⟩
              refine BN.eff 12 rfl (by kernel_rfl) ?_
              refine ol_cal S H isfn18 rfl rfl (GOk.mk rfl rfl hb_4) ?_
              clear S H aa; intro u_8 aa ww h21 H S
              obtain ⟨x55, rfl, H⟩ := H
              refine OL.nil ?_
              clear HS; obtain ⟨HS, H⟩ := H
              refine ⟨fun _ => by rw [S.heap]; exact HS, ?_⟩
              refine BN.pure 13 S (fun _ => HS) rfl (by kernel_rfl) (by kernel_rfl) (fun _ => run_pickT (S.ev rfl) hb_4 (S.ev rfl)) rfl rfl trivial ?_
              clear S; intro aa S
              refine BN.pure 14 S (fun _ => HS) rfl (by kernel_rfl) (by kernel_rfl) (fun _ => Lf.run_move (S.ev rfl)) rfl rfl trivial ?_
              clear S; intro aa S
              rcases Bool.eq_false_or_eq_true x55 with hb_5 | hb_5
              · replace H := H.1 hb_5
                obtain ⟨y58, y58_1, y58_2, y58_3, y58_4, y58_5, c_51, c_52, c_53, c_54, c_55, c_56, H⟩ := H
                refine BN.load 15 S (fun _ => HS) rfl (by kernel_rfl) (by kernel_rfl) (fun _ hx => Lf.run_ldA (cs := [Value.int .i64 y58, Value.string y58_1, Value.bool y58_2, Value.int .i64 y58_3, Value.slice y58_4.a y58_4.n y58_4.c, Value.slice y58_5.a y58_5.n y58_5.c]) (S.ev rfl) ag25 ti25 (hx.row (S.row ⟨c_51, c_52, c_53, c_54, c_55, c_56, trivial⟩))) rfl rfl (GOk.mk rfl rfl hb_5) ?_
                clear S; intro aa S
                refine BN.pure 17 S (fun _ => HS) rfl (by kernel_rfl) (by kernel_rfl) (fun _ => Lf.run_move (S.ev rfl)) rfl rfl (GOk.mk rfl rfl hb_5) ?_
                clear S; intro aa S
                refine BN.eff 16 rfl (by kernel_rfl) ?_
                refine ol_cal S H isfn13 rfl rfl (GOk.mk rfl rfl hb_5) ?_
                clear S H aa; intro u_9 aa ww h22 H S
                obtain ⟨x59, rfl, H⟩ := H
                refine OL.nil ?_
                clear HS; obtain ⟨HS, H⟩ := H
                refine ⟨fun _ => by rw [S.heap]; exact HS, ?_⟩
                refine BN.pure 18 S (fun _ => HS) rfl (by kernel_rfl) (by kernel_rfl) (fun _ => Lf.run_eqlt (S.ev rfl) (S.ev rfl)) rfl rfl (GOk.mk rfl rfl hb_5) ?_
                clear S; intro aa S
                refine BN.pure 19 S (fun _ => HS) rfl (by kernel_rfl) (by kernel_rfl) (fun _ => run_pickT (S.ev rfl) hb_5 (S.ev rfl)) rfl rfl trivial ?_
                clear S; intro aa S
                refine BN.pure 20 S (fun _ => HS) rfl (by kernel_rfl) (by kernel_rfl) (fun _ => Lf.run_move (S.ev rfl)) rfl rfl trivial ?_
                clear S; intro aa S
                rcases Bool.eq_false_or_eq_true (x59.toList == x21.toList) with hb_6 | hb_6
                · replace H := H.1 hb_6
                  obtain ⟨y64, y64_1, y64_2, y64_3, y64_4, y64_5, c_45, c_46, c_47, c_48, c_49, c_50, H⟩ := H
                  refine BN.load 21 S (fun _ => HS) rfl (by kernel_rfl) (by kernel_rfl) (fun _ hx => Lf.run_ldA (cs := [Value.int .i64 y64, Value.string y64_1, Value.bool y64_2, Value.int .i64 y64_3, Value.slice y64_4.a y64_4.n y64_4.c, Value.slice y64_5.a y64_5.n y64_5.c]) (S.ev rfl) ag25 ti25 (hx.row (S.row ⟨c_45, c_46, c_47, c_48, c_49, c_50, trivial⟩))) rfl rfl (GOk.mk rfl rfl hb_6) ?_
                  clear S; intro aa S
                  refine BN.pure 24 S (fun _ => HS) rfl (by kernel_rfl) (by kernel_rfl) (fun _ => Lf.run_move (S.ev rfl)) rfl rfl (GOk.mk rfl rfl hb_6) ?_
                  clear S; intro aa S
                  refine BN.eff 22 rfl (by kernel_rfl) ?_
                  refine ol_cal S H isfn19 rfl rfl (GOk.mk rfl rfl hb_6) ?_
                  clear S H aa; intro u_10 aa ww h23 H S
                  obtain ⟨y65, y65_1, y65_2, y65_3, y65_4, y65_5, rfl, H⟩ := H
                  refine OL.nil ?_
                  clear HS; obtain ⟨HS, H⟩ := H
                  refine ⟨fun _ => by rw [S.heap]; exact HS, ?_⟩
                  refine BN.eff 23 rfl (by kernel_rfl) ?_
                  refine ol_cal S H isfn16 rfl rfl (GOk.mk rfl rfl hb_6) ?_
                  clear S H aa; intro u_11 aa ww h24 H S
                  obtain ⟨x66, rfl, H⟩ := H
                  refine OL.nil ?_
                  clear HS; obtain ⟨HS, H⟩ := H
                  refine ⟨fun _ => by rw [S.heap]; exact HS, ?_⟩
                  refine BN.eff 25 rfl (by kernel_rfl) ?_
                  refine ol_cal S H isfn18 rfl rfl (GOk.mk rfl rfl hb_6) ?_
                  clear S H aa; intro u_12 aa ww h25 H S
                  obtain ⟨x68, rfl, H⟩ := H
                  refine OL.nil ?_
                  clear HS; obtain ⟨HS, H⟩ := H
                  refine ⟨fun _ => by rw [S.heap]; exact HS, ?_⟩
                  refine BN.pure 26 S (fun _ => HS) rfl (by kernel_rfl) (by kernel_rfl) (fun _ => run_pickT (S.ev rfl) hb_6 (S.ev rfl)) rfl rfl trivial ?_
                  clear S; intro aa S
                  refine BN.pure 27 S (fun _ => HS) rfl (by kernel_rfl) (by kernel_rfl) (fun _ => Lf.run_move (S.ev rfl)) rfl rfl trivial ?_
                  clear S; intro aa S
                  rcases Bool.eq_false_or_eq_true x68 with hb_7 | hb_7
                  · replace H := H.1 hb_7
                    obtain ⟨y71, y71_1, y71_2, y71_3, y71_4, y71_5, c_39, c_40, c_41, c_42, c_43, c_44, H⟩ := H
                    refine BN.load 28 S (fun _ => HS) rfl (by kernel_rfl) (by kernel_rfl) (fun _ hx => Lf.run_ldA (cs := [Value.int .i64 y71, Value.string y71_1, Value.bool y71_2, Value.int .i64 y71_3, Value.slice y71_4.a y71_4.n y71_4.c, Value.slice y71_5.a y71_5.n y71_5.c]) (S.ev rfl) ag25 ti25 (hx.row (S.row ⟨c_39, c_40, c_41, c_42, c_43, c_44, trivial⟩))) rfl rfl (GOk.mk rfl rfl hb_7) ?_
                    clear S; intro aa S
                    clear HS; obtain ⟨Sq_1, HI, HS, H⟩ := H
                    refine BN.stronger HI ?_
                    obtain ⟨y73, y73_1, y73_2, y73_3, y73_4, y73_5, c_33, c_34, c_35, c_36, c_37, c_38, H⟩ := H
                    refine BN.held 30 S HS rfl (by kernel_rfl) (fun _ hq => Lf.run_ldA (cs := [Value.int .i64 y73, Value.string y73_1, Value.bool y73_2, Value.int .i64 y73_3, Value.slice y73_4.a y73_4.n y73_4.c, Value.slice y73_5.a y73_5.n y73_5.c]) (S.ev rfl) ag25 ti25 (hlRow hq fun h_ hs_ => ⟨c_33 h_ hs_, c_34 h_ hs_, c_35 h_ hs_, c_36 h_ hs_, c_37 h_ hs_, c_38 h_ hs_, trivial⟩)) rfl rfl (GOk.mk rfl rfl hb_7) ?_
                    clear S; intro aa S
                    refine BN.eff 29 rfl (by kernel_rfl) ?_
                    refine ol_cal S H isfn19 rfl rfl (GOk.mk rfl rfl hb_7) ?_
                    clear S H aa; intro u_13 aa ww h26 H S
                    obtain ⟨y72, y72_1, y72_2, y72_3, y72_4, y72_5, rfl, H⟩ := H
                    refine OL.nil ?_
                    clear HS; obtain ⟨HS, H⟩ := H
                    refine ⟨fun _ => by rw [S.heap]; exact HS, ?_⟩
                    refine BN.eff 31 rfl (by kernel_rfl) ?_
                    refine ol_cal S H isfn17 rfl rfl (GOk.mk rfl rfl hb_7) ?_
                    clear S H aa; intro u_14 aa ww h27 H S
                    obtain ⟨x74, rfl, H⟩ := H
                    refine OL.nil ?_
                    clear HS; obtain ⟨HS, H⟩ := H
                    refine ⟨fun _ => by rw [S.heap]; exact HS, ?_⟩
                    refine BN.pure 32 S (fun _ => HS) rfl (by kernel_rfl) (by kernel_rfl) (fun _ => run_pickT (S.ev rfl) hb_7 (S.ev rfl)) rfl rfl trivial ?_
                    clear S; intro aa S
                    refine BN.pure 33 S (fun _ => HS) rfl (by kernel_rfl) (by kernel_rfl) (fun _ => Lf.run_move (S.ev rfl)) rfl rfl trivial ?_
                    clear S; intro aa S
                    rcases Bool.eq_false_or_eq_true x74 with hb_8 | hb_8
                    · replace H := H.1 hb_8
                      obtain ⟨y77, y77_1, y77_2, y77_3, y77_4, y77_5, c_27, c_28, c_29, c_30, c_31, c_32, H⟩ := H
                      refine BN.load 34 S (fun _ => HS) rfl (by kernel_rfl) (by kernel_rfl) (fun _ hx => Lf.run_ldA (cs := [Value.int .i64 y77, Value.string y77_1, Value.bool y77_2, Value.int .i64 y77_3, Value.slice y77_4.a y77_4.n y77_4.c, Value.slice y77_5.a y77_5.n y77_5.c]) (S.ev rfl) ag25 ti25 (hx.row (S.row ⟨c_27, c_28, c_29, c_30, c_31, c_32, trivial⟩))) rfl rfl (GOk.mk rfl rfl hb_8) ?_
                      clear S; intro aa S
                      clear HS; obtain ⟨Sq_2, HI_1, HS, H⟩ := H
                      refine BN.stronger HI_1 ?_
                      obtain ⟨y79, y79_1, y79_2, y79_3, y79_4, y79_5, c_21, c_22, c_23, c_24, c_25, c_26, H⟩ := H
                      refine BN.held 36 S HS rfl (by kernel_rfl) (fun _ hq => Lf.run_ldA (cs := [Value.int .i64 y79, Value.string y79_1, Value.bool y79_2, Value.int .i64 y79_3, Value.slice y79_4.a y79_4.n y79_4.c, Value.slice y79_5.a y79_5.n y79_5.c]) (S.ev rfl) ag25 ti25 (hlRow hq fun h_ hs_ => ⟨c_21 h_ hs_, c_22 h_ hs_, c_23 h_ hs_, c_24 h_ hs_, c_25 h_ hs_, c_26 h_ hs_, trivial⟩)) rfl rfl (GOk.mk rfl rfl hb_8) ?_
                      clear S; intro aa S
                      refine BN.eff 35 rfl (by kernel_rfl) ?_
                      refine ol_cal S H isfn14 rfl rfl (GOk.mk rfl rfl hb_8) ?_
                      clear S H aa; intro u_15 aa ww h28 H S
                      obtain ⟨y78, y78_1, y78_2, y78_3, y78_4, y78_5, rfl, H⟩ := H
                      refine OL.nil ?_
                      clear HS; obtain ⟨HS, H⟩ := H
                      refine ⟨fun _ => by rw [S.heap]; exact HS, ?_⟩
                      refine BN.eff 37 rfl (by kernel_rfl) ?_
                      refine ol_cal S H isfn20 rfl rfl (GOk.mk rfl rfl hb_8) ?_
                      clear S H aa; intro u_16 aa ww h29 H S
                      obtain ⟨x80, rfl, H⟩ := H
                      refine OL.nil ?_
                      refine ⟨noNeed (by kernel_rfl), ?_⟩
                      refine BN.pure 38 S (noNeed (by kernel_rfl)) rfl (by kernel_rfl) (by kernel_rfl) (fun _ => run_pickT (S.ev rfl) hb_8 (S.ev rfl)) rfl rfl trivial ?_
                      clear S; intro aa S
                      refine BN.pure 39 S (noNeed (by kernel_rfl)) rfl (by kernel_rfl) (by kernel_rfl) (fun _ => Lf.run_assign (S.ev rfl)) rfl rfl trivial ?_
                      clear S; intro aa S
                      refine BN.done (by kernel_rfl) ?_
                      exact ⟨x80, h29, S.sub _ ⟨rfl, trivial⟩, H⟩
                    · replace H := H.2 hb_8
                      refine BN.not 34 S (fun _ => HS) rfl (by kernel_rfl) (by kernel_rfl) rfl rfl (GNo.mk rfl rfl hb_8) ?_
                      clear S; intro aa S
                      refine BN.not 36 S (fun _ => HS) rfl (by kernel_rfl) (by kernel_rfl) rfl rfl (GNo.mk rfl rfl hb_8) ?_
                      clear S; intro aa S
                      refine BN.eff 35 rfl (by kernel_rfl) ?_
                      refine OL.not S rfl rfl (GNo.mk rfl rfl hb_8) ?_
                      clear S; intro aa S
                      refine OL.nil ?_
                      refine ⟨fun _ => by rw [S.heap]; exact HS, ?_⟩
                      refine BN.eff 37 rfl (by kernel_rfl) ?_
                      refine OL.not S rfl rfl (GNo.mk rfl rfl hb_8) ?_
                      clear S; intro aa S
                      refine OL.nil ?_
                      refine ⟨noNeed (by kernel_rfl), ?_⟩
                      refine BN.pure 38 S (noNeed (by kernel_rfl)) rfl (by kernel_rfl) (by kernel_rfl) (fun _ => run_pickF (S.ev rfl) hb_8 (S.ev rfl)) rfl rfl trivial ?_
                      clear S; intro aa S
                      refine BN.pure 39 S (noNeed (by kernel_rfl)) rfl (by kernel_rfl) (by kernel_rfl) (fun _ => Lf.run_assign (S.ev rfl)) rfl rfl trivial ?_
                      clear S; intro aa S
                      refine BN.done (by kernel_rfl) ?_
                      exact ⟨false, h27, S.sub _ ⟨rfl, trivial⟩, H⟩
                  · replace H := H.2 hb_7
                    refine BN.not 28 S (fun _ => HS) rfl (by kernel_rfl) (by kernel_rfl) rfl rfl (GNo.mk rfl rfl hb_7) ?_
                    clear S; intro aa S
                    refine BN.not 30 S (fun _ => HS) rfl (by kernel_rfl) (by kernel_rfl) rfl rfl (GNo.mk rfl rfl hb_7) ?_
                    clear S; intro aa S
                    refine BN.eff 29 rfl (by kernel_rfl) ?_
                    refine OL.not S rfl rfl (GNo.mk rfl rfl hb_7) ?_
                    clear S; intro aa S
                    refine OL.nil ?_
                    refine ⟨fun _ => by rw [S.heap]; exact HS, ?_⟩
                    refine BN.eff 31 rfl (by kernel_rfl) ?_
                    refine OL.not S rfl rfl (GNo.mk rfl rfl hb_7) ?_
                    clear S; intro aa S
                    refine OL.nil ?_
                    refine ⟨fun _ => by rw [S.heap]; exact HS, ?_⟩
                    refine BN.pure 32 S (fun _ => HS) rfl (by kernel_rfl) (by kernel_rfl) (fun _ => run_pickF (S.ev rfl) hb_7 (S.ev rfl)) rfl rfl trivial ?_
                    clear S; intro aa S
                    refine BN.pure 33 S (fun _ => HS) rfl (by kernel_rfl) (by kernel_rfl) (fun _ => Lf.run_move (S.ev rfl)) rfl rfl trivial ?_
                    clear S; intro aa S
                    have hb_9 : (false : Bool) = false := rfl
                    refine BN.not 34 S (fun _ => HS) rfl (by kernel_rfl) (by kernel_rfl) rfl rfl (GNo.mk rfl rfl hb_9) ?_
                    clear S; intro aa S
                    refine BN.not 36 S (fun _ => HS) rfl (by kernel_rfl) (by kernel_rfl) rfl rfl (GNo.mk rfl rfl hb_9) ?_
                    clear S; intro aa S
                    refine BN.eff 35 rfl (by kernel_rfl) ?_
                    refine OL.not S rfl rfl (GNo.mk rfl rfl hb_9) ?_
                    clear S; intro aa S
                    refine OL.nil ?_
                    refine ⟨fun _ => by rw [S.heap]; exact HS, ?_⟩
                    refine BN.eff 37 rfl (by kernel_rfl) ?_
                    refine OL.not S rfl rfl (GNo.mk rfl rfl hb_9) ?_
                    clear S; intro aa S
                    refine OL.nil ?_
                    refine ⟨noNeed (by kernel_rfl), ?_⟩
                    refine BN.pure 38 S (noNeed (by kernel_rfl)) rfl (by kernel_rfl) (by kernel_rfl) (fun _ => run_pickF (S.ev rfl) hb_9 (S.ev rfl)) rfl rfl trivial ?_
                    clear S; intro aa S
                    refine BN.pure 39 S (noNeed (by kernel_rfl)) rfl (by kernel_rfl) (by kernel_rfl) (fun _ => Lf.run_assign (S.ev rfl)) rfl rfl trivial ?_
                    clear S; intro aa S
                    refine BN.done (by kernel_rfl) ?_
                    exact ⟨false, h25, S.sub _ ⟨rfl, trivial⟩, H⟩
                · replace H := H.2 hb_6
                  refine BN.not 21 S (fun _ => HS) rfl (by kernel_rfl) (by kernel_rfl) rfl rfl (GNo.mk rfl rfl hb_6) ?_
                  clear S; intro aa S
                  refine BN.not 24 S (fun _ => HS) rfl (by kernel_rfl) (by kernel_rfl) rfl rfl (GNo.mk rfl rfl hb_6) ?_
                  clear S; intro aa S
                  refine BN.eff 22 rfl (by kernel_rfl) ?_
                  refine OL.not S rfl rfl (GNo.mk rfl rfl hb_6) ?_
                  clear S; intro aa S
                  refine OL.nil ?_
                  refine ⟨fun _ => by rw [S.heap]; exact HS, ?_⟩
                  refine BN.eff 23 rfl (by kernel_rfl) ?_
                  refine OL.not S rfl rfl (GNo.mk rfl rfl hb_6) ?_
                  clear S; intro aa S
                  refine OL.nil ?_
                  refine ⟨fun _ => by rw [S.heap]; exact HS, ?_⟩
                  refine BN.eff 25 rfl (by kernel_rfl) ?_
                  refine OL.not S rfl rfl (GNo.mk rfl rfl hb_6) ?_
                  clear S; intro aa S
                  refine OL.nil ?_
                  refine ⟨fun _ => by rw [S.heap]; exact HS, ?_⟩
                  refine BN.pure 26 S (fun _ => HS) rfl (by kernel_rfl) (by kernel_rfl) (fun _ => run_pickF (S.ev rfl) hb_6 (S.ev rfl)) rfl rfl trivial ?_
                  clear S; intro aa S
                  refine BN.pure 27 S (fun _ => HS) rfl (by kernel_rfl) (by kernel_rfl) (fun _ => Lf.run_move (S.ev rfl)) rfl rfl trivial ?_
                  clear S; intro aa S
                  have hb_10 : (false : Bool) = false := rfl
                  refine BN.not 28 S (fun _ => HS) rfl (by kernel_rfl) (by kernel_rfl) rfl rfl (GNo.mk rfl rfl hb_10) ?_
                  clear S; intro aa S
                  refine BN.not 30 S (fun _ => HS) rfl (by kernel_rfl) (by kernel_rfl) rfl rfl (GNo.mk rfl rfl hb_10) ?_
                  clear S; intro aa S
                  refine BN.eff 29 rfl (by kernel_rfl) ?_
                  refine OL.not S rfl rfl (GNo.mk rfl rfl hb_10) ?_
                  clear S; intro aa S
                  refine OL.nil ?_
                  refine ⟨fun _ => by rw [S.heap]; exact HS, ?_⟩
                  refine BN.eff 31 rfl (by kernel_rfl) ?_
                  refine OL.not S rfl rfl (GNo.mk rfl rfl hb_10) ?_
                  clear S; intro aa S
                  refine OL.nil ?_
                  refine ⟨fun _ => by rw [S.heap]; exact HS, ?_⟩
                  refine BN.pure 32 S (fun _ => HS) rfl (by kernel_rfl) (by kernel_rfl) (fun _ => run_pickF (S.ev rfl) hb_10 (S.ev rfl)) rfl rfl trivial ?_
                  clear S; intro aa S
                  refine BN.pure 33 S (fun _ => HS) rfl (by kernel_rfl) (by kernel_rfl) (fun _ => Lf.run_move (S.ev rfl)) rfl rfl trivial ?_
                  clear S; intro aa S
                  have hb_11 : (false : Bool) = false := rfl
                  refine BN.not 34 S (fun _ => HS) rfl (by kernel_rfl) (by kernel_rfl) rfl rfl (GNo.mk rfl rfl hb_11) ?_
                  clear S; intro aa S
                  refine BN.not 36 S (fun _ => HS) rfl (by kernel_rfl) (by kernel_rfl) rfl rfl (GNo.mk rfl rfl hb_11) ?_
                  clear S; intro aa S
                  refine BN.eff 35 rfl (by kernel_rfl) ?_
                  refine OL.not S rfl rfl (GNo.mk rfl rfl hb_11) ?_
                  clear S; intro aa S
                  refine OL.nil ?_
                  refine ⟨fun _ => by rw [S.heap]; exact HS, ?_⟩
                  refine BN.eff 37 rfl (by kernel_rfl) ?_
                  refine OL.not S rfl rfl (GNo.mk rfl rfl hb_11) ?_
                  clear S; intro aa S
                  refine OL.nil ?_
                  refine ⟨noNeed (by kernel_rfl), ?_⟩
                  refine BN.pure 38 S (noNeed (by kernel_rfl)) rfl (by kernel_rfl) (by kernel_rfl) (fun _ => run_pickF (S.ev rfl) hb_11 (S.ev rfl)) rfl rfl trivial ?_
                  clear S; intro aa S
                  refine BN.pure 39 S (noNeed (by kernel_rfl)) rfl (by kernel_rfl) (by kernel_rfl) (fun _ => Lf.run_assign (S.ev rfl)) rfl rfl trivial ?_
                  clear S; intro aa S
                  refine BN.done (by kernel_rfl) ?_
                  exact ⟨false, h22, S.sub _ ⟨rfl, trivial⟩, H⟩
              · replace H := H.2 hb_5
                refine BN.not 15 S (fun _ => HS) rfl (by kernel_rfl) (by kernel_rfl) rfl rfl (GNo.mk rfl rfl hb_5) ?_
                clear S; intro aa S
                refine BN.not 17 S (fun _ => HS) rfl (by kernel_rfl) (by kernel_rfl) rfl rfl (GNo.mk rfl rfl hb_5) ?_
                clear S; intro aa S
                refine BN.eff 16 rfl (by kernel_rfl) ?_
                refine OL.not S rfl rfl (GNo.mk rfl rfl hb_5) ?_
                clear S; intro aa S
                refine OL.nil ?_
                refine ⟨fun _ => by rw [S.heap]; exact HS, ?_⟩
                refine BN.not 18 S (fun _ => HS) rfl (by kernel_rfl) (by kernel_rfl) rfl rfl (GNo.mk rfl rfl hb_5) ?_
                clear S; intro aa S
                refine BN.pure 19 S (fun _ => HS) rfl (by kernel_rfl) (by kernel_rfl) (fun _ => run_pickF (S.ev rfl) hb_5 (S.ev rfl)) rfl rfl trivial ?_
                clear S; intro aa S
                refine BN.pure 20 S (fun _ => HS) rfl (by kernel_rfl) (by kernel_rfl) (fun _ => Lf.run_move (S.ev rfl)) rfl rfl trivial ?_
                clear S; intro aa S
                have hb_12 : (false : Bool) = false := rfl
                refine BN.not 21 S (fun _ => HS) rfl (by kernel_rfl) (by kernel_rfl) rfl rfl (GNo.mk rfl rfl hb_12) ?_
                clear S; intro aa S
                refine BN.not 24 S (fun _ => HS) rfl (by kernel_rfl) (by kernel_rfl) rfl rfl (GNo.mk rfl rfl hb_12) ?_
                clear S; intro aa S
                refine BN.eff 22 rfl (by kernel_rfl) ?_
                refine OL.not S rfl rfl (GNo.mk rfl rfl hb_12) ?_
                clear S; intro aa S
                refine OL.nil ?_
                refine ⟨fun _ => by rw [S.heap]; exact HS, ?_⟩
                refine BN.eff 23 rfl (by kernel_rfl) ?_
                refine OL.not S rfl rfl (GNo.mk rfl rfl hb_12) ?_
                clear S; intro aa S
                refine OL.nil ?_
                refine ⟨fun _ => by rw [S.heap]; exact HS, ?_⟩
                refine BN.eff 25 rfl (by kernel_rfl) ?_
                refine OL.not S rfl rfl (GNo.mk rfl rfl hb_12) ?_
                clear S; intro aa S
                refine OL.nil ?_
                refine ⟨fun _ => by rw [S.heap]; exact HS, ?_⟩
                refine BN.pure 26 S (fun _ => HS) rfl (by kernel_rfl) (by kernel_rfl) (fun _ => run_pickF (S.ev rfl) hb_12 (S.ev rfl)) rfl rfl trivial ?_
                clear S; intro aa S
                refine BN.pure 27 S (fun _ => HS) rfl (by kernel_rfl) (by kernel_rfl) (fun _ => Lf.run_move (S.ev rfl)) rfl rfl trivial ?_
                clear S; intro aa S
                have hb_13 : (false : Bool) = false := rfl
                refine BN.not 28 S (fun _ => HS) rfl (by kernel_rfl) (by kernel_rfl) rfl rfl (GNo.mk rfl rfl hb_13) ?_
                clear S; intro aa S
                refine BN.not 30 S (fun _ => HS) rfl (by kernel_rfl) (by kernel_rfl) rfl rfl (GNo.mk rfl rfl hb_13) ?_
                clear S; intro aa S
                refine BN.eff 29 rfl (by kernel_rfl) ?_
                refine OL.not S rfl rfl (GNo.mk rfl rfl hb_13) ?_
                clear S; intro aa S
                refine OL.nil ?_
                refine ⟨fun _ => by rw [S.heap]; exact HS, ?_⟩
                refine BN.eff 31 rfl (by kernel_rfl) ?_
                refine OL.not S rfl rfl (GNo.mk rfl rfl hb_13) ?_
                clear S; intro aa S
                refine OL.nil ?_
                refine ⟨fun _ => by rw [S.heap]; exact HS, ?_⟩
                refine BN.pure 32 S (fun _ => HS) rfl (by kernel_rfl) (by kernel_rfl) (fun _ => run_pickF (S.ev rfl) hb_13 (S.ev rfl)) rfl rfl trivial ?_
                clear S; intro aa S
                refine BN.pure 33 S (fun _ => HS) rfl (by kernel_rfl) (by kernel_rfl) (fun _ => Lf.run_move (S.ev rfl)) rfl rfl trivial ?_
                clear S; intro aa S
                have hb_14 : (false : Bool) = false := rfl
                refine BN.not 34 S (fun _ => HS) rfl (by kernel_rfl) (by kernel_rfl) rfl rfl (GNo.mk rfl rfl hb_14) ?_
                clear S; intro aa S
                refine BN.not 36 S (fun _ => HS) rfl (by kernel_rfl) (by kernel_rfl) rfl rfl (GNo.mk rfl rfl hb_14) ?_
                clear S; intro aa S
                refine BN.eff 35 rfl (by kernel_rfl) ?_
                refine OL.not S rfl rfl (GNo.mk rfl rfl hb_14) ?_
                clear S; intro aa S
                refine OL.nil ?_
                refine ⟨fun _ => by rw [S.heap]; exact HS, ?_⟩
                refine BN.eff 37 rfl (by kernel_rfl) ?_
                refine OL.not S rfl rfl (GNo.mk rfl rfl hb_14) ?_
                clear S; intro aa S
                refine OL.nil ?_
                refine ⟨noNeed (by kernel_rfl), ?_⟩
                refine BN.pure 38 S (noNeed (by kernel_rfl)) rfl (by kernel_rfl) (by kernel_rfl) (fun _ => run_pickF (S.ev rfl) hb_14 (S.ev rfl)) rfl rfl trivial ?_
                clear S; intro aa S
                refine BN.pure 39 S (noNeed (by kernel_rfl)) rfl (by kernel_rfl) (by kernel_rfl) (fun _ => Lf.run_assign (S.ev rfl)) rfl rfl trivial ?_
                clear S; intro aa S
                refine BN.done (by kernel_rfl) ?_
                exact ⟨false, h21, S.sub _ ⟨rfl, trivial⟩, H⟩
            · replace H := H.2 hb_4
              refine BN.not 9 S (fun _ => HS) rfl (by kernel_rfl) (by kernel_rfl) rfl rfl (GNo.mk rfl rfl hb_4) ?_
              clear S; intro aa S
              refine BN.not 11 S (fun _ => HS) rfl (by kernel_rfl) (by kernel_rfl) rfl rfl (GNo.mk rfl rfl hb_4) ?_
              clear S; intro aa S
              refine BN.eff 10 rfl (by kernel_rfl) ?_
              refine OL.not S rfl rfl (GNo.mk rfl rfl hb_4) ?_
              clear S; intro aa S
              refine OL.nil ?_
              refine ⟨fun _ => by rw [S.heap]; exact HS, ?_⟩
              refine BN.eff 12 rfl (by kernel_rfl) ?_
              refine OL.not S rfl rfl (GNo.mk rfl rfl hb_4) ?_
              clear S; intro aa S
              refine OL.nil ?_
              refine ⟨fun _ => by rw [S.heap]; exact HS, ?_⟩
              refine BN.pure 13 S (fun _ => HS) rfl (by kernel_rfl) (by kernel_rfl) (fun _ => run_pickF (S.ev rfl) hb_4 (S.ev rfl)) rfl rfl trivial ?_
              clear S; intro aa S
              refine BN.pure 14 S (fun _ => HS) rfl (by kernel_rfl) (by kernel_rfl) (fun _ => Lf.run_move (S.ev rfl)) rfl rfl trivial ?_
              clear S; intro aa S
              have hb_15 : (false : Bool) = false := rfl
              refine BN.not 15 S (fun _ => HS) rfl (by kernel_rfl) (by kernel_rfl) rfl rfl (GNo.mk rfl rfl hb_15) ?_
              clear S; intro aa S
              refine BN.not 17 S (fun _ => HS) rfl (by kernel_rfl) (by kernel_rfl) rfl rfl (GNo.mk rfl rfl hb_15) ?_
              clear S; intro aa S
              refine BN.eff 16 rfl (by kernel_rfl) ?_
              refine OL.not S rfl rfl (GNo.mk rfl rfl hb_15) ?_
              clear S; intro aa S
              refine OL.nil ?_
              refine ⟨fun _ => by rw [S.heap]; exact HS, ?_⟩
              refine BN.not 18 S (fun _ => HS) rfl (by kernel_rfl) (by kernel_rfl) rfl rfl (GNo.mk rfl rfl hb_15) ?_
              clear S; intro aa S
              refine BN.pure 19 S (fun _ => HS) rfl (by kernel_rfl) (by kernel_rfl) (fun _ => run_pickF (S.ev rfl) hb_15 (S.ev rfl)) rfl rfl trivial ?_
              clear S; intro aa S
              refine BN.pure 20 S (fun _ => HS) rfl (by kernel_rfl) (by kernel_rfl) (fun _ => Lf.run_move (S.ev rfl)) rfl rfl trivial ?_
              clear S; intro aa S
              have hb_16 : (false : Bool) = false := rfl
              refine BN.not 21 S (fun _ => HS) rfl (by kernel_rfl) (by kernel_rfl) rfl rfl (GNo.mk rfl rfl hb_16) ?_
              clear S; intro aa S
              refine BN.not 24 S (fun _ => HS) rfl (by kernel_rfl) (by kernel_rfl) rfl rfl (GNo.mk rfl rfl hb_16) ?_
              clear S; intro aa S
              refine BN.eff 22 rfl (by kernel_rfl) ?_
              refine OL.not S rfl rfl (GNo.mk rfl rfl hb_16) ?_
              clear S; intro aa S
              refine OL.nil ?_
              refine ⟨fun _ => by rw [S.heap]; exact HS, ?_⟩
              refine BN.eff 23 rfl (by kernel_rfl) ?_
              refine OL.not S rfl rfl (GNo.mk rfl rfl hb_16) ?_
              clear S; intro aa S
              refine OL.nil ?_
              refine ⟨fun _ => by rw [S.heap]; exact HS, ?_⟩
              refine BN.eff 25 rfl (by kernel_rfl) ?_
              refine OL.not S rfl rfl (GNo.mk rfl rfl hb_16) ?_
              clear S; intro aa S
              refine OL.nil ?_
              refine ⟨fun _ => by rw [S.heap]; exact HS, ?_⟩
              refine BN.pure 26 S (fun _ => HS) rfl (by kernel_rfl) (by kernel_rfl) (fun _ => run_pickF (S.ev rfl) hb_16 (S.ev rfl)) rfl rfl trivial ?_
              clear S; intro aa S
              refine BN.pure 27 S (fun _ => HS) rfl (by kernel_rfl) (by kernel_rfl) (fun _ => Lf.run_move (S.ev rfl)) rfl rfl trivial ?_
              clear S; intro aa S
              have hb_17 : (false : Bool) = false := rfl
              refine BN.not 28 S (fun _ => HS) rfl (by kernel_rfl) (by kernel_rfl) rfl rfl (GNo.mk rfl rfl hb_17) ?_
              clear S; intro aa S
              refine BN.not 30 S (fun _ => HS) rfl (by kernel_rfl) (by kernel_rfl) rfl rfl (GNo.mk rfl rfl hb_17) ?_
              clear S; intro aa S
              refine BN.eff 29 rfl (by kernel_rfl) ?_
              refine OL.not S rfl rfl (GNo.mk rfl rfl hb_17) ?_
              clear S; intro aa S
              refine OL.nil ?_
              refine ⟨fun _ => by rw [S.heap]; exact HS, ?_⟩
              refine BN.eff 31 rfl (by kernel_rfl) ?_
              refine OL.not S rfl rfl (GNo.mk rfl rfl hb_17) ?_
              clear S; intro aa S
              refine OL.nil ?_
              refine ⟨fun _ => by rw [S.heap]; exact HS, ?_⟩
              refine BN.pure 32 S (fun _ => HS) rfl (by kernel_rfl) (by kernel_rfl) (fun _ => run_pickF (S.ev rfl) hb_17 (S.ev rfl)) rfl rfl trivial ?_
              clear S; intro aa S
              refine BN.pure 33 S (fun _ => HS) rfl (by kernel_rfl) (by kernel_rfl) (fun _ => Lf.run_move (S.ev rfl)) rfl rfl trivial ?_
              clear S; intro aa S
              have hb_18 : (false : Bool) = false := rfl
              refine BN.not 34 S (fun _ => HS) rfl (by kernel_rfl) (by kernel_rfl) rfl rfl (GNo.mk rfl rfl hb_18) ?_
              clear S; intro aa S
              refine BN.not 36 S (fun _ => HS) rfl (by kernel_rfl) (by kernel_rfl) rfl rfl (GNo.mk rfl rfl hb_18) ?_
              clear S; intro aa S
              refine BN.eff 35 rfl (by kernel_rfl) ?_
              refine OL.not S rfl rfl (GNo.mk rfl rfl hb_18) ?_
              clear S; intro aa S
              refine OL.nil ?_
              refine ⟨fun _ => by rw [S.heap]; exact HS, ?_⟩
              refine BN.eff 37 rfl (by kernel_rfl) ?_
              refine OL.not S rfl rfl (GNo.mk rfl rfl hb_18) ?_
              clear S; intro aa S
              refine OL.nil ?_
              refine ⟨noNeed (by kernel_rfl), ?_⟩
              refine BN.pure 38 S (noNeed (by kernel_rfl)) rfl (by kernel_rfl) (by kernel_rfl) (fun _ => run_pickF (S.ev rfl) hb_18 (S.ev rfl)) rfl rfl trivial ?_
              clear S; intro aa S
              refine BN.pure 39 S (noNeed (by kernel_rfl)) rfl (by kernel_rfl) (by kernel_rfl) (fun _ => Lf.run_assign (S.ev rfl)) rfl rfl trivial ?_
              clear S; intro aa S
              refine BN.done (by kernel_rfl) ?_
              exact ⟨false, h19, S.sub _ ⟨rfl, trivial⟩, H⟩
          · replace H := H.2 hb_3
            refine BN.not 4 S (fun _ => HS) rfl (by kernel_rfl) (by kernel_rfl) rfl rfl (GNo.mk rfl rfl hb_3) ?_
            clear S; intro aa S
            refine BN.not 5 S (fun _ => HS) rfl (by kernel_rfl) (by kernel_rfl) rfl rfl (GNo.mk rfl rfl hb_3) ?_
            clear S; intro aa S
            refine BN.eff 6 rfl (by kernel_rfl) ?_
            refine OL.not S rfl rfl (GNo.mk rfl rfl hb_3) ?_
            clear S; intro aa S
            refine OL.nil ?_
            refine ⟨fun _ => by rw [S.heap]; exact HS, ?_⟩
            refine BN.pure 7 S (fun _ => HS) rfl (by kernel_rfl) (by kernel_rfl) (fun _ => run_pickF (S.ev rfl) hb_3 (S.ev rfl)) rfl rfl trivial ?_
            clear S; intro aa S
            refine BN.pure 8 S (fun _ => HS) rfl (by kernel_rfl) (by kernel_rfl) (fun _ => Lf.run_move (S.ev rfl)) rfl rfl trivial ?_
            clear S; intro aa S
            have hb_19 : (false : Bool) = false := rfl
            refine BN.not 9 S (fun _ => HS) rfl (by kernel_rfl) (by kernel_rfl) rfl rfl (GNo.mk rfl rfl hb_19) ?_
            clear S; intro aa S
            refine BN.not 11 S (fun _ => HS) rfl (by kernel_rfl) (by kernel_rfl) rfl rfl (GNo.mk rfl rfl hb_19) ?_
            clear S; intro aa S
            refine BN.eff 10 rfl (by kernel_rfl) ?_
            refine OL.not S rfl rfl (GNo.mk rfl rfl hb_19) ?_
            clear S; intro aa S
            refine OL.nil ?_
            refine ⟨fun _ => by rw [S.heap]; exact HS, ?_⟩
            refine BN.eff 12 rfl (by kernel_rfl) ?_
            refine OL.not S rfl rfl (GNo.mk rfl rfl hb_19) ?_
            clear S; intro aa S
            refine OL.nil ?_
            refine ⟨fun _ => by rw [S.heap]; exact HS, ?_⟩
            refine BN.pure 13 S (fun _ => HS) rfl (by kernel_rfl) (by kernel_rfl) (fun _ => run_pickF (S.ev rfl) hb_19 (S.ev rfl)) rfl rfl trivial ?_
            clear S; intro aa S
            refine BN.pure 14 S (fun _ => HS) rfl (by kernel_rfl) (by kernel_rfl) (fun _ => Lf.run_move (S.ev rfl)) rfl rfl trivial ?_
            clear S; intro aa S
            have hb_20 : (false : Bool) = false := rfl
            refine BN.not 15 S (fun _ => HS) rfl (by kernel_rfl) (by kernel_rfl) rfl rfl (GNo.mk rfl rfl hb_20) ?_
            clear S; intro aa S
            refine BN.not 17 S (fun _ => HS) rfl (by kernel_rfl) (by kernel_rfl) rfl rfl (GNo.mk rfl rfl hb_20) ?_
            clear S; intro aa S
            refine BN.eff 16 rfl (by kernel_rfl) ?_
            refine OL.not S rfl rfl (GNo.mk rfl rfl hb_20) ?_
            clear S; intro aa S
            refine OL.nil ?_
            refine ⟨fun _ => by rw [S.heap]; exact HS, ?_⟩
            refine BN.not 18 S (fun _ => HS) rfl (by kernel_rfl) (by kernel_rfl) rfl rfl (GNo.mk rfl rfl hb_20) ?_
            clear S; intro aa S
            refine BN.pure 19 S (fun _ => HS) rfl (by kernel_rfl) (by kernel_rfl) (fun _ => run_pickF (S.ev rfl) hb_20 (S.ev rfl)) rfl rfl trivial ?_
            clear S; intro aa S
            refine BN.pure 20 S (fun _ => HS) rfl (by kernel_rfl) (by kernel_rfl) (fun _ => Lf.run_move (S.ev rfl)) rfl rfl trivial ?_
            clear S; intro aa S
            have hb_21 : (false : Bool) = false := rfl
            refine BN.not 21 S (fun _ => HS) rfl (by kernel_rfl) (by kernel_rfl) rfl rfl (GNo.mk rfl rfl hb_21) ?_
            clear S; intro aa S
            refine BN.not 24 S (fun _ => HS) rfl (by kernel_rfl) (by kernel_rfl) rfl rfl (GNo.mk rfl rfl hb_21) ?_
            clear S; intro aa S
            refine BN.eff 22 rfl (by kernel_rfl) ?_
            refine OL.not S rfl rfl (GNo.mk rfl rfl hb_21) ?_
            clear S; intro aa S
            refine OL.nil ?_
            refine ⟨fun _ => by rw [S.heap]; exact HS, ?_⟩
            refine BN.eff 23 rfl (by kernel_rfl) ?_
            refine OL.not S rfl rfl (GNo.mk rfl rfl hb_21) ?_
            clear S; intro aa S
            refine OL.nil ?_
            refine ⟨fun _ => by rw [S.heap]; exact HS, ?_⟩
            refine BN.eff 25 rfl (by kernel_rfl) ?_
            refine OL.not S rfl rfl (GNo.mk rfl rfl hb_21) ?_
            clear S; intro aa S
            refine OL.nil ?_
            refine ⟨fun _ => by rw [S.heap]; exact HS, ?_⟩
            refine BN.pure 26 S (fun _ => HS) rfl (by kernel_rfl) (by kernel_rfl) (fun _ => run_pickF (S.ev rfl) hb_21 (S.ev rfl)) rfl rfl trivial ?_
            clear S; intro aa S
            refine BN.pure 27 S (fun _ => HS) rfl (by kernel_rfl) (by kernel_rfl) (fun _ => Lf.run_move (S.ev rfl)) rfl rfl trivial ?_
            clear S; intro aa S
            have hb_22 : (false : Bool) = false := rfl
            refine BN.not 28 S (fun _ => HS) rfl (by kernel_rfl) (by kernel_rfl) rfl rfl (GNo.mk rfl rfl hb_22) ?_
            clear S; intro aa S
            refine BN.not 30 S (fun _ => HS) rfl (by kernel_rfl) (by kernel_rfl) rfl rfl (GNo.mk rfl rfl hb_22) ?_
            clear S; intro aa S
            refine BN.eff 29 rfl (by kernel_rfl) ?_
            refine OL.not S rfl rfl (GNo.mk rfl rfl hb_22) ?_
            clear S; intro aa S
            refine OL.nil ?_
            refine ⟨fun _ => by rw [S.heap]; exact HS, ?_⟩
            refine BN.eff 31 rfl (by kernel_rfl) ?_
            refine OL.not S rfl rfl (GNo.mk rfl rfl hb_22) ?_
            clear S; intro aa S
            refine OL.nil ?_
            refine ⟨fun _ => by rw [S.heap]; exact HS, ?_⟩
            refine BN.pure 32 S (fun _ => HS) rfl (by kernel_rfl) (by kernel_rfl) (fun _ => run_pickF (S.ev rfl) hb_22 (S.ev rfl)) rfl rfl trivial ?_
            clear S; intro aa S
            refine BN.pure 33 S (fun _ => HS) rfl (by kernel_rfl) (by kernel_rfl) (fun _ => Lf.run_move (S.ev rfl)) rfl rfl trivial ?_
            clear S; intro aa S
            have hb_23 : (false : Bool) = false := rfl
            refine BN.not 34 S (fun _ => HS) rfl (by kernel_rfl) (by kernel_rfl) rfl rfl (GNo.mk rfl rfl hb_23) ?_
            clear S; intro aa S
            refine BN.not 36 S (fun _ => HS) rfl (by kernel_rfl) (by kernel_rfl) rfl rfl (GNo.mk rfl rfl hb_23) ?_
            clear S; intro aa S
            refine BN.eff 35 rfl (by kernel_rfl) ?_
            refine OL.not S rfl rfl (GNo.mk rfl rfl hb_23) ?_
            clear S; intro aa S
            refine OL.nil ?_
            refine ⟨fun _ => by rw [S.heap]; exact HS, ?_⟩
            refine BN.eff 37 rfl (by kernel_rfl) ?_
            refine OL.not S rfl rfl (GNo.mk rfl rfl hb_23) ?_
            clear S; intro aa S
            refine OL.nil ?_
            refine ⟨noNeed (by kernel_rfl), ?_⟩
            refine BN.pure 38 S (noNeed (by kernel_rfl)) rfl (by kernel_rfl) (by kernel_rfl) (fun _ => run_pickF (S.ev rfl) hb_23 (S.ev rfl)) rfl rfl trivial ?_
            clear S; intro aa S
            refine BN.pure 39 S (noNeed (by kernel_rfl)) rfl (by kernel_rfl) (by kernel_rfl) (fun _ => Lf.run_assign (S.ev rfl)) rfl rfl trivial ?_
            clear S; intro aa S
            refine BN.done (by kernel_rfl) ?_
            exact ⟨false, h14, S.sub _ ⟨rfl, trivial⟩, H⟩
        · clear H S aa
          rintro aa ww ⟨x4, h30, S, HJ⟩
          have H := HK_1 _ _ HJ
          clear HK_1 HJ
          refine W.ret ?_
          exact Ret.one S rfl rfl H

/-- chattel chattellaw07.TypesInsts -/
def L5 (x0 : Int) (x0_1 : ByteArray) (x0_2 : Bool) (x0_3 : Int) (x0_4 : Sv) (x0_5 : Sv) (lifes1 : Sv) (args2 : Sv) (h : Heap) (R : Value → Heap → Prop) : Prop :=
  new 25 #[Value.int .i64 x0, Value.string x0_1, Value.bool x0_2, Value.int .i64 x0_3, Value.slice x0_4.a x0_4.n x0_4.c, Value.slice x0_5.a x0_5.n x0_5.c] h fun p3 h1 =>
  cal Try.prog 8 #[] h1 fun u h2 => asB u fun x10 =>
  ∃ J : Bool → Heap → Prop, (orj (!x10) (fun k =>
    ∃ (y13 : Int) (y13_1 : ByteArray) (y13_2 : Bool) (y13_3 : Int) (y13_4 : Sv) (y13_5 : Sv), cl h2 p3 = some (Value.int .i64 y13) ∧ cl h2 (p3.add 1) = some (Value.string y13_1) ∧ cl h2 (p3.add 2) = some (Value.bool y13_2) ∧ cl h2 (p3.add 3) = some (Value.int .i64 y13_3) ∧ cl h2 (p3.add 4) = some (Value.slice y13_4.a y13_4.n y13_4.c) ∧ cl h2 (p3.add 5) = some (Value.slice y13_5.a y13_5.n y13_5.c) ∧
    cal Try.prog 9 #[Value.agg #[Value.int .i64 y13, Value.string y13_1, Value.bool y13_2, Value.int .i64 y13_3, Value.slice y13_4.a y13_4.n y13_4.c, Value.slice y13_5.a y13_5.n y13_5.c], Value.int .i64 6] h2 fun u_1 h4 => asB u_1 fun x14 =>
    k (!x14) h4) h2 J) ∧ ∀ x16 h3, J x16 h3 →
  ifb ((x16 || (decide (10 < ((lifes1.n : Nat) : Int)))) || (decide (4 < ((args2.n : Nat) : Int)))) (
    cal Try.prog 8 #[] h3 fun u_2 h5 => asB u_2 fun x27 =>
    R (Value.bool x27) h5) (
    newS 9 #[Value.string (⟨#[84]⟩ : ByteArray), Value.string (⟨#[85]⟩ : ByteArray), Value.string (⟨#[86]⟩ : ByteArray), Value.string (⟨#[84]⟩ : ByteArray)] 4 h3 fun s28 h6 =>
    ∃ (I : Int → Heap → Prop) (m : Int → Heap → Nat), I 0 h6 ∧ ∀ i8 h7, I i8 h7 →
    ifb (decide (i8 < ((args2.n : Nat) : Int))) (
      ixS args2 i8 fun q37 =>
      ∃ (y38 : Int) (y38_1 : ByteArray) (y38_2 : Bool) (y38_3 : Int) (y38_4 : Sv) (y38_5 : Sv), cl h7 (q37.add ((i8 : Int).toNat * 6)) = some (Value.int .i64 y38) ∧ cl h7 ((q37.add ((i8 : Int).toNat * 6)).add 1) = some (Value.string y38_1) ∧ cl h7 ((q37.add ((i8 : Int).toNat * 6)).add 2) = some (Value.bool y38_2) ∧ cl h7 ((q37.add ((i8 : Int).toNat * 6)).add 3) = some (Value.int .i64 y38_3) ∧ cl h7 ((q37.add ((i8 : Int).toNat * 6)).add 4) = some (Value.slice y38_4.a y38_4.n y38_4.c) ∧ cl h7 ((q37.add ((i8 : Int).toNat * 6)).add 5) = some (Value.slice y38_5.a y38_5.n y38_5.c) ∧
      cal Try.prog 9 #[Value.agg #[Value.int .i64 y38, Value.string y38_1, Value.bool y38_2, Value.int .i64 y38_3, Value.slice y38_4.a y38_4.n y38_4.c, Value.slice y38_5.a y38_5.n y38_5.c], Value.int .i64 4] h7 fun u_3 h8 => asB u_3 fun x39 =>
      ifb (!x39) (
        R (Value.bool true) h8) (
        I (IntKind.i64.wrap (i8 + 1)) h8 ∧ m (IntKind.i64.wrap (i8 + 1)) h8 < m i8 h7)) (
      ∃ (y41 : Int) (y41_1 : ByteArray) (y41_2 : Bool) (y41_3 : Int) (y41_4 : Sv) (y41_5 : Sv), cl h7 p3 = some (Value.int .i64 y41) ∧ cl h7 (p3.add 1) = some (Value.string y41_1) ∧ cl h7 (p3.add 2) = some (Value.bool y41_2) ∧ cl h7 (p3.add 3) = some (Value.int .i64 y41_3) ∧ cl h7 (p3.add 4) = some (Value.slice y41_4.a y41_4.n y41_4.c) ∧ cl h7 (p3.add 5) = some (Value.slice y41_5.a y41_5.n y41_5.c) ∧
      cal Try.prog 21 #[Value.agg #[Value.int .i64 y41, Value.string y41_1, Value.bool y41_2, Value.int .i64 y41_3, Value.slice y41_4.a y41_4.n y41_4.c, Value.slice y41_5.a y41_5.n y41_5.c], Value.slice lifes1.a lifes1.n lifes1.c, Value.slice s28.a s28.n s28.c, Value.slice args2.a args2.n args2.c] h7 fun u_4 h9 => ∃ (y45 : Int) (y45_1 : ByteArray) (y45_2 : Bool) (y45_3 : Int) (y45_4 : Sv) (y45_5 : Sv), u_4 = Value.agg #[Value.int .i64 y45, Value.string y45_1, Value.bool y45_2, Value.int .i64 y45_3, Value.slice y45_4.a y45_4.n y45_4.c, Value.slice y45_5.a y45_5.n y45_5.c] ∧
      new 25 #[Value.int .i64 0, Value.string (⟨#[]⟩ : ByteArray), Value.bool false, Value.int .i64 0, Value.slice (⟨none, 0, 0⟩ : Sv).a (⟨none, 0, 0⟩ : Sv).n (⟨none, 0, 0⟩ : Sv).c, Value.slice (⟨none, 0, 0⟩ : Sv).a (⟨none, 0, 0⟩ : Sv).n (⟨none, 0, 0⟩ : Sv).c] h9 fun p9 h10 =>
      stoA h10 p9 [Value.int .i64 y45, Value.string y45_1, Value.bool y45_2, Value.int .i64 y45_3, Value.slice y45_4.a y45_4.n y45_4.c, Value.slice y45_5.a y45_5.n y45_5.c] fun h11 =>
      ∃ Sq : Heap → Prop, Sq h11 ∧ (
        ∃ (y46 : Int) (y46_1 : ByteArray) (y46_2 : Bool) (y46_3 : Int) (y46_4 : Sv) (y46_5 : Sv), cl h11 p9 = some (Value.int .i64 y46) ∧ cl h11 (p9.add 1) = some (Value.string y46_1) ∧ cl h11 (p9.add 2) = some (Value.bool y46_2) ∧ cl h11 (p9.add 3) = some (Value.int .i64 y46_3) ∧ cl h11 (p9.add 4) = some (Value.slice y46_4.a y46_4.n y46_4.c) ∧ cl h11 (p9.add 5) = some (Value.slice y46_5.a y46_5.n y46_5.c) ∧
        ∃ (y48 : Int) (y48_1 : ByteArray) (y48_2 : Bool) (y48_3 : Int) (y48_4 : Sv) (y48_5 : Sv), hld Sq p3 (Value.int .i64 y48) ∧ hld Sq (p3.add 1) (Value.string y48_1) ∧ hld Sq (p3.add 2) (Value.bool y48_2) ∧ hld Sq (p3.add 3) (Value.int .i64 y48_3) ∧ hld Sq (p3.add 4) (Value.slice y48_4.a y48_4.n y48_4.c) ∧ hld Sq (p3.add 5) (Value.slice y48_5.a y48_5.n y48_5.c) ∧
        cal Try.prog 13 #[Value.agg #[Value.int .i64 y46, Value.string y46_1, Value.bool y46_2, Value.int .i64 y46_3, Value.slice y46_4.a y46_4.n y46_4.c, Value.slice y46_5.a y46_5.n y46_5.c]] h11 fun u_5 h12 => asT u_5 fun x47 =>
        Sq h12 ∧
        cal Try.prog 22 #[Value.agg #[Value.int .i64 y48, Value.string y48_1, Value.bool y48_2, Value.int .i64 y48_3, Value.slice y48_4.a y48_4.n y48_4.c, Value.slice y48_5.a y48_5.n y48_5.c], Value.slice lifes1.a lifes1.n lifes1.c, Value.slice s28.a s28.n s28.c, Value.slice args2.a args2.n args2.c] h12 fun u_6 h13 => ∃ (y52 : Int) (y52_1 : ByteArray) (y52_2 : Bool) (y52_3 : Int) (y52_4 : Sv) (y52_5 : Sv), u_6 = Value.agg #[Value.int .i64 y52, Value.string y52_1, Value.bool y52_2, Value.int .i64 y52_3, Value.slice y52_4.a y52_4.n y52_4.c, Value.slice y52_5.a y52_5.n y52_5.c] ∧
        cal Try.prog 13 #[Value.agg #[Value.int .i64 y52, Value.string y52_1, Value.bool y52_2, Value.int .i64 y52_3, Value.slice y52_4.a y52_4.n y52_4.c, Value.slice y52_5.a y52_5.n y52_5.c]] h13 fun u_7 h14 => asT u_7 fun x53 =>
        R (Value.bool (x47.toList == x53.toList)) h14)))

set_option maxRecDepth 100000 in

theorem F5 {x0 x0_1 x0_2 x0_3 x0_4 x0_5 lifes1 args2 h : _} {R : Value → Heap → Prop} (H : L5 x0 x0_1 x0_2 x0_3 x0_4 x0_5 lifes1 args2 h R) : CallsH Try.prog 5 #[Value.agg #[Value.int .i64 x0, Value.string x0_1, Value.bool x0_2, Value.int .i64 x0_3, Value.slice x0_4.a x0_4.n x0_4.c, Value.slice x0_5.a x0_5.n x0_5.c], Value.slice lifes1.a lifes1.n lifes1.c, Value.slice args2.a args2.n args2.c] h R := by
  refine CallsH.enter (n := 55) Try.func5 rfl rfl rfl rfl ?_
  intro w0 aa ww S
  unfold L5 at H
  refine W.seq ?_
  replace S := S.sub [(0, Value.agg #[Value.int .i64 x0, Value.string x0_1, Value.bool x0_2, Value.int .i64 x0_3, Value.slice x0_4.a x0_4.n x0_4.c, Value.slice x0_5.a x0_5.n x0_5.c]), (1, Value.slice lifes1.a lifes1.n lifes1.c), (2, Value.slice args2.a args2.n args2.c)] ⟨rfl, rfl, rfl, trivial⟩
  refine W.region ?_
  refine ol_box S H rfl rfl rfl trivial ?_
  clear S H aa; intro p3 aa ww h1 H S
  refine OL.pure S (Lf.run_assign (S.ev rfl)) rfl rfl trivial ?_
  clear S; intro aa S
  refine OL.nil ?_
  refine W.seq ?_
  refine W.seq ?_
  replace S := S.sub [(1, Value.slice lifes1.a lifes1.n lifes1.c), (2, Value.slice args2.a args2.n args2.c), (3, Value.pointer (some p3))] ⟨rfl, rfl, rfl, trivial⟩
  refine W.region ?_
  refine ol_cal S H isfn8 rfl rfl trivial ?_
  clear S H aa; intro u aa ww h2 H S
  obtain ⟨x10, rfl, H⟩ := H
  refine OL.pure S (Lf.run_not (S.ev rfl)) rfl rfl trivial ?_
  clear S; intro aa S
  refine OL.pure S (Lf.run_move (S.ev rfl)) rfl rfl trivial ?_
  clear S; intro aa S
  obtain ⟨J, H, HK⟩ := H
  refine OL.cutN 4 (fun aa ww => ∃ x16 h3, St 55 ((16, Value.bool x16) :: [(1, Value.slice lifes1.a lifes1.n lifes1.c), (2, Value.slice args2.a args2.n args2.c), (3, Value.pointer (some p3)), (10, Value.bool x10), (11, Value.bool (!x10)), (12, Value.bool (!x10))]) h3 w0 aa ww ∧ J x16 h3) ?_ ?_
  · rcases Bool.eq_false_or_eq_true (!x10) with hb | hb
    · replace H := H.1 hb
      refine OL.not S rfl rfl (GNo.mk rfl rfl hb) ?_
      clear S; intro aa S
      refine OL.not S rfl rfl (GNo.mk rfl rfl hb) ?_
      clear S; intro aa S
      refine OL.not S rfl rfl (GNo.mk rfl rfl hb) ?_
      clear S; intro aa S
      refine OL.pure S (Lf.run_pickT (S.ev rfl) hb (S.ev rfl)) rfl rfl trivial ?_
      clear S; intro aa S
      refine OL.nil ?_
      exact ⟨_, _, S.sub _ ⟨rfl, rfl, rfl, rfl, rfl, rfl, rfl, trivial⟩, H⟩
    · replace H := H.2 hb
      obtain ⟨y13, y13_1, y13_2, y13_3, y13_4, y13_5, c_1, c_2, c_3, c_4, c_5, c_6, H⟩ := H
      refine OL.pure S (Lf.run_ldA (cs := [Value.int .i64 y13, Value.string y13_1, Value.bool y13_2, Value.int .i64 y13_3, Value.slice y13_4.a y13_4.n y13_4.c, Value.slice y13_5.a y13_5.n y13_5.c]) (S.ev rfl) ag25 ti25 (by rw [S.heap]; exact RowL.toRow ⟨c_1, c_2, c_3, c_4, c_5, c_6, trivial⟩)) rfl rfl (GOk.mk rfl rfl hb) ?_
      clear S; intro aa S
      refine ol_cal S H isfn9 rfl rfl (GOk.mk rfl rfl hb) ?_
      clear S H aa; intro u_1 aa ww h4 H S
      obtain ⟨x14, rfl, H⟩ := H
      refine OL.pure S (Lf.run_not (S.ev rfl)) rfl rfl (GOk.mk rfl rfl hb) ?_
      clear S; intro aa S
      refine OL.pure S (Lf.run_pickF (S.ev rfl) hb (S.ev rfl)) rfl rfl trivial ?_
      clear S; intro aa S
      refine OL.nil ?_
      exact ⟨_, _, S.sub _ ⟨rfl, rfl, rfl, rfl, rfl, rfl, rfl, trivial⟩, H⟩
  · clear S aa
    rintro aa ww ⟨x16, h3, S, HJ⟩
    replace H := HK _ _ HJ
    clear HK HJ
    refine OL.pure S (Lf.run_move (S.ev rfl)) rfl rfl trivial ?_
    clear S; intro aa S
    refine OL.cutN 4 (fun aa ww => St 55 ((21, Value.bool (x16 || (decide (10 < ((lifes1.n : Nat) : Int))))) :: [(1, Value.slice lifes1.a lifes1.n lifes1.c), (2, Value.slice args2.a args2.n args2.c), (3, Value.pointer (some p3)), (10, Value.bool x10), (11, Value.bool (!x10)), (12, Value.bool (!x10)), (16, Value.bool x16), (17, Value.bool x16)]) h3 w0 aa ww) ?_ ?_
    · rcases Bool.eq_false_or_eq_true x16 with hb_1 | hb_1
      · refine OL.not S rfl rfl (GNo.mk rfl rfl hb_1) ?_
        clear S; intro aa S
        refine OL.not S rfl rfl (GNo.mk rfl rfl hb_1) ?_
        clear S; intro aa S
        refine OL.not S rfl rfl (GNo.mk rfl rfl hb_1) ?_
        clear S; intro aa S
        refine OL.pure S (Lf.run_pickT (S.ev rfl) hb_1 (S.ev rfl)) rfl rfl trivial ?_
        clear S; intro aa S
        refine OL.nil ?_
        exact (S.hd (by rw [hb_1, Bool.true_or])).sub _ ⟨rfl, rfl, rfl, rfl, rfl, rfl, rfl, rfl, rfl, trivial⟩
      · refine OL.pure S (Lf.run_move (S.ev rfl)) rfl rfl (GOk.mk rfl rfl hb_1) ?_
        clear S; intro aa S
        refine OL.pure S (Lf.run_lens (S.ev rfl) rfl Try.underlying22) rfl rfl (GOk.mk rfl rfl hb_1) ?_
        clear S; intro aa S
        refine OL.pure S (Lf.run_gtr (S.ev rfl) (S.ev rfl)) rfl rfl (GOk.mk rfl rfl hb_1) ?_
        clear S; intro aa S
        refine OL.pure S (Lf.run_pickF (S.ev rfl) hb_1 (S.ev rfl)) rfl rfl trivial ?_
        clear S; intro aa S
        refine OL.nil ?_
        exact (S.hd (by rw [hb_1, Bool.false_or])).sub _ ⟨rfl, rfl, rfl, rfl, rfl, rfl, rfl, rfl, rfl, trivial⟩
    · clear S aa
      intro aa ww S
      refine OL.pure S (Lf.run_move (S.ev rfl)) rfl rfl trivial ?_
      clear S; intro aa S
      refine OL.cutN 4 (fun aa ww => St 55 ((26, Value.bool ((x16 || (decide (10 < ((lifes1.n : Nat) : Int)))) || (decide (4 < ((args2.n : Nat) : Int))))) :: [(1, Value.slice lifes1.a lifes1.n lifes1.c), (2, Value.slice args2.a args2.n args2.c), (3, Value.pointer (some p3)), (10, Value.bool x10), (11, Value.bool (!x10)), (12, Value.bool (!x10)), (16, Value.bool x16), (17, Value.bool x16), (21, Value.bool (x16 || (decide (10 < ((lifes1.n : Nat) : Int))))), (22, Value.bool (x16 || (decide (10 < ((lifes1.n : Nat) : Int)))))]) h3 w0 aa ww) ?_ ?_
      · rcases Bool.eq_false_or_eq_true (x16 || (decide (10 < ((lifes1.n : Nat) : Int)))) with hb_2 | hb_2
        · refine OL.not S rfl rfl (GNo.mk rfl rfl hb_2) ?_
          clear S; intro aa S
          refine OL.not S rfl rfl (GNo.mk rfl rfl hb_2) ?_
          clear S; intro aa S
          refine OL.not S rfl rfl (GNo.mk rfl rfl hb_2) ?_
          clear S; intro aa S
          refine OL.pure S (Lf.run_pickT (S.ev rfl) hb_2 (S.ev rfl)) rfl rfl trivial ?_
          clear S; intro aa S
          refine OL.nil ?_
          exact (S.hd (by rw [hb_2, Bool.true_or])).sub _ ⟨rfl, rfl, rfl, rfl, rfl, rfl, rfl, rfl, rfl, rfl, rfl, trivial⟩
        · refine OL.pure S (Lf.run_move (S.ev rfl)) rfl rfl (GOk.mk rfl rfl hb_2) ?_
          clear S; intro aa S
          refine OL.pure S (Lf.run_lens (S.ev rfl) rfl Try.underlying23) rfl rfl (GOk.mk rfl rfl hb_2) ?_
          clear S; intro aa S
          refine OL.pure S (Lf.run_gtr (S.ev rfl) (S.ev rfl)) rfl rfl (GOk.mk rfl rfl hb_2) ?_
          clear S; intro aa S
          refine OL.pure S (Lf.run_pickF (S.ev rfl) hb_2 (S.ev rfl)) rfl rfl trivial ?_
          clear S; intro aa S
          refine OL.nil ?_
          exact (S.hd (by rw [hb_2, Bool.false_or])).sub _ ⟨rfl, rfl, rfl, rfl, rfl, rfl, rfl, rfl, rfl, rfl, rfl, trivial⟩
      · clear S aa
        intro aa ww S
        refine OL.nil ?_
        refine W.cond S (b := ((x16 || (decide (10 < ((lifes1.n : Nat) : Int)))) || (decide (4 < ((args2.n : Nat) : Int))))) rfl (fun hb_3 => ?_) (fun hb_3 => ?_)
        · replace H := H.1 hb_3
          refine W.seq ?_
          replace S := S.sub [] trivial
          refine W.region ?_
          refine ol_cal S H isfn8 rfl rfl trivial ?_
          clear S H aa; intro u_2 aa ww h5 H S
          obtain ⟨x27, rfl, H⟩ := H
          refine OL.pure S (Lf.run_assign (S.ev rfl)) rfl rfl trivial ?_
          clear S; intro aa S
          refine OL.nil ?_
          refine W.ret ?_
          exact Ret.one S rfl rfl H
        · replace H := H.2 hb_3
          refine W.skip ?_
          refine W.seq ?_
          replace S := S.sub [(1, Value.slice lifes1.a lifes1.n lifes1.c), (2, Value.slice args2.a args2.n args2.c), (3, Value.pointer (some p3))] ⟨rfl, rfl, rfl, trivial⟩
          refine W.region ?_
          refine ol_newS S H Try.underlying41 ti9 (by decide) (parts_map S rfl) (by kernel_rfl) (by decide) rfl trivial ?_
          clear S H aa; intro s28 aa ww h6 H S
          refine OL.pure S (Lf.run_assign (S.ev rfl)) rfl rfl trivial ?_
          clear S; intro aa S
          refine OL.nil ?_
          refine W.seq ?_
          refine W.seq ?_
          replace S := S.sub [(1, Value.slice lifes1.a lifes1.n lifes1.c), (2, Value.slice args2.a args2.n args2.c), (3, Value.pointer (some p3)), (7, Value.slice s28.a s28.n s28.c)] ⟨rfl, rfl, rfl, rfl, trivial⟩
          refine W.region ?_
          refine OL.pure S (Lf.run_assign (S.ev rfl)) rfl rfl trivial ?_
          clear S; intro aa S
          refine OL.nil ?_
          refine W.block ?_
          obtain ⟨I, m, H, HB⟩ := H
          refine W.loopS (σ := Int × Heap) (fun s aa ww => St 55 [(1, Value.slice lifes1.a lifes1.n lifes1.c), (2, Value.slice args2.a args2.n args2.c), (3, Value.pointer (some p3)), (7, Value.slice s28.a s28.n s28.c), (8, Value.int .i64 s.1)] s.2 w0 aa ww ∧ I s.1 s.2) (fun s => m s.1 s.2) (0, h6) ⟨S.sub _ ⟨rfl, rfl, rfl, rfl, rfl, trivial⟩, H⟩ ?_
          clear H S aa
          rintro ⟨i8, h7⟩ aa ww ⟨S, HI⟩
          replace S : St 55 [(1, Value.slice lifes1.a lifes1.n lifes1.c), (2, Value.slice args2.a args2.n args2.c), (3, Value.pointer (some p3)), (7, Value.slice s28.a s28.n s28.c), (8, Value.int .i64 i8)] h7 w0 aa ww := S
          have H := HB i8 h7 HI
          clear HI
          refine W.seq ?_
          refine W.seq ?_
          replace S := S.sub [(1, Value.slice lifes1.a lifes1.n lifes1.c), (2, Value.slice args2.a args2.n args2.c), (3, Value.pointer (some p3)), (7, Value.slice s28.a s28.n s28.c), (8, Value.int .i64 i8)] ⟨rfl, rfl, rfl, rfl, rfl, trivial⟩
          refine W.region ?_
          refine OL.pure S (Lf.run_move (S.ev rfl)) rfl rfl trivial ?_
          clear S; intro aa S
          refine OL.pure S (Lf.run_move (S.ev rfl)) rfl rfl trivial ?_
          clear S; intro aa S
          refine OL.pure S (Lf.run_lens (S.ev rfl) rfl Try.underlying23) rfl rfl trivial ?_
          clear S; intro aa S
          refine OL.pure S (Lf.run_lss (S.ev rfl) (S.ev rfl)) rfl rfl trivial ?_
          clear S; intro aa S
          refine OL.nil ?_
          refine W.cond S (b := (decide (i8 < ((args2.n : Nat) : Int)))) rfl (fun hb_4 => ?_) (fun hb_4 => ?_)
          · replace H := H.1 hb_4
            refine W.skip ?_
            refine W.seq ?_
            refine W.block ?_
            refine W.seq ?_
            replace S := S.sub [(1, Value.slice lifes1.a lifes1.n lifes1.c), (2, Value.slice args2.a args2.n args2.c), (3, Value.pointer (some p3)), (7, Value.slice s28.a s28.n s28.c), (8, Value.int .i64 i8)] ⟨rfl, rfl, rfl, rfl, rfl, trivial⟩
            refine W.region ?_
            refine OL.pure S (Lf.run_move (S.ev rfl)) rfl rfl trivial ?_
            clear S; intro aa S
            refine OL.pure S (Lf.run_move (S.ev rfl)) rfl rfl trivial ?_
            clear S; intro aa S
            obtain ⟨q37, e, e_1, e_2, H⟩ := H
            refine OL.pure S (Lf.run_ixs (S.ev rfl) (S.ev rfl) Try.underlying23 ti25 e e_1 e_2) rfl rfl trivial ?_
            clear S; intro aa S
            obtain ⟨y38, y38_1, y38_2, y38_3, y38_4, y38_5, c_8, c_9, c_10, c_11, c_12, c_13, H⟩ := H
            refine OL.pure S (Lf.run_ldA (cs := [Value.int .i64 y38, Value.string y38_1, Value.bool y38_2, Value.int .i64 y38_3, Value.slice y38_4.a y38_4.n y38_4.c, Value.slice y38_5.a y38_5.n y38_5.c]) (S.ev rfl) ag25 ti25 (by rw [S.heap]; exact RowL.toRow ⟨c_8, c_9, c_10, c_11, c_12, c_13, trivial⟩)) rfl rfl trivial ?_
            clear S; intro aa S
            refine ol_cal S H isfn9 rfl rfl trivial ?_
            clear S H aa; intro u_3 aa ww h8 H S
            obtain ⟨x39, rfl, H⟩ := H
            refine OL.pure S (Lf.run_not (S.ev rfl)) rfl rfl trivial ?_
            clear S; intro aa S
            refine OL.nil ?_
            refine W.cond S (b := (!x39)) rfl (fun hb_5 => ?_) (fun hb_5 => ?_)
            · replace H := H.1 hb_5
              refine W.seq ?_
              replace S := S.sub [] trivial
              refine W.region ?_
              refine OL.pure S (Lf.run_assign (S.ev rfl)) rfl rfl trivial ?_
              clear S; intro aa S
              refine OL.nil ?_
              refine W.ret ?_
              exact Ret.one S rfl rfl H
            · replace H := H.2 hb_5
              refine W.skip ?_
              replace S := S.sub [(1, Value.slice lifes1.a lifes1.n lifes1.c), (2, Value.slice args2.a args2.n args2.c), (3, Value.pointer (some p3)), (7, Value.slice s28.a s28.n s28.c), (8, Value.int .i64 i8)] ⟨rfl, rfl, rfl, rfl, rfl, trivial⟩
              refine W.region ?_
              refine OL.pure S (Lf.run_move (S.ev rfl)) rfl rfl trivial ?_
              clear S; intro aa S
              refine OL.pure S (Lf.run_add (S.ev rfl) (S.ev rfl)) rfl rfl trivial ?_
              clear S; intro aa S
              refine OL.pure S (Lf.run_assign (S.ev rfl)) rfl rfl trivial ?_
              clear S; intro aa S
              refine OL.nil ?_
              exact ⟨((IntKind.i64.wrap (i8 + 1)), h8), ⟨S.sub _ ⟨rfl, rfl, rfl, rfl, rfl, trivial⟩, H.1⟩, H.2⟩
          · replace H := H.2 hb_4
            refine W.exit_ ?_
            refine xhit ?_
            refine W.seq ?_
            replace S := S.sub [(1, Value.slice lifes1.a lifes1.n lifes1.c), (2, Value.slice args2.a args2.n args2.c), (3, Value.pointer (some p3)), (7, Value.slice s28.a s28.n s28.c)] ⟨rfl, rfl, rfl, rfl, trivial⟩
            refine W.region ?_
            obtain ⟨y41, y41_1, y41_2, y41_3, y41_4, y41_5, c_29, c_30, c_31, c_32, c_33, c_34, H⟩ := H
            refine OL.pure S (Lf.run_ldA (cs := [Value.int .i64 y41, Value.string y41_1, Value.bool y41_2, Value.int .i64 y41_3, Value.slice y41_4.a y41_4.n y41_4.c, Value.slice y41_5.a y41_5.n y41_5.c]) (S.ev rfl) ag25 ti25 (by rw [S.heap]; exact RowL.toRow ⟨c_29, c_30, c_31, c_32, c_33, c_34, trivial⟩)) rfl rfl trivial ?_
            clear S; intro aa S
            refine OL.pure S (Lf.run_move (S.ev rfl)) rfl rfl trivial ?_
            clear S; intro aa S
            refine OL.pure S (Lf.run_move (S.ev rfl)) rfl rfl trivial ?_
            clear S; intro aa S
            refine OL.pure S (Lf.run_move (S.ev rfl)) rfl rfl trivial ?_
            clear S; intro aa S
            refine ol_cal S H isfn21 rfl rfl trivial ?_
            clear S H aa; intro u_4 aa ww h9 H S
            obtain ⟨y45, y45_1, y45_2, y45_3, y45_4, y45_5, rfl, H⟩ := H
            refine ol_alloc S H ti25 rfl rfl trivial ?_
            clear S H aa; intro p9 aa ww h10 H S
            refine ol_stoA S H rfl rfl ti25 trivial ?_
            clear S H aa; intro aa ww h11 H S
            refine OL.nil ?_
            refine W.seq ?_
            replace S := S.sub [(1, Value.slice lifes1.a lifes1.n lifes1.c), (2, Value.slice args2.a args2.n args2.c), (3, Value.pointer (some p3)), (7, Value.slice s28.a s28.n s28.c), (9, Value.pointer (some p9))] ⟨rfl, rfl, rfl, rfl, rfl, trivial⟩
            obtain ⟨Sq, HS, H⟩ := H
            refine W.regionN [2] [1, 6, 7] Sq S (by kernel_rfl) ?_
            clear S; intro ww S
            obtain ⟨y46, y46_1, y46_2, y46_3, y46_4, y46_5, c_23, c_24, c_25, c_26, c_27, c_28, H⟩ := H
            refine BN.load 0 S (fun _ => HS) rfl (by kernel_rfl) (by kernel_rfl) (fun _ hx => Lf.run_ldA (cs := [Value.int .i64 y46, Value.string y46_1, Value.bool y46_2, Value.int .i64 y46_3, Value.slice y46_4.a y46_4.n y46_4.c, Value.slice y46_5.a y46_5.n y46_5.c]) (S.ev rfl) ag25 ti25 (hx.row (S.row ⟨c_23, c_24, c_25, c_26, c_27, c_28, trivial⟩))) rfl rfl trivial ?_
            clear S; intro aa S
            refine BN.pure 3 S (fun _ => HS) rfl (by kernel_rfl) (by kernel_rfl) (fun _ => Lf.run_move (S.ev rfl)) rfl rfl trivial ?_
            clear S; intro aa S
            refine BN.pure 4 S (fun _ => HS) rfl (by kernel_rfl) (by kernel_rfl) (fun _ => Lf.run_move (S.ev rfl)) rfl rfl trivial ?_
            clear S; intro aa S
            refine BN.pure 5 S (fun _ => HS) rfl (by kernel_rfl) (by kernel_rfl) (fun _ => Lf.run_move (S.ev rfl)) rfl rfl trivial ?_
            clear S; intro aa S
            obtain ⟨y48, y48_1, y48_2, y48_3, y48_4, y48_5, c_17, c_18, c_19, c_20, c_21, c_22, H⟩ := H
            refine BN.held 2 S HS rfl (by kernel_rfl) (fun _ hq => Lf.run_ldA (cs := [Value.int .i64 y48, Value.string y48_1, Value.bool y48_2, Value.int .i64 y48_3, Value.slice y48_4.a y48_4.n y48_4.c, Value.slice y48_5.a y48_5.n y48_5.c]) (S.ev rfl) ag25 ti25 (hlRow hq fun h_ hs_ => ⟨c_17 h_ hs_, c_18 h_ hs_, c_19 h_ hs_, c_20 h_ hs_, c_21 h_ hs_, c_22 h_ hs_, trivial⟩)) rfl rfl trivial ?_
            clear S; intro aa S
            refine BN.eff 1 rfl (by kernel_rfl) ?_
            refine ol_cal S H isfn13 rfl rfl trivial ?_
            clear S H aa; intro u_5 aa ww h12 H S
            obtain ⟨x47, rfl, H⟩ := H
            refine OL.nil ?_
            clear HS; obtain ⟨HS, H⟩ := H
            refine ⟨fun _ => by rw [S.heap]; exact HS, ?_⟩
            refine BN.eff 6 rfl (by kernel_rfl) ?_
            refine ol_cal S H isfn22 rfl rfl trivial ?_
            clear S H aa; intro u_6 aa ww h13 H S
            obtain ⟨y52, y52_1, y52_2, y52_3, y52_4, y52_5, rfl, H⟩ := H
            refine OL.nil ?_
            refine ⟨noNeed (by kernel_rfl), ?_⟩
            refine BN.eff 7 rfl (by kernel_rfl) ?_
            refine ol_cal S H isfn13 rfl rfl trivial ?_
            clear S H aa; intro u_7 aa ww h14 H S
            obtain ⟨x53, rfl, H⟩ := H
            refine OL.nil ?_
            refine ⟨noNeed (by kernel_rfl), ?_⟩
            refine BN.pure 8 S (noNeed (by kernel_rfl)) rfl (by kernel_rfl) (by kernel_rfl) (fun _ => Lf.run_eqlt (S.ev rfl) (S.ev rfl)) rfl rfl trivial ?_
            clear S; intro aa S
            refine BN.pure 9 S (noNeed (by kernel_rfl)) rfl (by kernel_rfl) (by kernel_rfl) (fun _ => Lf.run_assign (S.ev rfl)) rfl rfl trivial ?_
            clear S; intro aa S
            refine BN.done (by kernel_rfl) ?_
            refine W.ret ?_
            exact Ret.one S rfl rfl H

/-- chattel chattellaw07.TypesTwice -/
def L6 (x0 : Int) (x0_1 : ByteArray) (x0_2 : Bool) (x0_3 : Int) (x0_4 : Sv) (x0_5 : Sv) (a1 : Sv) (b2 : Sv) (h : Heap) (R : Value → Heap → Prop) : Prop :=
  new 25 #[Value.int .i64 x0, Value.string x0_1, Value.bool x0_2, Value.int .i64 x0_3, Value.slice x0_4.a x0_4.n x0_4.c, Value.slice x0_5.a x0_5.n x0_5.c] h fun p3 h1 =>
  cal Try.prog 8 #[] h1 fun u h2 => asB u fun x11 =>
  ∃ J : Bool → Heap → Prop, (orj (!x11) (fun k =>
    ∃ (y14 : Int) (y14_1 : ByteArray) (y14_2 : Bool) (y14_3 : Int) (y14_4 : Sv) (y14_5 : Sv), cl h2 p3 = some (Value.int .i64 y14) ∧ cl h2 (p3.add 1) = some (Value.string y14_1) ∧ cl h2 (p3.add 2) = some (Value.bool y14_2) ∧ cl h2 (p3.add 3) = some (Value.int .i64 y14_3) ∧ cl h2 (p3.add 4) = some (Value.slice y14_4.a y14_4.n y14_4.c) ∧ cl h2 (p3.add 5) = some (Value.slice y14_5.a y14_5.n y14_5.c) ∧
    cal Try.prog 9 #[Value.agg #[Value.int .i64 y14, Value.string y14_1, Value.bool y14_2, Value.int .i64 y14_3, Value.slice y14_4.a y14_4.n y14_4.c, Value.slice y14_5.a y14_5.n y14_5.c], Value.int .i64 6] h2 fun u_1 h4 => asB u_1 fun x15 =>
    k (!x15) h4) h2 J) ∧ ∀ x17 h3, J x17 h3 →
  ifb ((x17 || (decide (10 < ((a1.n : Nat) : Int)))) || (decide (10 < ((b2.n : Nat) : Int)))) (
    cal Try.prog 8 #[] h3 fun u_2 h5 => asB u_2 fun x28 =>
    R (Value.bool x28) h5) (
    ∃ (y29 : Int) (y29_1 : ByteArray) (y29_2 : Bool) (y29_3 : Int) (y29_4 : Sv) (y29_5 : Sv), cl h3 p3 = some (Value.int .i64 y29) ∧ cl h3 (p3.add 1) = some (Value.string y29_1) ∧ cl h3 (p3.add 2) = some (Value.bool y29_2) ∧ cl h3 (p3.add 3) = some (Value.int .i64 y29_3) ∧ cl h3 (p3.add 4) = some (Value.slice y29_4.a y29_4.n y29_4.c) ∧ cl h3 (p3.add 5) = some (Value.slice y29_5.a y29_5.n y29_5.c) ∧
    cal Try.prog 16 #[Value.agg #[Value.int .i64 y29, Value.string y29_1, Value.bool y29_2, Value.int .i64 y29_3, Value.slice y29_4.a y29_4.n y29_4.c, Value.slice y29_5.a y29_5.n y29_5.c]] h3 fun u_3 h6 => asS u_3 fun x30 =>
    ∃ (I : Int → Prop) (m : Int → Nat), I 0 ∧ ∀ i8, I i8 →
    ifb (decide (i8 < ((x30.n : Nat) : Int))) (
      ixS x30 i8 fun q39 =>
      ldI .i64 h6 (q39.add ((i8 : Int).toNat * 1)) fun x40 =>
      ∃ J_1 : Bool → Prop, (orr (decide (x40 < 1)) (fun k_1 =>
        ixS x30 i8 fun q45 =>
        ldI .i64 h6 (q45.add ((i8 : Int).toNat * 1)) fun x46 =>
        k_1 (decide (((a1.n : Nat) : Int) < x46))) J_1) ∧ ∀ x50, J_1 x50 →
      ifb x50 (
        R (Value.bool true) h6) (
        I (IntKind.i64.wrap (i8 + 1)) ∧ m (IntKind.i64.wrap (i8 + 1)) < m i8)) (
      ∃ (I_1 : Sv → Int → Heap → Prop) (m_1 : Sv → Int → Heap → Nat), I_1 (⟨none, 0, 0⟩ : Sv) 0 h6 ∧ ∀ both9 i10 h7, I_1 both9 i10 h7 →
      ifb (decide (i10 < ((a1.n : Nat) : Int))) (
        ixS a1 i10 fun q59 =>
        ldI .i64 h7 (q59.add ((i10 : Int).toNat * 1)) fun x60 =>
        ∃ J_2 : Bool → Prop, (orr (decide (x60 < 1)) (fun k_2 =>
          ixS a1 i10 fun q65 =>
          ldI .i64 h7 (q65.add ((i10 : Int).toNat * 1)) fun x66 =>
          k_2 (decide (((b2.n : Nat) : Int) < x66))) J_2) ∧ ∀ x70, J_2 x70 →
        ifb x70 (
          R (Value.bool true) h7) (
          ixS a1 i10 fun q75 =>
          ldI .i64 h7 (q75.add ((i10 : Int).toNat * 1)) fun x76 =>
          ixS b2 (IntKind.i64.wrap (x76 - 1)) fun q78 =>
          ldI .i64 h7 (q78.add (((IntKind.i64.wrap (x76 - 1)) : Int).toNat * 1)) fun x79 =>
          newS 3 #[Value.int .i64 x79] 1 h7 fun s80 h8 =>
          appS 3 (Value.int .i64 0).cells 1 8 h8 both9 s80 fun s81 h9 =>
          I_1 s81 (IntKind.i64.wrap (i10 + 1)) h9 ∧ m_1 s81 (IntKind.i64.wrap (i10 + 1)) h9 < m_1 both9 i10 h7)) (
        ∃ J_3 : Bool → Heap → Prop, (
          ∃ Sq : Heap → Prop, Sq h7 ∧ (
            ∃ (y82 : Int) (y82_1 : ByteArray) (y82_2 : Bool) (y82_3 : Int) (y82_4 : Sv) (y82_5 : Sv), cl h7 p3 = some (Value.int .i64 y82) ∧ cl h7 (p3.add 1) = some (Value.string y82_1) ∧ cl h7 (p3.add 2) = some (Value.bool y82_2) ∧ cl h7 (p3.add 3) = some (Value.int .i64 y82_3) ∧ cl h7 (p3.add 4) = some (Value.slice y82_4.a y82_4.n y82_4.c) ∧ cl h7 (p3.add 5) = some (Value.slice y82_5.a y82_5.n y82_5.c) ∧
            ∃ (y84 : Int) (y84_1 : ByteArray) (y84_2 : Bool) (y84_3 : Int) (y84_4 : Sv) (y84_5 : Sv), hld Sq p3 (Value.int .i64 y84) ∧ hld Sq (p3.add 1) (Value.string y84_1) ∧ hld Sq (p3.add 2) (Value.bool y84_2) ∧ hld Sq (p3.add 3) (Value.int .i64 y84_3) ∧ hld Sq (p3.add 4) (Value.slice y84_4.a y84_4.n y84_4.c) ∧ hld Sq (p3.add 5) (Value.slice y84_5.a y84_5.n y84_5.c) ∧
            cal Try.prog 21 #[Value.agg #[Value.int .i64 y82, Value.string y82_1, Value.bool y82_2, Value.int .i64 y82_3, Value.slice y82_4.a y82_4.n y82_4.c, Value.slice y82_5.a y82_5.n y82_5.c], Value.slice (⟨none, 0, 0⟩ : Sv).a (⟨none, 0, 0⟩ : Sv).n (⟨none, 0, 0⟩ : Sv).c, Value.slice (⟨none, 0, 0⟩ : Sv).a (⟨none, 0, 0⟩ : Sv).n (⟨none, 0, 0⟩ : Sv).c, Value.slice (⟨none, 0, 0⟩ : Sv).a (⟨none, 0, 0⟩ : Sv).n (⟨none, 0, 0⟩ : Sv).c] h7 fun u_4 h10 => ∃ (y83 : Int) (y83_1 : ByteArray) (y83_2 : Bool) (y83_3 : Int) (y83_4 : Sv) (y83_5 : Sv), u_4 = Value.agg #[Value.int .i64 y83, Value.string y83_1, Value.bool y83_2, Value.int .i64 y83_3, Value.slice y83_4.a y83_4.n y83_4.c, Value.slice y83_5.a y83_5.n y83_5.c] ∧
            Sq h10 ∧
            cal Try.prog 20 #[Value.agg #[Value.int .i64 y83, Value.string y83_1, Value.bool y83_2, Value.int .i64 y83_3, Value.slice y83_4.a y83_4.n y83_4.c, Value.slice y83_5.a y83_5.n y83_5.c], Value.agg #[Value.int .i64 y84, Value.string y84_1, Value.bool y84_2, Value.int .i64 y84_3, Value.slice y84_4.a y84_4.n y84_4.c, Value.slice y84_5.a y84_5.n y84_5.c]] h10 fun u_5 h11 => asB u_5 fun x85 =>
            Sq h11 ∧
            ifb x85 (
              ∃ (y87 : Int) (y87_1 : ByteArray) (y87_2 : Bool) (y87_3 : Int) (y87_4 : Sv) (y87_5 : Sv), cl h11 p3 = some (Value.int .i64 y87) ∧ cl h11 (p3.add 1) = some (Value.string y87_1) ∧ cl h11 (p3.add 2) = some (Value.bool y87_2) ∧ cl h11 (p3.add 3) = some (Value.int .i64 y87_3) ∧ cl h11 (p3.add 4) = some (Value.slice y87_4.a y87_4.n y87_4.c) ∧ cl h11 (p3.add 5) = some (Value.slice y87_5.a y87_5.n y87_5.c) ∧
              ∃ Sq_1 : Heap → Prop, (∀ h, Sq_1 h → Sq h) ∧ Sq_1 h11 ∧
              ∃ (y92 : Int) (y92_1 : ByteArray) (y92_2 : Bool) (y92_3 : Int) (y92_4 : Sv) (y92_5 : Sv), hld Sq_1 p3 (Value.int .i64 y92) ∧ hld Sq_1 (p3.add 1) (Value.string y92_1) ∧ hld Sq_1 (p3.add 2) (Value.bool y92_2) ∧ hld Sq_1 (p3.add 3) (Value.int .i64 y92_3) ∧ hld Sq_1 (p3.add 4) (Value.slice y92_4.a y92_4.n y92_4.c) ∧ hld Sq_1 (p3.add 5) (Value.slice y92_5.a y92_5.n y92_5.c) ∧
              cal Try.prog 21 #[Value.agg #[Value.int .i64 y87, Value.string y87_1, Value.bool y87_2, Value.int .i64 y87_3, Value.slice y87_4.a y87_4.n y87_4.c, Value.slice y87_5.a y87_5.n y87_5.c], Value.slice a1.a a1.n a1.c, Value.slice (⟨none, 0, 0⟩ : Sv).a (⟨none, 0, 0⟩ : Sv).n (⟨none, 0, 0⟩ : Sv).c, Value.slice (⟨none, 0, 0⟩ : Sv).a (⟨none, 0, 0⟩ : Sv).n (⟨none, 0, 0⟩ : Sv).c] h11 fun u_6 h12 => ∃ (y89 : Int) (y89_1 : ByteArray) (y89_2 : Bool) (y89_3 : Int) (y89_4 : Sv) (y89_5 : Sv), u_6 = Value.agg #[Value.int .i64 y89, Value.string y89_1, Value.bool y89_2, Value.int .i64 y89_3, Value.slice y89_4.a y89_4.n y89_4.c, Value.slice y89_5.a y89_5.n y89_5.c] ∧
              Sq_1 h12 ∧
              cal Try.prog 21 #[Value.agg #[Value.int .i64 y89, Value.string y89_1, Value.bool y89_2, Value.int .i64 y89_3, Value.slice y89_4.a y89_4.n y89_4.c, Value.slice y89_5.a y89_5.n y89_5.c], Value.slice b2.a b2.n b2.c, Value.slice (⟨none, 0, 0⟩ : Sv).a (⟨none, 0, 0⟩ : Sv).n (⟨none, 0, 0⟩ : Sv).c, Value.slice (⟨none, 0, 0⟩ : Sv).a (⟨none, 0, 0⟩ : Sv).n (⟨none, 0, 0⟩ : Sv).c] h12 fun u_7 h13 => ∃ (y91 : Int) (y91_1 : ByteArray) (y91_2 : Bool) (y91_3 : Int) (y91_4 : Sv) (y91_5 : Sv), u_7 = Value.agg #[Value.int .i64 y91, Value.string y91_1, Value.bool y91_2, Value.int .i64 y91_3, Value.slice y91_4.a y91_4.n y91_4.c, Value.slice y91_5.a y91_5.n y91_5.c] ∧
              Sq_1 h13 ∧
              cal Try.prog 21 #[Value.agg #[Value.int .i64 y92, Value.string y92_1, Value.bool y92_2, Value.int .i64 y92_3, Value.slice y92_4.a y92_4.n y92_4.c, Value.slice y92_5.a y92_5.n y92_5.c], Value.slice both9.a both9.n both9.c, Value.slice (⟨none, 0, 0⟩ : Sv).a (⟨none, 0, 0⟩ : Sv).n (⟨none, 0, 0⟩ : Sv).c, Value.slice (⟨none, 0, 0⟩ : Sv).a (⟨none, 0, 0⟩ : Sv).n (⟨none, 0, 0⟩ : Sv).c] h13 fun u_8 h14 => ∃ (y94 : Int) (y94_1 : ByteArray) (y94_2 : Bool) (y94_3 : Int) (y94_4 : Sv) (y94_5 : Sv), u_8 = Value.agg #[Value.int .i64 y94, Value.string y94_1, Value.bool y94_2, Value.int .i64 y94_3, Value.slice y94_4.a y94_4.n y94_4.c, Value.slice y94_5.a y94_5.n y94_5.c] ∧
              cal Try.prog 20 #[Value.agg #[Value.int .i64 y91, Value.string y91_1, Value.bool y91_2, Value.int .i64 y91_3, Value.slice y91_4.a y91_4.n y91_4.c, Value.slice y91_5.a y91_5.n y91_5.c], Value.agg #[Value.int .i64 y94, Value.string y94_1, Value.bool y94_2, Value.int .i64 y94_3, Value.slice y94_4.a y94_4.n y94_4.c, Value.slice y94_5.a y94_5.n y94_5.c]] h14 fun u_9 h15 => asB u_9 fun x95 =>
              J_3 x95 h15) (
              J_3 false h11))) ∧ (∀ x6 h16, J_3 x6 h16 →
        R (Value.bool x6) h16))))

set_option maxRecDepth 100000 in

theorem F6 {x0 x0_1 x0_2 x0_3 x0_4 x0_5 a1 b2 h : _} {R : Value → Heap → Prop} (H : L6 x0 x0_1 x0_2 x0_3 x0_4 x0_5 a1 b2 h R) : CallsH Try.prog 6 #[Value.agg #[Value.int .i64 x0, Value.string x0_1, Value.bool x0_2, Value.int .i64 x0_3, Value.slice x0_4.a x0_4.n x0_4.c, Value.slice x0_5.a x0_5.n x0_5.c], Value.slice a1.a a1.n a1.c, Value.slice b2.a b2.n b2.c] h R := by
  refine CallsH.enter (n := 97) Try.func6 rfl rfl rfl rfl ?_
  intro w0 aa ww S
  unfold L6 at H
  refine W.seq ?_
  replace S := S.sub [(0, Value.agg #[Value.int .i64 x0, Value.string x0_1, Value.bool x0_2, Value.int .i64 x0_3, Value.slice x0_4.a x0_4.n x0_4.c, Value.slice x0_5.a x0_5.n x0_5.c]), (1, Value.slice a1.a a1.n a1.c), (2, Value.slice b2.a b2.n b2.c)] ⟨rfl, rfl, rfl, trivial⟩
  refine W.region ?_
  refine ol_box S H rfl rfl rfl trivial ?_
  clear S H aa; intro p3 aa ww h1 H S
  refine OL.pure S (Lf.run_assign (S.ev rfl)) rfl rfl trivial ?_
  clear S; intro aa S
  refine OL.nil ?_
  refine W.seq ?_
  refine W.seq ?_
  replace S := S.sub [(1, Value.slice a1.a a1.n a1.c), (2, Value.slice b2.a b2.n b2.c), (3, Value.pointer (some p3))] ⟨rfl, rfl, rfl, trivial⟩
  refine W.region ?_
  refine ol_cal S H isfn8 rfl rfl trivial ?_
  clear S H aa; intro u aa ww h2 H S
  obtain ⟨x11, rfl, H⟩ := H
  refine OL.pure S (Lf.run_not (S.ev rfl)) rfl rfl trivial ?_
  clear S; intro aa S
  refine OL.pure S (Lf.run_move (S.ev rfl)) rfl rfl trivial ?_
  clear S; intro aa S
  obtain ⟨J, H, HK⟩ := H
  refine OL.cutN 4 (fun aa ww => ∃ x17 h3, St 97 ((17, Value.bool x17) :: [(1, Value.slice a1.a a1.n a1.c), (2, Value.slice b2.a b2.n b2.c), (3, Value.pointer (some p3)), (11, Value.bool x11), (12, Value.bool (!x11)), (13, Value.bool (!x11))]) h3 w0 aa ww ∧ J x17 h3) ?_ ?_
  · rcases Bool.eq_false_or_eq_true (!x11) with hb | hb
    · replace H := H.1 hb
      refine OL.not S rfl rfl (GNo.mk rfl rfl hb) ?_
      clear S; intro aa S
      refine OL.not S rfl rfl (GNo.mk rfl rfl hb) ?_
      clear S; intro aa S
      refine OL.not S rfl rfl (GNo.mk rfl rfl hb) ?_
      clear S; intro aa S
      refine OL.pure S (Lf.run_pickT (S.ev rfl) hb (S.ev rfl)) rfl rfl trivial ?_
      clear S; intro aa S
      refine OL.nil ?_
      exact ⟨_, _, S.sub _ ⟨rfl, rfl, rfl, rfl, rfl, rfl, rfl, trivial⟩, H⟩
    · replace H := H.2 hb
      obtain ⟨y14, y14_1, y14_2, y14_3, y14_4, y14_5, c_1, c_2, c_3, c_4, c_5, c_6, H⟩ := H
      refine OL.pure S (Lf.run_ldA (cs := [Value.int .i64 y14, Value.string y14_1, Value.bool y14_2, Value.int .i64 y14_3, Value.slice y14_4.a y14_4.n y14_4.c, Value.slice y14_5.a y14_5.n y14_5.c]) (S.ev rfl) ag25 ti25 (by rw [S.heap]; exact RowL.toRow ⟨c_1, c_2, c_3, c_4, c_5, c_6, trivial⟩)) rfl rfl (GOk.mk rfl rfl hb) ?_
      clear S; intro aa S
      refine ol_cal S H isfn9 rfl rfl (GOk.mk rfl rfl hb) ?_
      clear S H aa; intro u_1 aa ww h4 H S
      obtain ⟨x15, rfl, H⟩ := H
      refine OL.pure S (Lf.run_not (S.ev rfl)) rfl rfl (GOk.mk rfl rfl hb) ?_
      clear S; intro aa S
      refine OL.pure S (Lf.run_pickF (S.ev rfl) hb (S.ev rfl)) rfl rfl trivial ?_
      clear S; intro aa S
      refine OL.nil ?_
      exact ⟨_, _, S.sub _ ⟨rfl, rfl, rfl, rfl, rfl, rfl, rfl, trivial⟩, H⟩
  · clear S aa
    rintro aa ww ⟨x17, h3, S, HJ⟩
    replace H := HK _ _ HJ
    clear HK HJ
    refine OL.pure S (Lf.run_move (S.ev rfl)) rfl rfl trivial ?_
    clear S; intro aa S
    refine OL.cutN 4 (fun aa ww => St 97 ((22, Value.bool (x17 || (decide (10 < ((a1.n : Nat) : Int))))) :: [(1, Value.slice a1.a a1.n a1.c), (2, Value.slice b2.a b2.n b2.c), (3, Value.pointer (some p3)), (11, Value.bool x11), (12, Value.bool (!x11)), (13, Value.bool (!x11)), (17, Value.bool x17), (18, Value.bool x17)]) h3 w0 aa ww) ?_ ?_
    · rcases Bool.eq_false_or_eq_true x17 with hb_1 | hb_1
      · refine OL.not S rfl rfl (GNo.mk rfl rfl hb_1) ?_
        clear S; intro aa S
        refine OL.not S rfl rfl (GNo.mk rfl rfl hb_1) ?_
        clear S; intro aa S
        refine OL.not S rfl rfl (GNo.mk rfl rfl hb_1) ?_
        clear S; intro aa S
        refine OL.pure S (Lf.run_pickT (S.ev rfl) hb_1 (S.ev rfl)) rfl rfl trivial ?_
        clear S; intro aa S
        refine OL.nil ?_
        exact (S.hd (by rw [hb_1, Bool.true_or])).sub _ ⟨rfl, rfl, rfl, rfl, rfl, rfl, rfl, rfl, rfl, trivial⟩
      · refine OL.pure S (Lf.run_move (S.ev rfl)) rfl rfl (GOk.mk rfl rfl hb_1) ?_
        clear S; intro aa S
        refine OL.pure S (Lf.run_lens (S.ev rfl) rfl Try.underlying22) rfl rfl (GOk.mk rfl rfl hb_1) ?_
        clear S; intro aa S
        refine OL.pure S (Lf.run_gtr (S.ev rfl) (S.ev rfl)) rfl rfl (GOk.mk rfl rfl hb_1) ?_
        clear S; intro aa S
        refine OL.pure S (Lf.run_pickF (S.ev rfl) hb_1 (S.ev rfl)) rfl rfl trivial ?_
        clear S; intro aa S
        refine OL.nil ?_
        exact (S.hd (by rw [hb_1, Bool.false_or])).sub _ ⟨rfl, rfl, rfl, rfl, rfl, rfl, rfl, rfl, rfl, trivial⟩
    · clear S aa
      intro aa ww S
      refine OL.pure S (Lf.run_move (S.ev rfl)) rfl rfl trivial ?_
      clear S; intro aa S
      refine OL.cutN 4 (fun aa ww => St 97 ((27, Value.bool ((x17 || (decide (10 < ((a1.n : Nat) : Int)))) || (decide (10 < ((b2.n : Nat) : Int))))) :: [(1, Value.slice a1.a a1.n a1.c), (2, Value.slice b2.a b2.n b2.c), (3, Value.pointer (some p3)), (11, Value.bool x11), (12, Value.bool (!x11)), (13, Value.bool (!x11)), (17, Value.bool x17), (18, Value.bool x17), (22, Value.bool (x17 || (decide (10 < ((a1.n : Nat) : Int))))), (23, Value.bool (x17 || (decide (10 < ((a1.n : Nat) : Int)))))]) h3 w0 aa ww) ?_ ?_
      · rcases Bool.eq_false_or_eq_true (x17 || (decide (10 < ((a1.n : Nat) : Int)))) with hb_2 | hb_2
        · refine OL.not S rfl rfl (GNo.mk rfl rfl hb_2) ?_
          clear S; intro aa S
          refine OL.not S rfl rfl (GNo.mk rfl rfl hb_2) ?_
          clear S; intro aa S
          refine OL.not S rfl rfl (GNo.mk rfl rfl hb_2) ?_
          clear S; intro aa S
          refine OL.pure S (Lf.run_pickT (S.ev rfl) hb_2 (S.ev rfl)) rfl rfl trivial ?_
          clear S; intro aa S
          refine OL.nil ?_
          exact (S.hd (by rw [hb_2, Bool.true_or])).sub _ ⟨rfl, rfl, rfl, rfl, rfl, rfl, rfl, rfl, rfl, rfl, rfl, trivial⟩
        · refine OL.pure S (Lf.run_move (S.ev rfl)) rfl rfl (GOk.mk rfl rfl hb_2) ?_
          clear S; intro aa S
          refine OL.pure S (Lf.run_lens (S.ev rfl) rfl Try.underlying22) rfl rfl (GOk.mk rfl rfl hb_2) ?_
          clear S; intro aa S
          refine OL.pure S (Lf.run_gtr (S.ev rfl) (S.ev rfl)) rfl rfl (GOk.mk rfl rfl hb_2) ?_
          clear S; intro aa S
          refine OL.pure S (Lf.run_pickF (S.ev rfl) hb_2 (S.ev rfl)) rfl rfl trivial ?_
          clear S; intro aa S
          refine OL.nil ?_
          exact (S.hd (by rw [hb_2, Bool.false_or])).sub _ ⟨rfl, rfl, rfl, rfl, rfl, rfl, rfl, rfl, rfl, rfl, rfl, trivial⟩
      · clear S aa
        intro aa ww S
        refine OL.nil ?_
        refine W.cond S (b := ((x17 || (decide (10 < ((a1.n : Nat) : Int)))) || (decide (10 < ((b2.n : Nat) : Int))))) rfl (fun hb_3 => ?_) (fun hb_3 => ?_)
        · replace H := H.1 hb_3
          refine W.seq ?_
          replace S := S.sub [] trivial
          refine W.region ?_
          refine ol_cal S H isfn8 rfl rfl trivial ?_
          clear S H aa; intro u_2 aa ww h5 H S
          obtain ⟨x28, rfl, H⟩ := H
          refine OL.pure S (Lf.run_assign (S.ev rfl)) rfl rfl trivial ?_
          clear S; intro aa S
          refine OL.nil ?_
          refine W.ret ?_
          exact Ret.one S rfl rfl H
        · replace H := H.2 hb_3
          refine W.skip ?_
          refine W.seq ?_
          replace S := S.sub [(1, Value.slice a1.a a1.n a1.c), (2, Value.slice b2.a b2.n b2.c), (3, Value.pointer (some p3))] ⟨rfl, rfl, rfl, trivial⟩
          refine W.region ?_
          obtain ⟨y29, y29_1, y29_2, y29_3, y29_4, y29_5, c_42, c_43, c_44, c_45, c_46, c_47, H⟩ := H
          refine OL.pure S (Lf.run_ldA (cs := [Value.int .i64 y29, Value.string y29_1, Value.bool y29_2, Value.int .i64 y29_3, Value.slice y29_4.a y29_4.n y29_4.c, Value.slice y29_5.a y29_5.n y29_5.c]) (S.ev rfl) ag25 ti25 (by rw [S.heap]; exact RowL.toRow ⟨c_42, c_43, c_44, c_45, c_46, c_47, trivial⟩)) rfl rfl trivial ?_
          clear S; intro aa S
          refine ol_cal S H isfn16 rfl rfl trivial ?_
          clear S H aa; intro u_3 aa ww h6 H S
          obtain ⟨x30, rfl, H⟩ := H
          refine OL.pure S (Lf.run_assign (S.ev rfl)) rfl rfl trivial ?_
          clear S; intro aa S
          refine OL.nil ?_
          refine W.seq ?_
          refine W.seq ?_
          replace S := S.sub [(1, Value.slice a1.a a1.n a1.c), (2, Value.slice b2.a b2.n b2.c), (3, Value.pointer (some p3)), (7, Value.slice x30.a x30.n x30.c)] ⟨rfl, rfl, rfl, rfl, trivial⟩
          refine W.region ?_
          refine OL.pure S (Lf.run_assign (S.ev rfl)) rfl rfl trivial ?_
          clear S; intro aa S
          refine OL.nil ?_
          refine W.block ?_
          obtain ⟨I, m, H, HB_1⟩ := H
          refine W.loopS (σ := Int) (fun s aa ww => St 97 [(1, Value.slice a1.a a1.n a1.c), (2, Value.slice b2.a b2.n b2.c), (3, Value.pointer (some p3)), (7, Value.slice x30.a x30.n x30.c), (8, Value.int .i64 s)] h6 w0 aa ww ∧ I s) (fun s => m s) (0) ⟨S.sub _ ⟨rfl, rfl, rfl, rfl, rfl, trivial⟩, H⟩ ?_
          clear H S aa
          rintro i8 aa ww ⟨S, HI⟩
          replace S : St 97 [(1, Value.slice a1.a a1.n a1.c), (2, Value.slice b2.a b2.n b2.c), (3, Value.pointer (some p3)), (7, Value.slice x30.a x30.n x30.c), (8, Value.int .i64 i8)] h6 w0 aa ww := S
          have H := HB_1 i8 HI
          clear HI
          refine W.seq ?_
          refine W.seq ?_
          replace S := S.sub [(1, Value.slice a1.a a1.n a1.c), (2, Value.slice b2.a b2.n b2.c), (3, Value.pointer (some p3)), (7, Value.slice x30.a x30.n x30.c), (8, Value.int .i64 i8)] ⟨rfl, rfl, rfl, rfl, rfl, trivial⟩
          refine W.region ?_
          refine OL.pure S (Lf.run_move (S.ev rfl)) rfl rfl trivial ?_
          clear S; intro aa S
          refine OL.pure S (Lf.run_move (S.ev rfl)) rfl rfl trivial ?_
          clear S; intro aa S
          refine OL.pure S (Lf.run_lens (S.ev rfl) rfl Try.underlying22) rfl rfl trivial ?_
          clear S; intro aa S
          refine OL.pure S (Lf.run_lss (S.ev rfl) (S.ev rfl)) rfl rfl trivial ?_
          clear S; intro aa S
          refine OL.nil ?_
          refine W.cond S (b := (decide (i8 < ((x30.n : Nat) : Int)))) rfl (fun hb_4 => ?_) (fun hb_4 => ?_)
          · replace H := H.1 hb_4
            refine W.skip ?_
            refine W.seq ?_
            refine W.block ?_
            refine W.seq ?_
            replace S := S.sub [(1, Value.slice a1.a a1.n a1.c), (2, Value.slice b2.a b2.n b2.c), (3, Value.pointer (some p3)), (7, Value.slice x30.a x30.n x30.c), (8, Value.int .i64 i8)] ⟨rfl, rfl, rfl, rfl, rfl, trivial⟩
            refine W.region ?_
            refine OL.pure S (Lf.run_move (S.ev rfl)) rfl rfl trivial ?_
            clear S; intro aa S
            refine OL.pure S (Lf.run_move (S.ev rfl)) rfl rfl trivial ?_
            clear S; intro aa S
            obtain ⟨q39, e, e_1, e_2, H⟩ := H
            refine OL.pure S (Lf.run_ixs (S.ev rfl) (S.ev rfl) Try.underlying22 ti3 e e_1 e_2) rfl rfl trivial ?_
            clear S; intro aa S
            obtain ⟨x40, c_8, H⟩ := H
            refine OL.pure S (Lf.run_ld (S.ev rfl) fl3 (S.cl c_8)) rfl rfl trivial ?_
            clear S; intro aa S
            refine OL.pure S (Lf.run_lss (S.ev rfl) (S.ev rfl)) rfl rfl trivial ?_
            clear S; intro aa S
            refine OL.pure S (Lf.run_move (S.ev rfl)) rfl rfl trivial ?_
            clear S; intro aa S
            obtain ⟨J_1, H, HK_1⟩ := H
            refine OL.cutN 8 (fun aa ww => ∃ x50, St 97 ((50, Value.bool x50) :: [(1, Value.slice a1.a a1.n a1.c), (2, Value.slice b2.a b2.n b2.c), (3, Value.pointer (some p3)), (7, Value.slice x30.a x30.n x30.c), (8, Value.int .i64 i8), (37, Value.slice x30.a x30.n x30.c), (38, Value.int .i64 i8), (39, Value.pointer (some (q39.add ((i8 : Int).toNat * 1)))), (40, Value.int .i64 x40), (41, Value.bool (decide (x40 < 1))), (42, Value.bool (decide (x40 < 1)))]) h6 w0 aa ww ∧ J_1 x50) ?_ ?_
            · rcases Bool.eq_false_or_eq_true (decide (x40 < 1)) with hb_5 | hb_5
              · replace H := H.1 hb_5
                refine OL.not S rfl rfl (GNo.mk rfl rfl hb_5) ?_
                clear S; intro aa S
                refine OL.not S rfl rfl (GNo.mk rfl rfl hb_5) ?_
                clear S; intro aa S
                refine OL.not S rfl rfl (GNo.mk rfl rfl hb_5) ?_
                clear S; intro aa S
                refine OL.not S rfl rfl (GNo.mk rfl rfl hb_5) ?_
                clear S; intro aa S
                refine OL.not S rfl rfl (GNo.mk rfl rfl hb_5) ?_
                clear S; intro aa S
                refine OL.not S rfl rfl (GNo.mk rfl rfl hb_5) ?_
                clear S; intro aa S
                refine OL.not S rfl rfl (GNo.mk rfl rfl hb_5) ?_
                clear S; intro aa S
                refine OL.pure S (Lf.run_pickT (S.ev rfl) hb_5 (S.ev rfl)) rfl rfl trivial ?_
                clear S; intro aa S
                refine OL.nil ?_
                exact ⟨_, S.sub _ ⟨rfl, rfl, rfl, rfl, rfl, rfl, rfl, rfl, rfl, rfl, rfl, rfl, trivial⟩, H⟩
              · replace H := H.2 hb_5
                refine OL.pure S (Lf.run_move (S.ev rfl)) rfl rfl (GOk.mk rfl rfl hb_5) ?_
                clear S; intro aa S
                refine OL.pure S (Lf.run_move (S.ev rfl)) rfl rfl (GOk.mk rfl rfl hb_5) ?_
                clear S; intro aa S
                obtain ⟨q45, e_3, e_4, e_5, H⟩ := H
                refine OL.pure S (Lf.run_ixs (S.ev rfl) (S.ev rfl) Try.underlying22 ti3 e_3 e_4 e_5) rfl rfl (GOk.mk rfl rfl hb_5) ?_
                clear S; intro aa S
                obtain ⟨x46, c_9, H⟩ := H
                refine OL.pure S (Lf.run_ld (S.ev rfl) fl3 (S.cl c_9)) rfl rfl (GOk.mk rfl rfl hb_5) ?_
                clear S; intro aa S
                refine OL.pure S (Lf.run_move (S.ev rfl)) rfl rfl (GOk.mk rfl rfl hb_5) ?_
                clear S; intro aa S
                refine OL.pure S (Lf.run_lens (S.ev rfl) rfl Try.underlying22) rfl rfl (GOk.mk rfl rfl hb_5) ?_
                clear S; intro aa S
                refine OL.pure S (Lf.run_gtr (S.ev rfl) (S.ev rfl)) rfl rfl (GOk.mk rfl rfl hb_5) ?_
                clear S; intro aa S
                refine OL.pure S (Lf.run_pickF (S.ev rfl) hb_5 (S.ev rfl)) rfl rfl trivial ?_
                clear S; intro aa S
                refine OL.nil ?_
                exact ⟨_, S.sub _ ⟨rfl, rfl, rfl, rfl, rfl, rfl, rfl, rfl, rfl, rfl, rfl, rfl, trivial⟩, H⟩
            · clear S aa
              rintro aa ww ⟨x50, S, HJ⟩
              replace H := HK_1 _ HJ
              clear HK_1 HJ
              refine OL.nil ?_
              refine W.cond S (b := x50) rfl (fun hb_6 => ?_) (fun hb_6 => ?_)
              · replace H := H.1 hb_6
                refine W.seq ?_
                replace S := S.sub [] trivial
                refine W.region ?_
                refine OL.pure S (Lf.run_assign (S.ev rfl)) rfl rfl trivial ?_
                clear S; intro aa S
                refine OL.nil ?_
                refine W.ret ?_
                exact Ret.one S rfl rfl H
              · replace H := H.2 hb_6
                refine W.skip ?_
                replace S := S.sub [(1, Value.slice a1.a a1.n a1.c), (2, Value.slice b2.a b2.n b2.c), (3, Value.pointer (some p3)), (7, Value.slice x30.a x30.n x30.c), (8, Value.int .i64 i8)] ⟨rfl, rfl, rfl, rfl, rfl, trivial⟩
                refine W.region ?_
                refine OL.pure S (Lf.run_move (S.ev rfl)) rfl rfl trivial ?_
                clear S; intro aa S
                refine OL.pure S (Lf.run_add (S.ev rfl) (S.ev rfl)) rfl rfl trivial ?_
                clear S; intro aa S
                refine OL.pure S (Lf.run_assign (S.ev rfl)) rfl rfl trivial ?_
                clear S; intro aa S
                refine OL.nil ?_
                exact ⟨((IntKind.i64.wrap (i8 + 1))), ⟨S.sub _ ⟨rfl, rfl, rfl, rfl, rfl, trivial⟩, H.1⟩, H.2⟩
          · replace H := H.2 hb_4
            refine W.exit_ ?_
            refine xhit ?_
            refine W.seq ?_
            replace S := S.sub [(1, Value.slice a1.a a1.n a1.c), (2, Value.slice b2.a b2.n b2.c), (3, Value.pointer (some p3))] ⟨rfl, rfl, rfl, trivial⟩
            refine W.region ?_
            refine OL.pure S (Lf.run_assign (S.ev rfl)) rfl rfl trivial ?_
            clear S; intro aa S
            refine OL.nil ?_
            refine W.seq ?_
            refine W.seq ?_
            replace S := S.sub [(1, Value.slice a1.a a1.n a1.c), (2, Value.slice b2.a b2.n b2.c), (3, Value.pointer (some p3)), (9, Value.slice (⟨none, 0, 0⟩ : Sv).a (⟨none, 0, 0⟩ : Sv).n (⟨none, 0, 0⟩ : Sv).c)] ⟨rfl, rfl, rfl, rfl, trivial⟩
            refine W.region ?_
            refine OL.pure S (Lf.run_assign (S.ev rfl)) rfl rfl trivial ?_
            clear S; intro aa S
            refine OL.nil ?_
            refine W.block ?_
            obtain ⟨I_1, m_1, H, HB⟩ := H
            refine W.loopS (σ := Sv × Int × Heap) (fun s aa ww => St 97 [(1, Value.slice a1.a a1.n a1.c), (2, Value.slice b2.a b2.n b2.c), (3, Value.pointer (some p3)), (9, Value.slice s.1.a s.1.n s.1.c), (10, Value.int .i64 s.2.1)] s.2.2 w0 aa ww ∧ I_1 s.1 s.2.1 s.2.2) (fun s => m_1 s.1 s.2.1 s.2.2) ((⟨none, 0, 0⟩ : Sv), 0, h6) ⟨S.sub _ ⟨rfl, rfl, rfl, rfl, rfl, trivial⟩, H⟩ ?_
            clear H S aa
            rintro ⟨both9, i10, h7⟩ aa ww ⟨S, HI⟩
            replace S : St 97 [(1, Value.slice a1.a a1.n a1.c), (2, Value.slice b2.a b2.n b2.c), (3, Value.pointer (some p3)), (9, Value.slice both9.a both9.n both9.c), (10, Value.int .i64 i10)] h7 w0 aa ww := S
            have H := HB both9 i10 h7 HI
            clear HI
            refine W.seq ?_
            refine W.seq ?_
            replace S := S.sub [(1, Value.slice a1.a a1.n a1.c), (2, Value.slice b2.a b2.n b2.c), (3, Value.pointer (some p3)), (9, Value.slice both9.a both9.n both9.c), (10, Value.int .i64 i10)] ⟨rfl, rfl, rfl, rfl, rfl, trivial⟩
            refine W.region ?_
            refine OL.pure S (Lf.run_move (S.ev rfl)) rfl rfl trivial ?_
            clear S; intro aa S
            refine OL.pure S (Lf.run_move (S.ev rfl)) rfl rfl trivial ?_
            clear S; intro aa S
            refine OL.pure S (Lf.run_lens (S.ev rfl) rfl Try.underlying22) rfl rfl trivial ?_
            clear S; intro aa S
            refine OL.pure S (Lf.run_lss (S.ev rfl) (S.ev rfl)) rfl rfl trivial ?_
            clear S; intro aa S
            refine OL.nil ?_
            refine W.cond S (b := (decide (i10 < ((a1.n : Nat) : Int)))) rfl (fun hb_7 => ?_) (fun hb_7 => ?_)
            · replace H := H.1 hb_7
              refine W.skip ?_
              refine W.seq ?_
              refine W.block ?_
              refine W.seq ?_
              refine W.seq ?_
              replace S := S.sub [(1, Value.slice a1.a a1.n a1.c), (2, Value.slice b2.a b2.n b2.c), (3, Value.pointer (some p3)), (9, Value.slice both9.a both9.n both9.c), (10, Value.int .i64 i10)] ⟨rfl, rfl, rfl, rfl, rfl, trivial⟩
              refine W.region ?_
              refine OL.pure S (Lf.run_move (S.ev rfl)) rfl rfl trivial ?_
              clear S; intro aa S
              refine OL.pure S (Lf.run_move (S.ev rfl)) rfl rfl trivial ?_
              clear S; intro aa S
              obtain ⟨q59, e_6, e_7, e_8, H⟩ := H
              refine OL.pure S (Lf.run_ixs (S.ev rfl) (S.ev rfl) Try.underlying22 ti3 e_6 e_7 e_8) rfl rfl trivial ?_
              clear S; intro aa S
              obtain ⟨x60, c_10, H⟩ := H
              refine OL.pure S (Lf.run_ld (S.ev rfl) fl3 (S.cl c_10)) rfl rfl trivial ?_
              clear S; intro aa S
              refine OL.pure S (Lf.run_lss (S.ev rfl) (S.ev rfl)) rfl rfl trivial ?_
              clear S; intro aa S
              refine OL.pure S (Lf.run_move (S.ev rfl)) rfl rfl trivial ?_
              clear S; intro aa S
              obtain ⟨J_2, H, HK_2⟩ := H
              refine OL.cutN 8 (fun aa ww => ∃ x70, St 97 ((70, Value.bool x70) :: [(1, Value.slice a1.a a1.n a1.c), (2, Value.slice b2.a b2.n b2.c), (3, Value.pointer (some p3)), (9, Value.slice both9.a both9.n both9.c), (10, Value.int .i64 i10), (57, Value.slice a1.a a1.n a1.c), (58, Value.int .i64 i10), (59, Value.pointer (some (q59.add ((i10 : Int).toNat * 1)))), (60, Value.int .i64 x60), (61, Value.bool (decide (x60 < 1))), (62, Value.bool (decide (x60 < 1)))]) h7 w0 aa ww ∧ J_2 x70) ?_ ?_
              · rcases Bool.eq_false_or_eq_true (decide (x60 < 1)) with hb_8 | hb_8
                · replace H := H.1 hb_8
                  refine OL.not S rfl rfl (GNo.mk rfl rfl hb_8) ?_
                  clear S; intro aa S
                  refine OL.not S rfl rfl (GNo.mk rfl rfl hb_8) ?_
                  clear S; intro aa S
                  refine OL.not S rfl rfl (GNo.mk rfl rfl hb_8) ?_
                  clear S; intro aa S
                  refine OL.not S rfl rfl (GNo.mk rfl rfl hb_8) ?_
                  clear S; intro aa S
                  refine OL.not S rfl rfl (GNo.mk rfl rfl hb_8) ?_
                  clear S; intro aa S
                  refine OL.not S rfl rfl (GNo.mk rfl rfl hb_8) ?_
                  clear S; intro aa S
                  refine OL.not S rfl rfl (GNo.mk rfl rfl hb_8) ?_
                  clear S; intro aa S
                  refine OL.pure S (Lf.run_pickT (S.ev rfl) hb_8 (S.ev rfl)) rfl rfl trivial ?_
                  clear S; intro aa S
                  refine OL.nil ?_
                  exact ⟨_, S.sub _ ⟨rfl, rfl, rfl, rfl, rfl, rfl, rfl, rfl, rfl, rfl, rfl, rfl, trivial⟩, H⟩
                · replace H := H.2 hb_8
                  refine OL.pure S (Lf.run_move (S.ev rfl)) rfl rfl (GOk.mk rfl rfl hb_8) ?_
                  clear S; intro aa S
                  refine OL.pure S (Lf.run_move (S.ev rfl)) rfl rfl (GOk.mk rfl rfl hb_8) ?_
                  clear S; intro aa S
                  obtain ⟨q65, e_9, e_10, e_11, H⟩ := H
                  refine OL.pure S (Lf.run_ixs (S.ev rfl) (S.ev rfl) Try.underlying22 ti3 e_9 e_10 e_11) rfl rfl (GOk.mk rfl rfl hb_8) ?_
                  clear S; intro aa S
                  obtain ⟨x66, c_11, H⟩ := H
                  refine OL.pure S (Lf.run_ld (S.ev rfl) fl3 (S.cl c_11)) rfl rfl (GOk.mk rfl rfl hb_8) ?_
                  clear S; intro aa S
                  refine OL.pure S (Lf.run_move (S.ev rfl)) rfl rfl (GOk.mk rfl rfl hb_8) ?_
                  clear S; intro aa S
                  refine OL.pure S (Lf.run_lens (S.ev rfl) rfl Try.underlying22) rfl rfl (GOk.mk rfl rfl hb_8) ?_
                  clear S; intro aa S
                  refine OL.pure S (Lf.run_gtr (S.ev rfl) (S.ev rfl)) rfl rfl (GOk.mk rfl rfl hb_8) ?_
                  clear S; intro aa S
                  refine OL.pure S (Lf.run_pickF (S.ev rfl) hb_8 (S.ev rfl)) rfl rfl trivial ?_
                  clear S; intro aa S
                  refine OL.nil ?_
                  exact ⟨_, S.sub _ ⟨rfl, rfl, rfl, rfl, rfl, rfl, rfl, rfl, rfl, rfl, rfl, rfl, trivial⟩, H⟩
              · clear S aa
                rintro aa ww ⟨x70, S, HJ⟩
                replace H := HK_2 _ HJ
                clear HK_2 HJ
                refine OL.nil ?_
                refine W.cond S (b := x70) rfl (fun hb_9 => ?_) (fun hb_9 => ?_)
                · replace H := H.1 hb_9
                  refine W.seq ?_
                  replace S := S.sub [] trivial
                  refine W.region ?_
                  refine OL.pure S (Lf.run_assign (S.ev rfl)) rfl rfl trivial ?_
                  clear S; intro aa S
                  refine OL.nil ?_
                  refine W.ret ?_
                  exact Ret.one S rfl rfl H
                · replace H := H.2 hb_9
                  refine W.skip ?_
                  replace S := S.sub [(1, Value.slice a1.a a1.n a1.c), (2, Value.slice b2.a b2.n b2.c), (3, Value.pointer (some p3)), (9, Value.slice both9.a both9.n both9.c), (10, Value.int .i64 i10)] ⟨rfl, rfl, rfl, rfl, rfl, trivial⟩
                  refine W.region ?_
                  refine OL.pure S (Lf.run_move (S.ev rfl)) rfl rfl trivial ?_
                  clear S; intro aa S
                  refine OL.pure S (Lf.run_move (S.ev rfl)) rfl rfl trivial ?_
                  clear S; intro aa S
                  refine OL.pure S (Lf.run_move (S.ev rfl)) rfl rfl trivial ?_
                  clear S; intro aa S
                  refine OL.pure S (Lf.run_move (S.ev rfl)) rfl rfl trivial ?_
                  clear S; intro aa S
                  obtain ⟨q75, e_12, e_13, e_14, H⟩ := H
                  refine OL.pure S (Lf.run_ixs (S.ev rfl) (S.ev rfl) Try.underlying22 ti3 e_12 e_13 e_14) rfl rfl trivial ?_
                  clear S; intro aa S
                  obtain ⟨x76, c_12, H⟩ := H
                  refine OL.pure S (Lf.run_ld (S.ev rfl) fl3 (S.cl c_12)) rfl rfl trivial ?_
                  clear S; intro aa S
                  refine OL.pure S (Lf.run_sub (S.ev rfl) (S.ev rfl)) rfl rfl trivial ?_
                  clear S; intro aa S
                  obtain ⟨q78, e_15, e_16, e_17, H⟩ := H
                  refine OL.pure S (Lf.run_ixs (S.ev rfl) (S.ev rfl) Try.underlying22 ti3 e_15 e_16 e_17) rfl rfl trivial ?_
                  clear S; intro aa S
                  obtain ⟨x79, c_13, H⟩ := H
                  refine OL.pure S (Lf.run_ld (S.ev rfl) fl3 (S.cl c_13)) rfl rfl trivial ?_
                  clear S; intro aa S
                  refine ol_newS S H Try.underlying22 ti3 (by decide) (parts_map S rfl) (by kernel_rfl) (by decide) rfl trivial ?_
                  clear S H aa; intro s80 aa ww h8 H S
                  refine ol_appS S H Try.underlying22 ti3 rfl rfl rfl trivial ?_
                  clear S H aa; intro s81 aa ww h9 H S
                  refine OL.pure S (Lf.run_assign (S.ev rfl)) rfl rfl trivial ?_
                  clear S; intro aa S
                  refine OL.nil ?_
                  replace S := S.sub [(1, Value.slice a1.a a1.n a1.c), (2, Value.slice b2.a b2.n b2.c), (3, Value.pointer (some p3)), (9, Value.slice s81.a s81.n s81.c), (10, Value.int .i64 i10)] ⟨rfl, rfl, rfl, rfl, rfl, trivial⟩
                  refine W.region ?_
                  refine OL.pure S (Lf.run_move (S.ev rfl)) rfl rfl trivial ?_
                  clear S; intro aa S
                  refine OL.pure S (Lf.run_add (S.ev rfl) (S.ev rfl)) rfl rfl trivial ?_
                  clear S; intro aa S
                  refine OL.pure S (Lf.run_assign (S.ev rfl)) rfl rfl trivial ?_
                  clear S; intro aa S
                  refine OL.nil ?_
                  exact ⟨(s81, (IntKind.i64.wrap (i10 + 1)), h9), ⟨S.sub _ ⟨rfl, rfl, rfl, rfl, rfl, trivial⟩, H.1⟩, H.2⟩
            · replace H := H.2 hb_7
              refine W.exit_ ?_
              refine xhit ?_
              refine W.seq ?_
              replace S := S.sub [(1, Value.slice a1.a a1.n a1.c), (2, Value.slice b2.a b2.n b2.c), (3, Value.pointer (some p3)), (9, Value.slice both9.a both9.n both9.c)] ⟨rfl, rfl, rfl, rfl, trivial⟩
              obtain ⟨J_3, H, HK_3⟩ := H
              refine W.mono (N' := fun aa ww => ∃ x6 h16, St 97 [(6, Value.bool x6)] h16 w0 aa ww ∧ J_3 x6 h16) ?_ ?_
              · obtain ⟨Sq, HS, H⟩ := H
                refine W.regionN [2, 10] [1, 3, 7, 9, 12, 13] Sq S (by kernel_rfl) ?_
                clear S; intro ww S
                obtain ⟨y82, y82_1, y82_2, y82_3, y82_4, y82_5, c_36, c_37, c_38, c_39, c_40, c_41, H⟩ := H
                refine BN.load 0 S (fun _ => HS) rfl (by kernel_rfl) (by kernel_rfl) (fun _ hx => Lf.run_ldA (cs := [Value.int .i64 y82, Value.string y82_1, Value.bool y82_2, Value.int .i64 y82_3, Value.slice y82_4.a y82_4.n y82_4.c, Value.slice y82_5.a y82_5.n y82_5.c]) (S.ev rfl) ag25 ti25 (hx.row (S.row ⟨c_36, c_37, c_38, c_39, c_40, c_41, trivial⟩))) rfl rfl trivial ?_
                clear S; intro aa S
                obtain ⟨y84, y84_1, y84_2, y84_3, y84_4, y84_5, c_30, c_31, c_32, c_33, c_34, c_35, H⟩ := H
                refine BN.held 2 S HS rfl (by kernel_rfl) (fun _ hq => Lf.run_ldA (cs := [Value.int .i64 y84, Value.string y84_1, Value.bool y84_2, Value.int .i64 y84_3, Value.slice y84_4.a y84_4.n y84_4.c, Value.slice y84_5.a y84_5.n y84_5.c]) (S.ev rfl) ag25 ti25 (hlRow hq fun h_ hs_ => ⟨c_30 h_ hs_, c_31 h_ hs_, c_32 h_ hs_, c_33 h_ hs_, c_34 h_ hs_, c_35 h_ hs_, trivial⟩)) rfl rfl trivial ?_
                clear S; intro aa S
                refine BN.eff 1 rfl (by kernel_rfl) ?_
                refine ol_cal S H isfn21 rfl rfl trivial ?_
                clear S H aa; intro u_4 aa ww h10 H S
                obtain ⟨y83, y83_1, y83_2, y83_3, y83_4, y83_5, rfl, H⟩ := H
                refine OL.nil ?_
                clear HS; obtain ⟨HS, H⟩ := H
                refine ⟨fun _ => by rw [S.heap]; exact HS, ?_⟩
                refine BN.eff 3 rfl (by kernel_rfl) ?_
                refine ol_cal S H isfn20 rfl rfl trivial ?_
                clear S H aa; intro u_5 aa ww h11 H S
                obtain ⟨x85, rfl, H⟩ := H
                refine OL.nil ?_
                clear HS; obtain ⟨HS, H⟩ := H
                refine ⟨fun _ => by rw [S.heap]; exact HS, ?_⟩
                refine BN.pure 4 S (fun _ => HS) rfl (by kernel_rfl) (by kernel_rfl) (fun _ => Lf.run_move (S.ev rfl)) rfl rfl trivial ?_
                clear S; intro aa S
                rcases Bool.eq_false_or_eq_true x85 with hb_10 | hb_10
                · replace H := H.1 hb_10
                  obtain ⟨y87, y87_1, y87_2, y87_3, y87_4, y87_5, c_24, c_25, c_26, c_27, c_28, c_29, H⟩ := H
                  refine BN.load 5 S (fun _ => HS) rfl (by kernel_rfl) (by kernel_rfl) (fun _ hx => Lf.run_ldA (cs := [Value.int .i64 y87, Value.string y87_1, Value.bool y87_2, Value.int .i64 y87_3, Value.slice y87_4.a y87_4.n y87_4.c, Value.slice y87_5.a y87_5.n y87_5.c]) (S.ev rfl) ag25 ti25 (hx.row (S.row ⟨c_24, c_25, c_26, c_27, c_28, c_29, trivial⟩))) rfl rfl (GOk.mk rfl rfl hb_10) ?_
                  clear S; intro aa S
                  refine BN.pure 6 S (fun _ => HS) rfl (by kernel_rfl) (by kernel_rfl) (fun _ => Lf.run_move (S.ev rfl)) rfl rfl (GOk.mk rfl rfl hb_10) ?_
                  clear S; intro aa S
                  refine BN.pure 8 S (fun _ => HS) rfl (by kernel_rfl) (by kernel_rfl) (fun _ => Lf.run_move (S.ev rfl)) rfl rfl (GOk.mk rfl rfl hb_10) ?_
                  clear S; intro aa S
                  refine BN.pure 11 S (fun _ => HS) rfl (by kernel_rfl) (by kernel_rfl) (fun _ => Lf.run_move (S.ev rfl)) rfl rfl (GOk.mk rfl rfl hb_10) ?_
                  clear S; intro aa S
                  clear HS; obtain ⟨Sq_1, HI, HS, H⟩ := H
                  refine BN.stronger HI ?_
                  obtain ⟨y92, y92_1, y92_2, y92_3, y92_4, y92_5, c_18, c_19, c_20, c_21, c_22, c_23, H⟩ := H
                  refine BN.held 10 S HS rfl (by kernel_rfl) (fun _ hq => Lf.run_ldA (cs := [Value.int .i64 y92, Value.string y92_1, Value.bool y92_2, Value.int .i64 y92_3, Value.slice y92_4.a y92_4.n y92_4.c, Value.slice y92_5.a y92_5.n y92_5.c]) (S.ev rfl) ag25 ti25 (hlRow hq fun h_ hs_ => ⟨c_18 h_ hs_, c_19 h_ hs_, c_20 h_ hs_, c_21 h_ hs_, c_22 h_ hs_, c_23 h_ hs_, trivial⟩)) rfl rfl (GOk.mk rfl rfl hb_10) ?_
                  clear S; intro aa S
                  refine BN.eff 7 rfl (by kernel_rfl) ?_
                  refine ol_cal S H isfn21 rfl rfl (GOk.mk rfl rfl hb_10) ?_
                  clear S H aa; intro u_6 aa ww h12 H S
                  obtain ⟨y89, y89_1, y89_2, y89_3, y89_4, y89_5, rfl, H⟩ := H
                  refine OL.nil ?_
                  clear HS; obtain ⟨HS, H⟩ := H
                  refine ⟨fun _ => by rw [S.heap]; exact HS, ?_⟩
                  refine BN.eff 9 rfl (by kernel_rfl) ?_
                  refine ol_cal S H isfn21 rfl rfl (GOk.mk rfl rfl hb_10) ?_
                  clear S H aa; intro u_7 aa ww h13 H S
                  obtain ⟨y91, y91_1, y91_2, y91_3, y91_4, y91_5, rfl, H⟩ := H
                  refine OL.nil ?_
                  clear HS; obtain ⟨HS, H⟩ := H
                  refine ⟨fun _ => by rw [S.heap]; exact HS, ?_⟩
                  refine BN.eff 12 rfl (by kernel_rfl) ?_
                  refine ol_cal S H isfn21 rfl rfl (GOk.mk rfl rfl hb_10) ?_
                  clear S H aa; intro u_8 aa ww h14 H S
                  obtain ⟨y94, y94_1, y94_2, y94_3, y94_4, y94_5, rfl, H⟩ := H
                  refine OL.nil ?_
                  refine ⟨noNeed (by kernel_rfl), ?_⟩
                  refine BN.eff 13 rfl (by kernel_rfl) ?_
                  refine ol_cal S H isfn20 rfl rfl (GOk.mk rfl rfl hb_10) ?_
                  clear S H aa; intro u_9 aa ww h15 H S
                  obtain ⟨x95, rfl, H⟩ := H
                  refine OL.nil ?_
                  refine ⟨noNeed (by kernel_rfl), ?_⟩
                  refine BN.pure 14 S (noNeed (by kernel_rfl)) rfl (by kernel_rfl) (by kernel_rfl) (fun _ => run_pickT (S.ev rfl) hb_10 (S.ev rfl)) rfl rfl trivial ?_
                  clear S; intro aa S
                  refine BN.pure 15 S (noNeed (by kernel_rfl)) rfl (by kernel_rfl) (by kernel_rfl) (fun _ => Lf.run_assign (S.ev rfl)) rfl rfl trivial ?_
                  clear S; intro aa S
                  refine BN.done (by kernel_rfl) ?_
                  exact ⟨x95, h15, S.sub _ ⟨rfl, trivial⟩, H⟩
                · replace H := H.2 hb_10
                  refine BN.not 5 S (fun _ => HS) rfl (by kernel_rfl) (by kernel_rfl) rfl rfl (GNo.mk rfl rfl hb_10) ?_
                  clear S; intro aa S
                  refine BN.not 6 S (fun _ => HS) rfl (by kernel_rfl) (by kernel_rfl) rfl rfl (GNo.mk rfl rfl hb_10) ?_
                  clear S; intro aa S
                  refine BN.not 8 S (fun _ => HS) rfl (by kernel_rfl) (by kernel_rfl) rfl rfl (GNo.mk rfl rfl hb_10) ?_
                  clear S; intro aa S
                  refine BN.not 10 S (fun _ => HS) rfl (by kernel_rfl) (by kernel_rfl) rfl rfl (GNo.mk rfl rfl hb_10) ?_
                  clear S; intro aa S
                  refine BN.not 11 S (fun _ => HS) rfl (by kernel_rfl) (by kernel_rfl) rfl rfl (GNo.mk rfl rfl hb_10) ?_
                  clear S; intro aa S
                  refine BN.eff 7 rfl (by kernel_rfl) ?_
                  refine OL.not S rfl rfl (GNo.mk rfl rfl hb_10) ?_
                  clear S; intro aa S
                  refine OL.nil ?_
                  refine ⟨fun _ => by rw [S.heap]; exact HS, ?_⟩
                  refine BN.eff 9 rfl (by kernel_rfl) ?_
                  refine OL.not S rfl rfl (GNo.mk rfl rfl hb_10) ?_
                  clear S; intro aa S
                  refine OL.nil ?_
                  refine ⟨fun _ => by rw [S.heap]; exact HS, ?_⟩
                  refine BN.eff 12 rfl (by kernel_rfl) ?_
                  refine OL.not S rfl rfl (GNo.mk rfl rfl hb_10) ?_
                  clear S; intro aa S
                  refine OL.nil ?_
                  refine ⟨noNeed (by kernel_rfl), ?_⟩
                  refine BN.eff 13 rfl (by kernel_rfl) ?_
                  refine OL.not S rfl rfl (GNo.mk rfl rfl hb_10) ?_
                  clear S; intro aa S
                  refine OL.nil ?_
                  refine ⟨noNeed (by kernel_rfl), ?_⟩
                  refine BN.pure 14 S (noNeed (by kernel_rfl)) rfl (by kernel_rfl) (by kernel_rfl) (fun _ => run_pickF (S.ev rfl) hb_10 (S.ev rfl)) rfl rfl trivial ?_
                  clear S; intro aa S
                  refine BN.pure 15 S (noNeed (by kernel_rfl)) rfl (by kernel_rfl) (by kernel_rfl) (fun _ => Lf.run_assign (S.ev rfl)) rfl rfl trivial ?_
                  clear S; intro aa S
                  refine BN.done (by kernel_rfl) ?_
                  exact ⟨false, h11, S.sub _ ⟨rfl, trivial⟩, H⟩
              · clear H S aa
                rintro aa ww ⟨x6, h16, S, HJ⟩
                have H := HK_3 _ _ HJ
                clear HK_3 HJ
                refine W.ret ?_
                exact Ret.one S rfl rfl H

/-- chattel chattellaw07.TypesSame -/
def L7 (a0 : Int) (a0_1 : ByteArray) (a0_2 : Bool) (a0_3 : Int) (a0_4 : Sv) (a0_5 : Sv) (b1 : Int) (b1_1 : ByteArray) (b1_2 : Bool) (b1_3 : Int) (b1_4 : Sv) (b1_5 : Sv) (h : Heap) (R : Value → Heap → Prop) : Prop :=
  new 25 #[Value.int .i64 a0, Value.string a0_1, Value.bool a0_2, Value.int .i64 a0_3, Value.slice a0_4.a a0_4.n a0_4.c, Value.slice a0_5.a a0_5.n a0_5.c] h fun p2 h1 =>
  new 25 #[Value.int .i64 b1, Value.string b1_1, Value.bool b1_2, Value.int .i64 b1_3, Value.slice b1_4.a b1_4.n b1_4.c, Value.slice b1_5.a b1_5.n b1_5.c] h1 fun p3 h2 =>
  cal Try.prog 8 #[] h2 fun u h3 => asB u fun x6 =>
  ∃ J : Bool → Heap → Prop, (orj (!x6) (fun k =>
    ∃ (y9 : Int) (y9_1 : ByteArray) (y9_2 : Bool) (y9_3 : Int) (y9_4 : Sv) (y9_5 : Sv), cl h3 p2 = some (Value.int .i64 y9) ∧ cl h3 (p2.add 1) = some (Value.string y9_1) ∧ cl h3 (p2.add 2) = some (Value.bool y9_2) ∧ cl h3 (p2.add 3) = some (Value.int .i64 y9_3) ∧ cl h3 (p2.add 4) = some (Value.slice y9_4.a y9_4.n y9_4.c) ∧ cl h3 (p2.add 5) = some (Value.slice y9_5.a y9_5.n y9_5.c) ∧
    cal Try.prog 9 #[Value.agg #[Value.int .i64 y9, Value.string y9_1, Value.bool y9_2, Value.int .i64 y9_3, Value.slice y9_4.a y9_4.n y9_4.c, Value.slice y9_5.a y9_5.n y9_5.c], Value.int .i64 6] h3 fun u_1 h5 => asB u_1 fun x10 =>
    k (!x10) h5) h3 J) ∧ ∀ x12 h4, J x12 h4 →
  ∃ J_1 : Bool → Heap → Prop, (orj x12 (fun k_1 =>
    ∃ (y14 : Int) (y14_1 : ByteArray) (y14_2 : Bool) (y14_3 : Int) (y14_4 : Sv) (y14_5 : Sv), cl h4 p3 = some (Value.int .i64 y14) ∧ cl h4 (p3.add 1) = some (Value.string y14_1) ∧ cl h4 (p3.add 2) = some (Value.bool y14_2) ∧ cl h4 (p3.add 3) = some (Value.int .i64 y14_3) ∧ cl h4 (p3.add 4) = some (Value.slice y14_4.a y14_4.n y14_4.c) ∧ cl h4 (p3.add 5) = some (Value.slice y14_5.a y14_5.n y14_5.c) ∧
    cal Try.prog 9 #[Value.agg #[Value.int .i64 y14, Value.string y14_1, Value.bool y14_2, Value.int .i64 y14_3, Value.slice y14_4.a y14_4.n y14_4.c, Value.slice y14_5.a y14_5.n y14_5.c], Value.int .i64 6] h4 fun u_2 h7 => asB u_2 fun x15 =>
    k_1 (!x15) h7) h4 J_1) ∧ ∀ x17 h6, J_1 x17 h6 →
  ifb x17 (
    cal Try.prog 8 #[] h6 fun u_3 h8 => asB u_3 fun x18 =>
    R (Value.bool x18) h8) (
    ldI .i64 h6 p2 fun x20 =>
    ∃ J_2 : Bool → Prop, (andr (decide (1 ≤ x20)) (fun k_2 =>
      ldI .i64 h6 p2 fun x24 =>
      k_2 (decide (x24 ≤ 4))) J_2) ∧ ∀ x26, J_2 x26 →
    ∃ J_3 : Bool → Prop, (orr x26 (fun k_3 =>
      ldI .i64 h6 p2 fun x29 =>
      ∃ J_4 : Bool → Prop, (andr (x29 == 7) (fun k_4 =>
        ldB h6 (p2.add 2) fun x33 =>
        k_4 (!x33)) J_4) ∧ ∀ x35, J_4 x35 →
      k_3 x35) J_3) ∧ ∀ x36, J_3 x36 →
    ∃ J_5 : Bool → Heap → Prop, (
      ∃ Sq : Heap → Prop, Sq h6 ∧ (
        ∃ (y37 : Int) (y37_1 : ByteArray) (y37_2 : Bool) (y37_3 : Int) (y37_4 : Sv) (y37_5 : Sv), cl h6 p2 = some (Value.int .i64 y37) ∧ cl h6 (p2.add 1) = some (Value.string y37_1) ∧ cl h6 (p2.add 2) = some (Value.bool y37_2) ∧ cl h6 (p2.add 3) = some (Value.int .i64 y37_3) ∧ cl h6 (p2.add 4) = some (Value.slice y37_4.a y37_4.n y37_4.c) ∧ cl h6 (p2.add 5) = some (Value.slice y37_5.a y37_5.n y37_5.c) ∧
        ∃ (y38 : Int) (y38_1 : ByteArray) (y38_2 : Bool) (y38_3 : Int) (y38_4 : Sv) (y38_5 : Sv), cl h6 p3 = some (Value.int .i64 y38) ∧ cl h6 (p3.add 1) = some (Value.string y38_1) ∧ cl h6 (p3.add 2) = some (Value.bool y38_2) ∧ cl h6 (p3.add 3) = some (Value.int .i64 y38_3) ∧ cl h6 (p3.add 4) = some (Value.slice y38_4.a y38_4.n y38_4.c) ∧ cl h6 (p3.add 5) = some (Value.slice y38_5.a y38_5.n y38_5.c) ∧
        ∃ (y40 : Int) (y40_1 : ByteArray) (y40_2 : Bool) (y40_3 : Int) (y40_4 : Sv) (y40_5 : Sv), hld Sq p2 (Value.int .i64 y40) ∧ hld Sq (p2.add 1) (Value.string y40_1) ∧ hld Sq (p2.add 2) (Value.bool y40_2) ∧ hld Sq (p2.add 3) (Value.int .i64 y40_3) ∧ hld Sq (p2.add 4) (Value.slice y40_4.a y40_4.n y40_4.c) ∧ hld Sq (p2.add 5) (Value.slice y40_5.a y40_5.n y40_5.c) ∧
        ∃ (y41 : Int) (y41_1 : ByteArray) (y41_2 : Bool) (y41_3 : Int) (y41_4 : Sv) (y41_5 : Sv), hld Sq p3 (Value.int .i64 y41) ∧ hld Sq (p3.add 1) (Value.string y41_1) ∧ hld Sq (p3.add 2) (Value.bool y41_2) ∧ hld Sq (p3.add 3) (Value.int .i64 y41_3) ∧ hld Sq (p3.add 4) (Value.slice y41_4.a y41_4.n y41_4.c) ∧ hld Sq (p3.add 5) (Value.slice y41_5.a y41_5.n y41_5.c) ∧
        cal Try.prog 23 #[Value.agg #[Value.int .i64 y37, Value.string y37_1, Value.bool y37_2, Value.int .i64 y37_3, Value.slice y37_4.a y37_4.n y37_4.c, Value.slice y37_5.a y37_5.n y37_5.c], Value.agg #[Value.int .i64 y38, Value.string y38_1, Value.bool y38_2, Value.int .i64 y38_3, Value.slice y38_4.a y38_4.n y38_4.c, Value.slice y38_5.a y38_5.n y38_5.c]] h6 fun u_4 h9 => asB u_4 fun x39 =>
        Sq h9 ∧
        cal Try.prog 17 #[Value.agg #[Value.int .i64 y40, Value.string y40_1, Value.bool y40_2, Value.int .i64 y40_3, Value.slice y40_4.a y40_4.n y40_4.c, Value.slice y40_5.a y40_5.n y40_5.c], Value.agg #[Value.int .i64 y41, Value.string y41_1, Value.bool y41_2, Value.int .i64 y41_3, Value.slice y41_4.a y41_4.n y41_4.c, Value.slice y41_5.a y41_5.n y41_5.c]] h9 fun u_5 h10 => asB u_5 fun x42 =>
        Sq h10 ∧
        ifb (x39 == x42) (
          ∃ (y45 : Int) (y45_1 : ByteArray) (y45_2 : Bool) (y45_3 : Int) (y45_4 : Sv) (y45_5 : Sv), cl h10 p2 = some (Value.int .i64 y45) ∧ cl h10 (p2.add 1) = some (Value.string y45_1) ∧ cl h10 (p2.add 2) = some (Value.bool y45_2) ∧ cl h10 (p2.add 3) = some (Value.int .i64 y45_3) ∧ cl h10 (p2.add 4) = some (Value.slice y45_4.a y45_4.n y45_4.c) ∧ cl h10 (p2.add 5) = some (Value.slice y45_5.a y45_5.n y45_5.c) ∧
          ∃ (y46 : Int) (y46_1 : ByteArray) (y46_2 : Bool) (y46_3 : Int) (y46_4 : Sv) (y46_5 : Sv), cl h10 p3 = some (Value.int .i64 y46) ∧ cl h10 (p3.add 1) = some (Value.string y46_1) ∧ cl h10 (p3.add 2) = some (Value.bool y46_2) ∧ cl h10 (p3.add 3) = some (Value.int .i64 y46_3) ∧ cl h10 (p3.add 4) = some (Value.slice y46_4.a y46_4.n y46_4.c) ∧ cl h10 (p3.add 5) = some (Value.slice y46_5.a y46_5.n y46_5.c) ∧
          ∃ Sq_1 : Heap → Prop, (∀ h, Sq_1 h → Sq h) ∧ Sq_1 h10 ∧
          ∃ (y48 : Int) (y48_1 : ByteArray) (y48_2 : Bool) (y48_3 : Int) (y48_4 : Sv) (y48_5 : Sv), hld Sq_1 p2 (Value.int .i64 y48) ∧ hld Sq_1 (p2.add 1) (Value.string y48_1) ∧ hld Sq_1 (p2.add 2) (Value.bool y48_2) ∧ hld Sq_1 (p2.add 3) (Value.int .i64 y48_3) ∧ hld Sq_1 (p2.add 4) (Value.slice y48_4.a y48_4.n y48_4.c) ∧ hld Sq_1 (p2.add 5) (Value.slice y48_5.a y48_5.n y48_5.c) ∧
          ∃ (y49 : Int) (y49_1 : ByteArray) (y49_2 : Bool) (y49_3 : Int) (y49_4 : Sv) (y49_5 : Sv), hld Sq_1 p3 (Value.int .i64 y49) ∧ hld Sq_1 (p3.add 1) (Value.string y49_1) ∧ hld Sq_1 (p3.add 2) (Value.bool y49_2) ∧ hld Sq_1 (p3.add 3) (Value.int .i64 y49_3) ∧ hld Sq_1 (p3.add 4) (Value.slice y49_4.a y49_4.n y49_4.c) ∧ hld Sq_1 (p3.add 5) (Value.slice y49_5.a y49_5.n y49_5.c) ∧
          cal Try.prog 24 #[Value.agg #[Value.int .i64 y45, Value.string y45_1, Value.bool y45_2, Value.int .i64 y45_3, Value.slice y45_4.a y45_4.n y45_4.c, Value.slice y45_5.a y45_5.n y45_5.c], Value.agg #[Value.int .i64 y46, Value.string y46_1, Value.bool y46_2, Value.int .i64 y46_3, Value.slice y46_4.a y46_4.n y46_4.c, Value.slice y46_5.a y46_5.n y46_5.c]] h10 fun u_6 h11 => asB u_6 fun x47 =>
          Sq_1 h11 ∧
          cal Try.prog 20 #[Value.agg #[Value.int .i64 y48, Value.string y48_1, Value.bool y48_2, Value.int .i64 y48_3, Value.slice y48_4.a y48_4.n y48_4.c, Value.slice y48_5.a y48_5.n y48_5.c], Value.agg #[Value.int .i64 y49, Value.string y49_1, Value.bool y49_2, Value.int .i64 y49_3, Value.slice y49_4.a y49_4.n y49_4.c, Value.slice y49_5.a y49_5.n y49_5.c]] h11 fun u_7 h12 => asB u_7 fun x50 =>
          Sq_1 h12 ∧
          ifb (x47 == x50) (
            ∃ (y55 : Int) (y55_1 : ByteArray) (y55_2 : Bool) (y55_3 : Int) (y55_4 : Sv) (y55_5 : Sv), cl h12 p2 = some (Value.int .i64 y55) ∧ cl h12 (p2.add 1) = some (Value.string y55_1) ∧ cl h12 (p2.add 2) = some (Value.bool y55_2) ∧ cl h12 (p2.add 3) = some (Value.int .i64 y55_3) ∧ cl h12 (p2.add 4) = some (Value.slice y55_4.a y55_4.n y55_4.c) ∧ cl h12 (p2.add 5) = some (Value.slice y55_5.a y55_5.n y55_5.c) ∧
            ∃ Sq_2 : Heap → Prop, (∀ h, Sq_2 h → Sq_1 h) ∧ Sq_2 h12 ∧
            ∃ (y54 : Int) (y54_1 : ByteArray) (y54_2 : Bool) (y54_3 : Int) (y54_4 : Sv) (y54_5 : Sv), hld Sq_2 p2 (Value.int .i64 y54) ∧ hld Sq_2 (p2.add 1) (Value.string y54_1) ∧ hld Sq_2 (p2.add 2) (Value.bool y54_2) ∧ hld Sq_2 (p2.add 3) (Value.int .i64 y54_3) ∧ hld Sq_2 (p2.add 4) (Value.slice y54_4.a y54_4.n y54_4.c) ∧ hld Sq_2 (p2.add 5) (Value.slice y54_5.a y54_5.n y54_5.c) ∧
            cal Try.prog 19 #[Value.agg #[Value.int .i64 y55, Value.string y55_1, Value.bool y55_2, Value.int .i64 y55_3, Value.slice y55_4.a y55_4.n y55_4.c, Value.slice y55_5.a y55_5.n y55_5.c]] h12 fun u_8 h13 => ∃ (y56 : Int) (y56_1 : ByteArray) (y56_2 : Bool) (y56_3 : Int) (y56_4 : Sv) (y56_5 : Sv), u_8 = Value.agg #[Value.int .i64 y56, Value.string y56_1, Value.bool y56_2, Value.int .i64 y56_3, Value.slice y56_4.a y56_4.n y56_4.c, Value.slice y56_5.a y56_5.n y56_5.c] ∧
            Sq_2 h13 ∧
            cal Try.prog 23 #[Value.agg #[Value.int .i64 y54, Value.string y54_1, Value.bool y54_2, Value.int .i64 y54_3, Value.slice y54_4.a y54_4.n y54_4.c, Value.slice y54_5.a y54_5.n y54_5.c], Value.agg #[Value.int .i64 y56, Value.string y56_1, Value.bool y56_2, Value.int .i64 y56_3, Value.slice y56_4.a y56_4.n y56_4.c, Value.slice y56_5.a y56_5.n y56_5.c]] h13 fun u_9 h14 => asB u_9 fun x57 =>
            ifb x57 (
              ∃ (y60 : Int) (y60_1 : ByteArray) (y60_2 : Bool) (y60_3 : Int) (y60_4 : Sv) (y60_5 : Sv), cl h14 p2 = some (Value.int .i64 y60) ∧ cl h14 (p2.add 1) = some (Value.string y60_1) ∧ cl h14 (p2.add 2) = some (Value.bool y60_2) ∧ cl h14 (p2.add 3) = some (Value.int .i64 y60_3) ∧ cl h14 (p2.add 4) = some (Value.slice y60_4.a y60_4.n y60_4.c) ∧ cl h14 (p2.add 5) = some (Value.slice y60_5.a y60_5.n y60_5.c) ∧
              cal Try.prog 25 #[Value.agg #[Value.int .i64 y60, Value.string y60_1, Value.bool y60_2, Value.int .i64 y60_3, Value.slice y60_4.a y60_4.n y60_4.c, Value.slice y60_5.a y60_5.n y60_5.c]] h14 fun u_10 h15 => asB u_10 fun x61 =>
              J_5 (x61 == x36) h15) (
              J_5 false h14)) (
            J_5 false h12)) (
          J_5 false h10))) ∧ (∀ x4 h16, J_5 x4 h16 →
    R (Value.bool x4) h16))

set_option maxRecDepth 100000 in

theorem F7 {a0 a0_1 a0_2 a0_3 a0_4 a0_5 b1 b1_1 b1_2 b1_3 b1_4 b1_5 h : _} {R : Value → Heap → Prop} (H : L7 a0 a0_1 a0_2 a0_3 a0_4 a0_5 b1 b1_1 b1_2 b1_3 b1_4 b1_5 h R) : CallsH Try.prog 7 #[Value.agg #[Value.int .i64 a0, Value.string a0_1, Value.bool a0_2, Value.int .i64 a0_3, Value.slice a0_4.a a0_4.n a0_4.c, Value.slice a0_5.a a0_5.n a0_5.c], Value.agg #[Value.int .i64 b1, Value.string b1_1, Value.bool b1_2, Value.int .i64 b1_3, Value.slice b1_4.a b1_4.n b1_4.c, Value.slice b1_5.a b1_5.n b1_5.c]] h R := by
  refine CallsH.enter (n := 65) Try.func7 rfl rfl rfl rfl ?_
  intro w0 aa ww S
  unfold L7 at H
  refine W.seq ?_
  replace S := S.sub [(0, Value.agg #[Value.int .i64 a0, Value.string a0_1, Value.bool a0_2, Value.int .i64 a0_3, Value.slice a0_4.a a0_4.n a0_4.c, Value.slice a0_5.a a0_5.n a0_5.c]), (1, Value.agg #[Value.int .i64 b1, Value.string b1_1, Value.bool b1_2, Value.int .i64 b1_3, Value.slice b1_4.a b1_4.n b1_4.c, Value.slice b1_5.a b1_5.n b1_5.c])] ⟨rfl, rfl, trivial⟩
  refine W.region ?_
  refine ol_box S H rfl rfl rfl trivial ?_
  clear S H aa; intro p2 aa ww h1 H S
  refine ol_box S H rfl rfl rfl trivial ?_
  clear S H aa; intro p3 aa ww h2 H S
  refine OL.pure S (Lf.run_assign (S.ev rfl)) rfl rfl trivial ?_
  clear S; intro aa S
  refine OL.nil ?_
  refine W.seq ?_
  refine W.seq ?_
  replace S := S.sub [(2, Value.pointer (some p2)), (3, Value.pointer (some p3))] ⟨rfl, rfl, trivial⟩
  refine W.region ?_
  refine ol_cal S H isfn8 rfl rfl trivial ?_
  clear S H aa; intro u aa ww h3 H S
  obtain ⟨x6, rfl, H⟩ := H
  refine OL.pure S (Lf.run_not (S.ev rfl)) rfl rfl trivial ?_
  clear S; intro aa S
  refine OL.pure S (Lf.run_move (S.ev rfl)) rfl rfl trivial ?_
  clear S; intro aa S
  obtain ⟨J, H, HK⟩ := H
  refine OL.cutN 4 (fun aa ww => ∃ x12 h4, St 65 ((12, Value.bool x12) :: [(2, Value.pointer (some p2)), (3, Value.pointer (some p3)), (6, Value.bool x6), (7, Value.bool (!x6)), (8, Value.bool (!x6))]) h4 w0 aa ww ∧ J x12 h4) ?_ ?_
  · rcases Bool.eq_false_or_eq_true (!x6) with hb | hb
    · replace H := H.1 hb
      refine OL.not S rfl rfl (GNo.mk rfl rfl hb) ?_
      clear S; intro aa S
      refine OL.not S rfl rfl (GNo.mk rfl rfl hb) ?_
      clear S; intro aa S
      refine OL.not S rfl rfl (GNo.mk rfl rfl hb) ?_
      clear S; intro aa S
      refine OL.pure S (Lf.run_pickT (S.ev rfl) hb (S.ev rfl)) rfl rfl trivial ?_
      clear S; intro aa S
      refine OL.nil ?_
      exact ⟨_, _, S.sub _ ⟨rfl, rfl, rfl, rfl, rfl, rfl, trivial⟩, H⟩
    · replace H := H.2 hb
      obtain ⟨y9, y9_1, y9_2, y9_3, y9_4, y9_5, c_1, c_2, c_3, c_4, c_5, c_6, H⟩ := H
      refine OL.pure S (Lf.run_ldA (cs := [Value.int .i64 y9, Value.string y9_1, Value.bool y9_2, Value.int .i64 y9_3, Value.slice y9_4.a y9_4.n y9_4.c, Value.slice y9_5.a y9_5.n y9_5.c]) (S.ev rfl) ag25 ti25 (by rw [S.heap]; exact RowL.toRow ⟨c_1, c_2, c_3, c_4, c_5, c_6, trivial⟩)) rfl rfl (GOk.mk rfl rfl hb) ?_
      clear S; intro aa S
      refine ol_cal S H isfn9 rfl rfl (GOk.mk rfl rfl hb) ?_
      clear S H aa; intro u_1 aa ww h5 H S
      obtain ⟨x10, rfl, H⟩ := H
      refine OL.pure S (Lf.run_not (S.ev rfl)) rfl rfl (GOk.mk rfl rfl hb) ?_
      clear S; intro aa S
      refine OL.pure S (Lf.run_pickF (S.ev rfl) hb (S.ev rfl)) rfl rfl trivial ?_
      clear S; intro aa S
      refine OL.nil ?_
      exact ⟨_, _, S.sub _ ⟨rfl, rfl, rfl, rfl, rfl, rfl, trivial⟩, H⟩
  · clear S aa
    rintro aa ww ⟨x12, h4, S, HJ⟩
    replace H := HK _ _ HJ
    clear HK HJ
    refine OL.pure S (Lf.run_move (S.ev rfl)) rfl rfl trivial ?_
    clear S; intro aa S
    obtain ⟨J_1, H, HK_1⟩ := H
    refine OL.cutN 4 (fun aa ww => ∃ x17 h6, St 65 ((17, Value.bool x17) :: [(2, Value.pointer (some p2)), (3, Value.pointer (some p3)), (6, Value.bool x6), (7, Value.bool (!x6)), (8, Value.bool (!x6)), (12, Value.bool x12), (13, Value.bool x12)]) h6 w0 aa ww ∧ J_1 x17 h6) ?_ ?_
    · rcases Bool.eq_false_or_eq_true x12 with hb_1 | hb_1
      · replace H := H.1 hb_1
        refine OL.not S rfl rfl (GNo.mk rfl rfl hb_1) ?_
        clear S; intro aa S
        refine OL.not S rfl rfl (GNo.mk rfl rfl hb_1) ?_
        clear S; intro aa S
        refine OL.not S rfl rfl (GNo.mk rfl rfl hb_1) ?_
        clear S; intro aa S
        refine OL.pure S (Lf.run_pickT (S.ev rfl) hb_1 (S.ev rfl)) rfl rfl trivial ?_
        clear S; intro aa S
        refine OL.nil ?_
        exact ⟨_, _, S.sub _ ⟨rfl, rfl, rfl, rfl, rfl, rfl, rfl, rfl, trivial⟩, H⟩
      · replace H := H.2 hb_1
        obtain ⟨y14, y14_1, y14_2, y14_3, y14_4, y14_5, c_8, c_9, c_10, c_11, c_12, c_13, H⟩ := H
        refine OL.pure S (Lf.run_ldA (cs := [Value.int .i64 y14, Value.string y14_1, Value.bool y14_2, Value.int .i64 y14_3, Value.slice y14_4.a y14_4.n y14_4.c, Value.slice y14_5.a y14_5.n y14_5.c]) (S.ev rfl) ag25 ti25 (by rw [S.heap]; exact RowL.toRow ⟨c_8, c_9, c_10, c_11, c_12, c_13, trivial⟩)) rfl rfl (GOk.mk rfl rfl hb_1) ?_
        clear S; intro aa S
        refine ol_cal S H isfn9 rfl rfl (GOk.mk rfl rfl hb_1) ?_
        clear S H aa; intro u_2 aa ww h7 H S
        obtain ⟨x15, rfl, H⟩ := H
        refine OL.pure S (Lf.run_not (S.ev rfl)) rfl rfl (GOk.mk rfl rfl hb_1) ?_
        clear S; intro aa S
        refine OL.pure S (Lf.run_pickF (S.ev rfl) hb_1 (S.ev rfl)) rfl rfl trivial ?_
        clear S; intro aa S
        refine OL.nil ?_
        exact ⟨_, _, S.sub _ ⟨rfl, rfl, rfl, rfl, rfl, rfl, rfl, rfl, trivial⟩, H⟩
    · clear S aa
      rintro aa ww ⟨x17, h6, S, HJ⟩
      replace H := HK_1 _ _ HJ
      clear HK_1 HJ
      refine OL.nil ?_
      refine W.cond S (b := x17) rfl (fun hb_2 => ?_) (fun hb_2 => ?_)
      · replace H := H.1 hb_2
        refine W.seq ?_
        replace S := S.sub [] trivial
        refine W.region ?_
        refine ol_cal S H isfn8 rfl rfl trivial ?_
        clear S H aa; intro u_3 aa ww h8 H S
        obtain ⟨x18, rfl, H⟩ := H
        refine OL.pure S (Lf.run_assign (S.ev rfl)) rfl rfl trivial ?_
        clear S; intro aa S
        refine OL.nil ?_
        refine W.ret ?_
        exact Ret.one S rfl rfl H
      · replace H := H.2 hb_2
        refine W.skip ?_
        refine W.seq ?_
        replace S := S.sub [(2, Value.pointer (some p2)), (3, Value.pointer (some p3))] ⟨rfl, rfl, trivial⟩
        refine W.region ?_
        refine OL.pure S (Lf.run_fa (S.ev rfl) fa25_0) rfl rfl trivial ?_
        clear S; intro aa S
        obtain ⟨x20, c_14, H⟩ := H
        refine OL.pure S (Lf.run_ld (S.ev rfl) fl3 (S.cl c_14)) rfl rfl trivial ?_
        clear S; intro aa S
        refine OL.pure S (Lf.run_geq (S.ev rfl) (S.ev rfl)) rfl rfl trivial ?_
        clear S; intro aa S
        refine OL.pure S (Lf.run_move (S.ev rfl)) rfl rfl trivial ?_
        clear S; intro aa S
        obtain ⟨J_2, H, HK_2⟩ := H
        refine OL.cutN 4 (fun aa ww => ∃ x26, St 65 ((26, Value.bool x26) :: [(2, Value.pointer (some p2)), (3, Value.pointer (some p3)), (19, Value.pointer (some p2)), (20, Value.int .i64 x20), (21, Value.bool (decide (1 ≤ x20))), (22, Value.bool (decide (1 ≤ x20)))]) h6 w0 aa ww ∧ J_2 x26) ?_ ?_
        · rcases Bool.eq_false_or_eq_true (decide (1 ≤ x20)) with hb_3 | hb_3
          · replace H := H.1 hb_3
            refine OL.pure S (Lf.run_fa (S.ev rfl) fa25_0) rfl rfl (GOk.mk rfl rfl hb_3) ?_
            clear S; intro aa S
            obtain ⟨x24, c_15, H⟩ := H
            refine OL.pure S (Lf.run_ld (S.ev rfl) fl3 (S.cl c_15)) rfl rfl (GOk.mk rfl rfl hb_3) ?_
            clear S; intro aa S
            refine OL.pure S (Lf.run_leq (S.ev rfl) (S.ev rfl)) rfl rfl (GOk.mk rfl rfl hb_3) ?_
            clear S; intro aa S
            refine OL.pure S (Lf.run_pickT (S.ev rfl) hb_3 (S.ev rfl)) rfl rfl trivial ?_
            clear S; intro aa S
            refine OL.nil ?_
            exact ⟨_, S.sub _ ⟨rfl, rfl, rfl, rfl, rfl, rfl, rfl, trivial⟩, H⟩
          · replace H := H.2 hb_3
            refine OL.not S rfl rfl (GNo.mk rfl rfl hb_3) ?_
            clear S; intro aa S
            refine OL.not S rfl rfl (GNo.mk rfl rfl hb_3) ?_
            clear S; intro aa S
            refine OL.not S rfl rfl (GNo.mk rfl rfl hb_3) ?_
            clear S; intro aa S
            refine OL.pure S (Lf.run_pickF (S.ev rfl) hb_3 (S.ev rfl)) rfl rfl trivial ?_
            clear S; intro aa S
            refine OL.nil ?_
            exact ⟨_, S.sub _ ⟨rfl, rfl, rfl, rfl, rfl, rfl, rfl, trivial⟩, H⟩
        · clear S aa
          rintro aa ww ⟨x26, S, HJ⟩
          replace H := HK_2 _ HJ
          clear HK_2 HJ
          refine OL.pure S (Lf.run_move (S.ev rfl)) rfl rfl trivial ?_
          clear S; intro aa S
          obtain ⟨J_3, H, HK_3⟩ := H
          refine OL.cutN 9 (fun aa ww => ∃ x36, St 65 ((36, Value.bool x36) :: [(2, Value.pointer (some p2)), (3, Value.pointer (some p3)), (19, Value.pointer (some p2)), (20, Value.int .i64 x20), (21, Value.bool (decide (1 ≤ x20))), (22, Value.bool (decide (1 ≤ x20))), (26, Value.bool x26), (27, Value.bool x26)]) h6 w0 aa ww ∧ J_3 x36) ?_ ?_
          · rcases Bool.eq_false_or_eq_true x26 with hb_4 | hb_4
            · replace H := H.1 hb_4
              refine OL.not S rfl rfl (GNo.mk rfl rfl hb_4) ?_
              clear S; intro aa S
              refine OL.not S rfl rfl (GNo.mk rfl rfl hb_4) ?_
              clear S; intro aa S
              refine OL.not S rfl rfl (GNo.mk rfl rfl hb_4) ?_
              clear S; intro aa S
              refine OL.not S rfl rfl (GNo.mk rfl rfl hb_4) ?_
              clear S; intro aa S
              refine OL.not S rfl rfl (GNo.un rfl rfl) ?_
              clear S; intro aa S
              refine OL.not S rfl rfl (GNo.un rfl rfl) ?_
              clear S; intro aa S
              refine OL.not S rfl rfl (GNo.un rfl rfl) ?_
              clear S; intro aa S
              refine OL.not S rfl rfl (GNo.mk rfl rfl hb_4) ?_
              clear S; intro aa S
              refine OL.pure S (Lf.run_pickT (S.ev rfl) hb_4 (S.ev rfl)) rfl rfl trivial ?_
              clear S; intro aa S
              refine OL.nil ?_
              exact ⟨_, S.sub _ ⟨rfl, rfl, rfl, rfl, rfl, rfl, rfl, rfl, rfl, trivial⟩, H⟩
            · replace H := H.2 hb_4
              refine OL.pure S (Lf.run_fa (S.ev rfl) fa25_0) rfl rfl (GOk.mk rfl rfl hb_4) ?_
              clear S; intro aa S
              obtain ⟨x29, c_16, H⟩ := H
              refine OL.pure S (Lf.run_ld (S.ev rfl) fl3 (S.cl c_16)) rfl rfl (GOk.mk rfl rfl hb_4) ?_
              clear S; intro aa S
              refine OL.pure S (Lf.run_eql (S.ev rfl) (S.ev rfl)) rfl rfl (GOk.mk rfl rfl hb_4) ?_
              clear S; intro aa S
              refine OL.pure S (Lf.run_move (S.ev rfl)) rfl rfl (GOk.mk rfl rfl hb_4) ?_
              clear S; intro aa S
              obtain ⟨J_4, H, HK_4⟩ := H
              refine OL.cutN 4 (fun aa ww => ∃ x35, St 65 ((35, Value.bool x35) :: [(2, Value.pointer (some p2)), (3, Value.pointer (some p3)), (19, Value.pointer (some p2)), (20, Value.int .i64 x20), (21, Value.bool (decide (1 ≤ x20))), (22, Value.bool (decide (1 ≤ x20))), (26, Value.bool x26), (27, Value.bool x26), (28, Value.pointer (some p2)), (29, Value.int .i64 x29), (30, Value.bool (x29 == 7)), (31, Value.bool (x29 == 7))]) h6 w0 aa ww ∧ J_4 x35) ?_ ?_
              · rcases Bool.eq_false_or_eq_true (x29 == 7) with hb_5 | hb_5
                · replace H := H.1 hb_5
                  refine OL.pure S (Lf.run_fa (S.ev rfl) fa25_2) rfl rfl (GOk.mk rfl rfl hb_5) ?_
                  clear S; intro aa S
                  obtain ⟨x33, c_17, H⟩ := H
                  refine OL.pure S (Lf.run_ld (S.ev rfl) fl4 (S.cl c_17)) rfl rfl (GOk.mk rfl rfl hb_5) ?_
                  clear S; intro aa S
                  refine OL.pure S (Lf.run_not (S.ev rfl)) rfl rfl (GOk.mk rfl rfl hb_5) ?_
                  clear S; intro aa S
                  refine OL.pure S (Lf.run_pickT (S.ev rfl) hb_5 (S.ev rfl)) rfl rfl (GOk.mk rfl rfl hb_4) ?_
                  clear S; intro aa S
                  refine OL.nil ?_
                  exact ⟨_, S.sub _ ⟨rfl, rfl, rfl, rfl, rfl, rfl, rfl, rfl, rfl, rfl, rfl, rfl, rfl, trivial⟩, H⟩
                · replace H := H.2 hb_5
                  refine OL.not S rfl rfl (GNo.mk rfl rfl hb_5) ?_
                  clear S; intro aa S
                  refine OL.not S rfl rfl (GNo.mk rfl rfl hb_5) ?_
                  clear S; intro aa S
                  refine OL.not S rfl rfl (GNo.mk rfl rfl hb_5) ?_
                  clear S; intro aa S
                  refine OL.pure S (Lf.run_pickF (S.ev rfl) hb_5 (S.ev rfl)) rfl rfl (GOk.mk rfl rfl hb_4) ?_
                  clear S; intro aa S
                  refine OL.nil ?_
                  exact ⟨_, S.sub _ ⟨rfl, rfl, rfl, rfl, rfl, rfl, rfl, rfl, rfl, rfl, rfl, rfl, rfl, trivial⟩, H⟩
              · clear S aa
                rintro aa ww ⟨x35, S, HJ⟩
                replace H := HK_4 _ HJ
                clear HK_4 HJ
                refine OL.pure S (Lf.run_pickF (S.ev rfl) hb_4 (S.ev rfl)) rfl rfl trivial ?_
                clear S; intro aa S
                refine OL.nil ?_
                exact ⟨_, S.sub _ ⟨rfl, rfl, rfl, rfl, rfl, rfl, rfl, rfl, rfl, trivial⟩, H⟩
          · clear S aa
            rintro aa ww ⟨x36, S, HJ⟩
            replace H := HK_3 _ HJ
            clear HK_3 HJ
            refine OL.pure S (Lf.run_assign (S.ev rfl)) rfl rfl trivial ?_
            clear S; intro aa S
            refine OL.nil ?_
            refine W.seq ?_
            replace S := S.sub [(2, Value.pointer (some p2)), (3, Value.pointer (some p3)), (5, Value.bool x36)] ⟨rfl, rfl, rfl, trivial⟩
            obtain ⟨J_5, H, HK_5⟩ := H
            refine W.mono (N' := fun aa ww => ∃ x4 h16, St 65 [(4, Value.bool x4)] h16 w0 aa ww ∧ J_5 x4 h16) ?_ ?_
            · obtain ⟨Sq, HS, H⟩ := H
              refine W.regionN [3, 4, 11, 12, 17] [2, 5, 10, 13, 19, 20, 24] Sq S (by kernel_rfl) ?_
              clear S; intro ww S
              obtain ⟨y37, y37_1, y37_2, y37_3, y37_4, y37_5, c_89, c_90, c_91, c_92, c_93, c_94, H⟩ := H
              refine BN.load 0 S (fun _ => HS) rfl (by kernel_rfl) (by kernel_rfl) (fun _ hx => Lf.run_ldA (cs := [Value.int .i64 y37, Value.string y37_1, Value.bool y37_2, Value.int .i64 y37_3, Value.slice y37_4.a y37_4.n y37_4.c, Value.slice y37_5.a y37_5.n y37_5.c]) (S.ev rfl) ag25 ti25 (hx.row (S.row ⟨c_89, c_90, c_91, c_92, c_93, c_94, trivial⟩))) rfl rfl trivial ?_
              clear S; intro aa S
              obtain ⟨y38, y38_1, y38_2, y38_3, y38_4, y38_5, c_83, c_84, c_85, c_86, c_87, c_88, H⟩ := H
              refine BN.load 1 S (fun _ => HS) rfl (by kernel_rfl) (by kernel_rfl) (fun _ hx => Lf.run_ldA (cs := [Value.int .i64 y38, Value.string y38_1, Value.bool y38_2, Value.int .i64 y38_3, Value.slice y38_4.a y38_4.n y38_4.c, Value.slice y38_5.a y38_5.n y38_5.c]) (S.ev rfl) ag25 ti25 (hx.row (S.row ⟨c_83, c_84, c_85, c_86, c_87, c_88, trivial⟩))) rfl rfl trivial ?_
              clear S; intro aa S
              obtain ⟨y40, y40_1, y40_2, y40_3, y40_4, y40_5, c_77, c_78, c_79, c_80, c_81, c_82, H⟩ := H
              refine BN.held 3 S HS rfl (by kernel_rfl) (fun _ hq => Lf.run_ldA (cs := [Value.int .i64 y40, Value.string y40_1, Value.bool y40_2, Value.int .i64 y40_3, Value.slice y40_4.a y40_4.n y40_4.c, Value.slice y40_5.a y40_5.n y40_5.c]) (S.ev rfl) ag25 ti25 (hlRow hq fun h_ hs_ => ⟨c_77 h_ hs_, c_78 h_ hs_, c_79 h_ hs_, c_80 h_ hs_, c_81 h_ hs_, c_82 h_ hs_, trivial⟩)) rfl rfl trivial ?_
              clear S; intro aa S
              obtain ⟨y41, y41_1, y41_2, y41_3, y41_4, y41_5, c_71, c_72, c_73, c_74, c_75, c_76, H⟩ := H
              refine BN.held 4 S HS rfl (by kernel_rfl) (fun _ hq => Lf.run_ldA (cs := [Value.int .i64 y41, Value.string y41_1, Value.bool y41_2, Value.int .i64 y41_3, Value.slice y41_4.a y41_4.n y41_4.c, Value.slice y41_5.a y41_5.n y41_5.c]) (S.ev rfl) ag25 ti25 (hlRow hq fun h_ hs_ => ⟨c_71 h_ hs_, c_72 h_ hs_, c_73 h_ hs_, c_74 h_ hs_, c_75 h_ hs_, c_76 h_ hs_, trivial⟩)) rfl rfl trivial ?_
              clear S; intro aa S
              refine BN.eff 2 rfl (by kernel_rfl) ?_
              refine ol_cal S H isfn23 rfl rfl trivial ?_
              clear S H aa; intro u_4 aa ww h9 H S
              obtain ⟨x39, rfl, H⟩ := H
              refine OL.nil ?_
              clear HS; obtain ⟨HS, H⟩ := H
              refine ⟨fun _ => by rw [S.heap]; exact HS, ?_⟩
              refine BN.eff 5 rfl (by kernel_rfl) ?_
              refine ol_cal S H isfn17 rfl rfl trivial ?_
              clear S H aa; intro u_5 aa ww h10 H S
              obtain ⟨x42, rfl, H⟩ := H
              refine OL.nil ?_
              clear HS; obtain ⟨HS, H⟩ := H
              refine ⟨fun _ => by rw [S.heap]; exact HS, ?_⟩
              refine BN.pure 6 S (fun _ => HS) rfl (by kernel_rfl) (by kernel_rfl) (fun _ => Lf.run_eqlb Try.underlying4 (S.ev rfl) (S.ev rfl)) rfl rfl trivial ?_
              clear S; intro aa S
              refine BN.pure 7 S (fun _ => HS) rfl (by kernel_rfl) (by kernel_rfl) (fun _ => Lf.run_move (S.ev rfl)) rfl rfl trivial ?_
              clear S; intro aa S
              rcases Bool.eq_false_or_eq_true (x39 == x42) with hb_6 | hb_6
              · replace H := H.1 hb_6
                obtain ⟨y45, y45_1, y45_2, y45_3, y45_4, y45_5, c_65, c_66, c_67, c_68, c_69, c_70, H⟩ := H
                refine BN.load 8 S (fun _ => HS) rfl (by kernel_rfl) (by kernel_rfl) (fun _ hx => Lf.run_ldA (cs := [Value.int .i64 y45, Value.string y45_1, Value.bool y45_2, Value.int .i64 y45_3, Value.slice y45_4.a y45_4.n y45_4.c, Value.slice y45_5.a y45_5.n y45_5.c]) (S.ev rfl) ag25 ti25 (hx.row (S.row ⟨c_65, c_66, c_67, c_68, c_69, c_70, trivial⟩))) rfl rfl (GOk.mk rfl rfl hb_6) ?_
                clear S; intro aa S
                obtain ⟨y46, y46_1, y46_2, y46_3, y46_4, y46_5, c_59, c_60, c_61, c_62, c_63, c_64, H⟩ := H
                refine BN.load 9 S (fun _ => HS) rfl (by kernel_rfl) (by kernel_rfl) (fun _ hx => Lf.run_ldA (cs := [Value.int .i64 y46, Value.string y46_1, Value.bool y46_2, Value.int .i64 y46_3, Value.slice y46_4.a y46_4.n y46_4.c, Value.slice y46_5.a y46_5.n y46_5.c]) (S.ev rfl) ag25 ti25 (hx.row (S.row ⟨c_59, c_60, c_61, c_62, c_63, c_64, trivial⟩))) rfl rfl (GOk.mk rfl rfl hb_6) ?_
                clear S; intro aa S
                clear HS; obtain ⟨Sq_1, HI, HS, H⟩ := H
                refine BN.stronger HI ?_
                obtain ⟨y48, y48_1, y48_2, y48_3, y48_4, y48_5, c_53, c_54, c_55, c_56, c_57, c_58, H⟩ := H
                refine BN.held 11 S HS rfl (by kernel_rfl) (fun _ hq => Lf.run_ldA (cs := [Value.int .i64 y48, Value.string y48_1, Value.bool y48_2, Value.int .i64 y48_3, Value.slice y48_4.a y48_4.n y48_4.c, Value.slice y48_5.a y48_5.n y48_5.c]) (S.ev rfl) ag25 ti25 (hlRow hq fun h_ hs_ => ⟨c_53 h_ hs_, c_54 h_ hs_, c_55 h_ hs_, c_56 h_ hs_, c_57 h_ hs_, c_58 h_ hs_, trivial⟩)) rfl rfl (GOk.mk rfl rfl hb_6) ?_
                clear S; intro aa S
                obtain ⟨y49, y49_1, y49_2, y49_3, y49_4, y49_5, c_47, c_48, c_49, c_50, c_51, c_52, H⟩ := H
                refine BN.held 12 S HS rfl (by kernel_rfl) (fun _ hq => Lf.run_ldA (cs := [Value.int .i64 y49, Value.string y49_1, Value.bool y49_2, Value.int .i64 y49_3, Value.slice y49_4.a y49_4.n y49_4.c, Value.slice y49_5.a y49_5.n y49_5.c]) (S.ev rfl) ag25 ti25 (hlRow hq fun h_ hs_ => ⟨c_47 h_ hs_, c_48 h_ hs_, c_49 h_ hs_, c_50 h_ hs_, c_51 h_ hs_, c_52 h_ hs_, trivial⟩)) rfl rfl (GOk.mk rfl rfl hb_6) ?_
                clear S; intro aa S
                refine BN.eff 10 rfl (by kernel_rfl) ?_
                refine ol_cal S H isfn24 rfl rfl (GOk.mk rfl rfl hb_6) ?_
                clear S H aa; intro u_6 aa ww h11 H S
                obtain ⟨x47, rfl, H⟩ := H
                refine OL.nil ?_
                clear HS; obtain ⟨HS, H⟩ := H
                refine ⟨fun _ => by rw [S.heap]; exact HS, ?_⟩
                refine BN.eff 13 rfl (by kernel_rfl) ?_
                refine ol_cal S H isfn20 rfl rfl (GOk.mk rfl rfl hb_6) ?_
                clear S H aa; intro u_7 aa ww h12 H S
                obtain ⟨x50, rfl, H⟩ := H
                refine OL.nil ?_
                clear HS; obtain ⟨HS, H⟩ := H
                refine ⟨fun _ => by rw [S.heap]; exact HS, ?_⟩
                refine BN.pure 14 S (fun _ => HS) rfl (by kernel_rfl) (by kernel_rfl) (fun _ => Lf.run_eqlb Try.underlying4 (S.ev rfl) (S.ev rfl)) rfl rfl (GOk.mk rfl rfl hb_6) ?_
                clear S; intro aa S
                refine BN.pure 15 S (fun _ => HS) rfl (by kernel_rfl) (by kernel_rfl) (fun _ => run_pickT (S.ev rfl) hb_6 (S.ev rfl)) rfl rfl trivial ?_
                clear S; intro aa S
                refine BN.pure 16 S (fun _ => HS) rfl (by kernel_rfl) (by kernel_rfl) (fun _ => Lf.run_move (S.ev rfl)) rfl rfl trivial ?_
                clear S; intro aa S
                rcases Bool.eq_false_or_eq_true (x47 == x50) with hb_7 | hb_7
                · replace H := H.1 hb_7
                  obtain ⟨y55, y55_1, y55_2, y55_3, y55_4, y55_5, c_41, c_42, c_43, c_44, c_45, c_46, H⟩ := H
                  refine BN.load 18 S (fun _ => HS) rfl (by kernel_rfl) (by kernel_rfl) (fun _ hx => Lf.run_ldA (cs := [Value.int .i64 y55, Value.string y55_1, Value.bool y55_2, Value.int .i64 y55_3, Value.slice y55_4.a y55_4.n y55_4.c, Value.slice y55_5.a y55_5.n y55_5.c]) (S.ev rfl) ag25 ti25 (hx.row (S.row ⟨c_41, c_42, c_43, c_44, c_45, c_46, trivial⟩))) rfl rfl (GOk.mk rfl rfl hb_7) ?_
                  clear S; intro aa S
                  clear HS; obtain ⟨Sq_2, HI_1, HS, H⟩ := H
                  refine BN.stronger HI_1 ?_
                  obtain ⟨y54, y54_1, y54_2, y54_3, y54_4, y54_5, c_35, c_36, c_37, c_38, c_39, c_40, H⟩ := H
                  refine BN.held 17 S HS rfl (by kernel_rfl) (fun _ hq => Lf.run_ldA (cs := [Value.int .i64 y54, Value.string y54_1, Value.bool y54_2, Value.int .i64 y54_3, Value.slice y54_4.a y54_4.n y54_4.c, Value.slice y54_5.a y54_5.n y54_5.c]) (S.ev rfl) ag25 ti25 (hlRow hq fun h_ hs_ => ⟨c_35 h_ hs_, c_36 h_ hs_, c_37 h_ hs_, c_38 h_ hs_, c_39 h_ hs_, c_40 h_ hs_, trivial⟩)) rfl rfl (GOk.mk rfl rfl hb_7) ?_
                  clear S; intro aa S
                  refine BN.eff 19 rfl (by kernel_rfl) ?_
                  refine ol_cal S H isfn19 rfl rfl (GOk.mk rfl rfl hb_7) ?_
                  clear S H aa; intro u_8 aa ww h13 H S
                  obtain ⟨y56, y56_1, y56_2, y56_3, y56_4, y56_5, rfl, H⟩ := H
                  refine OL.nil ?_
                  clear HS; obtain ⟨HS, H⟩ := H
                  refine ⟨fun _ => by rw [S.heap]; exact HS, ?_⟩
                  refine BN.eff 20 rfl (by kernel_rfl) ?_
                  refine ol_cal S H isfn23 rfl rfl (GOk.mk rfl rfl hb_7) ?_
                  clear S H aa; intro u_9 aa ww h14 H S
                  obtain ⟨x57, rfl, H⟩ := H
                  refine OL.nil ?_
                  refine ⟨noNeed (by kernel_rfl), ?_⟩
                  refine BN.pure 21 S (noNeed (by kernel_rfl)) rfl (by kernel_rfl) (by kernel_rfl) (fun _ => run_pickT (S.ev rfl) hb_7 (S.ev rfl)) rfl rfl trivial ?_
                  clear S; intro aa S
                  refine BN.pure 22 S (noNeed (by kernel_rfl)) rfl (by kernel_rfl) (by kernel_rfl) (fun _ => Lf.run_move (S.ev rfl)) rfl rfl trivial ?_
                  clear S; intro aa S
                  rcases Bool.eq_false_or_eq_true x57 with hb_8 | hb_8
                  · replace H := H.1 hb_8
                    obtain ⟨y60, y60_1, y60_2, y60_3, y60_4, y60_5, c_29, c_30, c_31, c_32, c_33, c_34, H⟩ := H
                    refine BN.load 23 S (noNeed (by kernel_rfl)) rfl (by kernel_rfl) (by kernel_rfl) (fun _ hx => Lf.run_ldA (cs := [Value.int .i64 y60, Value.string y60_1, Value.bool y60_2, Value.int .i64 y60_3, Value.slice y60_4.a y60_4.n y60_4.c, Value.slice y60_5.a y60_5.n y60_5.c]) (S.ev rfl) ag25 ti25 (hx.row (S.row ⟨c_29, c_30, c_31, c_32, c_33, c_34, trivial⟩))) rfl rfl (GOk.mk rfl rfl hb_8) ?_
                    clear S; intro aa S
                    refine BN.pure 25 S (noNeed (by kernel_rfl)) rfl (by kernel_rfl) (by kernel_rfl) (fun _ => Lf.run_move (S.ev rfl)) rfl rfl (GOk.mk rfl rfl hb_8) ?_
                    clear S; intro aa S
                    refine BN.eff 24 rfl (by kernel_rfl) ?_
                    refine ol_cal S H isfn25 rfl rfl (GOk.mk rfl rfl hb_8) ?_
                    clear S H aa; intro u_10 aa ww h15 H S
                    obtain ⟨x61, rfl, H⟩ := H
                    refine OL.nil ?_
                    refine ⟨noNeed (by kernel_rfl), ?_⟩
                    refine BN.pure 26 S (noNeed (by kernel_rfl)) rfl (by kernel_rfl) (by kernel_rfl) (fun _ => Lf.run_eqlb Try.underlying4 (S.ev rfl) (S.ev rfl)) rfl rfl (GOk.mk rfl rfl hb_8) ?_
                    clear S; intro aa S
                    refine BN.pure 27 S (noNeed (by kernel_rfl)) rfl (by kernel_rfl) (by kernel_rfl) (fun _ => run_pickT (S.ev rfl) hb_8 (S.ev rfl)) rfl rfl trivial ?_
                    clear S; intro aa S
                    refine BN.pure 28 S (noNeed (by kernel_rfl)) rfl (by kernel_rfl) (by kernel_rfl) (fun _ => Lf.run_assign (S.ev rfl)) rfl rfl trivial ?_
                    clear S; intro aa S
                    refine BN.done (by kernel_rfl) ?_
                    exact ⟨(x61 == x36), h15, S.sub _ ⟨rfl, trivial⟩, H⟩
                  · replace H := H.2 hb_8
                    refine BN.not 23 S (noNeed (by kernel_rfl)) rfl (by kernel_rfl) (by kernel_rfl) rfl rfl (GNo.mk rfl rfl hb_8) ?_
                    clear S; intro aa S
                    refine BN.not 25 S (noNeed (by kernel_rfl)) rfl (by kernel_rfl) (by kernel_rfl) rfl rfl (GNo.mk rfl rfl hb_8) ?_
                    clear S; intro aa S
                    refine BN.eff 24 rfl (by kernel_rfl) ?_
                    refine OL.not S rfl rfl (GNo.mk rfl rfl hb_8) ?_
                    clear S; intro aa S
                    refine OL.nil ?_
                    refine ⟨noNeed (by kernel_rfl), ?_⟩
                    refine BN.not 26 S (noNeed (by kernel_rfl)) rfl (by kernel_rfl) (by kernel_rfl) rfl rfl (GNo.mk rfl rfl hb_8) ?_
                    clear S; intro aa S
                    refine BN.pure 27 S (noNeed (by kernel_rfl)) rfl (by kernel_rfl) (by kernel_rfl) (fun _ => run_pickF (S.ev rfl) hb_8 (S.ev rfl)) rfl rfl trivial ?_
                    clear S; intro aa S
                    refine BN.pure 28 S (noNeed (by kernel_rfl)) rfl (by kernel_rfl) (by kernel_rfl) (fun _ => Lf.run_assign (S.ev rfl)) rfl rfl trivial ?_
                    clear S; intro aa S
                    refine BN.done (by kernel_rfl) ?_
                    exact ⟨false, h14, S.sub _ ⟨rfl, trivial⟩, H⟩
                · replace H := H.2 hb_7
                  refine BN.not 17 S (fun _ => HS) rfl (by kernel_rfl) (by kernel_rfl) rfl rfl (GNo.mk rfl rfl hb_7) ?_
                  clear S; intro aa S
                  refine BN.not 18 S (fun _ => HS) rfl (by kernel_rfl) (by kernel_rfl) rfl rfl (GNo.mk rfl rfl hb_7) ?_
                  clear S; intro aa S
                  refine BN.eff 19 rfl (by kernel_rfl) ?_
                  refine OL.not S rfl rfl (GNo.mk rfl rfl hb_7) ?_
                  clear S; intro aa S
                  refine OL.nil ?_
                  refine ⟨fun _ => by rw [S.heap]; exact HS, ?_⟩
                  refine BN.eff 20 rfl (by kernel_rfl) ?_
                  refine OL.not S rfl rfl (GNo.mk rfl rfl hb_7) ?_
                  clear S; intro aa S
                  refine OL.nil ?_
                  refine ⟨noNeed (by kernel_rfl), ?_⟩
                  refine BN.pure 21 S (noNeed (by kernel_rfl)) rfl (by kernel_rfl) (by kernel_rfl) (fun _ => run_pickF (S.ev rfl) hb_7 (S.ev rfl)) rfl rfl trivial ?_
                  clear S; intro aa S
                  refine BN.pure 22 S (noNeed (by kernel_rfl)) rfl (by kernel_rfl) (by kernel_rfl) (fun _ => Lf.run_move (S.ev rfl)) rfl rfl trivial ?_
                  clear S; intro aa S
                  have hb_9 : (false : Bool) = false := rfl
                  refine BN.not 23 S (noNeed (by kernel_rfl)) rfl (by kernel_rfl) (by kernel_rfl) rfl rfl (GNo.mk rfl rfl hb_9) ?_
                  clear S; intro aa S
                  refine BN.not 25 S (noNeed (by kernel_rfl)) rfl (by kernel_rfl) (by kernel_rfl) rfl rfl (GNo.mk rfl rfl hb_9) ?_
                  clear S; intro aa S
                  refine BN.eff 24 rfl (by kernel_rfl) ?_
                  refine OL.not S rfl rfl (GNo.mk rfl rfl hb_9) ?_
                  clear S; intro aa S
                  refine OL.nil ?_
                  refine ⟨noNeed (by kernel_rfl), ?_⟩
                  refine BN.not 26 S (noNeed (by kernel_rfl)) rfl (by kernel_rfl) (by kernel_rfl) rfl rfl (GNo.mk rfl rfl hb_9) ?_
                  clear S; intro aa S
                  refine BN.pure 27 S (noNeed (by kernel_rfl)) rfl (by kernel_rfl) (by kernel_rfl) (fun _ => run_pickF (S.ev rfl) hb_9 (S.ev rfl)) rfl rfl trivial ?_
                  clear S; intro aa S
                  refine BN.pure 28 S (noNeed (by kernel_rfl)) rfl (by kernel_rfl) (by kernel_rfl) (fun _ => Lf.run_assign (S.ev rfl)) rfl rfl trivial ?_
                  clear S; intro aa S
                  refine BN.done (by kernel_rfl) ?_
                  exact ⟨false, h12, S.sub _ ⟨rfl, trivial⟩, H⟩
              · replace H := H.2 hb_6
                refine BN.not 8 S (fun _ => HS) rfl (by kernel_rfl) (by kernel_rfl) rfl rfl (GNo.mk rfl rfl hb_6) ?_
                clear S; intro aa S
                refine BN.not 9 S (fun _ => HS) rfl (by kernel_rfl) (by kernel_rfl) rfl rfl (GNo.mk rfl rfl hb_6) ?_
                clear S; intro aa S
                refine BN.not 11 S (fun _ => HS) rfl (by kernel_rfl) (by kernel_rfl) rfl rfl (GNo.mk rfl rfl hb_6) ?_
                clear S; intro aa S
                refine BN.not 12 S (fun _ => HS) rfl (by kernel_rfl) (by kernel_rfl) rfl rfl (GNo.mk rfl rfl hb_6) ?_
                clear S; intro aa S
                refine BN.eff 10 rfl (by kernel_rfl) ?_
                refine OL.not S rfl rfl (GNo.mk rfl rfl hb_6) ?_
                clear S; intro aa S
                refine OL.nil ?_
                refine ⟨fun _ => by rw [S.heap]; exact HS, ?_⟩
                refine BN.eff 13 rfl (by kernel_rfl) ?_
                refine OL.not S rfl rfl (GNo.mk rfl rfl hb_6) ?_
                clear S; intro aa S
                refine OL.nil ?_
                refine ⟨fun _ => by rw [S.heap]; exact HS, ?_⟩
                refine BN.not 14 S (fun _ => HS) rfl (by kernel_rfl) (by kernel_rfl) rfl rfl (GNo.mk rfl rfl hb_6) ?_
                clear S; intro aa S
                refine BN.pure 15 S (fun _ => HS) rfl (by kernel_rfl) (by kernel_rfl) (fun _ => run_pickF (S.ev rfl) hb_6 (S.ev rfl)) rfl rfl trivial ?_
                clear S; intro aa S
                refine BN.pure 16 S (fun _ => HS) rfl (by kernel_rfl) (by kernel_rfl) (fun _ => Lf.run_move (S.ev rfl)) rfl rfl trivial ?_
                clear S; intro aa S
                have hb_10 : (false : Bool) = false := rfl
                refine BN.not 17 S (fun _ => HS) rfl (by kernel_rfl) (by kernel_rfl) rfl rfl (GNo.mk rfl rfl hb_10) ?_
                clear S; intro aa S
                refine BN.not 18 S (fun _ => HS) rfl (by kernel_rfl) (by kernel_rfl) rfl rfl (GNo.mk rfl rfl hb_10) ?_
                clear S; intro aa S
                refine BN.eff 19 rfl (by kernel_rfl) ?_
                refine OL.not S rfl rfl (GNo.mk rfl rfl hb_10) ?_
                clear S; intro aa S
                refine OL.nil ?_
                refine ⟨fun _ => by rw [S.heap]; exact HS, ?_⟩
                refine BN.eff 20 rfl (by kernel_rfl) ?_
                refine OL.not S rfl rfl (GNo.mk rfl rfl hb_10) ?_
                clear S; intro aa S
                refine OL.nil ?_
                refine ⟨noNeed (by kernel_rfl), ?_⟩
                refine BN.pure 21 S (noNeed (by kernel_rfl)) rfl (by kernel_rfl) (by kernel_rfl) (fun _ => run_pickF (S.ev rfl) hb_10 (S.ev rfl)) rfl rfl trivial ?_
                clear S; intro aa S
                refine BN.pure 22 S (noNeed (by kernel_rfl)) rfl (by kernel_rfl) (by kernel_rfl) (fun _ => Lf.run_move (S.ev rfl)) rfl rfl trivial ?_
                clear S; intro aa S
                have hb_11 : (false : Bool) = false := rfl
                refine BN.not 23 S (noNeed (by kernel_rfl)) rfl (by kernel_rfl) (by kernel_rfl) rfl rfl (GNo.mk rfl rfl hb_11) ?_
                clear S; intro aa S
                refine BN.not 25 S (noNeed (by kernel_rfl)) rfl (by kernel_rfl) (by kernel_rfl) rfl rfl (GNo.mk rfl rfl hb_11) ?_
                clear S; intro aa S
                refine BN.eff 24 rfl (by kernel_rfl) ?_
                refine OL.not S rfl rfl (GNo.mk rfl rfl hb_11) ?_
                clear S; intro aa S
                refine OL.nil ?_
                refine ⟨noNeed (by kernel_rfl), ?_⟩
                refine BN.not 26 S (noNeed (by kernel_rfl)) rfl (by kernel_rfl) (by kernel_rfl) rfl rfl (GNo.mk rfl rfl hb_11) ?_
                clear S; intro aa S
                refine BN.pure 27 S (noNeed (by kernel_rfl)) rfl (by kernel_rfl) (by kernel_rfl) (fun _ => run_pickF (S.ev rfl) hb_11 (S.ev rfl)) rfl rfl trivial ?_
                clear S; intro aa S
                refine BN.pure 28 S (noNeed (by kernel_rfl)) rfl (by kernel_rfl) (by kernel_rfl) (fun _ => Lf.run_assign (S.ev rfl)) rfl rfl trivial ?_
                clear S; intro aa S
                refine BN.done (by kernel_rfl) ?_
                exact ⟨false, h10, S.sub _ ⟨rfl, trivial⟩, H⟩
            · clear H S aa
              rintro aa ww ⟨x4, h16, S, HJ⟩
              have H := HK_5 _ _ HJ
              clear HK_5 HJ
              refine W.ret ?_
              exact Ret.one S rfl rfl H

/-- chattel chattellaw07.typed -/
def L8  (h : Heap) (R : Value → Heap → Prop) : Prop :=
  newS 25 #[Value.int .i64 1, Value.string (⟨#[]⟩ : ByteArray), Value.bool false, Value.int .i64 0, Value.slice (⟨none, 0, 0⟩ : Sv).a (⟨none, 0, 0⟩ : Sv).n (⟨none, 0, 0⟩ : Sv).c, Value.slice (⟨none, 0, 0⟩ : Sv).a (⟨none, 0, 0⟩ : Sv).n (⟨none, 0, 0⟩ : Sv).c] 1 h fun s4 h1 =>
  newS 25 #[Value.int .i64 7, Value.string (⟨#[]⟩ : ByteArray), Value.bool true, Value.int .i64 2, Value.slice (⟨none, 0, 0⟩ : Sv).a (⟨none, 0, 0⟩ : Sv).n (⟨none, 0, 0⟩ : Sv).c, Value.slice s4.a s4.n s4.c] 1 h1 fun s6 h2 =>
  new 25 #[Value.int .i64 0, Value.string (⟨#[]⟩ : ByteArray), Value.bool false, Value.int .i64 0, Value.slice (⟨none, 0, 0⟩ : Sv).a (⟨none, 0, 0⟩ : Sv).n (⟨none, 0, 0⟩ : Sv).c, Value.slice (⟨none, 0, 0⟩ : Sv).a (⟨none, 0, 0⟩ : Sv).n (⟨none, 0, 0⟩ : Sv).c] h2 fun p1 h3 =>
  stoA h3 p1 [Value.int .i64 7, Value.string (⟨#[]⟩ : ByteArray), Value.bool false, Value.int .i64 1, Value.slice (⟨none, 0, 0⟩ : Sv).a (⟨none, 0, 0⟩ : Sv).n (⟨none, 0, 0⟩ : Sv).c, Value.slice s6.a s6.n s6.c] fun h4 =>
  ∃ (y8 : Int) (y8_1 : ByteArray) (y8_2 : Bool) (y8_3 : Int) (y8_4 : Sv) (y8_5 : Sv), cl h4 p1 = some (Value.int .i64 y8) ∧ cl h4 (p1.add 1) = some (Value.string y8_1) ∧ cl h4 (p1.add 2) = some (Value.bool y8_2) ∧ cl h4 (p1.add 3) = some (Value.int .i64 y8_3) ∧ cl h4 (p1.add 4) = some (Value.slice y8_4.a y8_4.n y8_4.c) ∧ cl h4 (p1.add 5) = some (Value.slice y8_5.a y8_5.n y8_5.c) ∧
  cal Try.prog 11 #[Value.agg #[Value.int .i64 y8, Value.string y8_1, Value.bool y8_2, Value.int .i64 y8_3, Value.slice y8_4.a y8_4.n y8_4.c, Value.slice y8_5.a y8_5.n y8_5.c], Value.map none] h4 fun u h5 => asS u fun x9 =>
  ∃ (y10 : Int) (y10_1 : ByteArray) (y10_2 : Bool) (y10_3 : Int) (y10_4 : Sv) (y10_5 : Sv), cl h5 p1 = some (Value.int .i64 y10) ∧ cl h5 (p1.add 1) = some (Value.string y10_1) ∧ cl h5 (p1.add 2) = some (Value.bool y10_2) ∧ cl h5 (p1.add 3) = some (Value.int .i64 y10_3) ∧ cl h5 (p1.add 4) = some (Value.slice y10_4.a y10_4.n y10_4.c) ∧ cl h5 (p1.add 5) = some (Value.slice y10_5.a y10_5.n y10_5.c) ∧
  cal Try.prog 26 #[Value.agg #[Value.int .i64 y10, Value.string y10_1, Value.bool y10_2, Value.int .i64 y10_3, Value.slice y10_4.a y10_4.n y10_4.c, Value.slice y10_5.a y10_5.n y10_5.c]] h5 fun u_1 h6 => asS u_1 fun x11 =>
  newS 3 #[Value.int .i64 1, Value.int .i64 2] 2 h6 fun s12 h7 =>
  cal Try.prog 18 #[Value.slice x11.a x11.n x11.c, Value.slice s12.a s12.n s12.c] h7 fun u_2 h8 => asB u_2 fun x13 =>
  ∃ J : Bool → Prop, (andr (x13 && (((x9.n : Nat) : Int) == 1)) (fun k =>
    ixS x9 0 fun q21 =>
    ∃ (y22 : Int) (y22_1 : Int), cl h8 q21 = some (Value.int .i64 y22) ∧ cl h8 (q21.add 1) = some (Value.int .i64 y22_1) ∧
    k (y22 == 2 && y22_1 == 1)) J) ∧ ∀ x25, J x25 →
  ∃ J_1 : Bool → Heap → Prop, (andj x25 (fun k_1 =>
    ∃ (y27 : Int) (y27_1 : ByteArray) (y27_2 : Bool) (y27_3 : Int) (y27_4 : Sv) (y27_5 : Sv), cl h8 p1 = some (Value.int .i64 y27) ∧ cl h8 (p1.add 1) = some (Value.string y27_1) ∧ cl h8 (p1.add 2) = some (Value.bool y27_2) ∧ cl h8 (p1.add 3) = some (Value.int .i64 y27_3) ∧ cl h8 (p1.add 4) = some (Value.slice y27_4.a y27_4.n y27_4.c) ∧ cl h8 (p1.add 5) = some (Value.slice y27_5.a y27_5.n y27_5.c) ∧
    cal Try.prog 25 #[Value.agg #[Value.int .i64 y27, Value.string y27_1, Value.bool y27_2, Value.int .i64 y27_3, Value.slice y27_4.a y27_4.n y27_4.c, Value.slice y27_5.a y27_5.n y27_5.c]] h8 fun u_3 h10 => asB u_3 fun x28 =>
    k_1 x28 h10) h8 J_1) ∧ ∀ x29 h9, J_1 x29 h9 →
  ∃ J_2 : Bool → Heap → Prop, (andj x29 (fun k_2 =>
    ldS h9 (p1.add 5) fun x32 =>
    ixS x32 0 fun q33 =>
    ∃ (y34 : Int) (y34_1 : ByteArray) (y34_2 : Bool) (y34_3 : Int) (y34_4 : Sv) (y34_5 : Sv), cl h9 q33 = some (Value.int .i64 y34) ∧ cl h9 (q33.add 1) = some (Value.string y34_1) ∧ cl h9 (q33.add 2) = some (Value.bool y34_2) ∧ cl h9 (q33.add 3) = some (Value.int .i64 y34_3) ∧ cl h9 (q33.add 4) = some (Value.slice y34_4.a y34_4.n y34_4.c) ∧ cl h9 (q33.add 5) = some (Value.slice y34_5.a y34_5.n y34_5.c) ∧
    cal Try.prog 25 #[Value.agg #[Value.int .i64 y34, Value.string y34_1, Value.bool y34_2, Value.int .i64 y34_3, Value.slice y34_4.a y34_4.n y34_4.c, Value.slice y34_5.a y34_5.n y34_5.c]] h9 fun u_4 h12 => asB u_4 fun x35 =>
    k_2 (!x35) h12) h9 J_2) ∧ ∀ x37 h11, J_2 x37 h11 →
  ∃ J_3 : Bool → Heap → Prop, (andj x37 (fun k_3 =>
    ∃ (y39 : Int) (y39_1 : ByteArray) (y39_2 : Bool) (y39_3 : Int) (y39_4 : Sv) (y39_5 : Sv), cl h11 p1 = some (Value.int .i64 y39) ∧ cl h11 (p1.add 1) = some (Value.string y39_1) ∧ cl h11 (p1.add 2) = some (Value.bool y39_2) ∧ cl h11 (p1.add 3) = some (Value.int .i64 y39_3) ∧ cl h11 (p1.add 4) = some (Value.slice y39_4.a y39_4.n y39_4.c) ∧ cl h11 (p1.add 5) = some (Value.slice y39_5.a y39_5.n y39_5.c) ∧
    cal Try.prog 27 #[Value.agg #[Value.int .i64 y39, Value.string y39_1, Value.bool y39_2, Value.int .i64 y39_3, Value.slice y39_4.a y39_4.n y39_4.c, Value.slice y39_5.a y39_5.n y39_5.c]] h11 fun u_5 h14 => asT u_5 fun x40 =>
    k_3 (x40.toList == (⟨#[38, 49, 60, 38, 50, 109, 117, 116, 60, 105, 110, 116, 62, 62]⟩ : ByteArray).toList) h14) h11 J_3) ∧ ∀ x42 h13, J_3 x42 h13 →
  R (Value.bool x42) h13

set_option maxRecDepth 100000 in

theorem F8 {h : _} {R : Value → Heap → Prop} (H : L8 h R) : CallsH Try.prog 8 #[] h R := by
  refine CallsH.enter (n := 43) Try.func8 rfl rfl rfl rfl ?_
  intro w0 aa ww S
  unfold L8 at H
  refine W.seq ?_
  replace S := S.sub [] trivial
  refine W.region ?_
  refine OL.pure S (Lf.run_assign (S.ev rfl)) rfl rfl trivial ?_
  clear S; intro aa S
  refine OL.nil ?_
  refine W.seq ?_
  replace S := S.sub [] trivial
  refine W.region ?_
  refine OL.pure S (Lf.run_build (cs := #[Value.int .i64 1, Value.string (⟨#[]⟩ : ByteArray), Value.bool false, Value.int .i64 0, Value.slice (⟨none, 0, 0⟩ : Sv).a (⟨none, 0, 0⟩ : Sv).n (⟨none, 0, 0⟩ : Sv).c, Value.slice (⟨none, 0, 0⟩ : Sv).a (⟨none, 0, 0⟩ : Sv).n (⟨none, 0, 0⟩ : Sv).c]) pl25 ti25 (parts_map S rfl) (by kernel_rfl)) rfl rfl trivial ?_
  clear S; intro aa S
  refine ol_newS S H Try.underlying23 ti25 (by decide) (parts_map S rfl) (by kernel_rfl) (by decide) rfl trivial ?_
  clear S H aa; intro s4 aa ww h1 H S
  refine OL.pure S (Lf.run_build (cs := #[Value.int .i64 7, Value.string (⟨#[]⟩ : ByteArray), Value.bool true, Value.int .i64 2, Value.slice (⟨none, 0, 0⟩ : Sv).a (⟨none, 0, 0⟩ : Sv).n (⟨none, 0, 0⟩ : Sv).c, Value.slice s4.a s4.n s4.c]) pl25 ti25 (parts_map S rfl) (by kernel_rfl)) rfl rfl trivial ?_
  clear S; intro aa S
  refine ol_newS S H Try.underlying23 ti25 (by decide) (parts_map S rfl) (by kernel_rfl) (by decide) rfl trivial ?_
  clear S H aa; intro s6 aa ww h2 H S
  refine OL.pure S (Lf.run_build (cs := #[Value.int .i64 7, Value.string (⟨#[]⟩ : ByteArray), Value.bool false, Value.int .i64 1, Value.slice (⟨none, 0, 0⟩ : Sv).a (⟨none, 0, 0⟩ : Sv).n (⟨none, 0, 0⟩ : Sv).c, Value.slice s6.a s6.n s6.c]) pl25 ti25 (parts_map S rfl) (by kernel_rfl)) rfl rfl trivial ?_
  clear S; intro aa S
  refine ol_alloc S H ti25 rfl rfl trivial ?_
  clear S H aa; intro p1 aa ww h3 H S
  refine ol_stoA S H rfl rfl ti25 trivial ?_
  clear S H aa; intro aa ww h4 H S
  refine OL.nil ?_
  refine W.seq ?_
  replace S := S.sub [(1, Value.pointer (some p1))] ⟨rfl, trivial⟩
  refine W.region ?_
  obtain ⟨y8, y8_1, y8_2, y8_3, y8_4, y8_5, c_33, c_34, c_35, c_36, c_37, c_38, H⟩ := H
  refine OL.pure S (Lf.run_ldA (cs := [Value.int .i64 y8, Value.string y8_1, Value.bool y8_2, Value.int .i64 y8_3, Value.slice y8_4.a y8_4.n y8_4.c, Value.slice y8_5.a y8_5.n y8_5.c]) (S.ev rfl) ag25 ti25 (by rw [S.heap]; exact RowL.toRow ⟨c_33, c_34, c_35, c_36, c_37, c_38, trivial⟩)) rfl rfl trivial ?_
  clear S; intro aa S
  refine ol_cal S H isfn11 rfl rfl trivial ?_
  clear S H aa; intro u aa ww h5 H S
  obtain ⟨x9, rfl, H⟩ := H
  refine OL.pure S (Lf.run_assign (S.ev rfl)) rfl rfl trivial ?_
  clear S; intro aa S
  refine OL.nil ?_
  refine W.seq ?_
  replace S := S.sub [(1, Value.pointer (some p1)), (2, Value.slice x9.a x9.n x9.c)] ⟨rfl, rfl, trivial⟩
  refine W.region ?_
  obtain ⟨y10, y10_1, y10_2, y10_3, y10_4, y10_5, c_27, c_28, c_29, c_30, c_31, c_32, H⟩ := H
  refine OL.pure S (Lf.run_ldA (cs := [Value.int .i64 y10, Value.string y10_1, Value.bool y10_2, Value.int .i64 y10_3, Value.slice y10_4.a y10_4.n y10_4.c, Value.slice y10_5.a y10_5.n y10_5.c]) (S.ev rfl) ag25 ti25 (by rw [S.heap]; exact RowL.toRow ⟨c_27, c_28, c_29, c_30, c_31, c_32, trivial⟩)) rfl rfl trivial ?_
  clear S; intro aa S
  refine ol_cal S H isfn26 rfl rfl trivial ?_
  clear S H aa; intro u_1 aa ww h6 H S
  obtain ⟨x11, rfl, H⟩ := H
  refine ol_newS S H Try.underlying22 ti3 (by decide) (parts_map S rfl) (by kernel_rfl) (by decide) rfl trivial ?_
  clear S H aa; intro s12 aa ww h7 H S
  refine ol_cal S H isfn18 rfl rfl trivial ?_
  clear S H aa; intro u_2 aa ww h8 H S
  obtain ⟨x13, rfl, H⟩ := H
  refine OL.pure S (Lf.run_move (S.ev rfl)) rfl rfl trivial ?_
  clear S; intro aa S
  refine OL.cutN 4 (fun aa ww => St 43 ((18, Value.bool (x13 && (((x9.n : Nat) : Int) == 1))) :: [(1, Value.pointer (some p1)), (2, Value.slice x9.a x9.n x9.c), (10, Value.agg #[Value.int .i64 y10, Value.string y10_1, Value.bool y10_2, Value.int .i64 y10_3, Value.slice y10_4.a y10_4.n y10_4.c, Value.slice y10_5.a y10_5.n y10_5.c]), (11, Value.slice x11.a x11.n x11.c), (12, Value.slice s12.a s12.n s12.c), (13, Value.bool x13), (14, Value.bool x13)]) h8 w0 aa ww) ?_ ?_
  · rcases Bool.eq_false_or_eq_true x13 with hb | hb
    · refine OL.pure S (Lf.run_move (S.ev rfl)) rfl rfl (GOk.mk rfl rfl hb) ?_
      clear S; intro aa S
      refine OL.pure S (Lf.run_lens (S.ev rfl) rfl Try.underlying26) rfl rfl (GOk.mk rfl rfl hb) ?_
      clear S; intro aa S
      refine OL.pure S (Lf.run_eql (S.ev rfl) (S.ev rfl)) rfl rfl (GOk.mk rfl rfl hb) ?_
      clear S; intro aa S
      refine OL.pure S (Lf.run_pickT (S.ev rfl) hb (S.ev rfl)) rfl rfl trivial ?_
      clear S; intro aa S
      refine OL.nil ?_
      exact (S.hd (by rw [hb, Bool.true_and])).sub _ ⟨rfl, rfl, rfl, rfl, rfl, rfl, rfl, rfl, trivial⟩
    · refine OL.not S rfl rfl (GNo.mk rfl rfl hb) ?_
      clear S; intro aa S
      refine OL.not S rfl rfl (GNo.mk rfl rfl hb) ?_
      clear S; intro aa S
      refine OL.not S rfl rfl (GNo.mk rfl rfl hb) ?_
      clear S; intro aa S
      refine OL.pure S (Lf.run_pickF (S.ev rfl) hb (S.ev rfl)) rfl rfl trivial ?_
      clear S; intro aa S
      refine OL.nil ?_
      exact (S.hd (by rw [hb, Bool.false_and])).sub _ ⟨rfl, rfl, rfl, rfl, rfl, rfl, rfl, rfl, trivial⟩
  · clear S aa
    intro aa ww S
    refine OL.pure S (Lf.run_move (S.ev rfl)) rfl rfl trivial ?_
    clear S; intro aa S
    obtain ⟨J, H, HK⟩ := H
    refine OL.cutN 6 (fun aa ww => ∃ x25, St 43 ((25, Value.bool x25) :: [(1, Value.pointer (some p1)), (2, Value.slice x9.a x9.n x9.c), (10, Value.agg #[Value.int .i64 y10, Value.string y10_1, Value.bool y10_2, Value.int .i64 y10_3, Value.slice y10_4.a y10_4.n y10_4.c, Value.slice y10_5.a y10_5.n y10_5.c]), (11, Value.slice x11.a x11.n x11.c), (12, Value.slice s12.a s12.n s12.c), (13, Value.bool x13), (14, Value.bool x13), (18, Value.bool (x13 && (((x9.n : Nat) : Int) == 1))), (19, Value.bool (x13 && (((x9.n : Nat) : Int) == 1)))]) h8 w0 aa ww ∧ J x25) ?_ ?_
    · rcases Bool.eq_false_or_eq_true (x13 && (((x9.n : Nat) : Int) == 1)) with hb_1 | hb_1
      · replace H := H.1 hb_1
        refine OL.pure S (Lf.run_move (S.ev rfl)) rfl rfl (GOk.mk rfl rfl hb_1) ?_
        clear S; intro aa S
        obtain ⟨q21, e, e_1, e_2, H⟩ := H
        refine OL.pure S (Lf.run_ixs (S.ev rfl) (S.ev rfl) Try.underlying26 ti46 e e_1 e_2) rfl rfl (GOk.mk rfl rfl hb_1) ?_
        clear S; intro aa S
        obtain ⟨y22, y22_1, c_3, c_4, H⟩ := H
        refine OL.pure S (Lf.run_ldA (cs := [Value.int .i64 y22, Value.int .i64 y22_1]) (S.ev rfl) ag46 ti46 (by rw [S.heap]; exact RowL.toRow ⟨c_3, c_4, trivial⟩)) rfl rfl (GOk.mk rfl rfl hb_1) ?_
        clear S; intro aa S
        refine OL.pure S (Lf.run_buildArr (cs := #[Value.int .i64 2, Value.int .i64 1]) Try.underlying46 ti3 ti46 (parts_map S rfl) (by kernel_rfl)) rfl rfl (GOk.mk rfl rfl hb_1) ?_
        clear S; intro aa S
        refine OL.pure S (Lf.run_eqlA2 Try.underlying46 Try.underlying3 ti3 (by kernel_rfl) (S.ev rfl) (S.ev rfl)) rfl rfl (GOk.mk rfl rfl hb_1) ?_
        clear S; intro aa S
        refine OL.pure S (Lf.run_pickT (S.ev rfl) hb_1 (S.ev rfl)) rfl rfl trivial ?_
        clear S; intro aa S
        refine OL.nil ?_
        exact ⟨_, S.sub _ ⟨rfl, rfl, rfl, rfl, rfl, rfl, rfl, rfl, rfl, rfl, trivial⟩, H⟩
      · replace H := H.2 hb_1
        refine OL.not S rfl rfl (GNo.mk rfl rfl hb_1) ?_
        clear S; intro aa S
        refine OL.not S rfl rfl (GNo.mk rfl rfl hb_1) ?_
        clear S; intro aa S
        refine OL.not S rfl rfl (GNo.mk rfl rfl hb_1) ?_
        clear S; intro aa S
        refine OL.not S rfl rfl (GNo.mk rfl rfl hb_1) ?_
        clear S; intro aa S
        refine OL.not S rfl rfl (GNo.mk rfl rfl hb_1) ?_
        clear S; intro aa S
        refine OL.pure S (Lf.run_pickF (S.ev rfl) hb_1 (S.ev rfl)) rfl rfl trivial ?_
        clear S; intro aa S
        refine OL.nil ?_
        exact ⟨_, S.sub _ ⟨rfl, rfl, rfl, rfl, rfl, rfl, rfl, rfl, rfl, rfl, trivial⟩, H⟩
    · clear S aa
      rintro aa ww ⟨x25, S, HJ⟩
      replace H := HK _ HJ
      clear HK HJ
      refine OL.pure S (Lf.run_move (S.ev rfl)) rfl rfl trivial ?_
      clear S; intro aa S
      obtain ⟨J_1, H, HK_1⟩ := H
      refine OL.cutN 3 (fun aa ww => ∃ x29 h9, St 43 ((29, Value.bool x29) :: [(1, Value.pointer (some p1)), (2, Value.slice x9.a x9.n x9.c), (10, Value.agg #[Value.int .i64 y10, Value.string y10_1, Value.bool y10_2, Value.int .i64 y10_3, Value.slice y10_4.a y10_4.n y10_4.c, Value.slice y10_5.a y10_5.n y10_5.c]), (11, Value.slice x11.a x11.n x11.c), (12, Value.slice s12.a s12.n s12.c), (13, Value.bool x13), (14, Value.bool x13), (18, Value.bool (x13 && (((x9.n : Nat) : Int) == 1))), (19, Value.bool (x13 && (((x9.n : Nat) : Int) == 1))), (25, Value.bool x25), (26, Value.bool x25)]) h9 w0 aa ww ∧ J_1 x29 h9) ?_ ?_
      · rcases Bool.eq_false_or_eq_true x25 with hb_2 | hb_2
        · replace H := H.1 hb_2
          obtain ⟨y27, y27_1, y27_2, y27_3, y27_4, y27_5, c_6, c_7, c_8, c_9, c_10, c_11, H⟩ := H
          refine OL.pure S (Lf.run_ldA (cs := [Value.int .i64 y27, Value.string y27_1, Value.bool y27_2, Value.int .i64 y27_3, Value.slice y27_4.a y27_4.n y27_4.c, Value.slice y27_5.a y27_5.n y27_5.c]) (S.ev rfl) ag25 ti25 (by rw [S.heap]; exact RowL.toRow ⟨c_6, c_7, c_8, c_9, c_10, c_11, trivial⟩)) rfl rfl (GOk.mk rfl rfl hb_2) ?_
          clear S; intro aa S
          refine ol_cal S H isfn25 rfl rfl (GOk.mk rfl rfl hb_2) ?_
          clear S H aa; intro u_3 aa ww h10 H S
          obtain ⟨x28, rfl, H⟩ := H
          refine OL.pure S (Lf.run_pickT (S.ev rfl) hb_2 (S.ev rfl)) rfl rfl trivial ?_
          clear S; intro aa S
          refine OL.nil ?_
          exact ⟨_, _, S.sub _ ⟨rfl, rfl, rfl, rfl, rfl, rfl, rfl, rfl, rfl, rfl, rfl, rfl, trivial⟩, H⟩
        · replace H := H.2 hb_2
          refine OL.not S rfl rfl (GNo.mk rfl rfl hb_2) ?_
          clear S; intro aa S
          refine OL.not S rfl rfl (GNo.mk rfl rfl hb_2) ?_
          clear S; intro aa S
          refine OL.pure S (Lf.run_pickF (S.ev rfl) hb_2 (S.ev rfl)) rfl rfl trivial ?_
          clear S; intro aa S
          refine OL.nil ?_
          exact ⟨_, _, S.sub _ ⟨rfl, rfl, rfl, rfl, rfl, rfl, rfl, rfl, rfl, rfl, rfl, rfl, trivial⟩, H⟩
      · clear S aa
        rintro aa ww ⟨x29, h9, S, HJ⟩
        replace H := HK_1 _ _ HJ
        clear HK_1 HJ
        refine OL.pure S (Lf.run_move (S.ev rfl)) rfl rfl trivial ?_
        clear S; intro aa S
        obtain ⟨J_2, H, HK_2⟩ := H
        refine OL.cutN 7 (fun aa ww => ∃ x37 h11, St 43 ((37, Value.bool x37) :: [(1, Value.pointer (some p1)), (2, Value.slice x9.a x9.n x9.c), (10, Value.agg #[Value.int .i64 y10, Value.string y10_1, Value.bool y10_2, Value.int .i64 y10_3, Value.slice y10_4.a y10_4.n y10_4.c, Value.slice y10_5.a y10_5.n y10_5.c]), (11, Value.slice x11.a x11.n x11.c), (12, Value.slice s12.a s12.n s12.c), (13, Value.bool x13), (14, Value.bool x13), (18, Value.bool (x13 && (((x9.n : Nat) : Int) == 1))), (19, Value.bool (x13 && (((x9.n : Nat) : Int) == 1))), (25, Value.bool x25), (26, Value.bool x25), (29, Value.bool x29), (30, Value.bool x29)]) h11 w0 aa ww ∧ J_2 x37 h11) ?_ ?_
        · rcases Bool.eq_false_or_eq_true x29 with hb_3 | hb_3
          · replace H := H.1 hb_3
            refine OL.pure S (Lf.run_fa (S.ev rfl) fa25_5) rfl rfl (GOk.mk rfl rfl hb_3) ?_
            clear S; intro aa S
            obtain ⟨x32, c_12, H⟩ := H
            refine OL.pure S (Lf.run_ld (S.ev rfl) fl23 (S.cl c_12)) rfl rfl (GOk.mk rfl rfl hb_3) ?_
            clear S; intro aa S
            obtain ⟨q33, e_3, e_4, e_5, H⟩ := H
            refine OL.pure S (Lf.run_ixs (S.ev rfl) (S.ev rfl) Try.underlying23 ti25 e_3 e_4 e_5) rfl rfl (GOk.mk rfl rfl hb_3) ?_
            clear S; intro aa S
            obtain ⟨y34, y34_1, y34_2, y34_3, y34_4, y34_5, c_14, c_15, c_16, c_17, c_18, c_19, H⟩ := H
            refine OL.pure S (Lf.run_ldA (cs := [Value.int .i64 y34, Value.string y34_1, Value.bool y34_2, Value.int .i64 y34_3, Value.slice y34_4.a y34_4.n y34_4.c, Value.slice y34_5.a y34_5.n y34_5.c]) (S.ev rfl) ag25 ti25 (by rw [S.heap]; exact RowL.toRow ⟨c_14, c_15, c_16, c_17, c_18, c_19, trivial⟩)) rfl rfl (GOk.mk rfl rfl hb_3) ?_
            clear S; intro aa S
            refine ol_cal S H isfn25 rfl rfl (GOk.mk rfl rfl hb_3) ?_
            clear S H aa; intro u_4 aa ww h12 H S
            obtain ⟨x35, rfl, H⟩ := H
            refine OL.pure S (Lf.run_not (S.ev rfl)) rfl rfl (GOk.mk rfl rfl hb_3) ?_
            clear S; intro aa S
            refine OL.pure S (Lf.run_pickT (S.ev rfl) hb_3 (S.ev rfl)) rfl rfl trivial ?_
            clear S; intro aa S
            refine OL.nil ?_
            exact ⟨_, _, S.sub _ ⟨rfl, rfl, rfl, rfl, rfl, rfl, rfl, rfl, rfl, rfl, rfl, rfl, rfl, rfl, trivial⟩, H⟩
          · replace H := H.2 hb_3
            refine OL.not S rfl rfl (GNo.mk rfl rfl hb_3) ?_
            clear S; intro aa S
            refine OL.not S rfl rfl (GNo.mk rfl rfl hb_3) ?_
            clear S; intro aa S
            refine OL.not S rfl rfl (GNo.mk rfl rfl hb_3) ?_
            clear S; intro aa S
            refine OL.not S rfl rfl (GNo.mk rfl rfl hb_3) ?_
            clear S; intro aa S
            refine OL.not S rfl rfl (GNo.mk rfl rfl hb_3) ?_
            clear S; intro aa S
            refine OL.not S rfl rfl (GNo.mk rfl rfl hb_3) ?_
            clear S; intro aa S
            refine OL.pure S (Lf.run_pickF (S.ev rfl) hb_3 (S.ev rfl)) rfl rfl trivial ?_
            clear S; intro aa S
            refine OL.nil ?_
            exact ⟨_, _, S.sub _ ⟨rfl, rfl, rfl, rfl, rfl, rfl, rfl, rfl, rfl, rfl, rfl, rfl, rfl, rfl, trivial⟩, H⟩
        · clear S aa
          rintro aa ww ⟨x37, h11, S, HJ⟩
          replace H := HK_2 _ _ HJ
          clear HK_2 HJ
          refine OL.pure S (Lf.run_move (S.ev rfl)) rfl rfl trivial ?_
          clear S; intro aa S
          obtain ⟨J_3, H, HK_3⟩ := H
          refine OL.cutN 4 (fun aa ww => ∃ x42 h13, St 43 ((42, Value.bool x42) :: [(1, Value.pointer (some p1)), (2, Value.slice x9.a x9.n x9.c), (10, Value.agg #[Value.int .i64 y10, Value.string y10_1, Value.bool y10_2, Value.int .i64 y10_3, Value.slice y10_4.a y10_4.n y10_4.c, Value.slice y10_5.a y10_5.n y10_5.c]), (11, Value.slice x11.a x11.n x11.c), (12, Value.slice s12.a s12.n s12.c), (13, Value.bool x13), (14, Value.bool x13), (18, Value.bool (x13 && (((x9.n : Nat) : Int) == 1))), (19, Value.bool (x13 && (((x9.n : Nat) : Int) == 1))), (25, Value.bool x25), (26, Value.bool x25), (29, Value.bool x29), (30, Value.bool x29), (37, Value.bool x37), (38, Value.bool x37)]) h13 w0 aa ww ∧ J_3 x42 h13) ?_ ?_
          · rcases Bool.eq_false_or_eq_true x37 with hb_4 | hb_4
            · replace H := H.1 hb_4
              obtain ⟨y39, y39_1, y39_2, y39_3, y39_4, y39_5, c_21, c_22, c_23, c_24, c_25, c_26, H⟩ := H
              refine OL.pure S (Lf.run_ldA (cs := [Value.int .i64 y39, Value.string y39_1, Value.bool y39_2, Value.int .i64 y39_3, Value.slice y39_4.a y39_4.n y39_4.c, Value.slice y39_5.a y39_5.n y39_5.c]) (S.ev rfl) ag25 ti25 (by rw [S.heap]; exact RowL.toRow ⟨c_21, c_22, c_23, c_24, c_25, c_26, trivial⟩)) rfl rfl (GOk.mk rfl rfl hb_4) ?_
              clear S; intro aa S
              refine ol_cal S H isfn27 rfl rfl (GOk.mk rfl rfl hb_4) ?_
              clear S H aa; intro u_5 aa ww h14 H S
              obtain ⟨x40, rfl, H⟩ := H
              refine OL.pure S (Lf.run_eqlt (S.ev rfl) (S.ev rfl)) rfl rfl (GOk.mk rfl rfl hb_4) ?_
              clear S; intro aa S
              refine OL.pure S (Lf.run_pickT (S.ev rfl) hb_4 (S.ev rfl)) rfl rfl trivial ?_
              clear S; intro aa S
              refine OL.nil ?_
              exact ⟨_, _, S.sub _ ⟨rfl, rfl, rfl, rfl, rfl, rfl, rfl, rfl, rfl, rfl, rfl, rfl, rfl, rfl, rfl, rfl, trivial⟩, H⟩
            · replace H := H.2 hb_4
              refine OL.not S rfl rfl (GNo.mk rfl rfl hb_4) ?_
              clear S; intro aa S
              refine OL.not S rfl rfl (GNo.mk rfl rfl hb_4) ?_
              clear S; intro aa S
              refine OL.not S rfl rfl (GNo.mk rfl rfl hb_4) ?_
              clear S; intro aa S
              refine OL.pure S (Lf.run_pickF (S.ev rfl) hb_4 (S.ev rfl)) rfl rfl trivial ?_
              clear S; intro aa S
              refine OL.nil ?_
              exact ⟨_, _, S.sub _ ⟨rfl, rfl, rfl, rfl, rfl, rfl, rfl, rfl, rfl, rfl, rfl, rfl, rfl, rfl, rfl, rfl, trivial⟩, H⟩
          · clear S aa
            rintro aa ww ⟨x42, h13, S, HJ⟩
            replace H := HK_3 _ _ HJ
            clear HK_3 HJ
            refine OL.pure S (Lf.run_assign (S.ev rfl)) rfl rfl trivial ?_
            clear S; intro aa S
            refine OL.nil ?_
            refine W.ret ?_
            exact Ret.one S rfl rfl H

end Go.Proofs.Ytohlfkomjmjheaa

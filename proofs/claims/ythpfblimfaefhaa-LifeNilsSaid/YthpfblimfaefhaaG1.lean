/- Lifted by program off the elaborated code: each Go function, read as a proposition over typed variables and the heap. -/
import Derived.Test.YthpfblimfaefhaaG0
namespace Go.Proofs.Ythpfblimfaefhaa
open Go Go.Lf
set_option linter.unusedVariables false

/-- (*chattel life.Rel).known -/
def L23 (r0 : Option Addr) (a1 : Int) (h : Heap) (R : Value → Heap → Prop) : Prop :=
  ∃ J : Bool → Prop, (andr ((Option.isSome r0) && (decide (0 ≤ a1))) (fun k =>
    nn r0 fun p14 =>
    ldI .i64 h p14 fun x16 =>
    k (decide (a1 ≤ x16))) J) ∧ ∀ x18, J x18 →
  R (Value.bool x18) h

set_option maxRecDepth 100000 in

theorem F23 {r0 a1 h : _} {R : Value → Heap → Prop} (H : L23 r0 a1 h R) : CallsH Try.prog 23 #[Value.pointer r0, Value.int .i64 a1] h R := by
  refine CallsH.enter (n := 19) Try.func23 rfl rfl rfl rfl ?_
  intro w0 aa ww S
  unfold L23 at H
  refine W.seq ?_
  replace S := S.sub [(0, Value.pointer r0), (1, Value.int .i64 a1)] ⟨rfl, rfl, trivial⟩
  refine W.region ?_
  refine OL.pure S (Lf.run_assign (S.ev rfl)) rfl rfl trivial ?_
  clear S; intro aa S
  refine OL.nil ?_
  refine W.seq ?_
  replace S := S.sub [(0, Value.pointer r0), (1, Value.int .i64 a1)] ⟨rfl, rfl, trivial⟩
  refine W.region ?_
  refine OL.pure S (Lf.run_move (S.ev rfl)) rfl rfl trivial ?_
  clear S; intro aa S
  refine OL.pure S (Lf.run_neqpn Try.underlying24 (S.ev rfl) (S.ev rfl)) rfl rfl trivial ?_
  clear S; intro aa S
  refine OL.pure S (Lf.run_move (S.ev rfl)) rfl rfl trivial ?_
  clear S; intro aa S
  refine OL.cutN 3 (fun aa ww => St 19 ((10, Value.bool ((Option.isSome r0) && (decide (0 ≤ a1)))) :: [(0, Value.pointer r0), (1, Value.int .i64 a1), (5, Value.pointer r0), (6, Value.bool (Option.isSome r0)), (7, Value.bool (Option.isSome r0))]) h w0 aa ww) ?_ ?_
  · rcases Bool.eq_false_or_eq_true (Option.isSome r0) with hb | hb
    · refine OL.pure S (Lf.run_move (S.ev rfl)) rfl rfl (GOk.mk rfl rfl hb) ?_
      clear S; intro aa S
      refine OL.pure S (Lf.run_geq (S.ev rfl) (S.ev rfl)) rfl rfl (GOk.mk rfl rfl hb) ?_
      clear S; intro aa S
      refine OL.pure S (Lf.run_pickT (S.ev rfl) hb (S.ev rfl)) rfl rfl trivial ?_
      clear S; intro aa S
      refine OL.nil ?_
      exact (S.hd (by rw [hb, Bool.true_and])).sub _ ⟨rfl, rfl, rfl, rfl, rfl, rfl, trivial⟩
    · refine OL.not S rfl rfl (GNo.mk rfl rfl hb) ?_
      clear S; intro aa S
      refine OL.not S rfl rfl (GNo.mk rfl rfl hb) ?_
      clear S; intro aa S
      refine OL.pure S (Lf.run_pickF (S.ev rfl) hb (S.ev rfl)) rfl rfl trivial ?_
      clear S; intro aa S
      refine OL.nil ?_
      exact (S.hd (by rw [hb, Bool.false_and])).sub _ ⟨rfl, rfl, rfl, rfl, rfl, rfl, trivial⟩
  · clear S aa
    intro aa ww S
    refine OL.pure S (Lf.run_move (S.ev rfl)) rfl rfl trivial ?_
    clear S; intro aa S
    obtain ⟨J, H, HK⟩ := H
    refine OL.cutN 7 (fun aa ww => ∃ x18, St 19 ((18, Value.bool x18) :: [(0, Value.pointer r0), (1, Value.int .i64 a1), (5, Value.pointer r0), (6, Value.bool (Option.isSome r0)), (7, Value.bool (Option.isSome r0)), (10, Value.bool ((Option.isSome r0) && (decide (0 ≤ a1)))), (11, Value.bool ((Option.isSome r0) && (decide (0 ≤ a1))))]) h w0 aa ww ∧ J x18) ?_ ?_
    · rcases Bool.eq_false_or_eq_true ((Option.isSome r0) && (decide (0 ≤ a1))) with hb_1 | hb_1
      · replace H := H.1 hb_1
        refine OL.pure S (Lf.run_move (S.ev rfl)) rfl rfl (GOk.mk rfl rfl hb_1) ?_
        clear S; intro aa S
        refine OL.pure S (Lf.run_move (S.ev rfl)) rfl rfl (GOk.mk rfl rfl hb_1) ?_
        clear S; intro aa S
        obtain ⟨p14, e, H⟩ := H
        refine OL.pure S (Lf.run_nc' (S.ev rfl) e) rfl rfl (GOk.mk rfl rfl hb_1) ?_
        clear S; intro aa S
        refine OL.pure S (Lf.run_fa (S.ev rfl) fa54_0) rfl rfl (GOk.mk rfl rfl hb_1) ?_
        clear S; intro aa S
        obtain ⟨x16, c, H⟩ := H
        refine OL.pure S (Lf.run_ld (S.ev rfl) fl3 (S.cl c)) rfl rfl (GOk.mk rfl rfl hb_1) ?_
        clear S; intro aa S
        refine OL.pure S (Lf.run_leq (S.ev rfl) (S.ev rfl)) rfl rfl (GOk.mk rfl rfl hb_1) ?_
        clear S; intro aa S
        refine OL.pure S (Lf.run_pickT (S.ev rfl) hb_1 (S.ev rfl)) rfl rfl trivial ?_
        clear S; intro aa S
        refine OL.nil ?_
        exact ⟨_, S.sub _ ⟨rfl, rfl, rfl, rfl, rfl, rfl, rfl, rfl, trivial⟩, H⟩
      · replace H := H.2 hb_1
        refine OL.not S rfl rfl (GNo.mk rfl rfl hb_1) ?_
        clear S; intro aa S
        refine OL.not S rfl rfl (GNo.mk rfl rfl hb_1) ?_
        clear S; intro aa S
        refine OL.not S rfl rfl (GNo.mk rfl rfl hb_1) ?_
        clear S; intro aa S
        refine OL.not S rfl rfl (GNo.mk rfl rfl hb_1) ?_
        clear S; intro aa S
        refine OL.not S rfl rfl (GNo.mk rfl rfl hb_1) ?_
        clear S; intro aa S
        refine OL.not S rfl rfl (GNo.mk rfl rfl hb_1) ?_
        clear S; intro aa S
        refine OL.pure S (Lf.run_pickF (S.ev rfl) hb_1 (S.ev rfl)) rfl rfl trivial ?_
        clear S; intro aa S
        refine OL.nil ?_
        exact ⟨_, S.sub _ ⟨rfl, rfl, rfl, rfl, rfl, rfl, rfl, rfl, trivial⟩, H⟩
    · clear S aa
      rintro aa ww ⟨x18, S, HJ⟩
      replace H := HK _ HJ
      clear HK HJ
      refine OL.pure S (Lf.run_assign (S.ev rfl)) rfl rfl trivial ?_
      clear S; intro aa S
      refine OL.nil ?_
      refine W.ret ?_
      exact Ret.one S rfl rfl H

/-- (*chattel life.Rel).Has -/
def L11 (r0 : Option Addr) (a1 : Int) (b2 : Int) (h : Heap) (R : Value → Heap → Prop) : Prop :=
  cal Try.prog 23 #[Value.pointer r0, Value.int .i64 a1] h fun u h1 => asB u fun x9 =>
  ∃ J : Bool → Heap → Prop, (andj x9 (fun k =>
    cal Try.prog 23 #[Value.pointer r0, Value.int .i64 b2] h1 fun u_1 h3 => asB u_1 fun x13 =>
    k x13 h3) h1 J) ∧ ∀ x14 h2, J x14 h2 →
  ∃ J_1 : Bool → Prop, (andr x14 (fun k_1 =>
    nn r0 fun p17 =>
    ldS h2 (p17.add 1) fun x19 =>
    ixS x19 a1 fun q21 =>
    ldS h2 (q21.add ((a1 : Int).toNat * 1)) fun x22 =>
    ixS x22 b2 fun q24 =>
    ldB h2 (q24.add ((b2 : Int).toNat * 1)) fun x25 =>
    k_1 x25) J_1) ∧ ∀ x26, J_1 x26 →
  R (Value.bool x26) h2

set_option maxRecDepth 100000 in

theorem F11 {r0 a1 b2 h : _} {R : Value → Heap → Prop} (H : L11 r0 a1 b2 h R) : CallsH Try.prog 11 #[Value.pointer r0, Value.int .i64 a1, Value.int .i64 b2] h R := by
  refine CallsH.enter (n := 27) Try.func11 rfl rfl rfl rfl ?_
  intro w0 aa ww S
  unfold L11 at H
  refine W.seq ?_
  replace S := S.sub [(0, Value.pointer r0), (1, Value.int .i64 a1), (2, Value.int .i64 b2)] ⟨rfl, rfl, rfl, trivial⟩
  refine W.region ?_
  refine OL.pure S (Lf.run_assign (S.ev rfl)) rfl rfl trivial ?_
  clear S; intro aa S
  refine OL.nil ?_
  refine W.seq ?_
  replace S := S.sub [(0, Value.pointer r0), (1, Value.int .i64 a1), (2, Value.int .i64 b2)] ⟨rfl, rfl, rfl, trivial⟩
  refine W.region ?_
  refine OL.pure S (Lf.run_move (S.ev rfl)) rfl rfl trivial ?_
  clear S; intro aa S
  refine OL.pure S (Lf.run_move (S.ev rfl)) rfl rfl trivial ?_
  clear S; intro aa S
  refine ol_cal S H isfn23 rfl rfl trivial ?_
  clear S H aa; intro u aa ww h1 H S
  obtain ⟨x9, rfl, H⟩ := H
  refine OL.pure S (Lf.run_move (S.ev rfl)) rfl rfl trivial ?_
  clear S; intro aa S
  obtain ⟨J, H, HK⟩ := H
  refine OL.cutN 4 (fun aa ww => ∃ x14 h2, St 27 ((14, Value.bool x14) :: [(0, Value.pointer r0), (1, Value.int .i64 a1), (2, Value.int .i64 b2), (7, Value.pointer r0), (8, Value.int .i64 a1), (9, Value.bool x9), (10, Value.bool x9)]) h2 w0 aa ww ∧ J x14 h2) ?_ ?_
  · rcases Bool.eq_false_or_eq_true x9 with hb | hb
    · replace H := H.1 hb
      refine OL.pure S (Lf.run_move (S.ev rfl)) rfl rfl (GOk.mk rfl rfl hb) ?_
      clear S; intro aa S
      refine OL.pure S (Lf.run_move (S.ev rfl)) rfl rfl (GOk.mk rfl rfl hb) ?_
      clear S; intro aa S
      refine ol_cal S H isfn23 rfl rfl (GOk.mk rfl rfl hb) ?_
      clear S H aa; intro u_1 aa ww h3 H S
      obtain ⟨x13, rfl, H⟩ := H
      refine OL.pure S (Lf.run_pickT (S.ev rfl) hb (S.ev rfl)) rfl rfl trivial ?_
      clear S; intro aa S
      refine OL.nil ?_
      exact ⟨_, _, S.sub _ ⟨rfl, rfl, rfl, rfl, rfl, rfl, rfl, rfl, trivial⟩, H⟩
    · replace H := H.2 hb
      refine OL.not S rfl rfl (GNo.mk rfl rfl hb) ?_
      clear S; intro aa S
      refine OL.not S rfl rfl (GNo.mk rfl rfl hb) ?_
      clear S; intro aa S
      refine OL.not S rfl rfl (GNo.mk rfl rfl hb) ?_
      clear S; intro aa S
      refine OL.pure S (Lf.run_pickF (S.ev rfl) hb (S.ev rfl)) rfl rfl trivial ?_
      clear S; intro aa S
      refine OL.nil ?_
      exact ⟨_, _, S.sub _ ⟨rfl, rfl, rfl, rfl, rfl, rfl, rfl, rfl, trivial⟩, H⟩
  · clear S aa
    rintro aa ww ⟨x14, h2, S, HJ⟩
    replace H := HK _ _ HJ
    clear HK HJ
    refine OL.pure S (Lf.run_move (S.ev rfl)) rfl rfl trivial ?_
    clear S; intro aa S
    obtain ⟨J_1, H, HK_1⟩ := H
    refine OL.cutN 11 (fun aa ww => ∃ x26, St 27 ((26, Value.bool x26) :: [(0, Value.pointer r0), (1, Value.int .i64 a1), (2, Value.int .i64 b2), (7, Value.pointer r0), (8, Value.int .i64 a1), (9, Value.bool x9), (10, Value.bool x9), (14, Value.bool x14), (15, Value.bool x14)]) h2 w0 aa ww ∧ J_1 x26) ?_ ?_
    · rcases Bool.eq_false_or_eq_true x14 with hb_1 | hb_1
      · replace H := H.1 hb_1
        refine OL.pure S (Lf.run_move (S.ev rfl)) rfl rfl (GOk.mk rfl rfl hb_1) ?_
        clear S; intro aa S
        obtain ⟨p17, e, H⟩ := H
        refine OL.pure S (Lf.run_nc' (S.ev rfl) e) rfl rfl (GOk.mk rfl rfl hb_1) ?_
        clear S; intro aa S
        refine OL.pure S (Lf.run_fa (S.ev rfl) fa54_1) rfl rfl (GOk.mk rfl rfl hb_1) ?_
        clear S; intro aa S
        obtain ⟨x19, c, H⟩ := H
        refine OL.pure S (Lf.run_ld (S.ev rfl) fl52 (S.cl c)) rfl rfl (GOk.mk rfl rfl hb_1) ?_
        clear S; intro aa S
        refine OL.pure S (Lf.run_move (S.ev rfl)) rfl rfl (GOk.mk rfl rfl hb_1) ?_
        clear S; intro aa S
        obtain ⟨q21, e_1, e_2, e_3, H⟩ := H
        refine OL.pure S (Lf.run_ixs (S.ev rfl) (S.ev rfl) Try.underlying52 ti51 e_1 e_2 e_3) rfl rfl (GOk.mk rfl rfl hb_1) ?_
        clear S; intro aa S
        obtain ⟨x22, c_1, H⟩ := H
        refine OL.pure S (Lf.run_ld (S.ev rfl) fl51 (S.cl c_1)) rfl rfl (GOk.mk rfl rfl hb_1) ?_
        clear S; intro aa S
        refine OL.pure S (Lf.run_move (S.ev rfl)) rfl rfl (GOk.mk rfl rfl hb_1) ?_
        clear S; intro aa S
        obtain ⟨q24, e_4, e_5, e_6, H⟩ := H
        refine OL.pure S (Lf.run_ixs (S.ev rfl) (S.ev rfl) Try.underlying51 ti4 e_4 e_5 e_6) rfl rfl (GOk.mk rfl rfl hb_1) ?_
        clear S; intro aa S
        obtain ⟨x25, c_2, H⟩ := H
        refine OL.pure S (Lf.run_ld (S.ev rfl) fl4 (S.cl c_2)) rfl rfl (GOk.mk rfl rfl hb_1) ?_
        clear S; intro aa S
        refine OL.pure S (Lf.run_pickT (S.ev rfl) hb_1 (S.ev rfl)) rfl rfl trivial ?_
        clear S; intro aa S
        refine OL.nil ?_
        exact ⟨_, S.sub _ ⟨rfl, rfl, rfl, rfl, rfl, rfl, rfl, rfl, rfl, rfl, trivial⟩, H⟩
      · replace H := H.2 hb_1
        refine OL.not S rfl rfl (GNo.mk rfl rfl hb_1) ?_
        clear S; intro aa S
        refine OL.not S rfl rfl (GNo.mk rfl rfl hb_1) ?_
        clear S; intro aa S
        refine OL.not S rfl rfl (GNo.mk rfl rfl hb_1) ?_
        clear S; intro aa S
        refine OL.not S rfl rfl (GNo.mk rfl rfl hb_1) ?_
        clear S; intro aa S
        refine OL.not S rfl rfl (GNo.mk rfl rfl hb_1) ?_
        clear S; intro aa S
        refine OL.not S rfl rfl (GNo.mk rfl rfl hb_1) ?_
        clear S; intro aa S
        refine OL.not S rfl rfl (GNo.mk rfl rfl hb_1) ?_
        clear S; intro aa S
        refine OL.not S rfl rfl (GNo.mk rfl rfl hb_1) ?_
        clear S; intro aa S
        refine OL.not S rfl rfl (GNo.mk rfl rfl hb_1) ?_
        clear S; intro aa S
        refine OL.not S rfl rfl (GNo.mk rfl rfl hb_1) ?_
        clear S; intro aa S
        refine OL.pure S (Lf.run_pickF (S.ev rfl) hb_1 (S.ev rfl)) rfl rfl trivial ?_
        clear S; intro aa S
        refine OL.nil ?_
        exact ⟨_, S.sub _ ⟨rfl, rfl, rfl, rfl, rfl, rfl, rfl, rfl, rfl, rfl, trivial⟩, H⟩
    · clear S aa
      rintro aa ww ⟨x26, S, HJ⟩
      replace H := HK_1 _ HJ
      clear HK_1 HJ
      refine OL.pure S (Lf.run_assign (S.ev rfl)) rfl rfl trivial ?_
      clear S; intro aa S
      refine OL.nil ?_
      refine W.ret ?_
      exact Ret.one S rfl rfl H

/-- (*chattel life.Rel).Len -/
def L16 (r0 : Option Addr) (h : Heap) (R : Value → Heap → Prop) : Prop :=
  ifb (Option.isNone r0) (
    R (Value.int .i64 0) h) (
    nn r0 fun p6 =>
    ldI .i64 h p6 fun x8 =>
    R (Value.int .i64 x8) h)

set_option maxRecDepth 100000 in

theorem F16 {r0 h : _} {R : Value → Heap → Prop} (H : L16 r0 h R) : CallsH Try.prog 16 #[Value.pointer r0] h R := by
  refine CallsH.enter (n := 9) Try.func16 rfl rfl rfl rfl ?_
  intro w0 aa ww S
  unfold L16 at H
  refine W.seq ?_
  replace S := S.sub [(0, Value.pointer r0)] ⟨rfl, trivial⟩
  refine W.region ?_
  refine OL.pure S (Lf.run_assign (S.ev rfl)) rfl rfl trivial ?_
  clear S; intro aa S
  refine OL.nil ?_
  refine W.seq ?_
  refine W.seq ?_
  replace S := S.sub [(0, Value.pointer r0)] ⟨rfl, trivial⟩
  refine W.region ?_
  refine OL.pure S (Lf.run_move (S.ev rfl)) rfl rfl trivial ?_
  clear S; intro aa S
  refine OL.pure S (Lf.run_eqlpn Try.underlying24 (S.ev rfl) (S.ev rfl)) rfl rfl trivial ?_
  clear S; intro aa S
  refine OL.nil ?_
  refine W.cond S (b := (Option.isNone r0)) rfl (fun hb => ?_) (fun hb => ?_)
  · replace H := H.1 hb
    refine W.seq ?_
    replace S := S.sub [] trivial
    refine W.region ?_
    refine OL.pure S (Lf.run_assign (S.ev rfl)) rfl rfl trivial ?_
    clear S; intro aa S
    refine OL.nil ?_
    refine W.ret ?_
    exact Ret.one S rfl rfl H
  · replace H := H.2 hb
    refine W.skip ?_
    refine W.seq ?_
    replace S := S.sub [(0, Value.pointer r0)] ⟨rfl, trivial⟩
    refine W.region ?_
    refine OL.pure S (Lf.run_move (S.ev rfl)) rfl rfl trivial ?_
    clear S; intro aa S
    obtain ⟨p6, e, H⟩ := H
    refine OL.pure S (Lf.run_nc' (S.ev rfl) e) rfl rfl trivial ?_
    clear S; intro aa S
    refine OL.pure S (Lf.run_fa (S.ev rfl) fa54_0) rfl rfl trivial ?_
    clear S; intro aa S
    obtain ⟨x8, c, H⟩ := H
    refine OL.pure S (Lf.run_ld (S.ev rfl) fl3 (S.cl c)) rfl rfl trivial ?_
    clear S; intro aa S
    refine OL.pure S (Lf.run_assign (S.ev rfl)) rfl rfl trivial ?_
    clear S; intro aa S
    refine OL.nil ?_
    refine W.ret ?_
    exact Ret.one S rfl rfl H

/-- (*chattel chattelref06.Rel).Has -/
def L12 (r0 : Option Addr) (a1 : Int) (b2 : Int) (h : Heap) (R : Value → Heap → Prop) : Prop :=
  ∃ J : Bool → Prop, (orr ((decide (a1 < 0)) || (decide (b2 < 0))) (fun k =>
    nn r0 fun p19 =>
    ldI .i64 h p19 fun x21 =>
    k (decide (x21 < a1))) J) ∧ ∀ x23, J x23 →
  ∃ J_1 : Bool → Prop, (orr x23 (fun k_1 =>
    nn r0 fun p27 =>
    ldI .i64 h p27 fun x29 =>
    k_1 (decide (x29 < b2))) J_1) ∧ ∀ x31, J_1 x31 →
  ifb x31 (
    R (Value.bool false) h) (
    nn r0 fun p33 =>
    ldI .i64 h p33 fun x35 =>
    mkS 3 (Value.int .i64 0).cells 1 8 (IntKind.i64.wrap (x35 + 1)) (IntKind.i64.wrap (x35 + 1)) h fun s37 h1 =>
    ixS s37 a1 fun q40 =>
    sto h1 (q40.add ((a1 : Int).toNat * 1)) (Value.int .i64 1) fun h2 =>
    ∃ (I : Int → Heap → Prop) (m : Int → Heap → Nat), I 0 h2 ∧ ∀ round8 h3, I round8 h3 →
    nn r0 fun p43 =>
    ldI .i64 h3 p43 fun x45 =>
    ifb (decide (round8 ≤ x45)) (
      ∃ (I_1 : Int → Heap → Prop) (m_1 : Int → Heap → Nat), I_1 0 h3 ∧ ∀ i9 h4, I_1 i9 h4 →
      nn r0 fun p51 =>
      ldS h4 (p51.add 1) fun x53 =>
      ifb (decide (i9 < ((x53.n : Nat) : Int))) (
        ∃ J_2 : Heap → Prop, (
          nn r0 fun p60 =>
          ldS h4 (p60.add 1) fun x62 =>
          ixS x62 i9 fun q64 =>
          ldI .i64 h4 (q64.add ((i9 : Int).toNat * 2)) fun x66 =>
          ixS s37 x66 fun q67 =>
          ldI .i64 h4 (q67.add ((x66 : Int).toNat * 1)) fun x68 =>
          ifb (decide (0 < x68)) (
            nn r0 fun p72 =>
            ldS h4 (p72.add 1) fun x74 =>
            ixS x74 i9 fun q76 =>
            ldI .i64 h4 ((q76.add ((i9 : Int).toNat * 2)).add 1) fun x78 =>
            ixS s37 x78 fun q79 =>
            sto h4 (q79.add ((x78 : Int).toNat * 1)) (Value.int .i64 1) fun h5 =>
            J_2 h5) (
            J_2 h4)) ∧ (∀ h6, J_2 h6 →
        I_1 (IntKind.i64.wrap (i9 + 1)) h6 ∧ m_1 (IntKind.i64.wrap (i9 + 1)) h6 < m_1 i9 h4)) (
        ixS s37 0 fun q81 =>
        ldI .i64 h4 q81 fun x82 =>
        ifb (decide (0 < x82)) (
          R (Value.bool true) h4) (
          I (IntKind.i64.wrap (round8 + 1)) h4 ∧ m (IntKind.i64.wrap (round8 + 1)) h4 < m round8 h3))) (
      ixS s37 b2 fun q86 =>
      ldI .i64 h3 (q86.add ((b2 : Int).toNat * 1)) fun x87 =>
      R (Value.bool (decide (0 < x87))) h3))

set_option maxRecDepth 100000 in

theorem F12 {r0 a1 b2 h : _} {R : Value → Heap → Prop} (H : L12 r0 a1 b2 h R) : CallsH Try.prog 12 #[Value.pointer r0, Value.int .i64 a1, Value.int .i64 b2] h R := by
  refine CallsH.enter (n := 89) Try.func12 rfl rfl rfl rfl ?_
  intro w0 aa ww S
  unfold L12 at H
  refine W.seq ?_
  replace S := S.sub [(0, Value.pointer r0), (1, Value.int .i64 a1), (2, Value.int .i64 b2)] ⟨rfl, rfl, rfl, trivial⟩
  refine W.region ?_
  refine OL.pure S (Lf.run_assign (S.ev rfl)) rfl rfl trivial ?_
  clear S; intro aa S
  refine OL.nil ?_
  refine W.seq ?_
  refine W.seq ?_
  replace S := S.sub [(0, Value.pointer r0), (1, Value.int .i64 a1), (2, Value.int .i64 b2)] ⟨rfl, rfl, rfl, trivial⟩
  refine W.region ?_
  refine OL.pure S (Lf.run_move (S.ev rfl)) rfl rfl trivial ?_
  clear S; intro aa S
  refine OL.pure S (Lf.run_lss (S.ev rfl) (S.ev rfl)) rfl rfl trivial ?_
  clear S; intro aa S
  refine OL.pure S (Lf.run_move (S.ev rfl)) rfl rfl trivial ?_
  clear S; intro aa S
  refine OL.cutN 3 (fun aa ww => St 89 ((15, Value.bool ((decide (a1 < 0)) || (decide (b2 < 0)))) :: [(0, Value.pointer r0), (1, Value.int .i64 a1), (2, Value.int .i64 b2), (10, Value.int .i64 a1), (11, Value.bool (decide (a1 < 0))), (12, Value.bool (decide (a1 < 0)))]) h w0 aa ww) ?_ ?_
  · rcases Bool.eq_false_or_eq_true (decide (a1 < 0)) with hb | hb
    · refine OL.not S rfl rfl (GNo.mk rfl rfl hb) ?_
      clear S; intro aa S
      refine OL.not S rfl rfl (GNo.mk rfl rfl hb) ?_
      clear S; intro aa S
      refine OL.pure S (Lf.run_pickT (S.ev rfl) hb (S.ev rfl)) rfl rfl trivial ?_
      clear S; intro aa S
      refine OL.nil ?_
      exact (S.hd (by rw [hb, Bool.true_or])).sub _ ⟨rfl, rfl, rfl, rfl, rfl, rfl, rfl, trivial⟩
    · refine OL.pure S (Lf.run_move (S.ev rfl)) rfl rfl (GOk.mk rfl rfl hb) ?_
      clear S; intro aa S
      refine OL.pure S (Lf.run_lss (S.ev rfl) (S.ev rfl)) rfl rfl (GOk.mk rfl rfl hb) ?_
      clear S; intro aa S
      refine OL.pure S (Lf.run_pickF (S.ev rfl) hb (S.ev rfl)) rfl rfl trivial ?_
      clear S; intro aa S
      refine OL.nil ?_
      exact (S.hd (by rw [hb, Bool.false_or])).sub _ ⟨rfl, rfl, rfl, rfl, rfl, rfl, rfl, trivial⟩
  · clear S aa
    intro aa ww S
    refine OL.pure S (Lf.run_move (S.ev rfl)) rfl rfl trivial ?_
    clear S; intro aa S
    obtain ⟨J, H, HK⟩ := H
    refine OL.cutN 7 (fun aa ww => ∃ x23, St 89 ((23, Value.bool x23) :: [(0, Value.pointer r0), (1, Value.int .i64 a1), (2, Value.int .i64 b2), (10, Value.int .i64 a1), (11, Value.bool (decide (a1 < 0))), (12, Value.bool (decide (a1 < 0))), (15, Value.bool ((decide (a1 < 0)) || (decide (b2 < 0)))), (16, Value.bool ((decide (a1 < 0)) || (decide (b2 < 0))))]) h w0 aa ww ∧ J x23) ?_ ?_
    · rcases Bool.eq_false_or_eq_true ((decide (a1 < 0)) || (decide (b2 < 0))) with hb_1 | hb_1
      · replace H := H.1 hb_1
        refine OL.not S rfl rfl (GNo.mk rfl rfl hb_1) ?_
        clear S; intro aa S
        refine OL.not S rfl rfl (GNo.mk rfl rfl hb_1) ?_
        clear S; intro aa S
        refine OL.not S rfl rfl (GNo.mk rfl rfl hb_1) ?_
        clear S; intro aa S
        refine OL.not S rfl rfl (GNo.mk rfl rfl hb_1) ?_
        clear S; intro aa S
        refine OL.not S rfl rfl (GNo.mk rfl rfl hb_1) ?_
        clear S; intro aa S
        refine OL.not S rfl rfl (GNo.mk rfl rfl hb_1) ?_
        clear S; intro aa S
        refine OL.pure S (Lf.run_pickT (S.ev rfl) hb_1 (S.ev rfl)) rfl rfl trivial ?_
        clear S; intro aa S
        refine OL.nil ?_
        exact ⟨_, S.sub _ ⟨rfl, rfl, rfl, rfl, rfl, rfl, rfl, rfl, rfl, trivial⟩, H⟩
      · replace H := H.2 hb_1
        refine OL.pure S (Lf.run_move (S.ev rfl)) rfl rfl (GOk.mk rfl rfl hb_1) ?_
        clear S; intro aa S
        refine OL.pure S (Lf.run_move (S.ev rfl)) rfl rfl (GOk.mk rfl rfl hb_1) ?_
        clear S; intro aa S
        obtain ⟨p19, e, H⟩ := H
        refine OL.pure S (Lf.run_nc' (S.ev rfl) e) rfl rfl (GOk.mk rfl rfl hb_1) ?_
        clear S; intro aa S
        refine OL.pure S (Lf.run_fa (S.ev rfl) fa49_0) rfl rfl (GOk.mk rfl rfl hb_1) ?_
        clear S; intro aa S
        obtain ⟨x21, c, H⟩ := H
        refine OL.pure S (Lf.run_ld (S.ev rfl) fl3 (S.cl c)) rfl rfl (GOk.mk rfl rfl hb_1) ?_
        clear S; intro aa S
        refine OL.pure S (Lf.run_gtr (S.ev rfl) (S.ev rfl)) rfl rfl (GOk.mk rfl rfl hb_1) ?_
        clear S; intro aa S
        refine OL.pure S (Lf.run_pickF (S.ev rfl) hb_1 (S.ev rfl)) rfl rfl trivial ?_
        clear S; intro aa S
        refine OL.nil ?_
        exact ⟨_, S.sub _ ⟨rfl, rfl, rfl, rfl, rfl, rfl, rfl, rfl, rfl, trivial⟩, H⟩
    · clear S aa
      rintro aa ww ⟨x23, S, HJ⟩
      replace H := HK _ HJ
      clear HK HJ
      refine OL.pure S (Lf.run_move (S.ev rfl)) rfl rfl trivial ?_
      clear S; intro aa S
      obtain ⟨J_1, H, HK_1⟩ := H
      refine OL.cutN 7 (fun aa ww => ∃ x31, St 89 ((31, Value.bool x31) :: [(0, Value.pointer r0), (1, Value.int .i64 a1), (2, Value.int .i64 b2), (10, Value.int .i64 a1), (11, Value.bool (decide (a1 < 0))), (12, Value.bool (decide (a1 < 0))), (15, Value.bool ((decide (a1 < 0)) || (decide (b2 < 0)))), (16, Value.bool ((decide (a1 < 0)) || (decide (b2 < 0)))), (23, Value.bool x23), (24, Value.bool x23)]) h w0 aa ww ∧ J_1 x31) ?_ ?_
      · rcases Bool.eq_false_or_eq_true x23 with hb_2 | hb_2
        · replace H := H.1 hb_2
          refine OL.not S rfl rfl (GNo.mk rfl rfl hb_2) ?_
          clear S; intro aa S
          refine OL.not S rfl rfl (GNo.mk rfl rfl hb_2) ?_
          clear S; intro aa S
          refine OL.not S rfl rfl (GNo.mk rfl rfl hb_2) ?_
          clear S; intro aa S
          refine OL.not S rfl rfl (GNo.mk rfl rfl hb_2) ?_
          clear S; intro aa S
          refine OL.not S rfl rfl (GNo.mk rfl rfl hb_2) ?_
          clear S; intro aa S
          refine OL.not S rfl rfl (GNo.mk rfl rfl hb_2) ?_
          clear S; intro aa S
          refine OL.pure S (Lf.run_pickT (S.ev rfl) hb_2 (S.ev rfl)) rfl rfl trivial ?_
          clear S; intro aa S
          refine OL.nil ?_
          exact ⟨_, S.sub _ ⟨rfl, rfl, rfl, rfl, rfl, rfl, rfl, rfl, rfl, rfl, rfl, trivial⟩, H⟩
        · replace H := H.2 hb_2
          refine OL.pure S (Lf.run_move (S.ev rfl)) rfl rfl (GOk.mk rfl rfl hb_2) ?_
          clear S; intro aa S
          refine OL.pure S (Lf.run_move (S.ev rfl)) rfl rfl (GOk.mk rfl rfl hb_2) ?_
          clear S; intro aa S
          obtain ⟨p27, e_1, H⟩ := H
          refine OL.pure S (Lf.run_nc' (S.ev rfl) e_1) rfl rfl (GOk.mk rfl rfl hb_2) ?_
          clear S; intro aa S
          refine OL.pure S (Lf.run_fa (S.ev rfl) fa49_0) rfl rfl (GOk.mk rfl rfl hb_2) ?_
          clear S; intro aa S
          obtain ⟨x29, c_1, H⟩ := H
          refine OL.pure S (Lf.run_ld (S.ev rfl) fl3 (S.cl c_1)) rfl rfl (GOk.mk rfl rfl hb_2) ?_
          clear S; intro aa S
          refine OL.pure S (Lf.run_gtr (S.ev rfl) (S.ev rfl)) rfl rfl (GOk.mk rfl rfl hb_2) ?_
          clear S; intro aa S
          refine OL.pure S (Lf.run_pickF (S.ev rfl) hb_2 (S.ev rfl)) rfl rfl trivial ?_
          clear S; intro aa S
          refine OL.nil ?_
          exact ⟨_, S.sub _ ⟨rfl, rfl, rfl, rfl, rfl, rfl, rfl, rfl, rfl, rfl, rfl, trivial⟩, H⟩
      · clear S aa
        rintro aa ww ⟨x31, S, HJ⟩
        replace H := HK_1 _ HJ
        clear HK_1 HJ
        refine OL.nil ?_
        refine W.cond S (b := x31) rfl (fun hb_3 => ?_) (fun hb_3 => ?_)
        · replace H := H.1 hb_3
          refine W.seq ?_
          replace S := S.sub [] trivial
          refine W.region ?_
          refine OL.pure S (Lf.run_assign (S.ev rfl)) rfl rfl trivial ?_
          clear S; intro aa S
          refine OL.nil ?_
          refine W.ret ?_
          exact Ret.one S rfl rfl H
        · replace H := H.2 hb_3
          refine W.skip ?_
          refine W.seq ?_
          replace S := S.sub [(0, Value.pointer r0), (1, Value.int .i64 a1), (2, Value.int .i64 b2)] ⟨rfl, rfl, rfl, trivial⟩
          refine W.region ?_
          refine OL.pure S (Lf.run_move (S.ev rfl)) rfl rfl trivial ?_
          clear S; intro aa S
          obtain ⟨p33, e_2, H⟩ := H
          refine OL.pure S (Lf.run_nc' (S.ev rfl) e_2) rfl rfl trivial ?_
          clear S; intro aa S
          refine OL.pure S (Lf.run_fa (S.ev rfl) fa49_0) rfl rfl trivial ?_
          clear S; intro aa S
          obtain ⟨x35, c_2, H⟩ := H
          refine OL.pure S (Lf.run_ld (S.ev rfl) fl3 (S.cl c_2)) rfl rfl trivial ?_
          clear S; intro aa S
          refine OL.pure S (Lf.run_add (S.ev rfl) (S.ev rfl)) rfl rfl trivial ?_
          clear S; intro aa S
          refine ol_mkS S H Try.underlying38 ti3 rfl rfl rfl trivial ?_
          clear S H aa; intro s37 aa ww h1 H S
          refine OL.pure S (Lf.run_assign (S.ev rfl)) rfl rfl trivial ?_
          clear S; intro aa S
          refine OL.nil ?_
          refine W.seq ?_
          replace S := S.sub [(0, Value.pointer r0), (1, Value.int .i64 a1), (2, Value.int .i64 b2), (7, Value.slice s37.a s37.n s37.c)] ⟨rfl, rfl, rfl, rfl, trivial⟩
          refine W.region ?_
          refine OL.pure S (Lf.run_move (S.ev rfl)) rfl rfl trivial ?_
          clear S; intro aa S
          refine OL.pure S (Lf.run_move (S.ev rfl)) rfl rfl trivial ?_
          clear S; intro aa S
          obtain ⟨q40, e_3, e_4, e_5, H⟩ := H
          refine OL.pure S (Lf.run_ixs (S.ev rfl) (S.ev rfl) Try.underlying38 ti3 e_3 e_4 e_5) rfl rfl trivial ?_
          clear S; intro aa S
          refine ol_sto S H rfl rfl rfl ti3 trivial ?_
          clear S H aa; intro aa ww h2 H S
          refine OL.nil ?_
          refine W.seq ?_
          refine W.seq ?_
          replace S := S.sub [(0, Value.pointer r0), (2, Value.int .i64 b2), (7, Value.slice s37.a s37.n s37.c)] ⟨rfl, rfl, rfl, trivial⟩
          refine W.region ?_
          refine OL.pure S (Lf.run_assign (S.ev rfl)) rfl rfl trivial ?_
          clear S; intro aa S
          refine OL.nil ?_
          refine W.block ?_
          obtain ⟨I, m, H, HB_1⟩ := H
          refine W.loopS (σ := Int × Heap) (fun s aa ww => St 89 [(0, Value.pointer r0), (2, Value.int .i64 b2), (7, Value.slice s37.a s37.n s37.c), (8, Value.int .i64 s.1)] s.2 w0 aa ww ∧ I s.1 s.2) (fun s => m s.1 s.2) (0, h2) ⟨S.sub _ ⟨rfl, rfl, rfl, rfl, trivial⟩, H⟩ ?_
          clear H S aa
          rintro ⟨round8, h3⟩ aa ww ⟨S, HI⟩
          replace S : St 89 [(0, Value.pointer r0), (2, Value.int .i64 b2), (7, Value.slice s37.a s37.n s37.c), (8, Value.int .i64 round8)] h3 w0 aa ww := S
          have H := HB_1 round8 h3 HI
          clear HI
          refine W.seq ?_
          refine W.seq ?_
          replace S := S.sub [(0, Value.pointer r0), (2, Value.int .i64 b2), (7, Value.slice s37.a s37.n s37.c), (8, Value.int .i64 round8)] ⟨rfl, rfl, rfl, rfl, trivial⟩
          refine W.region ?_
          refine OL.pure S (Lf.run_move (S.ev rfl)) rfl rfl trivial ?_
          clear S; intro aa S
          refine OL.pure S (Lf.run_move (S.ev rfl)) rfl rfl trivial ?_
          clear S; intro aa S
          obtain ⟨p43, e_6, H⟩ := H
          refine OL.pure S (Lf.run_nc' (S.ev rfl) e_6) rfl rfl trivial ?_
          clear S; intro aa S
          refine OL.pure S (Lf.run_fa (S.ev rfl) fa49_0) rfl rfl trivial ?_
          clear S; intro aa S
          obtain ⟨x45, c_3, H⟩ := H
          refine OL.pure S (Lf.run_ld (S.ev rfl) fl3 (S.cl c_3)) rfl rfl trivial ?_
          clear S; intro aa S
          refine OL.pure S (Lf.run_leq (S.ev rfl) (S.ev rfl)) rfl rfl trivial ?_
          clear S; intro aa S
          refine OL.nil ?_
          refine W.cond S (b := (decide (round8 ≤ x45))) rfl (fun hb_4 => ?_) (fun hb_4 => ?_)
          · replace H := H.1 hb_4
            refine W.skip ?_
            refine W.seq ?_
            refine W.block ?_
            refine W.seq ?_
            refine W.seq ?_
            replace S := S.sub [(0, Value.pointer r0), (2, Value.int .i64 b2), (7, Value.slice s37.a s37.n s37.c), (8, Value.int .i64 round8)] ⟨rfl, rfl, rfl, rfl, trivial⟩
            refine W.region ?_
            refine OL.pure S (Lf.run_assign (S.ev rfl)) rfl rfl trivial ?_
            clear S; intro aa S
            refine OL.nil ?_
            refine W.block ?_
            obtain ⟨I_1, m_1, H, HB⟩ := H
            refine W.loopS (σ := Int × Heap) (fun s aa ww => St 89 [(0, Value.pointer r0), (2, Value.int .i64 b2), (7, Value.slice s37.a s37.n s37.c), (8, Value.int .i64 round8), (9, Value.int .i64 s.1)] s.2 w0 aa ww ∧ I_1 s.1 s.2) (fun s => m_1 s.1 s.2) (0, h3) ⟨S.sub _ ⟨rfl, rfl, rfl, rfl, rfl, trivial⟩, H⟩ ?_
            clear H S aa
            rintro ⟨i9, h4⟩ aa ww ⟨S, HI⟩
            replace S : St 89 [(0, Value.pointer r0), (2, Value.int .i64 b2), (7, Value.slice s37.a s37.n s37.c), (8, Value.int .i64 round8), (9, Value.int .i64 i9)] h4 w0 aa ww := S
            have H := HB i9 h4 HI
            clear HI
            refine W.seq ?_
            refine W.seq ?_
            replace S := S.sub [(0, Value.pointer r0), (2, Value.int .i64 b2), (7, Value.slice s37.a s37.n s37.c), (8, Value.int .i64 round8), (9, Value.int .i64 i9)] ⟨rfl, rfl, rfl, rfl, rfl, trivial⟩
            refine W.region ?_
            refine OL.pure S (Lf.run_move (S.ev rfl)) rfl rfl trivial ?_
            clear S; intro aa S
            refine OL.pure S (Lf.run_move (S.ev rfl)) rfl rfl trivial ?_
            clear S; intro aa S
            obtain ⟨p51, e_7, H⟩ := H
            refine OL.pure S (Lf.run_nc' (S.ev rfl) e_7) rfl rfl trivial ?_
            clear S; intro aa S
            refine OL.pure S (Lf.run_fa (S.ev rfl) fa49_1) rfl rfl trivial ?_
            clear S; intro aa S
            obtain ⟨x53, c_4, H⟩ := H
            refine OL.pure S (Lf.run_ld (S.ev rfl) fl22 (S.cl c_4)) rfl rfl trivial ?_
            clear S; intro aa S
            refine OL.pure S (Lf.run_lens (S.ev rfl) rfl Try.underlying22) rfl rfl trivial ?_
            clear S; intro aa S
            refine OL.pure S (Lf.run_lss (S.ev rfl) (S.ev rfl)) rfl rfl trivial ?_
            clear S; intro aa S
            refine OL.nil ?_
            refine W.cond S (b := (decide (i9 < ((x53.n : Nat) : Int)))) rfl (fun hb_5 => ?_) (fun hb_5 => ?_)
            · replace H := H.1 hb_5
              refine W.skip ?_
              obtain ⟨J_2, H, HK_2⟩ := H
              refine W.seqJ (fun aa ww => ∃ h6, St 89 [(0, Value.pointer r0), (2, Value.int .i64 b2), (7, Value.slice s37.a s37.n s37.c), (8, Value.int .i64 round8), (9, Value.int .i64 i9)] h6 w0 aa ww ∧ J_2 h6) ?_ ?_
              · clear HK_2
                refine W.block ?_
                refine W.seq ?_
                replace S := S.sub [(0, Value.pointer r0), (2, Value.int .i64 b2), (7, Value.slice s37.a s37.n s37.c), (8, Value.int .i64 round8), (9, Value.int .i64 i9)] ⟨rfl, rfl, rfl, rfl, rfl, trivial⟩
                refine W.region ?_
                refine OL.pure S (Lf.run_move (S.ev rfl)) rfl rfl trivial ?_
                clear S; intro aa S
                refine OL.pure S (Lf.run_move (S.ev rfl)) rfl rfl trivial ?_
                clear S; intro aa S
                obtain ⟨p60, e_8, H⟩ := H
                refine OL.pure S (Lf.run_nc' (S.ev rfl) e_8) rfl rfl trivial ?_
                clear S; intro aa S
                refine OL.pure S (Lf.run_fa (S.ev rfl) fa49_1) rfl rfl trivial ?_
                clear S; intro aa S
                obtain ⟨x62, c_5, H⟩ := H
                refine OL.pure S (Lf.run_ld (S.ev rfl) fl22 (S.cl c_5)) rfl rfl trivial ?_
                clear S; intro aa S
                refine OL.pure S (Lf.run_move (S.ev rfl)) rfl rfl trivial ?_
                clear S; intro aa S
                obtain ⟨q64, e_9, e_10, e_11, H⟩ := H
                refine OL.pure S (Lf.run_ixs (S.ev rfl) (S.ev rfl) Try.underlying22 ti33 e_9 e_10 e_11) rfl rfl trivial ?_
                clear S; intro aa S
                refine OL.pure S (Lf.run_ixa (S.ev rfl) (S.ev rfl) Try.underlying33 ti3 (by decide) (by decide)) rfl rfl trivial ?_
                clear S; intro aa S
                obtain ⟨x66, c_6, H⟩ := H
                refine OL.pure S (Lf.run_ld (S.ev rfl) fl3 (S.cl c_6)) rfl rfl trivial ?_
                clear S; intro aa S
                obtain ⟨q67, e_14, e_15, e_16, H⟩ := H
                refine OL.pure S (Lf.run_ixs (S.ev rfl) (S.ev rfl) Try.underlying38 ti3 e_14 e_15 e_16) rfl rfl trivial ?_
                clear S; intro aa S
                obtain ⟨x68, c_7, H⟩ := H
                refine OL.pure S (Lf.run_ld (S.ev rfl) fl3 (S.cl c_7)) rfl rfl trivial ?_
                clear S; intro aa S
                refine OL.pure S (Lf.run_gtr (S.ev rfl) (S.ev rfl)) rfl rfl trivial ?_
                clear S; intro aa S
                refine OL.nil ?_
                refine W.cond S (b := (decide (0 < x68))) rfl (fun hb_6 => ?_) (fun hb_6 => ?_)
                · replace H := H.1 hb_6
                  replace S := S.sub [(0, Value.pointer r0), (2, Value.int .i64 b2), (7, Value.slice s37.a s37.n s37.c), (8, Value.int .i64 round8), (9, Value.int .i64 i9)] ⟨rfl, rfl, rfl, rfl, rfl, trivial⟩
                  refine W.region ?_
                  refine OL.pure S (Lf.run_move (S.ev rfl)) rfl rfl trivial ?_
                  clear S; intro aa S
                  refine OL.pure S (Lf.run_move (S.ev rfl)) rfl rfl trivial ?_
                  clear S; intro aa S
                  obtain ⟨p72, e_17, H⟩ := H
                  refine OL.pure S (Lf.run_nc' (S.ev rfl) e_17) rfl rfl trivial ?_
                  clear S; intro aa S
                  refine OL.pure S (Lf.run_fa (S.ev rfl) fa49_1) rfl rfl trivial ?_
                  clear S; intro aa S
                  obtain ⟨x74, c_8, H⟩ := H
                  refine OL.pure S (Lf.run_ld (S.ev rfl) fl22 (S.cl c_8)) rfl rfl trivial ?_
                  clear S; intro aa S
                  refine OL.pure S (Lf.run_move (S.ev rfl)) rfl rfl trivial ?_
                  clear S; intro aa S
                  obtain ⟨q76, e_18, e_19, e_20, H⟩ := H
                  refine OL.pure S (Lf.run_ixs (S.ev rfl) (S.ev rfl) Try.underlying22 ti33 e_18 e_19 e_20) rfl rfl trivial ?_
                  clear S; intro aa S
                  refine OL.pure S (Lf.run_ixa (S.ev rfl) (S.ev rfl) Try.underlying33 ti3 (by decide) (by decide)) rfl rfl trivial ?_
                  clear S; intro aa S
                  obtain ⟨x78, c_9, H⟩ := H
                  refine OL.pure S (Lf.run_ld (S.ev rfl) fl3 (S.cl c_9)) rfl rfl trivial ?_
                  clear S; intro aa S
                  obtain ⟨q79, e_23, e_24, e_25, H⟩ := H
                  refine OL.pure S (Lf.run_ixs (S.ev rfl) (S.ev rfl) Try.underlying38 ti3 e_23 e_24 e_25) rfl rfl trivial ?_
                  clear S; intro aa S
                  refine ol_sto S H rfl rfl rfl ti3 trivial ?_
                  clear S H aa; intro aa ww h5 H S
                  refine OL.nil ?_
                  exact ⟨h5, S.sub _ ⟨rfl, rfl, rfl, rfl, rfl, trivial⟩, H⟩
                · replace H := H.2 hb_6
                  refine W.skip ?_
                  exact ⟨h4, S.sub _ ⟨rfl, rfl, rfl, rfl, rfl, trivial⟩, H⟩
              · clear H S aa
                rintro aa ww ⟨h6, S, HJ⟩
                have H := HK_2 _ HJ
                clear HK_2 HJ
                replace S := S.sub [(0, Value.pointer r0), (2, Value.int .i64 b2), (7, Value.slice s37.a s37.n s37.c), (8, Value.int .i64 round8), (9, Value.int .i64 i9)] ⟨rfl, rfl, rfl, rfl, rfl, trivial⟩
                refine W.region ?_
                refine OL.pure S (Lf.run_move (S.ev rfl)) rfl rfl trivial ?_
                clear S; intro aa S
                refine OL.pure S (Lf.run_add (S.ev rfl) (S.ev rfl)) rfl rfl trivial ?_
                clear S; intro aa S
                refine OL.pure S (Lf.run_assign (S.ev rfl)) rfl rfl trivial ?_
                clear S; intro aa S
                refine OL.nil ?_
                exact ⟨((IntKind.i64.wrap (i9 + 1)), h6), ⟨S.sub _ ⟨rfl, rfl, rfl, rfl, rfl, trivial⟩, H.1⟩, H.2⟩
            · replace H := H.2 hb_5
              refine W.exit_ ?_
              refine xhit ?_
              refine W.seq ?_
              replace S := S.sub [(0, Value.pointer r0), (2, Value.int .i64 b2), (7, Value.slice s37.a s37.n s37.c), (8, Value.int .i64 round8)] ⟨rfl, rfl, rfl, rfl, trivial⟩
              refine W.region ?_
              refine OL.pure S (Lf.run_move (S.ev rfl)) rfl rfl trivial ?_
              clear S; intro aa S
              obtain ⟨q81, e_26, e_27, e_28, H⟩ := H
              refine OL.pure S (Lf.run_ixs (S.ev rfl) (S.ev rfl) Try.underlying38 ti3 e_26 e_27 e_28) rfl rfl trivial ?_
              clear S; intro aa S
              obtain ⟨x82, c_10, H⟩ := H
              refine OL.pure S (Lf.run_ld (S.ev rfl) fl3 (S.cl c_10)) rfl rfl trivial ?_
              clear S; intro aa S
              refine OL.pure S (Lf.run_gtr (S.ev rfl) (S.ev rfl)) rfl rfl trivial ?_
              clear S; intro aa S
              refine OL.nil ?_
              refine W.cond S (b := (decide (0 < x82))) rfl (fun hb_7 => ?_) (fun hb_7 => ?_)
              · replace H := H.1 hb_7
                refine W.seq ?_
                replace S := S.sub [] trivial
                refine W.region ?_
                refine OL.pure S (Lf.run_assign (S.ev rfl)) rfl rfl trivial ?_
                clear S; intro aa S
                refine OL.nil ?_
                refine W.ret ?_
                exact Ret.one S rfl rfl H
              · replace H := H.2 hb_7
                refine W.skip ?_
                replace S := S.sub [(0, Value.pointer r0), (2, Value.int .i64 b2), (7, Value.slice s37.a s37.n s37.c), (8, Value.int .i64 round8)] ⟨rfl, rfl, rfl, rfl, trivial⟩
                refine W.region ?_
                refine OL.pure S (Lf.run_move (S.ev rfl)) rfl rfl trivial ?_
                clear S; intro aa S
                refine OL.pure S (Lf.run_add (S.ev rfl) (S.ev rfl)) rfl rfl trivial ?_
                clear S; intro aa S
                refine OL.pure S (Lf.run_assign (S.ev rfl)) rfl rfl trivial ?_
                clear S; intro aa S
                refine OL.nil ?_
                exact ⟨((IntKind.i64.wrap (round8 + 1)), h4), ⟨S.sub _ ⟨rfl, rfl, rfl, rfl, trivial⟩, H.1⟩, H.2⟩
          · replace H := H.2 hb_4
            refine W.exit_ ?_
            refine xhit ?_
            refine W.seq ?_
            replace S := S.sub [(2, Value.int .i64 b2), (7, Value.slice s37.a s37.n s37.c)] ⟨rfl, rfl, trivial⟩
            refine W.region ?_
            refine OL.pure S (Lf.run_move (S.ev rfl)) rfl rfl trivial ?_
            clear S; intro aa S
            refine OL.pure S (Lf.run_move (S.ev rfl)) rfl rfl trivial ?_
            clear S; intro aa S
            obtain ⟨q86, e_29, e_30, e_31, H⟩ := H
            refine OL.pure S (Lf.run_ixs (S.ev rfl) (S.ev rfl) Try.underlying38 ti3 e_29 e_30 e_31) rfl rfl trivial ?_
            clear S; intro aa S
            obtain ⟨x87, c_11, H⟩ := H
            refine OL.pure S (Lf.run_ld (S.ev rfl) fl3 (S.cl c_11)) rfl rfl trivial ?_
            clear S; intro aa S
            refine OL.pure S (Lf.run_gtr (S.ev rfl) (S.ev rfl)) rfl rfl trivial ?_
            clear S; intro aa S
            refine OL.pure S (Lf.run_assign (S.ev rfl)) rfl rfl trivial ?_
            clear S; intro aa S
            refine OL.nil ?_
            refine W.ret ?_
            exact Ret.one S rfl rfl H

/-- chattel life.New -/
def L22 (n0 : Int) (h : Heap) (R : Value → Heap → Prop) : Prop :=
  ifb ((decide (n0 < 0)) || (decide (300 < n0))) (
    R (.tuple #[Value.pointer none, Value.int .i64 14]) h) (
    new 54 #[Value.int .i64 n0, Value.slice (⟨none, 0, 0⟩ : Sv).a (⟨none, 0, 0⟩ : Sv).n (⟨none, 0, 0⟩ : Sv).c] h fun p16 h1 =>
    ∃ (I : Int → Heap → Prop) (m : Int → Heap → Nat), I 0 h1 ∧ ∀ x19 h2, I x19 h2 →
    ifb (decide (x19 < (IntKind.i64.wrap (n0 + 1)))) (
      mkS 4 (Value.bool false).cells 1 1 (IntKind.i64.wrap (n0 + 1)) (IntKind.i64.wrap (n0 + 1)) h2 fun s24 h3 =>
      ixS s24 x19 fun q27 =>
      sto h3 (q27.add ((x19 : Int).toNat * 1)) (Value.bool true) fun h4 =>
      ∃ (I_1 : Int → Heap → Prop) (m_1 : Int → Heap → Nat), I_1 0 h4 ∧ ∀ x30 h5, I_1 x30 h5 →
      ifb (decide (x30 < ((s24.n : Nat) : Int))) (
        ixS s24 x30 fun q37 =>
        ldB h5 (q37.add ((x30 : Int).toNat * 1)) fun x38 =>
        ixS s24 x30 fun q43 =>
        sto h5 (q43.add ((x30 : Int).toNat * 1)) (Value.bool (x38 || (x19 == 0))) fun h6 =>
        I_1 (IntKind.i64.wrap (x30 + 1)) h6 ∧ m_1 (IntKind.i64.wrap (x30 + 1)) h6 < m_1 x30 h5) (
        ldS h5 (p16.add 1) fun x49 =>
        newS 51 #[Value.slice s24.a s24.n s24.c] 1 h5 fun s51 h7 =>
        appS 51 (Value.slice (⟨none, 0, 0⟩ : Sv).a (⟨none, 0, 0⟩ : Sv).n (⟨none, 0, 0⟩ : Sv).c).cells 1 24 h7 x49 s51 fun s52 h8 =>
        sto h8 (p16.add 1) (Value.slice s52.a s52.n s52.c) fun h9 =>
        I (IntKind.i64.wrap (x19 + 1)) h9 ∧ m (IntKind.i64.wrap (x19 + 1)) h9 < m x19 h2)) (
      R (.tuple #[Value.pointer (some p16), Value.int .i64 0]) h2))

set_option maxRecDepth 100000 in

theorem F22 {n0 h : _} {R : Value → Heap → Prop} (H : L22 n0 h R) : CallsH Try.prog 22 #[Value.int .i64 n0] h R := by
  refine CallsH.enter (n := 57) Try.func22 rfl rfl rfl rfl ?_
  intro w0 aa ww S
  unfold L22 at H
  refine W.seq ?_
  replace S := S.sub [(0, Value.int .i64 n0)] ⟨rfl, trivial⟩
  refine W.region ?_
  refine OL.pure S (Lf.run_assign (S.ev rfl)) rfl rfl trivial ?_
  clear S; intro aa S
  refine OL.pure S (Lf.run_assign (S.ev rfl)) rfl rfl trivial ?_
  clear S; intro aa S
  refine OL.nil ?_
  refine W.seq ?_
  refine W.seq ?_
  replace S := S.sub [(0, Value.int .i64 n0)] ⟨rfl, trivial⟩
  refine W.region ?_
  refine OL.pure S (Lf.run_move (S.ev rfl)) rfl rfl trivial ?_
  clear S; intro aa S
  refine OL.pure S (Lf.run_lss (S.ev rfl) (S.ev rfl)) rfl rfl trivial ?_
  clear S; intro aa S
  refine OL.pure S (Lf.run_move (S.ev rfl)) rfl rfl trivial ?_
  clear S; intro aa S
  refine OL.cutN 3 (fun aa ww => St 57 ((13, Value.bool ((decide (n0 < 0)) || (decide (300 < n0)))) :: [(0, Value.int .i64 n0), (8, Value.int .i64 n0), (9, Value.bool (decide (n0 < 0))), (10, Value.bool (decide (n0 < 0)))]) h w0 aa ww) ?_ ?_
  · rcases Bool.eq_false_or_eq_true (decide (n0 < 0)) with hb | hb
    · refine OL.not S rfl rfl (GNo.mk rfl rfl hb) ?_
      clear S; intro aa S
      refine OL.not S rfl rfl (GNo.mk rfl rfl hb) ?_
      clear S; intro aa S
      refine OL.pure S (Lf.run_pickT (S.ev rfl) hb (S.ev rfl)) rfl rfl trivial ?_
      clear S; intro aa S
      refine OL.nil ?_
      exact (S.hd (by rw [hb, Bool.true_or])).sub _ ⟨rfl, rfl, rfl, rfl, rfl, trivial⟩
    · refine OL.pure S (Lf.run_move (S.ev rfl)) rfl rfl (GOk.mk rfl rfl hb) ?_
      clear S; intro aa S
      refine OL.pure S (Lf.run_gtr (S.ev rfl) (S.ev rfl)) rfl rfl (GOk.mk rfl rfl hb) ?_
      clear S; intro aa S
      refine OL.pure S (Lf.run_pickF (S.ev rfl) hb (S.ev rfl)) rfl rfl trivial ?_
      clear S; intro aa S
      refine OL.nil ?_
      exact (S.hd (by rw [hb, Bool.false_or])).sub _ ⟨rfl, rfl, rfl, rfl, rfl, trivial⟩
  · clear S aa
    intro aa ww S
    refine OL.nil ?_
    refine W.cond S (b := ((decide (n0 < 0)) || (decide (300 < n0)))) rfl (fun hb_1 => ?_) (fun hb_1 => ?_)
    · replace H := H.1 hb_1
      refine W.seq ?_
      replace S := S.sub [] trivial
      refine W.region ?_
      refine OL.pure S (Lf.run_assign (S.ev rfl)) rfl rfl trivial ?_
      clear S; intro aa S
      refine OL.pure S (Lf.run_assign (S.ev rfl)) rfl rfl trivial ?_
      clear S; intro aa S
      refine OL.nil ?_
      refine W.ret ?_
      exact Ret.two S rfl rfl rfl H
    · replace H := H.2 hb_1
      refine W.skip ?_
      refine W.seq ?_
      replace S := S.sub [(0, Value.int .i64 n0)] ⟨rfl, trivial⟩
      refine W.region ?_
      refine OL.pure S (Lf.run_move (S.ev rfl)) rfl rfl trivial ?_
      clear S; intro aa S
      refine OL.pure S (Lf.run_build (cs := #[Value.int .i64 n0, Value.slice (⟨none, 0, 0⟩ : Sv).a (⟨none, 0, 0⟩ : Sv).n (⟨none, 0, 0⟩ : Sv).c]) pl54 ti54 (parts_map S rfl) (by kernel_rfl)) rfl rfl trivial ?_
      clear S; intro aa S
      refine ol_box S H rfl rfl rfl trivial ?_
      clear S H aa; intro p16 aa ww h1 H S
      refine OL.pure S (Lf.run_assign (S.ev rfl)) rfl rfl trivial ?_
      clear S; intro aa S
      refine OL.nil ?_
      refine W.seq ?_
      refine W.seq ?_
      replace S := S.sub [(0, Value.int .i64 n0), (4, Value.pointer (some p16))] ⟨rfl, rfl, trivial⟩
      refine W.region ?_
      refine OL.pure S (Lf.run_move (S.ev rfl)) rfl rfl trivial ?_
      clear S; intro aa S
      refine OL.pure S (Lf.run_add (S.ev rfl) (S.ev rfl)) rfl rfl trivial ?_
      clear S; intro aa S
      refine OL.pure S (Lf.run_move (S.ev rfl)) rfl rfl trivial ?_
      clear S; intro aa S
      refine OL.nil ?_
      refine W.block ?_
      obtain ⟨I, m, H, HB_1⟩ := H
      refine W.loopS (σ := Int × Heap) (fun s aa ww => St 57 [(0, Value.int .i64 n0), (4, Value.pointer (some p16)), (18, Value.int .i64 (IntKind.i64.wrap (n0 + 1))), (19, Value.int .i64 s.1)] s.2 w0 aa ww ∧ I s.1 s.2) (fun s => m s.1 s.2) (0, h1) ⟨S.sub _ ⟨rfl, rfl, rfl, rfl, trivial⟩, H⟩ ?_
      clear H S aa
      rintro ⟨x19, h2⟩ aa ww ⟨S, HI⟩
      replace S : St 57 [(0, Value.int .i64 n0), (4, Value.pointer (some p16)), (18, Value.int .i64 (IntKind.i64.wrap (n0 + 1))), (19, Value.int .i64 x19)] h2 w0 aa ww := S
      have H := HB_1 x19 h2 HI
      clear HI
      refine W.seq ?_
      replace S := S.sub [(0, Value.int .i64 n0), (4, Value.pointer (some p16)), (18, Value.int .i64 (IntKind.i64.wrap (n0 + 1))), (19, Value.int .i64 x19)] ⟨rfl, rfl, rfl, rfl, trivial⟩
      refine W.region ?_
      refine OL.pure S (Lf.run_lss (S.ev rfl) (S.ev rfl)) rfl rfl trivial ?_
      clear S; intro aa S
      refine OL.nil ?_
      refine W.seq ?_
      refine W.cond S (b := (decide (x19 < (IntKind.i64.wrap (n0 + 1))))) rfl (fun hb_2 => ?_) (fun hb_2 => ?_)
      · replace H := H.1 hb_2
        refine W.skip ?_
        refine W.seq ?_
        refine W.block ?_
        refine W.seq ?_
        replace S := S.sub [(0, Value.int .i64 n0), (4, Value.pointer (some p16)), (18, Value.int .i64 (IntKind.i64.wrap (n0 + 1))), (19, Value.int .i64 x19)] ⟨rfl, rfl, rfl, rfl, trivial⟩
        refine W.region ?_
        refine OL.pure S (Lf.run_move (S.ev rfl)) rfl rfl trivial ?_
        clear S; intro aa S
        refine OL.pure S (Lf.run_assign (S.ev rfl)) rfl rfl trivial ?_
        clear S; intro aa S
        refine OL.nil ?_
        refine W.seq ?_
        replace S := S.sub [(0, Value.int .i64 n0), (4, Value.pointer (some p16)), (5, Value.int .i64 x19), (18, Value.int .i64 (IntKind.i64.wrap (n0 + 1))), (19, Value.int .i64 x19)] ⟨rfl, rfl, rfl, rfl, rfl, trivial⟩
        refine W.region ?_
        refine OL.pure S (Lf.run_move (S.ev rfl)) rfl rfl trivial ?_
        clear S; intro aa S
        refine OL.pure S (Lf.run_add (S.ev rfl) (S.ev rfl)) rfl rfl trivial ?_
        clear S; intro aa S
        refine ol_mkS S H Try.underlying51 ti4 rfl rfl rfl trivial ?_
        clear S H aa; intro s24 aa ww h3 H S
        refine OL.pure S (Lf.run_assign (S.ev rfl)) rfl rfl trivial ?_
        clear S; intro aa S
        refine OL.nil ?_
        refine W.seq ?_
        replace S := S.sub [(0, Value.int .i64 n0), (4, Value.pointer (some p16)), (5, Value.int .i64 x19), (6, Value.slice s24.a s24.n s24.c), (18, Value.int .i64 (IntKind.i64.wrap (n0 + 1))), (19, Value.int .i64 x19)] ⟨rfl, rfl, rfl, rfl, rfl, rfl, trivial⟩
        refine W.region ?_
        refine OL.pure S (Lf.run_move (S.ev rfl)) rfl rfl trivial ?_
        clear S; intro aa S
        refine OL.pure S (Lf.run_move (S.ev rfl)) rfl rfl trivial ?_
        clear S; intro aa S
        obtain ⟨q27, e, e_1, e_2, H⟩ := H
        refine OL.pure S (Lf.run_ixs (S.ev rfl) (S.ev rfl) Try.underlying51 ti4 e e_1 e_2) rfl rfl trivial ?_
        clear S; intro aa S
        refine ol_sto S H rfl rfl rfl ti4 trivial ?_
        clear S H aa; intro aa ww h4 H S
        refine OL.nil ?_
        refine W.seq ?_
        refine W.seq ?_
        replace S := S.sub [(0, Value.int .i64 n0), (4, Value.pointer (some p16)), (5, Value.int .i64 x19), (6, Value.slice s24.a s24.n s24.c), (18, Value.int .i64 (IntKind.i64.wrap (n0 + 1))), (19, Value.int .i64 x19)] ⟨rfl, rfl, rfl, rfl, rfl, rfl, trivial⟩
        refine W.region ?_
        refine OL.pure S (Lf.run_move (S.ev rfl)) rfl rfl trivial ?_
        clear S; intro aa S
        refine OL.pure S (Lf.run_lens (S.ev rfl) rfl Try.underlying51) rfl rfl trivial ?_
        clear S; intro aa S
        refine OL.pure S (Lf.run_move (S.ev rfl)) rfl rfl trivial ?_
        clear S; intro aa S
        refine OL.nil ?_
        refine W.block ?_
        obtain ⟨I_1, m_1, H, HB⟩ := H
        refine W.loopS (σ := Int × Heap) (fun s aa ww => St 57 [(0, Value.int .i64 n0), (4, Value.pointer (some p16)), (5, Value.int .i64 x19), (6, Value.slice s24.a s24.n s24.c), (18, Value.int .i64 (IntKind.i64.wrap (n0 + 1))), (19, Value.int .i64 x19), (29, Value.int .i64 ((s24.n : Nat) : Int)), (30, Value.int .i64 s.1)] s.2 w0 aa ww ∧ I_1 s.1 s.2) (fun s => m_1 s.1 s.2) (0, h4) ⟨S.sub _ ⟨rfl, rfl, rfl, rfl, rfl, rfl, rfl, rfl, trivial⟩, H⟩ ?_
        clear H S aa
        rintro ⟨x30, h5⟩ aa ww ⟨S, HI⟩
        replace S : St 57 [(0, Value.int .i64 n0), (4, Value.pointer (some p16)), (5, Value.int .i64 x19), (6, Value.slice s24.a s24.n s24.c), (18, Value.int .i64 (IntKind.i64.wrap (n0 + 1))), (19, Value.int .i64 x19), (29, Value.int .i64 ((s24.n : Nat) : Int)), (30, Value.int .i64 x30)] h5 w0 aa ww := S
        have H := HB x30 h5 HI
        clear HI
        refine W.seq ?_
        replace S := S.sub [(0, Value.int .i64 n0), (4, Value.pointer (some p16)), (5, Value.int .i64 x19), (6, Value.slice s24.a s24.n s24.c), (18, Value.int .i64 (IntKind.i64.wrap (n0 + 1))), (19, Value.int .i64 x19), (29, Value.int .i64 ((s24.n : Nat) : Int)), (30, Value.int .i64 x30)] ⟨rfl, rfl, rfl, rfl, rfl, rfl, rfl, rfl, trivial⟩
        refine W.region ?_
        refine OL.pure S (Lf.run_lss (S.ev rfl) (S.ev rfl)) rfl rfl trivial ?_
        clear S; intro aa S
        refine OL.nil ?_
        refine W.seq ?_
        refine W.cond S (b := (decide (x30 < ((s24.n : Nat) : Int)))) rfl (fun hb_3 => ?_) (fun hb_3 => ?_)
        · replace H := H.1 hb_3
          refine W.skip ?_
          refine W.seq ?_
          refine W.block ?_
          refine W.seq ?_
          replace S := S.sub [(0, Value.int .i64 n0), (4, Value.pointer (some p16)), (5, Value.int .i64 x19), (6, Value.slice s24.a s24.n s24.c), (18, Value.int .i64 (IntKind.i64.wrap (n0 + 1))), (19, Value.int .i64 x19), (29, Value.int .i64 ((s24.n : Nat) : Int)), (30, Value.int .i64 x30)] ⟨rfl, rfl, rfl, rfl, rfl, rfl, rfl, rfl, trivial⟩
          refine W.region ?_
          refine OL.pure S (Lf.run_move (S.ev rfl)) rfl rfl trivial ?_
          clear S; intro aa S
          refine OL.pure S (Lf.run_assign (S.ev rfl)) rfl rfl trivial ?_
          clear S; intro aa S
          refine OL.nil ?_
          replace S := S.sub [(0, Value.int .i64 n0), (4, Value.pointer (some p16)), (5, Value.int .i64 x19), (6, Value.slice s24.a s24.n s24.c), (7, Value.int .i64 x30), (18, Value.int .i64 (IntKind.i64.wrap (n0 + 1))), (19, Value.int .i64 x19), (29, Value.int .i64 ((s24.n : Nat) : Int)), (30, Value.int .i64 x30)] ⟨rfl, rfl, rfl, rfl, rfl, rfl, rfl, rfl, rfl, trivial⟩
          refine W.region ?_
          refine OL.pure S (Lf.run_move (S.ev rfl)) rfl rfl trivial ?_
          clear S; intro aa S
          refine OL.pure S (Lf.run_move (S.ev rfl)) rfl rfl trivial ?_
          clear S; intro aa S
          refine OL.pure S (Lf.run_move (S.ev rfl)) rfl rfl trivial ?_
          clear S; intro aa S
          refine OL.pure S (Lf.run_move (S.ev rfl)) rfl rfl trivial ?_
          clear S; intro aa S
          obtain ⟨q37, e_3, e_4, e_5, H⟩ := H
          refine OL.pure S (Lf.run_ixs (S.ev rfl) (S.ev rfl) Try.underlying51 ti4 e_3 e_4 e_5) rfl rfl trivial ?_
          clear S; intro aa S
          obtain ⟨x38, c, H⟩ := H
          refine OL.pure S (Lf.run_ld (S.ev rfl) fl4 (S.cl c)) rfl rfl trivial ?_
          clear S; intro aa S
          refine OL.pure S (Lf.run_move (S.ev rfl)) rfl rfl trivial ?_
          clear S; intro aa S
          refine OL.cutN 3 (fun aa ww => St 57 ((42, Value.bool (x38 || (x19 == 0))) :: [(0, Value.int .i64 n0), (4, Value.pointer (some p16)), (5, Value.int .i64 x19), (6, Value.slice s24.a s24.n s24.c), (7, Value.int .i64 x30), (18, Value.int .i64 (IntKind.i64.wrap (n0 + 1))), (19, Value.int .i64 x19), (29, Value.int .i64 ((s24.n : Nat) : Int)), (30, Value.int .i64 x30), (33, Value.slice s24.a s24.n s24.c), (34, Value.int .i64 x30), (35, Value.slice s24.a s24.n s24.c), (36, Value.int .i64 x30), (37, Value.pointer (some (q37.add ((x30 : Int).toNat * 1)))), (38, Value.bool x38), (39, Value.bool x38)]) h5 w0 aa ww) ?_ ?_
          · rcases Bool.eq_false_or_eq_true x38 with hb_4 | hb_4
            · refine OL.not S rfl rfl (GNo.mk rfl rfl hb_4) ?_
              clear S; intro aa S
              refine OL.not S rfl rfl (GNo.mk rfl rfl hb_4) ?_
              clear S; intro aa S
              refine OL.pure S (Lf.run_pickT (S.ev rfl) hb_4 (S.ev rfl)) rfl rfl trivial ?_
              clear S; intro aa S
              refine OL.nil ?_
              exact (S.hd (by rw [hb_4, Bool.true_or])).sub _ ⟨rfl, rfl, rfl, rfl, rfl, rfl, rfl, rfl, rfl, rfl, rfl, rfl, rfl, rfl, rfl, rfl, rfl, trivial⟩
            · refine OL.pure S (Lf.run_move (S.ev rfl)) rfl rfl (GOk.mk rfl rfl hb_4) ?_
              clear S; intro aa S
              refine OL.pure S (Lf.run_eql (S.ev rfl) (S.ev rfl)) rfl rfl (GOk.mk rfl rfl hb_4) ?_
              clear S; intro aa S
              refine OL.pure S (Lf.run_pickF (S.ev rfl) hb_4 (S.ev rfl)) rfl rfl trivial ?_
              clear S; intro aa S
              refine OL.nil ?_
              exact (S.hd (by rw [hb_4, Bool.false_or])).sub _ ⟨rfl, rfl, rfl, rfl, rfl, rfl, rfl, rfl, rfl, rfl, rfl, rfl, rfl, rfl, rfl, rfl, rfl, trivial⟩
          · clear S aa
            intro aa ww S
            obtain ⟨q43, e_6, e_7, e_8, H⟩ := H
            refine OL.pure S (Lf.run_ixs (S.ev rfl) (S.ev rfl) Try.underlying51 ti4 e_6 e_7 e_8) rfl rfl trivial ?_
            clear S; intro aa S
            refine ol_sto S H rfl rfl rfl ti4 trivial ?_
            clear S H aa; intro aa ww h6 H S
            refine OL.nil ?_
            replace S := S.sub [(0, Value.int .i64 n0), (4, Value.pointer (some p16)), (5, Value.int .i64 x19), (6, Value.slice s24.a s24.n s24.c), (18, Value.int .i64 (IntKind.i64.wrap (n0 + 1))), (19, Value.int .i64 x19), (29, Value.int .i64 ((s24.n : Nat) : Int)), (30, Value.int .i64 x30)] ⟨rfl, rfl, rfl, rfl, rfl, rfl, rfl, rfl, trivial⟩
            refine W.region ?_
            refine OL.pure S (Lf.run_add (S.ev rfl) (S.ev rfl)) rfl rfl trivial ?_
            clear S; intro aa S
            refine OL.pure S (Lf.run_move (S.ev rfl)) rfl rfl trivial ?_
            clear S; intro aa S
            refine OL.nil ?_
            exact ⟨((IntKind.i64.wrap (x30 + 1)), h6), ⟨S.sub _ ⟨rfl, rfl, rfl, rfl, rfl, rfl, rfl, rfl, trivial⟩, H.1⟩, H.2⟩
        · replace H := H.2 hb_3
          refine W.exit_ ?_
          refine xhit ?_
          replace S := S.sub [(0, Value.int .i64 n0), (4, Value.pointer (some p16)), (6, Value.slice s24.a s24.n s24.c), (18, Value.int .i64 (IntKind.i64.wrap (n0 + 1))), (19, Value.int .i64 x19)] ⟨rfl, rfl, rfl, rfl, rfl, trivial⟩
          refine W.region ?_
          refine OL.pure S (Lf.run_move (S.ev rfl)) rfl rfl trivial ?_
          clear S; intro aa S
          refine OL.pure S (Lf.run_move (S.ev rfl)) rfl rfl trivial ?_
          clear S; intro aa S
          refine OL.pure S (Lf.run_nc (S.ev rfl)) rfl rfl trivial ?_
          clear S; intro aa S
          refine OL.pure S (Lf.run_fa (S.ev rfl) fa54_1) rfl rfl trivial ?_
          clear S; intro aa S
          obtain ⟨x49, c_1, H⟩ := H
          refine OL.pure S (Lf.run_ld (S.ev rfl) fl52 (S.cl c_1)) rfl rfl trivial ?_
          clear S; intro aa S
          refine OL.pure S (Lf.run_move (S.ev rfl)) rfl rfl trivial ?_
          clear S; intro aa S
          refine ol_newS S H Try.underlying52 ti51 (by decide) (parts_map S rfl) (by kernel_rfl) (by decide) rfl trivial ?_
          clear S H aa; intro s51 aa ww h7 H S
          refine ol_appS S H Try.underlying52 ti51 rfl rfl rfl trivial ?_
          clear S H aa; intro s52 aa ww h8 H S
          refine OL.pure S (Lf.run_nc (S.ev rfl)) rfl rfl trivial ?_
          clear S; intro aa S
          refine OL.pure S (Lf.run_fa (S.ev rfl) fa54_1) rfl rfl trivial ?_
          clear S; intro aa S
          refine ol_sto S H rfl rfl rfl ti52 trivial ?_
          clear S H aa; intro aa ww h9 H S
          refine OL.nil ?_
          replace S := S.sub [(0, Value.int .i64 n0), (4, Value.pointer (some p16)), (18, Value.int .i64 (IntKind.i64.wrap (n0 + 1))), (19, Value.int .i64 x19)] ⟨rfl, rfl, rfl, rfl, trivial⟩
          refine W.region ?_
          refine OL.pure S (Lf.run_add (S.ev rfl) (S.ev rfl)) rfl rfl trivial ?_
          clear S; intro aa S
          refine OL.pure S (Lf.run_move (S.ev rfl)) rfl rfl trivial ?_
          clear S; intro aa S
          refine OL.nil ?_
          exact ⟨((IntKind.i64.wrap (x19 + 1)), h9), ⟨S.sub _ ⟨rfl, rfl, rfl, rfl, trivial⟩, H.1⟩, H.2⟩
      · replace H := H.2 hb_2
        refine W.exit_ ?_
        refine xhit ?_
        refine W.seq ?_
        replace S := S.sub [(4, Value.pointer (some p16))] ⟨rfl, trivial⟩
        refine W.region ?_
        refine OL.pure S (Lf.run_move (S.ev rfl)) rfl rfl trivial ?_
        clear S; intro aa S
        refine OL.pure S (Lf.run_assign (S.ev rfl)) rfl rfl trivial ?_
        clear S; intro aa S
        refine OL.pure S (Lf.run_assign (S.ev rfl)) rfl rfl trivial ?_
        clear S; intro aa S
        refine OL.nil ?_
        refine W.ret ?_
        exact Ret.two S rfl rfl rfl H

/-- chattel chattellaw06.outlived -/
def L9  (h : Heap) (R : Value → Heap → Prop) : Prop :=
  cal Try.prog 22 #[Value.int .i64 3] h fun u h1 => asTup u fun r4 =>
  elt r4 0 fun u_1 => asP u_1 fun x5 =>
  elt r4 1 fun u_2 => asI .i64 u_2 fun x6 =>
  ifb ((Option.isNone x5) || (x6 != 0)) (
    R (Value.bool false) h1) (
    cal Try.prog 14 #[Value.pointer x5, Value.int .i64 1, Value.int .i64 2] h1 fun u_3 h2 => asI .i64 u_3 fun x14 =>
    ∃ J : Bool → Heap → Prop, (andj (x14 == 0) (fun k =>
      cal Try.prog 14 #[Value.pointer x5, Value.int .i64 2, Value.int .i64 3] h2 fun u_4 h4 => asI .i64 u_4 fun x18 =>
      k (x18 == 0) h4) h2 J) ∧ ∀ x20 h3, J x20 h3 →
    ∃ J_1 : Bool → Heap → Prop, (andj x20 (fun k_1 =>
      cal Try.prog 11 #[Value.pointer x5, Value.int .i64 1, Value.int .i64 3] h3 fun u_5 h6 => asB u_5 fun x23 =>
      k_1 x23 h6) h3 J_1) ∧ ∀ x24 h5, J_1 x24 h5 →
    ∃ J_2 : Bool → Heap → Prop, (andj x24 (fun k_2 =>
      cal Try.prog 11 #[Value.pointer x5, Value.int .i64 3, Value.int .i64 1] h5 fun u_6 h8 => asB u_6 fun x27 =>
      k_2 (!x27) h8) h5 J_2) ∧ ∀ x29 h7, J_2 x29 h7 →
    ∃ J_3 : Bool → Heap → Prop, (andj x29 (fun k_3 =>
      cal Try.prog 11 #[Value.pointer x5, Value.int .i64 0, Value.int .i64 3] h7 fun u_7 h10 => asB u_7 fun x32 =>
      k_3 x32 h10) h7 J_3) ∧ ∀ x33 h9, J_3 x33 h9 →
    ∃ J_4 : Bool → Heap → Prop, (andj x33 (fun k_4 =>
      cal Try.prog 16 #[Value.pointer x5] h9 fun u_8 h12 => asI .i64 u_8 fun x36 =>
      k_4 (x36 == 3) h12) h9 J_4) ∧ ∀ x38 h11, J_4 x38 h11 →
    R (Value.bool x38) h11)

set_option maxRecDepth 100000 in

theorem F9 {h : _} {R : Value → Heap → Prop} (H : L9 h R) : CallsH Try.prog 9 #[] h R := by
  refine CallsH.enter (n := 39) Try.func9 rfl rfl rfl rfl ?_
  intro w0 aa ww S
  unfold L9 at H
  refine W.seq ?_
  replace S := S.sub [] trivial
  refine W.region ?_
  refine OL.pure S (Lf.run_assign (S.ev rfl)) rfl rfl trivial ?_
  clear S; intro aa S
  refine OL.nil ?_
  refine W.seq ?_
  replace S := S.sub [] trivial
  refine W.region ?_
  refine ol_cal S H isfn22 rfl rfl trivial ?_
  clear S H aa; intro u aa ww h1 H S
  obtain ⟨r4, rfl, H⟩ := H
  refine OL.pure S (Lf.run_move (S.ev rfl)) rfl rfl trivial ?_
  clear S; intro aa S
  obtain ⟨u_1, e, x5, rfl, H⟩ := H
  refine OL.pure S (Lf.run_ex (S.ev rfl) e) rfl rfl trivial ?_
  clear S; intro aa S
  obtain ⟨u_2, e_1, x6, rfl, H⟩ := H
  refine OL.pure S (Lf.run_ex (S.ev rfl) e_1) rfl rfl trivial ?_
  clear S; intro aa S
  refine OL.pure S (Lf.run_assign (S.ev rfl)) rfl rfl trivial ?_
  clear S; intro aa S
  refine OL.pure S (Lf.run_assign (S.ev rfl)) rfl rfl trivial ?_
  clear S; intro aa S
  refine OL.nil ?_
  refine W.seq ?_
  refine W.seq ?_
  replace S := S.sub [(1, Value.pointer x5), (2, Value.int .i64 x6)] ⟨rfl, rfl, trivial⟩
  refine W.region ?_
  refine OL.pure S (Lf.run_move (S.ev rfl)) rfl rfl trivial ?_
  clear S; intro aa S
  refine OL.pure S (Lf.run_eqlpn Try.underlying24 (S.ev rfl) (S.ev rfl)) rfl rfl trivial ?_
  clear S; intro aa S
  refine OL.pure S (Lf.run_move (S.ev rfl)) rfl rfl trivial ?_
  clear S; intro aa S
  refine OL.cutN 3 (fun aa ww => St 39 ((12, Value.bool ((Option.isNone x5) || (x6 != 0))) :: [(1, Value.pointer x5), (2, Value.int .i64 x6), (7, Value.pointer x5), (8, Value.bool (Option.isNone x5)), (9, Value.bool (Option.isNone x5))]) h1 w0 aa ww) ?_ ?_
  · rcases Bool.eq_false_or_eq_true (Option.isNone x5) with hb | hb
    · refine OL.not S rfl rfl (GNo.mk rfl rfl hb) ?_
      clear S; intro aa S
      refine OL.not S rfl rfl (GNo.mk rfl rfl hb) ?_
      clear S; intro aa S
      refine OL.pure S (Lf.run_pickT (S.ev rfl) hb (S.ev rfl)) rfl rfl trivial ?_
      clear S; intro aa S
      refine OL.nil ?_
      exact (S.hd (by rw [hb, Bool.true_or])).sub _ ⟨rfl, rfl, rfl, rfl, rfl, rfl, trivial⟩
    · refine OL.pure S (Lf.run_move (S.ev rfl)) rfl rfl (GOk.mk rfl rfl hb) ?_
      clear S; intro aa S
      refine OL.pure S (Lf.run_neq (S.ev rfl) (S.ev rfl)) rfl rfl (GOk.mk rfl rfl hb) ?_
      clear S; intro aa S
      refine OL.pure S (Lf.run_pickF (S.ev rfl) hb (S.ev rfl)) rfl rfl trivial ?_
      clear S; intro aa S
      refine OL.nil ?_
      exact (S.hd (by rw [hb, Bool.false_or])).sub _ ⟨rfl, rfl, rfl, rfl, rfl, rfl, trivial⟩
  · clear S aa
    intro aa ww S
    refine OL.nil ?_
    refine W.cond S (b := ((Option.isNone x5) || (x6 != 0))) rfl (fun hb_1 => ?_) (fun hb_1 => ?_)
    · replace H := H.1 hb_1
      refine W.seq ?_
      replace S := S.sub [] trivial
      refine W.region ?_
      refine OL.pure S (Lf.run_assign (S.ev rfl)) rfl rfl trivial ?_
      clear S; intro aa S
      refine OL.nil ?_
      refine W.ret ?_
      exact Ret.one S rfl rfl H
    · replace H := H.2 hb_1
      refine W.skip ?_
      refine W.seq ?_
      replace S := S.sub [(1, Value.pointer x5)] ⟨rfl, trivial⟩
      refine W.region ?_
      refine OL.pure S (Lf.run_move (S.ev rfl)) rfl rfl trivial ?_
      clear S; intro aa S
      refine ol_cal S H isfn14 rfl rfl trivial ?_
      clear S H aa; intro u_3 aa ww h2 H S
      obtain ⟨x14, rfl, H⟩ := H
      refine OL.pure S (Lf.run_eql (S.ev rfl) (S.ev rfl)) rfl rfl trivial ?_
      clear S; intro aa S
      refine OL.pure S (Lf.run_move (S.ev rfl)) rfl rfl trivial ?_
      clear S; intro aa S
      obtain ⟨J, H, HK⟩ := H
      refine OL.cutN 4 (fun aa ww => ∃ x20 h3, St 39 ((20, Value.bool x20) :: [(1, Value.pointer x5), (13, Value.pointer x5), (14, Value.int .i64 x14), (15, Value.bool (x14 == 0)), (16, Value.bool (x14 == 0))]) h3 w0 aa ww ∧ J x20 h3) ?_ ?_
      · rcases Bool.eq_false_or_eq_true (x14 == 0) with hb_2 | hb_2
        · replace H := H.1 hb_2
          refine OL.pure S (Lf.run_move (S.ev rfl)) rfl rfl (GOk.mk rfl rfl hb_2) ?_
          clear S; intro aa S
          refine ol_cal S H isfn14 rfl rfl (GOk.mk rfl rfl hb_2) ?_
          clear S H aa; intro u_4 aa ww h4 H S
          obtain ⟨x18, rfl, H⟩ := H
          refine OL.pure S (Lf.run_eql (S.ev rfl) (S.ev rfl)) rfl rfl (GOk.mk rfl rfl hb_2) ?_
          clear S; intro aa S
          refine OL.pure S (Lf.run_pickT (S.ev rfl) hb_2 (S.ev rfl)) rfl rfl trivial ?_
          clear S; intro aa S
          refine OL.nil ?_
          exact ⟨_, _, S.sub _ ⟨rfl, rfl, rfl, rfl, rfl, rfl, trivial⟩, H⟩
        · replace H := H.2 hb_2
          refine OL.not S rfl rfl (GNo.mk rfl rfl hb_2) ?_
          clear S; intro aa S
          refine OL.not S rfl rfl (GNo.mk rfl rfl hb_2) ?_
          clear S; intro aa S
          refine OL.not S rfl rfl (GNo.mk rfl rfl hb_2) ?_
          clear S; intro aa S
          refine OL.pure S (Lf.run_pickF (S.ev rfl) hb_2 (S.ev rfl)) rfl rfl trivial ?_
          clear S; intro aa S
          refine OL.nil ?_
          exact ⟨_, _, S.sub _ ⟨rfl, rfl, rfl, rfl, rfl, rfl, trivial⟩, H⟩
      · clear S aa
        rintro aa ww ⟨x20, h3, S, HJ⟩
        replace H := HK _ _ HJ
        clear HK HJ
        refine OL.pure S (Lf.run_move (S.ev rfl)) rfl rfl trivial ?_
        clear S; intro aa S
        obtain ⟨J_1, H, HK_1⟩ := H
        refine OL.cutN 3 (fun aa ww => ∃ x24 h5, St 39 ((24, Value.bool x24) :: [(1, Value.pointer x5), (13, Value.pointer x5), (14, Value.int .i64 x14), (15, Value.bool (x14 == 0)), (16, Value.bool (x14 == 0)), (20, Value.bool x20), (21, Value.bool x20)]) h5 w0 aa ww ∧ J_1 x24 h5) ?_ ?_
        · rcases Bool.eq_false_or_eq_true x20 with hb_3 | hb_3
          · replace H := H.1 hb_3
            refine OL.pure S (Lf.run_move (S.ev rfl)) rfl rfl (GOk.mk rfl rfl hb_3) ?_
            clear S; intro aa S
            refine ol_cal S H isfn11 rfl rfl (GOk.mk rfl rfl hb_3) ?_
            clear S H aa; intro u_5 aa ww h6 H S
            obtain ⟨x23, rfl, H⟩ := H
            refine OL.pure S (Lf.run_pickT (S.ev rfl) hb_3 (S.ev rfl)) rfl rfl trivial ?_
            clear S; intro aa S
            refine OL.nil ?_
            exact ⟨_, _, S.sub _ ⟨rfl, rfl, rfl, rfl, rfl, rfl, rfl, rfl, trivial⟩, H⟩
          · replace H := H.2 hb_3
            refine OL.not S rfl rfl (GNo.mk rfl rfl hb_3) ?_
            clear S; intro aa S
            refine OL.not S rfl rfl (GNo.mk rfl rfl hb_3) ?_
            clear S; intro aa S
            refine OL.pure S (Lf.run_pickF (S.ev rfl) hb_3 (S.ev rfl)) rfl rfl trivial ?_
            clear S; intro aa S
            refine OL.nil ?_
            exact ⟨_, _, S.sub _ ⟨rfl, rfl, rfl, rfl, rfl, rfl, rfl, rfl, trivial⟩, H⟩
        · clear S aa
          rintro aa ww ⟨x24, h5, S, HJ⟩
          replace H := HK_1 _ _ HJ
          clear HK_1 HJ
          refine OL.pure S (Lf.run_move (S.ev rfl)) rfl rfl trivial ?_
          clear S; intro aa S
          obtain ⟨J_2, H, HK_2⟩ := H
          refine OL.cutN 4 (fun aa ww => ∃ x29 h7, St 39 ((29, Value.bool x29) :: [(1, Value.pointer x5), (13, Value.pointer x5), (14, Value.int .i64 x14), (15, Value.bool (x14 == 0)), (16, Value.bool (x14 == 0)), (20, Value.bool x20), (21, Value.bool x20), (24, Value.bool x24), (25, Value.bool x24)]) h7 w0 aa ww ∧ J_2 x29 h7) ?_ ?_
          · rcases Bool.eq_false_or_eq_true x24 with hb_4 | hb_4
            · replace H := H.1 hb_4
              refine OL.pure S (Lf.run_move (S.ev rfl)) rfl rfl (GOk.mk rfl rfl hb_4) ?_
              clear S; intro aa S
              refine ol_cal S H isfn11 rfl rfl (GOk.mk rfl rfl hb_4) ?_
              clear S H aa; intro u_6 aa ww h8 H S
              obtain ⟨x27, rfl, H⟩ := H
              refine OL.pure S (Lf.run_not (S.ev rfl)) rfl rfl (GOk.mk rfl rfl hb_4) ?_
              clear S; intro aa S
              refine OL.pure S (Lf.run_pickT (S.ev rfl) hb_4 (S.ev rfl)) rfl rfl trivial ?_
              clear S; intro aa S
              refine OL.nil ?_
              exact ⟨_, _, S.sub _ ⟨rfl, rfl, rfl, rfl, rfl, rfl, rfl, rfl, rfl, rfl, trivial⟩, H⟩
            · replace H := H.2 hb_4
              refine OL.not S rfl rfl (GNo.mk rfl rfl hb_4) ?_
              clear S; intro aa S
              refine OL.not S rfl rfl (GNo.mk rfl rfl hb_4) ?_
              clear S; intro aa S
              refine OL.not S rfl rfl (GNo.mk rfl rfl hb_4) ?_
              clear S; intro aa S
              refine OL.pure S (Lf.run_pickF (S.ev rfl) hb_4 (S.ev rfl)) rfl rfl trivial ?_
              clear S; intro aa S
              refine OL.nil ?_
              exact ⟨_, _, S.sub _ ⟨rfl, rfl, rfl, rfl, rfl, rfl, rfl, rfl, rfl, rfl, trivial⟩, H⟩
          · clear S aa
            rintro aa ww ⟨x29, h7, S, HJ⟩
            replace H := HK_2 _ _ HJ
            clear HK_2 HJ
            refine OL.pure S (Lf.run_move (S.ev rfl)) rfl rfl trivial ?_
            clear S; intro aa S
            obtain ⟨J_3, H, HK_3⟩ := H
            refine OL.cutN 3 (fun aa ww => ∃ x33 h9, St 39 ((33, Value.bool x33) :: [(1, Value.pointer x5), (13, Value.pointer x5), (14, Value.int .i64 x14), (15, Value.bool (x14 == 0)), (16, Value.bool (x14 == 0)), (20, Value.bool x20), (21, Value.bool x20), (24, Value.bool x24), (25, Value.bool x24), (29, Value.bool x29), (30, Value.bool x29)]) h9 w0 aa ww ∧ J_3 x33 h9) ?_ ?_
            · rcases Bool.eq_false_or_eq_true x29 with hb_5 | hb_5
              · replace H := H.1 hb_5
                refine OL.pure S (Lf.run_move (S.ev rfl)) rfl rfl (GOk.mk rfl rfl hb_5) ?_
                clear S; intro aa S
                refine ol_cal S H isfn11 rfl rfl (GOk.mk rfl rfl hb_5) ?_
                clear S H aa; intro u_7 aa ww h10 H S
                obtain ⟨x32, rfl, H⟩ := H
                refine OL.pure S (Lf.run_pickT (S.ev rfl) hb_5 (S.ev rfl)) rfl rfl trivial ?_
                clear S; intro aa S
                refine OL.nil ?_
                exact ⟨_, _, S.sub _ ⟨rfl, rfl, rfl, rfl, rfl, rfl, rfl, rfl, rfl, rfl, rfl, rfl, trivial⟩, H⟩
              · replace H := H.2 hb_5
                refine OL.not S rfl rfl (GNo.mk rfl rfl hb_5) ?_
                clear S; intro aa S
                refine OL.not S rfl rfl (GNo.mk rfl rfl hb_5) ?_
                clear S; intro aa S
                refine OL.pure S (Lf.run_pickF (S.ev rfl) hb_5 (S.ev rfl)) rfl rfl trivial ?_
                clear S; intro aa S
                refine OL.nil ?_
                exact ⟨_, _, S.sub _ ⟨rfl, rfl, rfl, rfl, rfl, rfl, rfl, rfl, rfl, rfl, rfl, rfl, trivial⟩, H⟩
            · clear S aa
              rintro aa ww ⟨x33, h9, S, HJ⟩
              replace H := HK_3 _ _ HJ
              clear HK_3 HJ
              refine OL.pure S (Lf.run_move (S.ev rfl)) rfl rfl trivial ?_
              clear S; intro aa S
              obtain ⟨J_4, H, HK_4⟩ := H
              refine OL.cutN 4 (fun aa ww => ∃ x38 h11, St 39 ((38, Value.bool x38) :: [(1, Value.pointer x5), (13, Value.pointer x5), (14, Value.int .i64 x14), (15, Value.bool (x14 == 0)), (16, Value.bool (x14 == 0)), (20, Value.bool x20), (21, Value.bool x20), (24, Value.bool x24), (25, Value.bool x24), (29, Value.bool x29), (30, Value.bool x29), (33, Value.bool x33), (34, Value.bool x33)]) h11 w0 aa ww ∧ J_4 x38 h11) ?_ ?_
              · rcases Bool.eq_false_or_eq_true x33 with hb_6 | hb_6
                · replace H := H.1 hb_6
                  refine OL.pure S (Lf.run_move (S.ev rfl)) rfl rfl (GOk.mk rfl rfl hb_6) ?_
                  clear S; intro aa S
                  refine ol_cal S H isfn16 rfl rfl (GOk.mk rfl rfl hb_6) ?_
                  clear S H aa; intro u_8 aa ww h12 H S
                  obtain ⟨x36, rfl, H⟩ := H
                  refine OL.pure S (Lf.run_eql (S.ev rfl) (S.ev rfl)) rfl rfl (GOk.mk rfl rfl hb_6) ?_
                  clear S; intro aa S
                  refine OL.pure S (Lf.run_pickT (S.ev rfl) hb_6 (S.ev rfl)) rfl rfl trivial ?_
                  clear S; intro aa S
                  refine OL.nil ?_
                  exact ⟨_, _, S.sub _ ⟨rfl, rfl, rfl, rfl, rfl, rfl, rfl, rfl, rfl, rfl, rfl, rfl, rfl, rfl, trivial⟩, H⟩
                · replace H := H.2 hb_6
                  refine OL.not S rfl rfl (GNo.mk rfl rfl hb_6) ?_
                  clear S; intro aa S
                  refine OL.not S rfl rfl (GNo.mk rfl rfl hb_6) ?_
                  clear S; intro aa S
                  refine OL.not S rfl rfl (GNo.mk rfl rfl hb_6) ?_
                  clear S; intro aa S
                  refine OL.pure S (Lf.run_pickF (S.ev rfl) hb_6 (S.ev rfl)) rfl rfl trivial ?_
                  clear S; intro aa S
                  refine OL.nil ?_
                  exact ⟨_, _, S.sub _ ⟨rfl, rfl, rfl, rfl, rfl, rfl, rfl, rfl, rfl, rfl, rfl, rfl, rfl, rfl, trivial⟩, H⟩
              · clear S aa
                rintro aa ww ⟨x38, h11, S, HJ⟩
                replace H := HK_4 _ _ HJ
                clear HK_4 HJ
                refine OL.pure S (Lf.run_assign (S.ev rfl)) rfl rfl trivial ?_
                clear S; intro aa S
                refine OL.nil ?_
                refine W.ret ?_
                exact Ret.one S rfl rfl H

/-- (*chattel life.Rel).Under -/
def L18 (r0 : Option Addr) (a1 : Int) (h : Heap) (R : Value → Heap → Prop) : Prop :=
  cal Try.prog 23 #[Value.pointer r0, Value.int .i64 a1] h fun u h1 => asB u fun x10 =>
  ifb (!x10) (
    R (Value.slice (⟨none, 0, 0⟩ : Sv).a (⟨none, 0, 0⟩ : Sv).n (⟨none, 0, 0⟩ : Sv).c) h1) (
    nn r0 fun p13 =>
    ldS h1 (p13.add 1) fun x15 =>
    ixS x15 a1 fun q17 =>
    ldS h1 (q17.add ((a1 : Int).toNat * 1)) fun x18 =>
    ∃ (I : Sv → Int → Heap → Prop) (m : Sv → Int → Heap → Nat), I (⟨none, 0, 0⟩ : Sv) 0 h1 ∧ ∀ l5 x20 h2, I l5 x20 h2 →
    ifb (decide (x20 < ((x18.n : Nat) : Int))) (
      ∃ J : Sv → Heap → Prop, (
        ixS x18 x20 fun q23 =>
        ldB h2 (q23.add ((x20 : Int).toNat * 1)) fun x24 =>
        ifb x24 (
          newS 3 #[Value.int .i64 x20] 1 h2 fun s28 h3 =>
          appS 3 (Value.int .i64 0).cells 1 8 h3 l5 s28 fun s29 h4 =>
          J s29 h4) (
          J l5 h2)) ∧ (∀ l5_1 h5, J l5_1 h5 →
      I l5_1 (IntKind.i64.wrap (x20 + 1)) h5 ∧ m l5_1 (IntKind.i64.wrap (x20 + 1)) h5 < m l5 x20 h2)) (
      R (Value.slice l5.a l5.n l5.c) h2))

set_option maxRecDepth 100000 in

theorem F18 {r0 a1 h : _} {R : Value → Heap → Prop} (H : L18 r0 a1 h R) : CallsH Try.prog 18 #[Value.pointer r0, Value.int .i64 a1] h R := by
  refine CallsH.enter (n := 32) Try.func18 rfl rfl rfl rfl ?_
  intro w0 aa ww S
  unfold L18 at H
  refine W.seq ?_
  replace S := S.sub [(0, Value.pointer r0), (1, Value.int .i64 a1)] ⟨rfl, rfl, trivial⟩
  refine W.region ?_
  refine OL.pure S (Lf.run_assign (S.ev rfl)) rfl rfl trivial ?_
  clear S; intro aa S
  refine OL.nil ?_
  refine W.seq ?_
  refine W.seq ?_
  replace S := S.sub [(0, Value.pointer r0), (1, Value.int .i64 a1)] ⟨rfl, rfl, trivial⟩
  refine W.region ?_
  refine OL.pure S (Lf.run_move (S.ev rfl)) rfl rfl trivial ?_
  clear S; intro aa S
  refine OL.pure S (Lf.run_move (S.ev rfl)) rfl rfl trivial ?_
  clear S; intro aa S
  refine ol_cal S H isfn23 rfl rfl trivial ?_
  clear S H aa; intro u aa ww h1 H S
  obtain ⟨x10, rfl, H⟩ := H
  refine OL.pure S (Lf.run_not (S.ev rfl)) rfl rfl trivial ?_
  clear S; intro aa S
  refine OL.nil ?_
  refine W.cond S (b := (!x10)) rfl (fun hb => ?_) (fun hb => ?_)
  · replace H := H.1 hb
    refine W.seq ?_
    replace S := S.sub [] trivial
    refine W.region ?_
    refine OL.pure S (Lf.run_assign (S.ev rfl)) rfl rfl trivial ?_
    clear S; intro aa S
    refine OL.nil ?_
    refine W.ret ?_
    exact Ret.one S rfl rfl H
  · replace H := H.2 hb
    refine W.skip ?_
    refine W.seq ?_
    replace S := S.sub [(0, Value.pointer r0), (1, Value.int .i64 a1)] ⟨rfl, rfl, trivial⟩
    refine W.region ?_
    refine OL.pure S (Lf.run_assign (S.ev rfl)) rfl rfl trivial ?_
    clear S; intro aa S
    refine OL.nil ?_
    refine W.seq ?_
    refine W.seq ?_
    replace S := S.sub [(0, Value.pointer r0), (1, Value.int .i64 a1), (5, Value.slice (⟨none, 0, 0⟩ : Sv).a (⟨none, 0, 0⟩ : Sv).n (⟨none, 0, 0⟩ : Sv).c)] ⟨rfl, rfl, rfl, trivial⟩
    refine W.region ?_
    refine OL.pure S (Lf.run_move (S.ev rfl)) rfl rfl trivial ?_
    clear S; intro aa S
    obtain ⟨p13, e, H⟩ := H
    refine OL.pure S (Lf.run_nc' (S.ev rfl) e) rfl rfl trivial ?_
    clear S; intro aa S
    refine OL.pure S (Lf.run_fa (S.ev rfl) fa54_1) rfl rfl trivial ?_
    clear S; intro aa S
    obtain ⟨x15, c, H⟩ := H
    refine OL.pure S (Lf.run_ld (S.ev rfl) fl52 (S.cl c)) rfl rfl trivial ?_
    clear S; intro aa S
    refine OL.pure S (Lf.run_move (S.ev rfl)) rfl rfl trivial ?_
    clear S; intro aa S
    obtain ⟨q17, e_1, e_2, e_3, H⟩ := H
    refine OL.pure S (Lf.run_ixs (S.ev rfl) (S.ev rfl) Try.underlying52 ti51 e_1 e_2 e_3) rfl rfl trivial ?_
    clear S; intro aa S
    obtain ⟨x18, c_1, H⟩ := H
    refine OL.pure S (Lf.run_ld (S.ev rfl) fl51 (S.cl c_1)) rfl rfl trivial ?_
    clear S; intro aa S
    refine OL.pure S (Lf.run_lens (S.ev rfl) rfl Try.underlying51) rfl rfl trivial ?_
    clear S; intro aa S
    refine OL.pure S (Lf.run_move (S.ev rfl)) rfl rfl trivial ?_
    clear S; intro aa S
    refine OL.nil ?_
    refine W.block ?_
    obtain ⟨I, m, H, HB⟩ := H
    refine W.loopS (σ := Sv × Int × Heap) (fun s aa ww => St 32 [(5, Value.slice s.1.a s.1.n s.1.c), (18, Value.slice x18.a x18.n x18.c), (19, Value.int .i64 ((x18.n : Nat) : Int)), (20, Value.int .i64 s.2.1)] s.2.2 w0 aa ww ∧ I s.1 s.2.1 s.2.2) (fun s => m s.1 s.2.1 s.2.2) ((⟨none, 0, 0⟩ : Sv), 0, h1) ⟨S.sub _ ⟨rfl, rfl, rfl, rfl, trivial⟩, H⟩ ?_
    clear H S aa
    rintro ⟨l5, x20, h2⟩ aa ww ⟨S, HI⟩
    replace S : St 32 [(5, Value.slice l5.a l5.n l5.c), (18, Value.slice x18.a x18.n x18.c), (19, Value.int .i64 ((x18.n : Nat) : Int)), (20, Value.int .i64 x20)] h2 w0 aa ww := S
    have H := HB l5 x20 h2 HI
    clear HI
    refine W.seq ?_
    replace S := S.sub [(5, Value.slice l5.a l5.n l5.c), (18, Value.slice x18.a x18.n x18.c), (19, Value.int .i64 ((x18.n : Nat) : Int)), (20, Value.int .i64 x20)] ⟨rfl, rfl, rfl, rfl, trivial⟩
    refine W.region ?_
    refine OL.pure S (Lf.run_lss (S.ev rfl) (S.ev rfl)) rfl rfl trivial ?_
    clear S; intro aa S
    refine OL.nil ?_
    refine W.seq ?_
    refine W.cond S (b := (decide (x20 < ((x18.n : Nat) : Int)))) rfl (fun hb_1 => ?_) (fun hb_1 => ?_)
    · replace H := H.1 hb_1
      refine W.skip ?_
      obtain ⟨J, H, HK⟩ := H
      refine W.seqJ (fun aa ww => ∃ l5_1 h5, St 32 [(5, Value.slice l5_1.a l5_1.n l5_1.c), (18, Value.slice x18.a x18.n x18.c), (19, Value.int .i64 ((x18.n : Nat) : Int)), (20, Value.int .i64 x20)] h5 w0 aa ww ∧ J l5_1 h5) ?_ ?_
      · clear HK
        refine W.block ?_
        refine W.seq ?_
        replace S := S.sub [(5, Value.slice l5.a l5.n l5.c), (18, Value.slice x18.a x18.n x18.c), (19, Value.int .i64 ((x18.n : Nat) : Int)), (20, Value.int .i64 x20)] ⟨rfl, rfl, rfl, rfl, trivial⟩
        refine W.region ?_
        refine OL.pure S (Lf.run_move (S.ev rfl)) rfl rfl trivial ?_
        clear S; intro aa S
        obtain ⟨q23, e_4, e_5, e_6, H⟩ := H
        refine OL.pure S (Lf.run_ixs (S.ev rfl) (S.ev rfl) Try.underlying51 ti4 e_4 e_5 e_6) rfl rfl trivial ?_
        clear S; intro aa S
        obtain ⟨x24, c_2, H⟩ := H
        refine OL.pure S (Lf.run_ld (S.ev rfl) fl4 (S.cl c_2)) rfl rfl trivial ?_
        clear S; intro aa S
        refine OL.pure S (Lf.run_assign (S.ev rfl)) rfl rfl trivial ?_
        clear S; intro aa S
        refine OL.pure S (Lf.run_assign (S.ev rfl)) rfl rfl trivial ?_
        clear S; intro aa S
        refine OL.nil ?_
        refine W.seq ?_
        replace S := S.sub [(5, Value.slice l5.a l5.n l5.c), (6, Value.int .i64 x20), (7, Value.bool x24), (18, Value.slice x18.a x18.n x18.c), (19, Value.int .i64 ((x18.n : Nat) : Int)), (20, Value.int .i64 x20)] ⟨rfl, rfl, rfl, rfl, rfl, rfl, trivial⟩
        refine W.region ?_
        refine OL.pure S (Lf.run_move (S.ev rfl)) rfl rfl trivial ?_
        clear S; intro aa S
        refine OL.nil ?_
        refine W.cond S (b := x24) rfl (fun hb_2 => ?_) (fun hb_2 => ?_)
        · replace H := H.1 hb_2
          replace S := S.sub [(5, Value.slice l5.a l5.n l5.c), (6, Value.int .i64 x20), (18, Value.slice x18.a x18.n x18.c), (19, Value.int .i64 ((x18.n : Nat) : Int)), (20, Value.int .i64 x20)] ⟨rfl, rfl, rfl, rfl, rfl, trivial⟩
          refine W.region ?_
          refine OL.pure S (Lf.run_move (S.ev rfl)) rfl rfl trivial ?_
          clear S; intro aa S
          refine OL.pure S (Lf.run_move (S.ev rfl)) rfl rfl trivial ?_
          clear S; intro aa S
          refine ol_newS S H Try.underlying38 ti3 (by decide) (parts_map S rfl) (by kernel_rfl) (by decide) rfl trivial ?_
          clear S H aa; intro s28 aa ww h3 H S
          refine ol_appS S H Try.underlying38 ti3 rfl rfl rfl trivial ?_
          clear S H aa; intro s29 aa ww h4 H S
          refine OL.pure S (Lf.run_assign (S.ev rfl)) rfl rfl trivial ?_
          clear S; intro aa S
          refine OL.nil ?_
          exact ⟨s29, h4, S.sub _ ⟨rfl, rfl, rfl, rfl, trivial⟩, H⟩
        · replace H := H.2 hb_2
          refine W.skip ?_
          exact ⟨l5, h2, S.sub _ ⟨rfl, rfl, rfl, rfl, trivial⟩, H⟩
      · clear H S aa
        rintro aa ww ⟨l5_1, h5, S, HJ⟩
        have H := HK _ _ HJ
        clear HK HJ
        replace S := S.sub [(5, Value.slice l5_1.a l5_1.n l5_1.c), (18, Value.slice x18.a x18.n x18.c), (19, Value.int .i64 ((x18.n : Nat) : Int)), (20, Value.int .i64 x20)] ⟨rfl, rfl, rfl, rfl, trivial⟩
        refine W.region ?_
        refine OL.pure S (Lf.run_add (S.ev rfl) (S.ev rfl)) rfl rfl trivial ?_
        clear S; intro aa S
        refine OL.pure S (Lf.run_move (S.ev rfl)) rfl rfl trivial ?_
        clear S; intro aa S
        refine OL.nil ?_
        exact ⟨(l5_1, (IntKind.i64.wrap (x20 + 1)), h5), ⟨S.sub _ ⟨rfl, rfl, rfl, rfl, trivial⟩, H.1⟩, H.2⟩
    · replace H := H.2 hb_1
      refine W.exit_ ?_
      refine xhit ?_
      refine W.seq ?_
      replace S := S.sub [(5, Value.slice l5.a l5.n l5.c)] ⟨rfl, trivial⟩
      refine W.region ?_
      refine OL.pure S (Lf.run_move (S.ev rfl)) rfl rfl trivial ?_
      clear S; intro aa S
      refine OL.pure S (Lf.run_assign (S.ev rfl)) rfl rfl trivial ?_
      clear S; intro aa S
      refine OL.nil ?_
      refine W.ret ?_
      exact Ret.one S rfl rfl H

/-- (*chattel life.Rel).Pairs -/
def L20 (r0 : Option Addr) (h : Heap) (R : Value → Heap → Prop) : Prop :=
  ∃ (I : Sv → Int → Heap → Prop) (m : Sv → Int → Heap → Nat), I (⟨none, 0, 0⟩ : Sv) 1 h ∧ ∀ l3 a4 h1, I l3 a4 h1 →
  cal Try.prog 16 #[Value.pointer r0] h1 fun u h2 => asI .i64 u fun x9 =>
  ifb (decide (a4 ≤ x9)) (
    cal Try.prog 18 #[Value.pointer r0, Value.int .i64 a4] h2 fun u_1 h3 => asS u_1 fun x15 =>
    ∃ (I_1 : Sv → Int → Heap → Prop) (m_1 : Sv → Int → Heap → Nat), I_1 l3 0 h3 ∧ ∀ l3_1 x17 h4, I_1 l3_1 x17 h4 →
    ifb (decide (x17 < ((x15.n : Nat) : Int))) (
      ∃ J : Sv → Heap → Prop, (
        ixS x15 x17 fun q19 =>
        ldI .i64 h4 (q19.add ((x17 : Int).toNat * 1)) fun x20 =>
        ifb (a4 != x20) (
          newS 33 #[Value.int .i64 a4, Value.int .i64 x20] 1 h4 fun s28 h5 =>
          appS 33 (Value.agg #[Value.int .i64 0, Value.int .i64 0]).cells 2 16 h5 l3_1 s28 fun s29 h6 =>
          J s29 h6) (
          J l3_1 h4)) ∧ (∀ l3_2 h7, J l3_2 h7 →
      I_1 l3_2 (IntKind.i64.wrap (x17 + 1)) h7 ∧ m_1 l3_2 (IntKind.i64.wrap (x17 + 1)) h7 < m_1 l3_1 x17 h4)) (
      I l3_1 (IntKind.i64.wrap (a4 + 1)) h4 ∧ m l3_1 (IntKind.i64.wrap (a4 + 1)) h4 < m l3 a4 h1)) (
    R (Value.slice l3.a l3.n l3.c) h2)

set_option maxRecDepth 100000 in

theorem F20 {r0 h : _} {R : Value → Heap → Prop} (H : L20 r0 h R) : CallsH Try.prog 20 #[Value.pointer r0] h R := by
  refine CallsH.enter (n := 32) Try.func20 rfl rfl rfl rfl ?_
  intro w0 aa ww S
  unfold L20 at H
  refine W.seq ?_
  replace S := S.sub [(0, Value.pointer r0)] ⟨rfl, trivial⟩
  refine W.region ?_
  refine OL.pure S (Lf.run_assign (S.ev rfl)) rfl rfl trivial ?_
  clear S; intro aa S
  refine OL.nil ?_
  refine W.seq ?_
  replace S := S.sub [(0, Value.pointer r0)] ⟨rfl, trivial⟩
  refine W.region ?_
  refine OL.pure S (Lf.run_assign (S.ev rfl)) rfl rfl trivial ?_
  clear S; intro aa S
  refine OL.nil ?_
  refine W.seq ?_
  refine W.seq ?_
  replace S := S.sub [(0, Value.pointer r0), (3, Value.slice (⟨none, 0, 0⟩ : Sv).a (⟨none, 0, 0⟩ : Sv).n (⟨none, 0, 0⟩ : Sv).c)] ⟨rfl, rfl, trivial⟩
  refine W.region ?_
  refine OL.pure S (Lf.run_assign (S.ev rfl)) rfl rfl trivial ?_
  clear S; intro aa S
  refine OL.nil ?_
  refine W.block ?_
  obtain ⟨I, m, H, HB_1⟩ := H
  refine W.loopS (σ := Sv × Int × Heap) (fun s aa ww => St 32 [(0, Value.pointer r0), (3, Value.slice s.1.a s.1.n s.1.c), (4, Value.int .i64 s.2.1)] s.2.2 w0 aa ww ∧ I s.1 s.2.1 s.2.2) (fun s => m s.1 s.2.1 s.2.2) ((⟨none, 0, 0⟩ : Sv), 1, h) ⟨S.sub _ ⟨rfl, rfl, rfl, trivial⟩, H⟩ ?_
  clear H S aa
  rintro ⟨l3, a4, h1⟩ aa ww ⟨S, HI⟩
  replace S : St 32 [(0, Value.pointer r0), (3, Value.slice l3.a l3.n l3.c), (4, Value.int .i64 a4)] h1 w0 aa ww := S
  have H := HB_1 l3 a4 h1 HI
  clear HI
  refine W.seq ?_
  refine W.seq ?_
  replace S := S.sub [(0, Value.pointer r0), (3, Value.slice l3.a l3.n l3.c), (4, Value.int .i64 a4)] ⟨rfl, rfl, rfl, trivial⟩
  refine W.region ?_
  refine OL.pure S (Lf.run_move (S.ev rfl)) rfl rfl trivial ?_
  clear S; intro aa S
  refine OL.pure S (Lf.run_move (S.ev rfl)) rfl rfl trivial ?_
  clear S; intro aa S
  refine ol_cal S H isfn16 rfl rfl trivial ?_
  clear S H aa; intro u aa ww h2 H S
  obtain ⟨x9, rfl, H⟩ := H
  refine OL.pure S (Lf.run_leq (S.ev rfl) (S.ev rfl)) rfl rfl trivial ?_
  clear S; intro aa S
  refine OL.nil ?_
  refine W.cond S (b := (decide (a4 ≤ x9))) rfl (fun hb => ?_) (fun hb => ?_)
  · replace H := H.1 hb
    refine W.skip ?_
    refine W.seq ?_
    refine W.block ?_
    refine W.seq ?_
    replace S := S.sub [(0, Value.pointer r0), (3, Value.slice l3.a l3.n l3.c), (4, Value.int .i64 a4)] ⟨rfl, rfl, rfl, trivial⟩
    refine W.region ?_
    refine OL.pure S (Lf.run_move (S.ev rfl)) rfl rfl trivial ?_
    clear S; intro aa S
    refine OL.pure S (Lf.run_move (S.ev rfl)) rfl rfl trivial ?_
    clear S; intro aa S
    refine ol_cal S H isfn18 rfl rfl trivial ?_
    clear S H aa; intro u_1 aa ww h3 H S
    obtain ⟨x15, rfl, H⟩ := H
    refine OL.pure S (Lf.run_lens (S.ev rfl) rfl Try.underlying38) rfl rfl trivial ?_
    clear S; intro aa S
    refine OL.pure S (Lf.run_move (S.ev rfl)) rfl rfl trivial ?_
    clear S; intro aa S
    refine OL.nil ?_
    refine W.block ?_
    obtain ⟨I_1, m_1, H, HB⟩ := H
    refine W.loopS (σ := Sv × Int × Heap) (fun s aa ww => St 32 [(0, Value.pointer r0), (3, Value.slice s.1.a s.1.n s.1.c), (4, Value.int .i64 a4), (15, Value.slice x15.a x15.n x15.c), (16, Value.int .i64 ((x15.n : Nat) : Int)), (17, Value.int .i64 s.2.1)] s.2.2 w0 aa ww ∧ I_1 s.1 s.2.1 s.2.2) (fun s => m_1 s.1 s.2.1 s.2.2) (l3, 0, h3) ⟨S.sub _ ⟨rfl, rfl, rfl, rfl, rfl, rfl, trivial⟩, H⟩ ?_
    clear H S aa
    rintro ⟨l3_1, x17, h4⟩ aa ww ⟨S, HI⟩
    replace S : St 32 [(0, Value.pointer r0), (3, Value.slice l3_1.a l3_1.n l3_1.c), (4, Value.int .i64 a4), (15, Value.slice x15.a x15.n x15.c), (16, Value.int .i64 ((x15.n : Nat) : Int)), (17, Value.int .i64 x17)] h4 w0 aa ww := S
    have H := HB l3_1 x17 h4 HI
    clear HI
    refine W.seq ?_
    replace S := S.sub [(0, Value.pointer r0), (3, Value.slice l3_1.a l3_1.n l3_1.c), (4, Value.int .i64 a4), (15, Value.slice x15.a x15.n x15.c), (16, Value.int .i64 ((x15.n : Nat) : Int)), (17, Value.int .i64 x17)] ⟨rfl, rfl, rfl, rfl, rfl, rfl, trivial⟩
    refine W.region ?_
    refine OL.pure S (Lf.run_lss (S.ev rfl) (S.ev rfl)) rfl rfl trivial ?_
    clear S; intro aa S
    refine OL.nil ?_
    refine W.seq ?_
    refine W.cond S (b := (decide (x17 < ((x15.n : Nat) : Int)))) rfl (fun hb_1 => ?_) (fun hb_1 => ?_)
    · replace H := H.1 hb_1
      refine W.skip ?_
      obtain ⟨J, H, HK⟩ := H
      refine W.seqJ (fun aa ww => ∃ l3_2 h7, St 32 [(0, Value.pointer r0), (3, Value.slice l3_2.a l3_2.n l3_2.c), (4, Value.int .i64 a4), (15, Value.slice x15.a x15.n x15.c), (16, Value.int .i64 ((x15.n : Nat) : Int)), (17, Value.int .i64 x17)] h7 w0 aa ww ∧ J l3_2 h7) ?_ ?_
      · clear HK
        refine W.block ?_
        refine W.seq ?_
        replace S := S.sub [(0, Value.pointer r0), (3, Value.slice l3_1.a l3_1.n l3_1.c), (4, Value.int .i64 a4), (15, Value.slice x15.a x15.n x15.c), (16, Value.int .i64 ((x15.n : Nat) : Int)), (17, Value.int .i64 x17)] ⟨rfl, rfl, rfl, rfl, rfl, rfl, trivial⟩
        refine W.region ?_
        obtain ⟨q19, e, e_1, e_2, H⟩ := H
        refine OL.pure S (Lf.run_ixs (S.ev rfl) (S.ev rfl) Try.underlying38 ti3 e e_1 e_2) rfl rfl trivial ?_
        clear S; intro aa S
        obtain ⟨x20, c, H⟩ := H
        refine OL.pure S (Lf.run_ld (S.ev rfl) fl3 (S.cl c)) rfl rfl trivial ?_
        clear S; intro aa S
        refine OL.pure S (Lf.run_assign (S.ev rfl)) rfl rfl trivial ?_
        clear S; intro aa S
        refine OL.nil ?_
        refine W.seq ?_
        replace S := S.sub [(0, Value.pointer r0), (3, Value.slice l3_1.a l3_1.n l3_1.c), (4, Value.int .i64 a4), (6, Value.int .i64 x20), (15, Value.slice x15.a x15.n x15.c), (16, Value.int .i64 ((x15.n : Nat) : Int)), (17, Value.int .i64 x17)] ⟨rfl, rfl, rfl, rfl, rfl, rfl, rfl, trivial⟩
        refine W.region ?_
        refine OL.pure S (Lf.run_move (S.ev rfl)) rfl rfl trivial ?_
        clear S; intro aa S
        refine OL.pure S (Lf.run_move (S.ev rfl)) rfl rfl trivial ?_
        clear S; intro aa S
        refine OL.pure S (Lf.run_neq (S.ev rfl) (S.ev rfl)) rfl rfl trivial ?_
        clear S; intro aa S
        refine OL.nil ?_
        refine W.cond S (b := (a4 != x20)) rfl (fun hb_2 => ?_) (fun hb_2 => ?_)
        · replace H := H.1 hb_2
          replace S := S.sub [(0, Value.pointer r0), (3, Value.slice l3_1.a l3_1.n l3_1.c), (4, Value.int .i64 a4), (6, Value.int .i64 x20), (15, Value.slice x15.a x15.n x15.c), (16, Value.int .i64 ((x15.n : Nat) : Int)), (17, Value.int .i64 x17)] ⟨rfl, rfl, rfl, rfl, rfl, rfl, rfl, trivial⟩
          refine W.region ?_
          refine OL.pure S (Lf.run_move (S.ev rfl)) rfl rfl trivial ?_
          clear S; intro aa S
          refine OL.pure S (Lf.run_move (S.ev rfl)) rfl rfl trivial ?_
          clear S; intro aa S
          refine OL.pure S (Lf.run_move (S.ev rfl)) rfl rfl trivial ?_
          clear S; intro aa S
          refine OL.pure S (Lf.run_buildArr (cs := #[Value.int .i64 a4, Value.int .i64 x20]) Try.underlying33 ti3 ti33 (parts_map S rfl) (by kernel_rfl)) rfl rfl trivial ?_
          clear S; intro aa S
          refine ol_newS S H Try.underlying22 ti33 (by decide) (parts_map S rfl) (by kernel_rfl) (by decide) rfl trivial ?_
          clear S H aa; intro s28 aa ww h5 H S
          refine ol_appS S H Try.underlying22 ti33 rfl rfl rfl trivial ?_
          clear S H aa; intro s29 aa ww h6 H S
          refine OL.pure S (Lf.run_assign (S.ev rfl)) rfl rfl trivial ?_
          clear S; intro aa S
          refine OL.nil ?_
          exact ⟨s29, h6, S.sub _ ⟨rfl, rfl, rfl, rfl, rfl, rfl, trivial⟩, H⟩
        · replace H := H.2 hb_2
          refine W.skip ?_
          exact ⟨l3_1, h4, S.sub _ ⟨rfl, rfl, rfl, rfl, rfl, rfl, trivial⟩, H⟩
      · clear H S aa
        rintro aa ww ⟨l3_2, h7, S, HJ⟩
        have H := HK _ _ HJ
        clear HK HJ
        replace S := S.sub [(0, Value.pointer r0), (3, Value.slice l3_2.a l3_2.n l3_2.c), (4, Value.int .i64 a4), (15, Value.slice x15.a x15.n x15.c), (16, Value.int .i64 ((x15.n : Nat) : Int)), (17, Value.int .i64 x17)] ⟨rfl, rfl, rfl, rfl, rfl, rfl, trivial⟩
        refine W.region ?_
        refine OL.pure S (Lf.run_add (S.ev rfl) (S.ev rfl)) rfl rfl trivial ?_
        clear S; intro aa S
        refine OL.pure S (Lf.run_move (S.ev rfl)) rfl rfl trivial ?_
        clear S; intro aa S
        refine OL.nil ?_
        exact ⟨(l3_2, (IntKind.i64.wrap (x17 + 1)), h7), ⟨S.sub _ ⟨rfl, rfl, rfl, rfl, rfl, rfl, trivial⟩, H.1⟩, H.2⟩
    · replace H := H.2 hb_1
      refine W.exit_ ?_
      refine xhit ?_
      replace S := S.sub [(0, Value.pointer r0), (3, Value.slice l3_1.a l3_1.n l3_1.c), (4, Value.int .i64 a4)] ⟨rfl, rfl, rfl, trivial⟩
      refine W.region ?_
      refine OL.pure S (Lf.run_move (S.ev rfl)) rfl rfl trivial ?_
      clear S; intro aa S
      refine OL.pure S (Lf.run_add (S.ev rfl) (S.ev rfl)) rfl rfl trivial ?_
      clear S; intro aa S
      refine OL.pure S (Lf.run_assign (S.ev rfl)) rfl rfl trivial ?_
      clear S; intro aa S
      refine OL.nil ?_
      exact ⟨(l3_1, (IntKind.i64.wrap (a4 + 1)), h4), ⟨S.sub _ ⟨rfl, rfl, rfl, trivial⟩, H.1⟩, H.2⟩
  · replace H := H.2 hb
    refine W.exit_ ?_
    refine xhit ?_
    refine W.seq ?_
    replace S := S.sub [(3, Value.slice l3.a l3.n l3.c)] ⟨rfl, trivial⟩
    refine W.region ?_
    refine OL.pure S (Lf.run_move (S.ev rfl)) rfl rfl trivial ?_
    clear S; intro aa S
    refine OL.pure S (Lf.run_assign (S.ev rfl)) rfl rfl trivial ?_
    clear S; intro aa S
    refine OL.nil ?_
    refine W.ret ?_
    exact Ret.one S rfl rfl H

/-- (*chattel chattelref06.Rel).Under -/
def L15 (r0 : Option Addr) (a1 : Int) (h : Heap) (R : Value → Heap → Prop) : Prop :=
  ∃ (I : Sv → Int → Heap → Prop) (m : Sv → Int → Heap → Nat), I (⟨none, 0, 0⟩ : Sv) 0 h ∧ ∀ out5 b6 h1, I out5 b6 h1 →
  nn r0 fun p9 =>
  ldI .i64 h1 p9 fun x11 =>
  ifb (decide (b6 ≤ x11)) (
    ∃ J : Sv → Heap → Prop, (
      cal Try.prog 12 #[Value.pointer r0, Value.int .i64 a1, Value.int .i64 b6] h1 fun u h2 => asB u fun x18 =>
      ifb x18 (
        newS 3 #[Value.int .i64 b6] 1 h2 fun s21 h3 =>
        appS 3 (Value.int .i64 0).cells 1 8 h3 out5 s21 fun s22 h4 =>
        J s22 h4) (
        J out5 h2)) ∧ (∀ out5_1 h5, J out5_1 h5 →
    I out5_1 (IntKind.i64.wrap (b6 + 1)) h5 ∧ m out5_1 (IntKind.i64.wrap (b6 + 1)) h5 < m out5 b6 h1)) (
    R (Value.slice out5.a out5.n out5.c) h1)

set_option maxRecDepth 100000 in

theorem F15 {r0 a1 h : _} {R : Value → Heap → Prop} (H : L15 r0 a1 h R) : CallsH Try.prog 15 #[Value.pointer r0, Value.int .i64 a1] h R := by
  refine CallsH.enter (n := 24) Try.func15 rfl rfl rfl rfl ?_
  intro w0 aa ww S
  unfold L15 at H
  refine W.seq ?_
  replace S := S.sub [(0, Value.pointer r0), (1, Value.int .i64 a1)] ⟨rfl, rfl, trivial⟩
  refine W.region ?_
  refine OL.pure S (Lf.run_assign (S.ev rfl)) rfl rfl trivial ?_
  clear S; intro aa S
  refine OL.nil ?_
  refine W.seq ?_
  replace S := S.sub [(0, Value.pointer r0), (1, Value.int .i64 a1)] ⟨rfl, rfl, trivial⟩
  refine W.region ?_
  refine OL.pure S (Lf.run_assign (S.ev rfl)) rfl rfl trivial ?_
  clear S; intro aa S
  refine OL.nil ?_
  refine W.seq ?_
  refine W.seq ?_
  replace S := S.sub [(0, Value.pointer r0), (1, Value.int .i64 a1), (5, Value.slice (⟨none, 0, 0⟩ : Sv).a (⟨none, 0, 0⟩ : Sv).n (⟨none, 0, 0⟩ : Sv).c)] ⟨rfl, rfl, rfl, trivial⟩
  refine W.region ?_
  refine OL.pure S (Lf.run_assign (S.ev rfl)) rfl rfl trivial ?_
  clear S; intro aa S
  refine OL.nil ?_
  refine W.block ?_
  obtain ⟨I, m, H, HB⟩ := H
  refine W.loopS (σ := Sv × Int × Heap) (fun s aa ww => St 24 [(0, Value.pointer r0), (1, Value.int .i64 a1), (5, Value.slice s.1.a s.1.n s.1.c), (6, Value.int .i64 s.2.1)] s.2.2 w0 aa ww ∧ I s.1 s.2.1 s.2.2) (fun s => m s.1 s.2.1 s.2.2) ((⟨none, 0, 0⟩ : Sv), 0, h) ⟨S.sub _ ⟨rfl, rfl, rfl, rfl, trivial⟩, H⟩ ?_
  clear H S aa
  rintro ⟨out5, b6, h1⟩ aa ww ⟨S, HI⟩
  replace S : St 24 [(0, Value.pointer r0), (1, Value.int .i64 a1), (5, Value.slice out5.a out5.n out5.c), (6, Value.int .i64 b6)] h1 w0 aa ww := S
  have H := HB out5 b6 h1 HI
  clear HI
  refine W.seq ?_
  refine W.seq ?_
  replace S := S.sub [(0, Value.pointer r0), (1, Value.int .i64 a1), (5, Value.slice out5.a out5.n out5.c), (6, Value.int .i64 b6)] ⟨rfl, rfl, rfl, rfl, trivial⟩
  refine W.region ?_
  refine OL.pure S (Lf.run_move (S.ev rfl)) rfl rfl trivial ?_
  clear S; intro aa S
  refine OL.pure S (Lf.run_move (S.ev rfl)) rfl rfl trivial ?_
  clear S; intro aa S
  obtain ⟨p9, e, H⟩ := H
  refine OL.pure S (Lf.run_nc' (S.ev rfl) e) rfl rfl trivial ?_
  clear S; intro aa S
  refine OL.pure S (Lf.run_fa (S.ev rfl) fa49_0) rfl rfl trivial ?_
  clear S; intro aa S
  obtain ⟨x11, c, H⟩ := H
  refine OL.pure S (Lf.run_ld (S.ev rfl) fl3 (S.cl c)) rfl rfl trivial ?_
  clear S; intro aa S
  refine OL.pure S (Lf.run_leq (S.ev rfl) (S.ev rfl)) rfl rfl trivial ?_
  clear S; intro aa S
  refine OL.nil ?_
  refine W.cond S (b := (decide (b6 ≤ x11))) rfl (fun hb => ?_) (fun hb => ?_)
  · replace H := H.1 hb
    refine W.skip ?_
    obtain ⟨J, H, HK⟩ := H
    refine W.seqJ (fun aa ww => ∃ out5_1 h5, St 24 [(0, Value.pointer r0), (1, Value.int .i64 a1), (5, Value.slice out5_1.a out5_1.n out5_1.c), (6, Value.int .i64 b6)] h5 w0 aa ww ∧ J out5_1 h5) ?_ ?_
    · clear HK
      refine W.block ?_
      refine W.seq ?_
      replace S := S.sub [(0, Value.pointer r0), (1, Value.int .i64 a1), (5, Value.slice out5.a out5.n out5.c), (6, Value.int .i64 b6)] ⟨rfl, rfl, rfl, rfl, trivial⟩
      refine W.region ?_
      refine OL.pure S (Lf.run_move (S.ev rfl)) rfl rfl trivial ?_
      clear S; intro aa S
      refine OL.pure S (Lf.run_move (S.ev rfl)) rfl rfl trivial ?_
      clear S; intro aa S
      refine OL.pure S (Lf.run_move (S.ev rfl)) rfl rfl trivial ?_
      clear S; intro aa S
      refine ol_cal S H isfn12 rfl rfl trivial ?_
      clear S H aa; intro u aa ww h2 H S
      obtain ⟨x18, rfl, H⟩ := H
      refine OL.nil ?_
      refine W.cond S (b := x18) rfl (fun hb_1 => ?_) (fun hb_1 => ?_)
      · replace H := H.1 hb_1
        replace S := S.sub [(0, Value.pointer r0), (1, Value.int .i64 a1), (5, Value.slice out5.a out5.n out5.c), (6, Value.int .i64 b6)] ⟨rfl, rfl, rfl, rfl, trivial⟩
        refine W.region ?_
        refine OL.pure S (Lf.run_move (S.ev rfl)) rfl rfl trivial ?_
        clear S; intro aa S
        refine OL.pure S (Lf.run_move (S.ev rfl)) rfl rfl trivial ?_
        clear S; intro aa S
        refine ol_newS S H Try.underlying38 ti3 (by decide) (parts_map S rfl) (by kernel_rfl) (by decide) rfl trivial ?_
        clear S H aa; intro s21 aa ww h3 H S
        refine ol_appS S H Try.underlying38 ti3 rfl rfl rfl trivial ?_
        clear S H aa; intro s22 aa ww h4 H S
        refine OL.pure S (Lf.run_assign (S.ev rfl)) rfl rfl trivial ?_
        clear S; intro aa S
        refine OL.nil ?_
        exact ⟨s22, h4, S.sub _ ⟨rfl, rfl, rfl, rfl, trivial⟩, H⟩
      · replace H := H.2 hb_1
        refine W.skip ?_
        exact ⟨out5, h2, S.sub _ ⟨rfl, rfl, rfl, rfl, trivial⟩, H⟩
    · clear H S aa
      rintro aa ww ⟨out5_1, h5, S, HJ⟩
      have H := HK _ _ HJ
      clear HK HJ
      replace S := S.sub [(0, Value.pointer r0), (1, Value.int .i64 a1), (5, Value.slice out5_1.a out5_1.n out5_1.c), (6, Value.int .i64 b6)] ⟨rfl, rfl, rfl, rfl, trivial⟩
      refine W.region ?_
      refine OL.pure S (Lf.run_move (S.ev rfl)) rfl rfl trivial ?_
      clear S; intro aa S
      refine OL.pure S (Lf.run_add (S.ev rfl) (S.ev rfl)) rfl rfl trivial ?_
      clear S; intro aa S
      refine OL.pure S (Lf.run_assign (S.ev rfl)) rfl rfl trivial ?_
      clear S; intro aa S
      refine OL.nil ?_
      exact ⟨(out5_1, (IntKind.i64.wrap (b6 + 1)), h5), ⟨S.sub _ ⟨rfl, rfl, rfl, rfl, trivial⟩, H.1⟩, H.2⟩
  · replace H := H.2 hb
    refine W.exit_ ?_
    refine xhit ?_
    refine W.seq ?_
    replace S := S.sub [(5, Value.slice out5.a out5.n out5.c)] ⟨rfl, trivial⟩
    refine W.region ?_
    refine OL.pure S (Lf.run_move (S.ev rfl)) rfl rfl trivial ?_
    clear S; intro aa S
    refine OL.pure S (Lf.run_assign (S.ev rfl)) rfl rfl trivial ?_
    clear S; intro aa S
    refine OL.nil ?_
    refine W.ret ?_
    exact Ret.one S rfl rfl H

/-- chattel chattelref01.Ints -/
def L17 (a0 : Sv) (b1 : Sv) (h : Heap) (R : Value → Heap → Prop) : Prop :=
  ifb (((a0.n : Nat) : Int) != ((b1.n : Nat) : Int)) (
    R (Value.bool false) h) (
    ∃ (I : Int → Prop) (m : Int → Nat), I 0 ∧ ∀ i5, I i5 →
    ifb (decide (i5 < ((a0.n : Nat) : Int))) (
      ixS a0 i5 fun q19 =>
      ldI .i64 h (q19.add ((i5 : Int).toNat * 1)) fun x20 =>
      ixS b1 i5 fun q23 =>
      ldI .i64 h (q23.add ((i5 : Int).toNat * 1)) fun x24 =>
      ifb (x20 != x24) (
        R (Value.bool false) h) (
        I (IntKind.i64.wrap (i5 + 1)) ∧ m (IntKind.i64.wrap (i5 + 1)) < m i5)) (
      R (Value.bool true) h))

set_option maxRecDepth 100000 in

theorem F17 {a0 b1 h : _} {R : Value → Heap → Prop} (H : L17 a0 b1 h R) : CallsH Try.prog 17 #[Value.slice a0.a a0.n a0.c, Value.slice b1.a b1.n b1.c] h R := by
  refine CallsH.enter (n := 26) Try.func17 rfl rfl rfl rfl ?_
  intro w0 aa ww S
  unfold L17 at H
  refine W.seq ?_
  replace S := S.sub [(0, Value.slice a0.a a0.n a0.c), (1, Value.slice b1.a b1.n b1.c)] ⟨rfl, rfl, trivial⟩
  refine W.region ?_
  refine OL.pure S (Lf.run_assign (S.ev rfl)) rfl rfl trivial ?_
  clear S; intro aa S
  refine OL.nil ?_
  refine W.seq ?_
  refine W.seq ?_
  replace S := S.sub [(0, Value.slice a0.a a0.n a0.c), (1, Value.slice b1.a b1.n b1.c)] ⟨rfl, rfl, trivial⟩
  refine W.region ?_
  refine OL.pure S (Lf.run_move (S.ev rfl)) rfl rfl trivial ?_
  clear S; intro aa S
  refine OL.pure S (Lf.run_lens (S.ev rfl) rfl Try.underlying38) rfl rfl trivial ?_
  clear S; intro aa S
  refine OL.pure S (Lf.run_move (S.ev rfl)) rfl rfl trivial ?_
  clear S; intro aa S
  refine OL.pure S (Lf.run_lens (S.ev rfl) rfl Try.underlying38) rfl rfl trivial ?_
  clear S; intro aa S
  refine OL.pure S (Lf.run_neq (S.ev rfl) (S.ev rfl)) rfl rfl trivial ?_
  clear S; intro aa S
  refine OL.nil ?_
  refine W.cond S (b := (((a0.n : Nat) : Int) != ((b1.n : Nat) : Int))) rfl (fun hb => ?_) (fun hb => ?_)
  · replace H := H.1 hb
    refine W.seq ?_
    replace S := S.sub [] trivial
    refine W.region ?_
    refine OL.pure S (Lf.run_assign (S.ev rfl)) rfl rfl trivial ?_
    clear S; intro aa S
    refine OL.nil ?_
    refine W.ret ?_
    exact Ret.one S rfl rfl H
  · replace H := H.2 hb
    refine W.skip ?_
    refine W.seq ?_
    refine W.seq ?_
    replace S := S.sub [(0, Value.slice a0.a a0.n a0.c), (1, Value.slice b1.a b1.n b1.c)] ⟨rfl, rfl, trivial⟩
    refine W.region ?_
    refine OL.pure S (Lf.run_assign (S.ev rfl)) rfl rfl trivial ?_
    clear S; intro aa S
    refine OL.nil ?_
    refine W.block ?_
    obtain ⟨I, m, H, HB⟩ := H
    refine W.loopS (σ := Int) (fun s aa ww => St 26 [(0, Value.slice a0.a a0.n a0.c), (1, Value.slice b1.a b1.n b1.c), (5, Value.int .i64 s)] h w0 aa ww ∧ I s) (fun s => m s) (0) ⟨S.sub _ ⟨rfl, rfl, rfl, trivial⟩, H⟩ ?_
    clear H S aa
    rintro i5 aa ww ⟨S, HI⟩
    replace S : St 26 [(0, Value.slice a0.a a0.n a0.c), (1, Value.slice b1.a b1.n b1.c), (5, Value.int .i64 i5)] h w0 aa ww := S
    have H := HB i5 HI
    clear HI
    refine W.seq ?_
    refine W.seq ?_
    replace S := S.sub [(0, Value.slice a0.a a0.n a0.c), (1, Value.slice b1.a b1.n b1.c), (5, Value.int .i64 i5)] ⟨rfl, rfl, rfl, trivial⟩
    refine W.region ?_
    refine OL.pure S (Lf.run_move (S.ev rfl)) rfl rfl trivial ?_
    clear S; intro aa S
    refine OL.pure S (Lf.run_move (S.ev rfl)) rfl rfl trivial ?_
    clear S; intro aa S
    refine OL.pure S (Lf.run_lens (S.ev rfl) rfl Try.underlying38) rfl rfl trivial ?_
    clear S; intro aa S
    refine OL.pure S (Lf.run_lss (S.ev rfl) (S.ev rfl)) rfl rfl trivial ?_
    clear S; intro aa S
    refine OL.nil ?_
    refine W.cond S (b := (decide (i5 < ((a0.n : Nat) : Int)))) rfl (fun hb_1 => ?_) (fun hb_1 => ?_)
    · replace H := H.1 hb_1
      refine W.skip ?_
      refine W.seq ?_
      refine W.block ?_
      refine W.seq ?_
      replace S := S.sub [(0, Value.slice a0.a a0.n a0.c), (1, Value.slice b1.a b1.n b1.c), (5, Value.int .i64 i5)] ⟨rfl, rfl, rfl, trivial⟩
      refine W.regionD S (by kernel_rfl) ?_
      clear S; intro ww S
      refine AN.pure 0 S rfl (by kernel_rfl) (fun _ => Lf.run_move (S.ev rfl)) rfl rfl trivial ?_
      clear S; intro aa S
      refine AN.pure 1 S rfl (by kernel_rfl) (fun _ => Lf.run_move (S.ev rfl)) rfl rfl trivial ?_
      clear S; intro aa S
      obtain ⟨q19, e, e_1, e_2, H⟩ := H
      refine AN.pure 2 S rfl (by kernel_rfl) (fun _ => Lf.run_ixs (S.ev rfl) (S.ev rfl) Try.underlying38 ti3 e e_1 e_2) rfl rfl trivial ?_
      clear S; intro aa S
      obtain ⟨x20, c, H⟩ := H
      refine AN.load 3 S rfl (by kernel_rfl) (fun _ hx => Lf.run_ld (S.ev rfl) fl3 (hx.cell _ _ (S.cl c))) rfl rfl trivial ?_
      clear S; intro aa S
      refine AN.pure 4 S rfl (by kernel_rfl) (fun _ => Lf.run_move (S.ev rfl)) rfl rfl trivial ?_
      clear S; intro aa S
      refine AN.pure 5 S rfl (by kernel_rfl) (fun _ => Lf.run_move (S.ev rfl)) rfl rfl trivial ?_
      clear S; intro aa S
      obtain ⟨q23, e_3, e_4, e_5, H⟩ := H
      refine AN.pure 6 S rfl (by kernel_rfl) (fun _ => Lf.run_ixs (S.ev rfl) (S.ev rfl) Try.underlying38 ti3 e_3 e_4 e_5) rfl rfl trivial ?_
      clear S; intro aa S
      obtain ⟨x24, c_1, H⟩ := H
      refine AN.load 7 S rfl (by kernel_rfl) (fun _ hx => Lf.run_ld (S.ev rfl) fl3 (hx.cell _ _ (S.cl c_1))) rfl rfl trivial ?_
      clear S; intro aa S
      refine AN.pure 8 S rfl (by kernel_rfl) (fun _ => Lf.run_neq (S.ev rfl) (S.ev rfl)) rfl rfl trivial ?_
      clear S; intro aa S
      refine AN.done (by kernel_rfl) ?_
      refine W.cond S (b := (x20 != x24)) rfl (fun hb_2 => ?_) (fun hb_2 => ?_)
      · replace H := H.1 hb_2
        refine W.seq ?_
        replace S := S.sub [] trivial
        refine W.region ?_
        refine OL.pure S (Lf.run_assign (S.ev rfl)) rfl rfl trivial ?_
        clear S; intro aa S
        refine OL.nil ?_
        refine W.ret ?_
        exact Ret.one S rfl rfl H
      · replace H := H.2 hb_2
        refine W.skip ?_
        replace S := S.sub [(0, Value.slice a0.a a0.n a0.c), (1, Value.slice b1.a b1.n b1.c), (5, Value.int .i64 i5)] ⟨rfl, rfl, rfl, trivial⟩
        refine W.region ?_
        refine OL.pure S (Lf.run_move (S.ev rfl)) rfl rfl trivial ?_
        clear S; intro aa S
        refine OL.pure S (Lf.run_add (S.ev rfl) (S.ev rfl)) rfl rfl trivial ?_
        clear S; intro aa S
        refine OL.pure S (Lf.run_assign (S.ev rfl)) rfl rfl trivial ?_
        clear S; intro aa S
        refine OL.nil ?_
        exact ⟨((IntKind.i64.wrap (i5 + 1))), ⟨S.sub _ ⟨rfl, rfl, rfl, trivial⟩, H.1⟩, H.2⟩
    · replace H := H.2 hb_1
      refine W.exit_ ?_
      refine xhit ?_
      refine W.seq ?_
      replace S := S.sub [] trivial
      refine W.region ?_
      refine OL.pure S (Lf.run_assign (S.ev rfl)) rfl rfl trivial ?_
      clear S; intro aa S
      refine OL.nil ?_
      refine W.ret ?_
      exact Ret.one S rfl rfl H

/-- chattel chattelref06.Same -/
def L19 (a0 : Sv) (b1 : Sv) (h : Heap) (R : Value → Heap → Prop) : Prop :=
  ifb (((a0.n : Nat) : Int) != ((b1.n : Nat) : Int)) (
    R (Value.bool false) h) (
    ∃ (I : Int → Prop) (m : Int → Nat), I 0 ∧ ∀ i5, I i5 →
    ifb (decide (i5 < ((a0.n : Nat) : Int))) (
      ixS a0 i5 fun q19 =>
      ∃ (y20 : Int) (y20_1 : Int), cl h (q19.add ((i5 : Int).toNat * 2)) = some (Value.int .i64 y20) ∧ cl h ((q19.add ((i5 : Int).toNat * 2)).add 1) = some (Value.int .i64 y20_1) ∧
      ixS b1 i5 fun q23 =>
      ∃ (y24 : Int) (y24_1 : Int), cl h (q23.add ((i5 : Int).toNat * 2)) = some (Value.int .i64 y24) ∧ cl h ((q23.add ((i5 : Int).toNat * 2)).add 1) = some (Value.int .i64 y24_1) ∧
      ifb (!(y20 == y24 && y20_1 == y24_1)) (
        R (Value.bool false) h) (
        I (IntKind.i64.wrap (i5 + 1)) ∧ m (IntKind.i64.wrap (i5 + 1)) < m i5)) (
      R (Value.bool true) h))

set_option maxRecDepth 100000 in

theorem F19 {a0 b1 h : _} {R : Value → Heap → Prop} (H : L19 a0 b1 h R) : CallsH Try.prog 19 #[Value.slice a0.a a0.n a0.c, Value.slice b1.a b1.n b1.c] h R := by
  refine CallsH.enter (n := 26) Try.func19 rfl rfl rfl rfl ?_
  intro w0 aa ww S
  unfold L19 at H
  refine W.seq ?_
  replace S := S.sub [(0, Value.slice a0.a a0.n a0.c), (1, Value.slice b1.a b1.n b1.c)] ⟨rfl, rfl, trivial⟩
  refine W.region ?_
  refine OL.pure S (Lf.run_assign (S.ev rfl)) rfl rfl trivial ?_
  clear S; intro aa S
  refine OL.nil ?_
  refine W.seq ?_
  refine W.seq ?_
  replace S := S.sub [(0, Value.slice a0.a a0.n a0.c), (1, Value.slice b1.a b1.n b1.c)] ⟨rfl, rfl, trivial⟩
  refine W.region ?_
  refine OL.pure S (Lf.run_move (S.ev rfl)) rfl rfl trivial ?_
  clear S; intro aa S
  refine OL.pure S (Lf.run_lens (S.ev rfl) rfl Try.underlying22) rfl rfl trivial ?_
  clear S; intro aa S
  refine OL.pure S (Lf.run_move (S.ev rfl)) rfl rfl trivial ?_
  clear S; intro aa S
  refine OL.pure S (Lf.run_lens (S.ev rfl) rfl Try.underlying22) rfl rfl trivial ?_
  clear S; intro aa S
  refine OL.pure S (Lf.run_neq (S.ev rfl) (S.ev rfl)) rfl rfl trivial ?_
  clear S; intro aa S
  refine OL.nil ?_
  refine W.cond S (b := (((a0.n : Nat) : Int) != ((b1.n : Nat) : Int))) rfl (fun hb => ?_) (fun hb => ?_)
  · replace H := H.1 hb
    refine W.seq ?_
    replace S := S.sub [] trivial
    refine W.region ?_
    refine OL.pure S (Lf.run_assign (S.ev rfl)) rfl rfl trivial ?_
    clear S; intro aa S
    refine OL.nil ?_
    refine W.ret ?_
    exact Ret.one S rfl rfl H
  · replace H := H.2 hb
    refine W.skip ?_
    refine W.seq ?_
    refine W.seq ?_
    replace S := S.sub [(0, Value.slice a0.a a0.n a0.c), (1, Value.slice b1.a b1.n b1.c)] ⟨rfl, rfl, trivial⟩
    refine W.region ?_
    refine OL.pure S (Lf.run_assign (S.ev rfl)) rfl rfl trivial ?_
    clear S; intro aa S
    refine OL.nil ?_
    refine W.block ?_
    obtain ⟨I, m, H, HB⟩ := H
    refine W.loopS (σ := Int) (fun s aa ww => St 26 [(0, Value.slice a0.a a0.n a0.c), (1, Value.slice b1.a b1.n b1.c), (5, Value.int .i64 s)] h w0 aa ww ∧ I s) (fun s => m s) (0) ⟨S.sub _ ⟨rfl, rfl, rfl, trivial⟩, H⟩ ?_
    clear H S aa
    rintro i5 aa ww ⟨S, HI⟩
    replace S : St 26 [(0, Value.slice a0.a a0.n a0.c), (1, Value.slice b1.a b1.n b1.c), (5, Value.int .i64 i5)] h w0 aa ww := S
    have H := HB i5 HI
    clear HI
    refine W.seq ?_
    refine W.seq ?_
    replace S := S.sub [(0, Value.slice a0.a a0.n a0.c), (1, Value.slice b1.a b1.n b1.c), (5, Value.int .i64 i5)] ⟨rfl, rfl, rfl, trivial⟩
    refine W.region ?_
    refine OL.pure S (Lf.run_move (S.ev rfl)) rfl rfl trivial ?_
    clear S; intro aa S
    refine OL.pure S (Lf.run_move (S.ev rfl)) rfl rfl trivial ?_
    clear S; intro aa S
    refine OL.pure S (Lf.run_lens (S.ev rfl) rfl Try.underlying22) rfl rfl trivial ?_
    clear S; intro aa S
    refine OL.pure S (Lf.run_lss (S.ev rfl) (S.ev rfl)) rfl rfl trivial ?_
    clear S; intro aa S
    refine OL.nil ?_
    refine W.cond S (b := (decide (i5 < ((a0.n : Nat) : Int)))) rfl (fun hb_1 => ?_) (fun hb_1 => ?_)
    · replace H := H.1 hb_1
      refine W.skip ?_
      refine W.seq ?_
      refine W.block ?_
      refine W.seq ?_
      replace S := S.sub [(0, Value.slice a0.a a0.n a0.c), (1, Value.slice b1.a b1.n b1.c), (5, Value.int .i64 i5)] ⟨rfl, rfl, rfl, trivial⟩
      refine W.regionD S (by kernel_rfl) ?_
      clear S; intro ww S
      refine AN.pure 0 S rfl (by kernel_rfl) (fun _ => Lf.run_move (S.ev rfl)) rfl rfl trivial ?_
      clear S; intro aa S
      refine AN.pure 1 S rfl (by kernel_rfl) (fun _ => Lf.run_move (S.ev rfl)) rfl rfl trivial ?_
      clear S; intro aa S
      obtain ⟨q19, e, e_1, e_2, H⟩ := H
      refine AN.pure 2 S rfl (by kernel_rfl) (fun _ => Lf.run_ixs (S.ev rfl) (S.ev rfl) Try.underlying22 ti33 e e_1 e_2) rfl rfl trivial ?_
      clear S; intro aa S
      obtain ⟨y20, y20_1, c_4, c_5, H⟩ := H
      refine AN.load 3 S rfl (by kernel_rfl) (fun _ hx => Lf.run_ldA (cs := [Value.int .i64 y20, Value.int .i64 y20_1]) (S.ev rfl) ag33 ti33 (hx.row (S.row ⟨c_4, c_5, trivial⟩))) rfl rfl trivial ?_
      clear S; intro aa S
      refine AN.pure 4 S rfl (by kernel_rfl) (fun _ => Lf.run_move (S.ev rfl)) rfl rfl trivial ?_
      clear S; intro aa S
      refine AN.pure 5 S rfl (by kernel_rfl) (fun _ => Lf.run_move (S.ev rfl)) rfl rfl trivial ?_
      clear S; intro aa S
      obtain ⟨q23, e_3, e_4, e_5, H⟩ := H
      refine AN.pure 6 S rfl (by kernel_rfl) (fun _ => Lf.run_ixs (S.ev rfl) (S.ev rfl) Try.underlying22 ti33 e_3 e_4 e_5) rfl rfl trivial ?_
      clear S; intro aa S
      obtain ⟨y24, y24_1, c_2, c_3, H⟩ := H
      refine AN.load 7 S rfl (by kernel_rfl) (fun _ hx => Lf.run_ldA (cs := [Value.int .i64 y24, Value.int .i64 y24_1]) (S.ev rfl) ag33 ti33 (hx.row (S.row ⟨c_2, c_3, trivial⟩))) rfl rfl trivial ?_
      clear S; intro aa S
      refine AN.pure 8 S rfl (by kernel_rfl) (fun _ => Lf.run_neqA2 Try.underlying33 Try.underlying3 ti3 (by kernel_rfl) (S.ev rfl) (S.ev rfl)) rfl rfl trivial ?_
      clear S; intro aa S
      refine AN.done (by kernel_rfl) ?_
      refine W.cond S (b := (!(y20 == y24 && y20_1 == y24_1))) rfl (fun hb_2 => ?_) (fun hb_2 => ?_)
      · replace H := H.1 hb_2
        refine W.seq ?_
        replace S := S.sub [] trivial
        refine W.region ?_
        refine OL.pure S (Lf.run_assign (S.ev rfl)) rfl rfl trivial ?_
        clear S; intro aa S
        refine OL.nil ?_
        refine W.ret ?_
        exact Ret.one S rfl rfl H
      · replace H := H.2 hb_2
        refine W.skip ?_
        replace S := S.sub [(0, Value.slice a0.a a0.n a0.c), (1, Value.slice b1.a b1.n b1.c), (5, Value.int .i64 i5)] ⟨rfl, rfl, rfl, trivial⟩
        refine W.region ?_
        refine OL.pure S (Lf.run_move (S.ev rfl)) rfl rfl trivial ?_
        clear S; intro aa S
        refine OL.pure S (Lf.run_add (S.ev rfl) (S.ev rfl)) rfl rfl trivial ?_
        clear S; intro aa S
        refine OL.pure S (Lf.run_assign (S.ev rfl)) rfl rfl trivial ?_
        clear S; intro aa S
        refine OL.nil ?_
        exact ⟨((IntKind.i64.wrap (i5 + 1))), ⟨S.sub _ ⟨rfl, rfl, rfl, trivial⟩, H.1⟩, H.2⟩
    · replace H := H.2 hb_1
      refine W.exit_ ?_
      refine xhit ?_
      refine W.seq ?_
      replace S := S.sub [] trivial
      refine W.region ?_
      refine OL.pure S (Lf.run_assign (S.ev rfl)) rfl rfl trivial ?_
      clear S; intro aa S
      refine OL.nil ?_
      refine W.ret ?_
      exact Ret.one S rfl rfl H

/-- (*chattel chattelref06.Rel).Known -/
def L21 (r0 : Option Addr) (h : Heap) (R : Value → Heap → Prop) : Prop :=
  ∃ (I : Sv → Int → Heap → Prop) (m : Sv → Int → Heap → Nat), I (⟨none, 0, 0⟩ : Sv) 1 h ∧ ∀ out3 a4 h1, I out3 a4 h1 →
  nn r0 fun p8 =>
  ldI .i64 h1 p8 fun x10 =>
  ifb (decide (a4 ≤ x10)) (
    ∃ (I_1 : Sv → Int → Heap → Prop) (m_1 : Sv → Int → Heap → Nat), I_1 out3 0 h1 ∧ ∀ out3_1 b5 h2, I_1 out3_1 b5 h2 →
    nn r0 fun p16 =>
    ldI .i64 h2 p16 fun x18 =>
    ifb (decide (b5 ≤ x18)) (
      ∃ J : Sv → Heap → Prop, (
        ∃ J_1 : Bool → Heap → Prop, (andj (a4 != b5) (fun k =>
          cal Try.prog 12 #[Value.pointer r0, Value.int .i64 a4, Value.int .i64 b5] h2 fun u h4 => asB u fun x29 =>
          k x29 h4) h2 J_1) ∧ ∀ x30 h3, J_1 x30 h3 →
        ifb x30 (
          newS 33 #[Value.int .i64 a4, Value.int .i64 b5] 1 h3 fun s35 h5 =>
          appS 33 (Value.agg #[Value.int .i64 0, Value.int .i64 0]).cells 2 16 h5 out3_1 s35 fun s36 h6 =>
          J s36 h6) (
          J out3_1 h3)) ∧ (∀ out3_2 h7, J out3_2 h7 →
      I_1 out3_2 (IntKind.i64.wrap (b5 + 1)) h7 ∧ m_1 out3_2 (IntKind.i64.wrap (b5 + 1)) h7 < m_1 out3_1 b5 h2)) (
      I out3_1 (IntKind.i64.wrap (a4 + 1)) h2 ∧ m out3_1 (IntKind.i64.wrap (a4 + 1)) h2 < m out3 a4 h1)) (
    R (Value.slice out3.a out3.n out3.c) h1)

set_option maxRecDepth 100000 in

theorem F21 {r0 h : _} {R : Value → Heap → Prop} (H : L21 r0 h R) : CallsH Try.prog 21 #[Value.pointer r0] h R := by
  refine CallsH.enter (n := 38) Try.func21 rfl rfl rfl rfl ?_
  intro w0 aa ww S
  unfold L21 at H
  refine W.seq ?_
  replace S := S.sub [(0, Value.pointer r0)] ⟨rfl, trivial⟩
  refine W.region ?_
  refine OL.pure S (Lf.run_assign (S.ev rfl)) rfl rfl trivial ?_
  clear S; intro aa S
  refine OL.nil ?_
  refine W.seq ?_
  replace S := S.sub [(0, Value.pointer r0)] ⟨rfl, trivial⟩
  refine W.region ?_
  refine OL.pure S (Lf.run_assign (S.ev rfl)) rfl rfl trivial ?_
  clear S; intro aa S
  refine OL.nil ?_
  refine W.seq ?_
  refine W.seq ?_
  replace S := S.sub [(0, Value.pointer r0), (3, Value.slice (⟨none, 0, 0⟩ : Sv).a (⟨none, 0, 0⟩ : Sv).n (⟨none, 0, 0⟩ : Sv).c)] ⟨rfl, rfl, trivial⟩
  refine W.region ?_
  refine OL.pure S (Lf.run_assign (S.ev rfl)) rfl rfl trivial ?_
  clear S; intro aa S
  refine OL.nil ?_
  refine W.block ?_
  obtain ⟨I, m, H, HB_1⟩ := H
  refine W.loopS (σ := Sv × Int × Heap) (fun s aa ww => St 38 [(0, Value.pointer r0), (3, Value.slice s.1.a s.1.n s.1.c), (4, Value.int .i64 s.2.1)] s.2.2 w0 aa ww ∧ I s.1 s.2.1 s.2.2) (fun s => m s.1 s.2.1 s.2.2) ((⟨none, 0, 0⟩ : Sv), 1, h) ⟨S.sub _ ⟨rfl, rfl, rfl, trivial⟩, H⟩ ?_
  clear H S aa
  rintro ⟨out3, a4, h1⟩ aa ww ⟨S, HI⟩
  replace S : St 38 [(0, Value.pointer r0), (3, Value.slice out3.a out3.n out3.c), (4, Value.int .i64 a4)] h1 w0 aa ww := S
  have H := HB_1 out3 a4 h1 HI
  clear HI
  refine W.seq ?_
  refine W.seq ?_
  replace S := S.sub [(0, Value.pointer r0), (3, Value.slice out3.a out3.n out3.c), (4, Value.int .i64 a4)] ⟨rfl, rfl, rfl, trivial⟩
  refine W.region ?_
  refine OL.pure S (Lf.run_move (S.ev rfl)) rfl rfl trivial ?_
  clear S; intro aa S
  refine OL.pure S (Lf.run_move (S.ev rfl)) rfl rfl trivial ?_
  clear S; intro aa S
  obtain ⟨p8, e, H⟩ := H
  refine OL.pure S (Lf.run_nc' (S.ev rfl) e) rfl rfl trivial ?_
  clear S; intro aa S
  refine OL.pure S (Lf.run_fa (S.ev rfl) fa49_0) rfl rfl trivial ?_
  clear S; intro aa S
  obtain ⟨x10, c, H⟩ := H
  refine OL.pure S (Lf.run_ld (S.ev rfl) fl3 (S.cl c)) rfl rfl trivial ?_
  clear S; intro aa S
  refine OL.pure S (Lf.run_leq (S.ev rfl) (S.ev rfl)) rfl rfl trivial ?_
  clear S; intro aa S
  refine OL.nil ?_
  refine W.cond S (b := (decide (a4 ≤ x10))) rfl (fun hb => ?_) (fun hb => ?_)
  · replace H := H.1 hb
    refine W.skip ?_
    refine W.seq ?_
    refine W.block ?_
    refine W.seq ?_
    replace S := S.sub [(0, Value.pointer r0), (3, Value.slice out3.a out3.n out3.c), (4, Value.int .i64 a4)] ⟨rfl, rfl, rfl, trivial⟩
    refine W.region ?_
    refine OL.pure S (Lf.run_assign (S.ev rfl)) rfl rfl trivial ?_
    clear S; intro aa S
    refine OL.nil ?_
    refine W.block ?_
    obtain ⟨I_1, m_1, H, HB⟩ := H
    refine W.loopS (σ := Sv × Int × Heap) (fun s aa ww => St 38 [(0, Value.pointer r0), (3, Value.slice s.1.a s.1.n s.1.c), (4, Value.int .i64 a4), (5, Value.int .i64 s.2.1)] s.2.2 w0 aa ww ∧ I_1 s.1 s.2.1 s.2.2) (fun s => m_1 s.1 s.2.1 s.2.2) (out3, 0, h1) ⟨S.sub _ ⟨rfl, rfl, rfl, rfl, trivial⟩, H⟩ ?_
    clear H S aa
    rintro ⟨out3_1, b5, h2⟩ aa ww ⟨S, HI⟩
    replace S : St 38 [(0, Value.pointer r0), (3, Value.slice out3_1.a out3_1.n out3_1.c), (4, Value.int .i64 a4), (5, Value.int .i64 b5)] h2 w0 aa ww := S
    have H := HB out3_1 b5 h2 HI
    clear HI
    refine W.seq ?_
    refine W.seq ?_
    replace S := S.sub [(0, Value.pointer r0), (3, Value.slice out3_1.a out3_1.n out3_1.c), (4, Value.int .i64 a4), (5, Value.int .i64 b5)] ⟨rfl, rfl, rfl, rfl, trivial⟩
    refine W.region ?_
    refine OL.pure S (Lf.run_move (S.ev rfl)) rfl rfl trivial ?_
    clear S; intro aa S
    refine OL.pure S (Lf.run_move (S.ev rfl)) rfl rfl trivial ?_
    clear S; intro aa S
    obtain ⟨p16, e_1, H⟩ := H
    refine OL.pure S (Lf.run_nc' (S.ev rfl) e_1) rfl rfl trivial ?_
    clear S; intro aa S
    refine OL.pure S (Lf.run_fa (S.ev rfl) fa49_0) rfl rfl trivial ?_
    clear S; intro aa S
    obtain ⟨x18, c_1, H⟩ := H
    refine OL.pure S (Lf.run_ld (S.ev rfl) fl3 (S.cl c_1)) rfl rfl trivial ?_
    clear S; intro aa S
    refine OL.pure S (Lf.run_leq (S.ev rfl) (S.ev rfl)) rfl rfl trivial ?_
    clear S; intro aa S
    refine OL.nil ?_
    refine W.cond S (b := (decide (b5 ≤ x18))) rfl (fun hb_1 => ?_) (fun hb_1 => ?_)
    · replace H := H.1 hb_1
      refine W.skip ?_
      obtain ⟨J, H, HK⟩ := H
      refine W.seqJ (fun aa ww => ∃ out3_2 h7, St 38 [(0, Value.pointer r0), (3, Value.slice out3_2.a out3_2.n out3_2.c), (4, Value.int .i64 a4), (5, Value.int .i64 b5)] h7 w0 aa ww ∧ J out3_2 h7) ?_ ?_
      · clear HK
        refine W.block ?_
        refine W.seq ?_
        replace S := S.sub [(0, Value.pointer r0), (3, Value.slice out3_1.a out3_1.n out3_1.c), (4, Value.int .i64 a4), (5, Value.int .i64 b5)] ⟨rfl, rfl, rfl, rfl, trivial⟩
        refine W.region ?_
        refine OL.pure S (Lf.run_move (S.ev rfl)) rfl rfl trivial ?_
        clear S; intro aa S
        refine OL.pure S (Lf.run_move (S.ev rfl)) rfl rfl trivial ?_
        clear S; intro aa S
        refine OL.pure S (Lf.run_neq (S.ev rfl) (S.ev rfl)) rfl rfl trivial ?_
        clear S; intro aa S
        refine OL.pure S (Lf.run_move (S.ev rfl)) rfl rfl trivial ?_
        clear S; intro aa S
        obtain ⟨J_1, H, HK_1⟩ := H
        refine OL.cutN 5 (fun aa ww => ∃ x30 h3, St 38 ((30, Value.bool x30) :: [(0, Value.pointer r0), (3, Value.slice out3_1.a out3_1.n out3_1.c), (4, Value.int .i64 a4), (5, Value.int .i64 b5), (22, Value.int .i64 a4), (23, Value.int .i64 b5), (24, Value.bool (a4 != b5)), (25, Value.bool (a4 != b5))]) h3 w0 aa ww ∧ J_1 x30 h3) ?_ ?_
        · rcases Bool.eq_false_or_eq_true (a4 != b5) with hb_2 | hb_2
          · replace H := H.1 hb_2
            refine OL.pure S (Lf.run_move (S.ev rfl)) rfl rfl (GOk.mk rfl rfl hb_2) ?_
            clear S; intro aa S
            refine OL.pure S (Lf.run_move (S.ev rfl)) rfl rfl (GOk.mk rfl rfl hb_2) ?_
            clear S; intro aa S
            refine OL.pure S (Lf.run_move (S.ev rfl)) rfl rfl (GOk.mk rfl rfl hb_2) ?_
            clear S; intro aa S
            refine ol_cal S H isfn12 rfl rfl (GOk.mk rfl rfl hb_2) ?_
            clear S H aa; intro u aa ww h4 H S
            obtain ⟨x29, rfl, H⟩ := H
            refine OL.pure S (Lf.run_pickT (S.ev rfl) hb_2 (S.ev rfl)) rfl rfl trivial ?_
            clear S; intro aa S
            refine OL.nil ?_
            exact ⟨_, _, S.sub _ ⟨rfl, rfl, rfl, rfl, rfl, rfl, rfl, rfl, rfl, trivial⟩, H⟩
          · replace H := H.2 hb_2
            refine OL.not S rfl rfl (GNo.mk rfl rfl hb_2) ?_
            clear S; intro aa S
            refine OL.not S rfl rfl (GNo.mk rfl rfl hb_2) ?_
            clear S; intro aa S
            refine OL.not S rfl rfl (GNo.mk rfl rfl hb_2) ?_
            clear S; intro aa S
            refine OL.not S rfl rfl (GNo.mk rfl rfl hb_2) ?_
            clear S; intro aa S
            refine OL.pure S (Lf.run_pickF (S.ev rfl) hb_2 (S.ev rfl)) rfl rfl trivial ?_
            clear S; intro aa S
            refine OL.nil ?_
            exact ⟨_, _, S.sub _ ⟨rfl, rfl, rfl, rfl, rfl, rfl, rfl, rfl, rfl, trivial⟩, H⟩
        · clear S aa
          rintro aa ww ⟨x30, h3, S, HJ⟩
          replace H := HK_1 _ _ HJ
          clear HK_1 HJ
          refine OL.nil ?_
          refine W.cond S (b := x30) rfl (fun hb_3 => ?_) (fun hb_3 => ?_)
          · replace H := H.1 hb_3
            replace S := S.sub [(0, Value.pointer r0), (3, Value.slice out3_1.a out3_1.n out3_1.c), (4, Value.int .i64 a4), (5, Value.int .i64 b5)] ⟨rfl, rfl, rfl, rfl, trivial⟩
            refine W.region ?_
            refine OL.pure S (Lf.run_move (S.ev rfl)) rfl rfl trivial ?_
            clear S; intro aa S
            refine OL.pure S (Lf.run_move (S.ev rfl)) rfl rfl trivial ?_
            clear S; intro aa S
            refine OL.pure S (Lf.run_move (S.ev rfl)) rfl rfl trivial ?_
            clear S; intro aa S
            refine OL.pure S (Lf.run_buildArr (cs := #[Value.int .i64 a4, Value.int .i64 b5]) Try.underlying33 ti3 ti33 (parts_map S rfl) (by kernel_rfl)) rfl rfl trivial ?_
            clear S; intro aa S
            refine ol_newS S H Try.underlying22 ti33 (by decide) (parts_map S rfl) (by kernel_rfl) (by decide) rfl trivial ?_
            clear S H aa; intro s35 aa ww h5 H S
            refine ol_appS S H Try.underlying22 ti33 rfl rfl rfl trivial ?_
            clear S H aa; intro s36 aa ww h6 H S
            refine OL.pure S (Lf.run_assign (S.ev rfl)) rfl rfl trivial ?_
            clear S; intro aa S
            refine OL.nil ?_
            exact ⟨s36, h6, S.sub _ ⟨rfl, rfl, rfl, rfl, trivial⟩, H⟩
          · replace H := H.2 hb_3
            refine W.skip ?_
            exact ⟨out3_1, h3, S.sub _ ⟨rfl, rfl, rfl, rfl, trivial⟩, H⟩
      · clear H S aa
        rintro aa ww ⟨out3_2, h7, S, HJ⟩
        have H := HK _ _ HJ
        clear HK HJ
        replace S := S.sub [(0, Value.pointer r0), (3, Value.slice out3_2.a out3_2.n out3_2.c), (4, Value.int .i64 a4), (5, Value.int .i64 b5)] ⟨rfl, rfl, rfl, rfl, trivial⟩
        refine W.region ?_
        refine OL.pure S (Lf.run_move (S.ev rfl)) rfl rfl trivial ?_
        clear S; intro aa S
        refine OL.pure S (Lf.run_add (S.ev rfl) (S.ev rfl)) rfl rfl trivial ?_
        clear S; intro aa S
        refine OL.pure S (Lf.run_assign (S.ev rfl)) rfl rfl trivial ?_
        clear S; intro aa S
        refine OL.nil ?_
        exact ⟨(out3_2, (IntKind.i64.wrap (b5 + 1)), h7), ⟨S.sub _ ⟨rfl, rfl, rfl, rfl, trivial⟩, H.1⟩, H.2⟩
    · replace H := H.2 hb_1
      refine W.exit_ ?_
      refine xhit ?_
      replace S := S.sub [(0, Value.pointer r0), (3, Value.slice out3_1.a out3_1.n out3_1.c), (4, Value.int .i64 a4)] ⟨rfl, rfl, rfl, trivial⟩
      refine W.region ?_
      refine OL.pure S (Lf.run_move (S.ev rfl)) rfl rfl trivial ?_
      clear S; intro aa S
      refine OL.pure S (Lf.run_add (S.ev rfl) (S.ev rfl)) rfl rfl trivial ?_
      clear S; intro aa S
      refine OL.pure S (Lf.run_assign (S.ev rfl)) rfl rfl trivial ?_
      clear S; intro aa S
      refine OL.nil ?_
      exact ⟨(out3_1, (IntKind.i64.wrap (a4 + 1)), h2), ⟨S.sub _ ⟨rfl, rfl, rfl, trivial⟩, H.1⟩, H.2⟩
  · replace H := H.2 hb
    refine W.exit_ ?_
    refine xhit ?_
    refine W.seq ?_
    replace S := S.sub [(3, Value.slice out3.a out3.n out3.c)] ⟨rfl, trivial⟩
    refine W.region ?_
    refine OL.pure S (Lf.run_move (S.ev rfl)) rfl rfl trivial ?_
    clear S; intro aa S
    refine OL.pure S (Lf.run_assign (S.ev rfl)) rfl rfl trivial ?_
    clear S; intro aa S
    refine OL.nil ?_
    refine W.ret ?_
    exact Ret.one S rfl rfl H

/-- (*chattel life.Rel).Add -/
def L14 (r0 : Option Addr) (a1 : Int) (b2 : Int) (h : Heap) (R : Value → Heap → Prop) : Prop :=
  cal Try.prog 23 #[Value.pointer r0, Value.int .i64 a1] h fun u h1 => asB u fun x11 =>
  ∃ J : Bool → Heap → Prop, (orj (!x11) (fun k =>
    cal Try.prog 23 #[Value.pointer r0, Value.int .i64 b2] h1 fun u_1 h3 => asB u_1 fun x16 =>
    k (!x16) h3) h1 J) ∧ ∀ x18 h2, J x18 h2 →
  ifb x18 (
    R (Value.int .i64 14) h2) (
    nn r0 fun p20 =>
    ldS h2 (p20.add 1) fun x22 =>
    ixS x22 a1 fun q24 =>
    ldS h2 (q24.add ((a1 : Int).toNat * 1)) fun x25 =>
    ixS x25 b2 fun q27 =>
    ldB h2 (q27.add ((b2 : Int).toNat * 1)) fun x28 =>
    ifb x28 (
      R (Value.int .i64 0) h2) (
      nn r0 fun p30 =>
      ldS h2 (p30.add 1) fun x32 =>
      ∃ (I : Int → Heap → Prop) (m : Int → Heap → Nat), I 0 h2 ∧ ∀ x34 h4, I x34 h4 →
      ifb (decide (x34 < ((x32.n : Nat) : Int))) (
        ∃ J_1 : Heap → Prop, (
          nn r0 fun p38 =>
          ldS h4 (p38.add 1) fun x40 =>
          ixS x40 x34 fun q42 =>
          ldS h4 (q42.add ((x34 : Int).toNat * 1)) fun x43 =>
          ixS x43 a1 fun q45 =>
          ldB h4 (q45.add ((a1 : Int).toNat * 1)) fun x46 =>
          ifb (!x46) (
            J_1 h4) (
            nn r0 fun p49 =>
            ldS h4 (p49.add 1) fun x51 =>
            ixS x51 x34 fun q53 =>
            ldS h4 (q53.add ((x34 : Int).toNat * 1)) fun x54 =>
            ∃ (I_1 : Int → Heap → Prop) (m_1 : Int → Heap → Nat), I_1 0 h4 ∧ ∀ x56 h5, I_1 x56 h5 →
            ifb (decide (x56 < ((x54.n : Nat) : Int))) (
              ∃ J_2 : Heap → Prop, (
                nn r0 fun p60 =>
                ldS h5 (p60.add 1) fun x62 =>
                ixS x62 x34 fun q64 =>
                ldS h5 (q64.add ((x34 : Int).toNat * 1)) fun x65 =>
                nn r0 fun p68 =>
                ldS h5 (p68.add 1) fun x70 =>
                ixS x70 x34 fun q72 =>
                ldS h5 (q72.add ((x34 : Int).toNat * 1)) fun x73 =>
                ixS x73 x56 fun q75 =>
                ldB h5 (q75.add ((x56 : Int).toNat * 1)) fun x76 =>
                ifb x76 (
                  ixS x65 x56 fun q89_1 =>
                  sto h5 (q89_1.add ((x56 : Int).toNat * 1)) (Value.bool true) fun h7 =>
                  J_2 h7) (
                  nn r0 fun p79 =>
                  ldS h5 (p79.add 1) fun x81 =>
                  ixS x81 b2 fun q83 =>
                  ldS h5 (q83.add ((b2 : Int).toNat * 1)) fun x84 =>
                  ixS x84 x56 fun q86 =>
                  ldB h5 (q86.add ((x56 : Int).toNat * 1)) fun x87 =>
                  ixS x65 x56 fun q89 =>
                  sto h5 (q89.add ((x56 : Int).toNat * 1)) (Value.bool x87) fun h6 =>
                  J_2 h6)) ∧ (∀ h8, J_2 h8 →
              I_1 (IntKind.i64.wrap (x56 + 1)) h8 ∧ m_1 (IntKind.i64.wrap (x56 + 1)) h8 < m_1 x56 h5)) (
              J_1 h5))) ∧ (∀ h9, J_1 h9 →
        I (IntKind.i64.wrap (x34 + 1)) h9 ∧ m (IntKind.i64.wrap (x34 + 1)) h9 < m x34 h4)) (
        R (Value.int .i64 0) h4)))

set_option maxRecDepth 100000 in

theorem F14 {r0 a1 b2 h : _} {R : Value → Heap → Prop} (H : L14 r0 a1 b2 h R) : CallsH Try.prog 14 #[Value.pointer r0, Value.int .i64 a1, Value.int .i64 b2] h R := by
  refine CallsH.enter (n := 92) Try.func14 rfl rfl rfl rfl ?_
  intro w0 aa ww S
  unfold L14 at H
  refine W.seq ?_
  replace S := S.sub [(0, Value.pointer r0), (1, Value.int .i64 a1), (2, Value.int .i64 b2)] ⟨rfl, rfl, rfl, trivial⟩
  refine W.region ?_
  refine OL.pure S (Lf.run_assign (S.ev rfl)) rfl rfl trivial ?_
  clear S; intro aa S
  refine OL.nil ?_
  refine W.seq ?_
  refine W.seq ?_
  replace S := S.sub [(0, Value.pointer r0), (1, Value.int .i64 a1), (2, Value.int .i64 b2)] ⟨rfl, rfl, rfl, trivial⟩
  refine W.region ?_
  refine OL.pure S (Lf.run_move (S.ev rfl)) rfl rfl trivial ?_
  clear S; intro aa S
  refine OL.pure S (Lf.run_move (S.ev rfl)) rfl rfl trivial ?_
  clear S; intro aa S
  refine ol_cal S H isfn23 rfl rfl trivial ?_
  clear S H aa; intro u aa ww h1 H S
  obtain ⟨x11, rfl, H⟩ := H
  refine OL.pure S (Lf.run_not (S.ev rfl)) rfl rfl trivial ?_
  clear S; intro aa S
  refine OL.pure S (Lf.run_move (S.ev rfl)) rfl rfl trivial ?_
  clear S; intro aa S
  obtain ⟨J, H, HK⟩ := H
  refine OL.cutN 5 (fun aa ww => ∃ x18 h2, St 92 ((18, Value.bool x18) :: [(0, Value.pointer r0), (1, Value.int .i64 a1), (2, Value.int .i64 b2), (9, Value.pointer r0), (10, Value.int .i64 a1), (11, Value.bool x11), (12, Value.bool (!x11)), (13, Value.bool (!x11))]) h2 w0 aa ww ∧ J x18 h2) ?_ ?_
  · rcases Bool.eq_false_or_eq_true (!x11) with hb | hb
    · replace H := H.1 hb
      refine OL.not S rfl rfl (GNo.mk rfl rfl hb) ?_
      clear S; intro aa S
      refine OL.not S rfl rfl (GNo.mk rfl rfl hb) ?_
      clear S; intro aa S
      refine OL.not S rfl rfl (GNo.mk rfl rfl hb) ?_
      clear S; intro aa S
      refine OL.not S rfl rfl (GNo.mk rfl rfl hb) ?_
      clear S; intro aa S
      refine OL.pure S (Lf.run_pickT (S.ev rfl) hb (S.ev rfl)) rfl rfl trivial ?_
      clear S; intro aa S
      refine OL.nil ?_
      exact ⟨_, _, S.sub _ ⟨rfl, rfl, rfl, rfl, rfl, rfl, rfl, rfl, rfl, trivial⟩, H⟩
    · replace H := H.2 hb
      refine OL.pure S (Lf.run_move (S.ev rfl)) rfl rfl (GOk.mk rfl rfl hb) ?_
      clear S; intro aa S
      refine OL.pure S (Lf.run_move (S.ev rfl)) rfl rfl (GOk.mk rfl rfl hb) ?_
      clear S; intro aa S
      refine ol_cal S H isfn23 rfl rfl (GOk.mk rfl rfl hb) ?_
      clear S H aa; intro u_1 aa ww h3 H S
      obtain ⟨x16, rfl, H⟩ := H
      refine OL.pure S (Lf.run_not (S.ev rfl)) rfl rfl (GOk.mk rfl rfl hb) ?_
      clear S; intro aa S
      refine OL.pure S (Lf.run_pickF (S.ev rfl) hb (S.ev rfl)) rfl rfl trivial ?_
      clear S; intro aa S
      refine OL.nil ?_
      exact ⟨_, _, S.sub _ ⟨rfl, rfl, rfl, rfl, rfl, rfl, rfl, rfl, rfl, trivial⟩, H⟩
  · clear S aa
    rintro aa ww ⟨x18, h2, S, HJ⟩
    replace H := HK _ _ HJ
    clear HK HJ
    refine OL.nil ?_
    refine W.cond S (b := x18) rfl (fun hb_1 => ?_) (fun hb_1 => ?_)
    · replace H := H.1 hb_1
      refine W.seq ?_
      replace S := S.sub [] trivial
      refine W.region ?_
      refine OL.pure S (Lf.run_assign (S.ev rfl)) rfl rfl trivial ?_
      clear S; intro aa S
      refine OL.nil ?_
      refine W.ret ?_
      exact Ret.one S rfl rfl H
    · replace H := H.2 hb_1
      refine W.skip ?_
      refine W.seq ?_
      refine W.seq ?_
      replace S := S.sub [(0, Value.pointer r0), (1, Value.int .i64 a1), (2, Value.int .i64 b2)] ⟨rfl, rfl, rfl, trivial⟩
      refine W.region ?_
      refine OL.pure S (Lf.run_move (S.ev rfl)) rfl rfl trivial ?_
      clear S; intro aa S
      obtain ⟨p20, e, H⟩ := H
      refine OL.pure S (Lf.run_nc' (S.ev rfl) e) rfl rfl trivial ?_
      clear S; intro aa S
      refine OL.pure S (Lf.run_fa (S.ev rfl) fa54_1) rfl rfl trivial ?_
      clear S; intro aa S
      obtain ⟨x22, c, H⟩ := H
      refine OL.pure S (Lf.run_ld (S.ev rfl) fl52 (S.cl c)) rfl rfl trivial ?_
      clear S; intro aa S
      refine OL.pure S (Lf.run_move (S.ev rfl)) rfl rfl trivial ?_
      clear S; intro aa S
      obtain ⟨q24, e_1, e_2, e_3, H⟩ := H
      refine OL.pure S (Lf.run_ixs (S.ev rfl) (S.ev rfl) Try.underlying52 ti51 e_1 e_2 e_3) rfl rfl trivial ?_
      clear S; intro aa S
      obtain ⟨x25, c_1, H⟩ := H
      refine OL.pure S (Lf.run_ld (S.ev rfl) fl51 (S.cl c_1)) rfl rfl trivial ?_
      clear S; intro aa S
      refine OL.pure S (Lf.run_move (S.ev rfl)) rfl rfl trivial ?_
      clear S; intro aa S
      obtain ⟨q27, e_4, e_5, e_6, H⟩ := H
      refine OL.pure S (Lf.run_ixs (S.ev rfl) (S.ev rfl) Try.underlying51 ti4 e_4 e_5 e_6) rfl rfl trivial ?_
      clear S; intro aa S
      obtain ⟨x28, c_2, H⟩ := H
      refine OL.pure S (Lf.run_ld (S.ev rfl) fl4 (S.cl c_2)) rfl rfl trivial ?_
      clear S; intro aa S
      refine OL.nil ?_
      refine W.cond S (b := x28) rfl (fun hb_2 => ?_) (fun hb_2 => ?_)
      · replace H := H.1 hb_2
        refine W.seq ?_
        replace S := S.sub [] trivial
        refine W.region ?_
        refine OL.pure S (Lf.run_assign (S.ev rfl)) rfl rfl trivial ?_
        clear S; intro aa S
        refine OL.nil ?_
        refine W.ret ?_
        exact Ret.one S rfl rfl H
      · replace H := H.2 hb_2
        refine W.skip ?_
        refine W.seq ?_
        refine W.seq ?_
        replace S := S.sub [(0, Value.pointer r0), (1, Value.int .i64 a1), (2, Value.int .i64 b2)] ⟨rfl, rfl, rfl, trivial⟩
        refine W.region ?_
        refine OL.pure S (Lf.run_move (S.ev rfl)) rfl rfl trivial ?_
        clear S; intro aa S
        obtain ⟨p30, e_7, H⟩ := H
        refine OL.pure S (Lf.run_nc' (S.ev rfl) e_7) rfl rfl trivial ?_
        clear S; intro aa S
        refine OL.pure S (Lf.run_fa (S.ev rfl) fa54_1) rfl rfl trivial ?_
        clear S; intro aa S
        obtain ⟨x32, c_3, H⟩ := H
        refine OL.pure S (Lf.run_ld (S.ev rfl) fl52 (S.cl c_3)) rfl rfl trivial ?_
        clear S; intro aa S
        refine OL.pure S (Lf.run_lens (S.ev rfl) rfl Try.underlying52) rfl rfl trivial ?_
        clear S; intro aa S
        refine OL.pure S (Lf.run_move (S.ev rfl)) rfl rfl trivial ?_
        clear S; intro aa S
        refine OL.nil ?_
        refine W.block ?_
        obtain ⟨I, m, H, HB_1⟩ := H
        refine W.loopS (σ := Int × Heap) (fun s aa ww => St 92 [(0, Value.pointer r0), (1, Value.int .i64 a1), (2, Value.int .i64 b2), (33, Value.int .i64 ((x32.n : Nat) : Int)), (34, Value.int .i64 s.1)] s.2 w0 aa ww ∧ I s.1 s.2) (fun s => m s.1 s.2) (0, h2) ⟨S.sub _ ⟨rfl, rfl, rfl, rfl, rfl, trivial⟩, H⟩ ?_
        clear H S aa
        rintro ⟨x34, h4⟩ aa ww ⟨S, HI⟩
        replace S : St 92 [(0, Value.pointer r0), (1, Value.int .i64 a1), (2, Value.int .i64 b2), (33, Value.int .i64 ((x32.n : Nat) : Int)), (34, Value.int .i64 x34)] h4 w0 aa ww := S
        have H := HB_1 x34 h4 HI
        clear HI
        refine W.seq ?_
        replace S := S.sub [(0, Value.pointer r0), (1, Value.int .i64 a1), (2, Value.int .i64 b2), (33, Value.int .i64 ((x32.n : Nat) : Int)), (34, Value.int .i64 x34)] ⟨rfl, rfl, rfl, rfl, rfl, trivial⟩
        refine W.region ?_
        refine OL.pure S (Lf.run_lss (S.ev rfl) (S.ev rfl)) rfl rfl trivial ?_
        clear S; intro aa S
        refine OL.nil ?_
        refine W.seq ?_
        refine W.cond S (b := (decide (x34 < ((x32.n : Nat) : Int)))) rfl (fun hb_3 => ?_) (fun hb_3 => ?_)
        · replace H := H.1 hb_3
          refine W.skip ?_
          obtain ⟨J_1, H, HK_1⟩ := H
          refine W.seqJ (fun aa ww => ∃ h9, St 92 [(0, Value.pointer r0), (1, Value.int .i64 a1), (2, Value.int .i64 b2), (33, Value.int .i64 ((x32.n : Nat) : Int)), (34, Value.int .i64 x34)] h9 w0 aa ww ∧ J_1 h9) ?_ ?_
          · clear HK_1
            refine W.block ?_
            refine W.seq ?_
            replace S := S.sub [(0, Value.pointer r0), (1, Value.int .i64 a1), (2, Value.int .i64 b2), (33, Value.int .i64 ((x32.n : Nat) : Int)), (34, Value.int .i64 x34)] ⟨rfl, rfl, rfl, rfl, rfl, trivial⟩
            refine W.region ?_
            refine OL.pure S (Lf.run_move (S.ev rfl)) rfl rfl trivial ?_
            clear S; intro aa S
            refine OL.pure S (Lf.run_assign (S.ev rfl)) rfl rfl trivial ?_
            clear S; intro aa S
            refine OL.nil ?_
            refine W.seq ?_
            refine W.seq ?_
            replace S := S.sub [(0, Value.pointer r0), (1, Value.int .i64 a1), (2, Value.int .i64 b2), (7, Value.int .i64 x34), (33, Value.int .i64 ((x32.n : Nat) : Int)), (34, Value.int .i64 x34)] ⟨rfl, rfl, rfl, rfl, rfl, rfl, trivial⟩
            refine W.region ?_
            refine OL.pure S (Lf.run_move (S.ev rfl)) rfl rfl trivial ?_
            clear S; intro aa S
            obtain ⟨p38, e_8, H⟩ := H
            refine OL.pure S (Lf.run_nc' (S.ev rfl) e_8) rfl rfl trivial ?_
            clear S; intro aa S
            refine OL.pure S (Lf.run_fa (S.ev rfl) fa54_1) rfl rfl trivial ?_
            clear S; intro aa S
            obtain ⟨x40, c_4, H⟩ := H
            refine OL.pure S (Lf.run_ld (S.ev rfl) fl52 (S.cl c_4)) rfl rfl trivial ?_
            clear S; intro aa S
            refine OL.pure S (Lf.run_move (S.ev rfl)) rfl rfl trivial ?_
            clear S; intro aa S
            obtain ⟨q42, e_9, e_10, e_11, H⟩ := H
            refine OL.pure S (Lf.run_ixs (S.ev rfl) (S.ev rfl) Try.underlying52 ti51 e_9 e_10 e_11) rfl rfl trivial ?_
            clear S; intro aa S
            obtain ⟨x43, c_5, H⟩ := H
            refine OL.pure S (Lf.run_ld (S.ev rfl) fl51 (S.cl c_5)) rfl rfl trivial ?_
            clear S; intro aa S
            refine OL.pure S (Lf.run_move (S.ev rfl)) rfl rfl trivial ?_
            clear S; intro aa S
            obtain ⟨q45, e_12, e_13, e_14, H⟩ := H
            refine OL.pure S (Lf.run_ixs (S.ev rfl) (S.ev rfl) Try.underlying51 ti4 e_12 e_13 e_14) rfl rfl trivial ?_
            clear S; intro aa S
            obtain ⟨x46, c_6, H⟩ := H
            refine OL.pure S (Lf.run_ld (S.ev rfl) fl4 (S.cl c_6)) rfl rfl trivial ?_
            clear S; intro aa S
            refine OL.pure S (Lf.run_not (S.ev rfl)) rfl rfl trivial ?_
            clear S; intro aa S
            refine OL.nil ?_
            refine W.cond S (b := (!x46)) rfl (fun hb_4 => ?_) (fun hb_4 => ?_)
            · replace H := H.1 hb_4
              refine W.exit_ ?_
              refine xhit ?_
              exact ⟨h4, S.sub _ ⟨rfl, rfl, rfl, rfl, rfl, trivial⟩, H⟩
            · replace H := H.2 hb_4
              refine W.skip ?_
              refine W.seq ?_
              replace S := S.sub [(0, Value.pointer r0), (1, Value.int .i64 a1), (2, Value.int .i64 b2), (7, Value.int .i64 x34), (33, Value.int .i64 ((x32.n : Nat) : Int)), (34, Value.int .i64 x34)] ⟨rfl, rfl, rfl, rfl, rfl, rfl, trivial⟩
              refine W.region ?_
              refine OL.pure S (Lf.run_move (S.ev rfl)) rfl rfl trivial ?_
              clear S; intro aa S
              obtain ⟨p49, e_15, H⟩ := H
              refine OL.pure S (Lf.run_nc' (S.ev rfl) e_15) rfl rfl trivial ?_
              clear S; intro aa S
              refine OL.pure S (Lf.run_fa (S.ev rfl) fa54_1) rfl rfl trivial ?_
              clear S; intro aa S
              obtain ⟨x51, c_7, H⟩ := H
              refine OL.pure S (Lf.run_ld (S.ev rfl) fl52 (S.cl c_7)) rfl rfl trivial ?_
              clear S; intro aa S
              refine OL.pure S (Lf.run_move (S.ev rfl)) rfl rfl trivial ?_
              clear S; intro aa S
              obtain ⟨q53, e_16, e_17, e_18, H⟩ := H
              refine OL.pure S (Lf.run_ixs (S.ev rfl) (S.ev rfl) Try.underlying52 ti51 e_16 e_17 e_18) rfl rfl trivial ?_
              clear S; intro aa S
              obtain ⟨x54, c_8, H⟩ := H
              refine OL.pure S (Lf.run_ld (S.ev rfl) fl51 (S.cl c_8)) rfl rfl trivial ?_
              clear S; intro aa S
              refine OL.pure S (Lf.run_lens (S.ev rfl) rfl Try.underlying51) rfl rfl trivial ?_
              clear S; intro aa S
              refine OL.pure S (Lf.run_move (S.ev rfl)) rfl rfl trivial ?_
              clear S; intro aa S
              refine OL.nil ?_
              refine W.block ?_
              obtain ⟨I_1, m_1, H, HB⟩ := H
              refine W.loopS (σ := Int × Heap) (fun s aa ww => St 92 [(0, Value.pointer r0), (1, Value.int .i64 a1), (2, Value.int .i64 b2), (7, Value.int .i64 x34), (33, Value.int .i64 ((x32.n : Nat) : Int)), (34, Value.int .i64 x34), (55, Value.int .i64 ((x54.n : Nat) : Int)), (56, Value.int .i64 s.1)] s.2 w0 aa ww ∧ I_1 s.1 s.2) (fun s => m_1 s.1 s.2) (0, h4) ⟨S.sub _ ⟨rfl, rfl, rfl, rfl, rfl, rfl, rfl, rfl, trivial⟩, H⟩ ?_
              clear H S aa
              rintro ⟨x56, h5⟩ aa ww ⟨S, HI⟩
              replace S : St 92 [(0, Value.pointer r0), (1, Value.int .i64 a1), (2, Value.int .i64 b2), (7, Value.int .i64 x34), (33, Value.int .i64 ((x32.n : Nat) : Int)), (34, Value.int .i64 x34), (55, Value.int .i64 ((x54.n : Nat) : Int)), (56, Value.int .i64 x56)] h5 w0 aa ww := S
              have H := HB x56 h5 HI
              clear HI
              refine W.seq ?_
              replace S := S.sub [(0, Value.pointer r0), (1, Value.int .i64 a1), (2, Value.int .i64 b2), (7, Value.int .i64 x34), (33, Value.int .i64 ((x32.n : Nat) : Int)), (34, Value.int .i64 x34), (55, Value.int .i64 ((x54.n : Nat) : Int)), (56, Value.int .i64 x56)] ⟨rfl, rfl, rfl, rfl, rfl, rfl, rfl, rfl, trivial⟩
              refine W.region ?_
              refine OL.pure S (Lf.run_lss (S.ev rfl) (S.ev rfl)) rfl rfl trivial ?_
              clear S; intro aa S
              refine OL.nil ?_
              refine W.seq ?_
              refine W.cond S (b := (decide (x56 < ((x54.n : Nat) : Int)))) rfl (fun hb_5 => ?_) (fun hb_5 => ?_)
              · replace H := H.1 hb_5
                refine W.skip ?_
                refine W.seq ?_
                refine W.block ?_
                refine W.seq ?_
                replace S := S.sub [(0, Value.pointer r0), (1, Value.int .i64 a1), (2, Value.int .i64 b2), (7, Value.int .i64 x34), (33, Value.int .i64 ((x32.n : Nat) : Int)), (34, Value.int .i64 x34), (55, Value.int .i64 ((x54.n : Nat) : Int)), (56, Value.int .i64 x56)] ⟨rfl, rfl, rfl, rfl, rfl, rfl, rfl, rfl, trivial⟩
                refine W.region ?_
                refine OL.pure S (Lf.run_move (S.ev rfl)) rfl rfl trivial ?_
                clear S; intro aa S
                refine OL.pure S (Lf.run_assign (S.ev rfl)) rfl rfl trivial ?_
                clear S; intro aa S
                refine OL.nil ?_
                replace S := S.sub [(0, Value.pointer r0), (1, Value.int .i64 a1), (2, Value.int .i64 b2), (7, Value.int .i64 x34), (8, Value.int .i64 x56), (33, Value.int .i64 ((x32.n : Nat) : Int)), (34, Value.int .i64 x34), (55, Value.int .i64 ((x54.n : Nat) : Int)), (56, Value.int .i64 x56)] ⟨rfl, rfl, rfl, rfl, rfl, rfl, rfl, rfl, rfl, trivial⟩
                obtain ⟨J_2, H, HK_2⟩ := H
                refine W.mono (N' := fun aa ww => ∃ h8, St 92 [(0, Value.pointer r0), (1, Value.int .i64 a1), (2, Value.int .i64 b2), (7, Value.int .i64 x34), (33, Value.int .i64 ((x32.n : Nat) : Int)), (34, Value.int .i64 x34), (55, Value.int .i64 ((x54.n : Nat) : Int)), (56, Value.int .i64 x56)] h8 w0 aa ww ∧ J_2 h8) ?_ ?_
                · refine W.regionD S (by kernel_rfl) ?_
                  clear S; intro ww S
                  refine AN.pure 0 S rfl (by kernel_rfl) (fun _ => Lf.run_move (S.ev rfl)) rfl rfl trivial ?_
                  clear S; intro aa S
                  obtain ⟨p60, e_19, H⟩ := H
                  refine AN.pure 1 S rfl (by kernel_rfl) (fun _ => Lf.run_nc' (S.ev rfl) e_19) rfl rfl trivial ?_
                  clear S; intro aa S
                  refine AN.pure 2 S rfl (by kernel_rfl) (fun _ => Lf.run_fa (S.ev rfl) fa54_1) rfl rfl trivial ?_
                  clear S; intro aa S
                  obtain ⟨x62, c_9, H⟩ := H
                  refine AN.load 3 S rfl (by kernel_rfl) (fun _ hx => Lf.run_ld (S.ev rfl) fl52 (hx.cell _ _ (S.cl c_9))) rfl rfl trivial ?_
                  clear S; intro aa S
                  refine AN.pure 4 S rfl (by kernel_rfl) (fun _ => Lf.run_move (S.ev rfl)) rfl rfl trivial ?_
                  clear S; intro aa S
                  obtain ⟨q64, e_20, e_21, e_22, H⟩ := H
                  refine AN.pure 5 S rfl (by kernel_rfl) (fun _ => Lf.run_ixs (S.ev rfl) (S.ev rfl) Try.underlying52 ti51 e_20 e_21 e_22) rfl rfl trivial ?_
                  clear S; intro aa S
                  obtain ⟨x65, c_10, H⟩ := H
                  refine AN.load 6 S rfl (by kernel_rfl) (fun _ hx => Lf.run_ld (S.ev rfl) fl51 (hx.cell _ _ (S.cl c_10))) rfl rfl trivial ?_
                  clear S; intro aa S
                  refine AN.pure 7 S rfl (by kernel_rfl) (fun _ => Lf.run_move (S.ev rfl)) rfl rfl trivial ?_
                  clear S; intro aa S
                  refine AN.pure 8 S rfl (by kernel_rfl) (fun _ => Lf.run_move (S.ev rfl)) rfl rfl trivial ?_
                  clear S; intro aa S
                  obtain ⟨p68, e_23, H⟩ := H
                  refine AN.pure 9 S rfl (by kernel_rfl) (fun _ => Lf.run_nc' (S.ev rfl) e_23) rfl rfl trivial ?_
                  clear S; intro aa S
                  refine AN.pure 10 S rfl (by kernel_rfl) (fun _ => Lf.run_fa (S.ev rfl) fa54_1) rfl rfl trivial ?_
                  clear S; intro aa S
                  obtain ⟨x70, c_11, H⟩ := H
                  refine AN.load 11 S rfl (by kernel_rfl) (fun _ hx => Lf.run_ld (S.ev rfl) fl52 (hx.cell _ _ (S.cl c_11))) rfl rfl trivial ?_
                  clear S; intro aa S
                  refine AN.pure 12 S rfl (by kernel_rfl) (fun _ => Lf.run_move (S.ev rfl)) rfl rfl trivial ?_
                  clear S; intro aa S
                  obtain ⟨q72, e_24, e_25, e_26, H⟩ := H
                  refine AN.pure 13 S rfl (by kernel_rfl) (fun _ => Lf.run_ixs (S.ev rfl) (S.ev rfl) Try.underlying52 ti51 e_24 e_25 e_26) rfl rfl trivial ?_
                  clear S; intro aa S
                  obtain ⟨x73, c_12, H⟩ := H
                  refine AN.load 14 S rfl (by kernel_rfl) (fun _ hx => Lf.run_ld (S.ev rfl) fl51 (hx.cell _ _ (S.cl c_12))) rfl rfl trivial ?_
                  clear S; intro aa S
                  refine AN.pure 15 S rfl (by kernel_rfl) (fun _ => Lf.run_move (S.ev rfl)) rfl rfl trivial ?_
                  clear S; intro aa S
                  obtain ⟨q75, e_27, e_28, e_29, H⟩ := H
                  refine AN.pure 16 S rfl (by kernel_rfl) (fun _ => Lf.run_ixs (S.ev rfl) (S.ev rfl) Try.underlying51 ti4 e_27 e_28 e_29) rfl rfl trivial ?_
                  clear S; intro aa S
                  obtain ⟨x76, c_13, H⟩ := H
                  refine AN.load 17 S rfl (by kernel_rfl) (fun _ hx => Lf.run_ld (S.ev rfl) fl4 (hx.cell _ _ (S.cl c_13))) rfl rfl trivial ?_
                  clear S; intro aa S
                  refine AN.pure 18 S rfl (by kernel_rfl) (fun _ => Lf.run_move (S.ev rfl)) rfl rfl trivial ?_
                  clear S; intro aa S
                  rcases Bool.eq_false_or_eq_true x76 with hb_6 | hb_6
                  · replace H := H.1 hb_6
                    refine AN.not 19 S rfl (by kernel_rfl) rfl rfl (GNo.mk rfl rfl hb_6) ?_
                    clear S; intro aa S
                    refine AN.not 20 S rfl (by kernel_rfl) rfl rfl (GNo.mk rfl rfl hb_6) ?_
                    clear S; intro aa S
                    refine AN.not 21 S rfl (by kernel_rfl) rfl rfl (GNo.mk rfl rfl hb_6) ?_
                    clear S; intro aa S
                    refine AN.not 22 S rfl (by kernel_rfl) rfl rfl (GNo.mk rfl rfl hb_6) ?_
                    clear S; intro aa S
                    refine AN.not 23 S rfl (by kernel_rfl) rfl rfl (GNo.mk rfl rfl hb_6) ?_
                    clear S; intro aa S
                    refine AN.not 24 S rfl (by kernel_rfl) rfl rfl (GNo.mk rfl rfl hb_6) ?_
                    clear S; intro aa S
                    refine AN.not 25 S rfl (by kernel_rfl) rfl rfl (GNo.mk rfl rfl hb_6) ?_
                    clear S; intro aa S
                    refine AN.not 26 S rfl (by kernel_rfl) rfl rfl (GNo.mk rfl rfl hb_6) ?_
                    clear S; intro aa S
                    refine AN.not 27 S rfl (by kernel_rfl) rfl rfl (GNo.mk rfl rfl hb_6) ?_
                    clear S; intro aa S
                    refine AN.not 28 S rfl (by kernel_rfl) rfl rfl (GNo.mk rfl rfl hb_6) ?_
                    clear S; intro aa S
                    refine AN.pure 29 S rfl (by kernel_rfl) (fun _ => run_pickT (S.ev rfl) hb_6 (S.ev rfl)) rfl rfl trivial ?_
                    clear S; intro aa S
                    obtain ⟨q89_1, e_40, e_41, e_42, H⟩ := H
                    refine AN.pure 30 S rfl (by kernel_rfl) (fun _ => Lf.run_ixs (S.ev rfl) (S.ev rfl) Try.underlying51 ti4 e_40 e_41 e_42) rfl rfl trivial ?_
                    clear S; intro aa S
                    refine AN.eff 31 rfl (by kernel_rfl) ?_
                    refine ol_sto S H rfl rfl rfl ti4 trivial ?_
                    clear S H aa; intro aa ww h7 H S
                    refine OL.nil ?_
                    refine AN.done (by kernel_rfl) ?_
                    exact ⟨h7, S.sub _ ⟨rfl, rfl, rfl, rfl, rfl, rfl, rfl, rfl, trivial⟩, H⟩
                  · replace H := H.2 hb_6
                    refine AN.pure 19 S rfl (by kernel_rfl) (fun _ => Lf.run_move (S.ev rfl)) rfl rfl (GOk.mk rfl rfl hb_6) ?_
                    clear S; intro aa S
                    obtain ⟨p79, e_30, H⟩ := H
                    refine AN.pure 20 S rfl (by kernel_rfl) (fun _ => Lf.run_nc' (S.ev rfl) e_30) rfl rfl (GOk.mk rfl rfl hb_6) ?_
                    clear S; intro aa S
                    refine AN.pure 21 S rfl (by kernel_rfl) (fun _ => Lf.run_fa (S.ev rfl) fa54_1) rfl rfl (GOk.mk rfl rfl hb_6) ?_
                    clear S; intro aa S
                    obtain ⟨x81, c_14, H⟩ := H
                    refine AN.load 22 S rfl (by kernel_rfl) (fun _ hx => Lf.run_ld (S.ev rfl) fl52 (hx.cell _ _ (S.cl c_14))) rfl rfl (GOk.mk rfl rfl hb_6) ?_
                    clear S; intro aa S
                    refine AN.pure 23 S rfl (by kernel_rfl) (fun _ => Lf.run_move (S.ev rfl)) rfl rfl (GOk.mk rfl rfl hb_6) ?_
                    clear S; intro aa S
                    obtain ⟨q83, e_31, e_32, e_33, H⟩ := H
                    refine AN.pure 24 S rfl (by kernel_rfl) (fun _ => Lf.run_ixs (S.ev rfl) (S.ev rfl) Try.underlying52 ti51 e_31 e_32 e_33) rfl rfl (GOk.mk rfl rfl hb_6) ?_
                    clear S; intro aa S
                    obtain ⟨x84, c_15, H⟩ := H
                    refine AN.load 25 S rfl (by kernel_rfl) (fun _ hx => Lf.run_ld (S.ev rfl) fl51 (hx.cell _ _ (S.cl c_15))) rfl rfl (GOk.mk rfl rfl hb_6) ?_
                    clear S; intro aa S
                    refine AN.pure 26 S rfl (by kernel_rfl) (fun _ => Lf.run_move (S.ev rfl)) rfl rfl (GOk.mk rfl rfl hb_6) ?_
                    clear S; intro aa S
                    obtain ⟨q86, e_34, e_35, e_36, H⟩ := H
                    refine AN.pure 27 S rfl (by kernel_rfl) (fun _ => Lf.run_ixs (S.ev rfl) (S.ev rfl) Try.underlying51 ti4 e_34 e_35 e_36) rfl rfl (GOk.mk rfl rfl hb_6) ?_
                    clear S; intro aa S
                    obtain ⟨x87, c_16, H⟩ := H
                    refine AN.load 28 S rfl (by kernel_rfl) (fun _ hx => Lf.run_ld (S.ev rfl) fl4 (hx.cell _ _ (S.cl c_16))) rfl rfl (GOk.mk rfl rfl hb_6) ?_
                    clear S; intro aa S
                    refine AN.pure 29 S rfl (by kernel_rfl) (fun _ => run_pickF (S.ev rfl) hb_6 (S.ev rfl)) rfl rfl trivial ?_
                    clear S; intro aa S
                    obtain ⟨q89, e_37, e_38, e_39, H⟩ := H
                    refine AN.pure 30 S rfl (by kernel_rfl) (fun _ => Lf.run_ixs (S.ev rfl) (S.ev rfl) Try.underlying51 ti4 e_37 e_38 e_39) rfl rfl trivial ?_
                    clear S; intro aa S
                    refine AN.eff 31 rfl (by kernel_rfl) ?_
                    refine ol_sto S H rfl rfl rfl ti4 trivial ?_
                    clear S H aa; intro aa ww h6 H S
                    refine OL.nil ?_
                    refine AN.done (by kernel_rfl) ?_
                    exact ⟨h6, S.sub _ ⟨rfl, rfl, rfl, rfl, rfl, rfl, rfl, rfl, trivial⟩, H⟩
                · clear H S aa
                  rintro aa ww ⟨h8, S, HJ⟩
                  have H := HK_2 _ HJ
                  clear HK_2 HJ
                  replace S := S.sub [(0, Value.pointer r0), (1, Value.int .i64 a1), (2, Value.int .i64 b2), (7, Value.int .i64 x34), (33, Value.int .i64 ((x32.n : Nat) : Int)), (34, Value.int .i64 x34), (55, Value.int .i64 ((x54.n : Nat) : Int)), (56, Value.int .i64 x56)] ⟨rfl, rfl, rfl, rfl, rfl, rfl, rfl, rfl, trivial⟩
                  refine W.region ?_
                  refine OL.pure S (Lf.run_add (S.ev rfl) (S.ev rfl)) rfl rfl trivial ?_
                  clear S; intro aa S
                  refine OL.pure S (Lf.run_move (S.ev rfl)) rfl rfl trivial ?_
                  clear S; intro aa S
                  refine OL.nil ?_
                  exact ⟨((IntKind.i64.wrap (x56 + 1)), h8), ⟨S.sub _ ⟨rfl, rfl, rfl, rfl, rfl, rfl, rfl, rfl, trivial⟩, H.1⟩, H.2⟩
              · replace H := H.2 hb_5
                refine W.exit_ ?_
                refine xhit ?_
                exact ⟨h5, S.sub _ ⟨rfl, rfl, rfl, rfl, rfl, trivial⟩, H⟩
          · clear H S aa
            rintro aa ww ⟨h9, S, HJ⟩
            have H := HK_1 _ HJ
            clear HK_1 HJ
            replace S := S.sub [(0, Value.pointer r0), (1, Value.int .i64 a1), (2, Value.int .i64 b2), (33, Value.int .i64 ((x32.n : Nat) : Int)), (34, Value.int .i64 x34)] ⟨rfl, rfl, rfl, rfl, rfl, trivial⟩
            refine W.region ?_
            refine OL.pure S (Lf.run_add (S.ev rfl) (S.ev rfl)) rfl rfl trivial ?_
            clear S; intro aa S
            refine OL.pure S (Lf.run_move (S.ev rfl)) rfl rfl trivial ?_
            clear S; intro aa S
            refine OL.nil ?_
            exact ⟨((IntKind.i64.wrap (x34 + 1)), h9), ⟨S.sub _ ⟨rfl, rfl, rfl, rfl, rfl, trivial⟩, H.1⟩, H.2⟩
        · replace H := H.2 hb_3
          refine W.exit_ ?_
          refine xhit ?_
          refine W.seq ?_
          replace S := S.sub [] trivial
          refine W.region ?_
          refine OL.pure S (Lf.run_assign (S.ev rfl)) rfl rfl trivial ?_
          clear S; intro aa S
          refine OL.nil ?_
          refine W.ret ?_
          exact Ret.one S rfl rfl H

/-- chattel chattellaw06.both -/
def L10 (n0 : Int) (pairs1 : Sv) (h : Heap) (R : Value → Heap → Prop) : Prop :=
  cal Try.prog 22 #[Value.int .i64 n0] h fun u h1 => asTup u fun r16 =>
  elt r16 0 fun u_1 => asP u_1 fun x17 =>
  elt r16 1 fun u_2 => asI .i64 u_2 fun x18 =>
  ifb ((x18 != 0) || (Option.isNone x17)) (
    R (.tuple #[Value.pointer none, Value.pointer none, Value.bool false]) h1) (
    new 49 #[Value.int .i64 n0, Value.slice (⟨none, 0, 0⟩ : Sv).a (⟨none, 0, 0⟩ : Sv).n (⟨none, 0, 0⟩ : Sv).c] h1 fun p27 h2 =>
    ∃ (I : Int → Heap → Prop) (m : Int → Heap → Nat), I 0 h2 ∧ ∀ i10 h3, I i10 h3 →
    ifb (decide (i10 < ((pairs1.n : Nat) : Int))) (
      ∃ J : Heap → Prop, (
        ixS pairs1 i10 fun q36 =>
        ldI .i64 h3 (q36.add ((i10 : Int).toNat * 2)) fun x38 =>
        ixS pairs1 i10 fun q41 =>
        ldI .i64 h3 ((q41.add ((i10 : Int).toNat * 2)).add 1) fun x43 =>
        cal Try.prog 14 #[Value.pointer x17, Value.int .i64 x38, Value.int .i64 x43] h3 fun u_3 h4 => asI .i64 u_3 fun x63 =>
        ifb ((x63 == 0) != ((((decide (0 ≤ x38)) && (decide (0 ≤ x43))) && (decide (x38 ≤ n0))) && (decide (x43 ≤ n0)))) (
          R (.tuple #[Value.pointer none, Value.pointer none, Value.bool false]) h4) (
          ifb ((((decide (0 ≤ x38)) && (decide (0 ≤ x43))) && (decide (x38 ≤ n0))) && (decide (x43 ≤ n0))) (
            ldS h4 (p27.add 1) fun x72 =>
            ixS pairs1 i10 fun q75 =>
            ∃ (y76 : Int) (y76_1 : Int), cl h4 (q75.add ((i10 : Int).toNat * 2)) = some (Value.int .i64 y76) ∧ cl h4 ((q75.add ((i10 : Int).toNat * 2)).add 1) = some (Value.int .i64 y76_1) ∧
            newS 33 #[Value.int .i64 y76, Value.int .i64 y76_1] 1 h4 fun s77 h5 =>
            appS 33 (Value.agg #[Value.int .i64 0, Value.int .i64 0]).cells 2 16 h5 x72 s77 fun s78 h6 =>
            sto h6 (p27.add 1) (Value.slice s78.a s78.n s78.c) fun h7 =>
            J h7) (
            J h4))) ∧ (∀ h8, J h8 →
      I (IntKind.i64.wrap (i10 + 1)) h8 ∧ m (IntKind.i64.wrap (i10 + 1)) h8 < m i10 h3)) (
      R (.tuple #[Value.pointer x17, Value.pointer (some p27), Value.bool true]) h3))

set_option maxRecDepth 100000 in

theorem F10 {n0 pairs1 h : _} {R : Value → Heap → Prop} (H : L10 n0 pairs1 h R) : CallsH Try.prog 10 #[Value.int .i64 n0, Value.slice pairs1.a pairs1.n pairs1.c] h R := by
  refine CallsH.enter (n := 83) Try.func10 rfl rfl rfl rfl ?_
  intro w0 aa ww S
  unfold L10 at H
  refine W.seq ?_
  replace S := S.sub [(0, Value.int .i64 n0), (1, Value.slice pairs1.a pairs1.n pairs1.c)] ⟨rfl, rfl, trivial⟩
  refine W.region ?_
  refine OL.pure S (Lf.run_assign (S.ev rfl)) rfl rfl trivial ?_
  clear S; intro aa S
  refine OL.pure S (Lf.run_assign (S.ev rfl)) rfl rfl trivial ?_
  clear S; intro aa S
  refine OL.pure S (Lf.run_assign (S.ev rfl)) rfl rfl trivial ?_
  clear S; intro aa S
  refine OL.nil ?_
  refine W.seq ?_
  replace S := S.sub [(0, Value.int .i64 n0), (1, Value.slice pairs1.a pairs1.n pairs1.c)] ⟨rfl, rfl, trivial⟩
  refine W.region ?_
  refine OL.pure S (Lf.run_move (S.ev rfl)) rfl rfl trivial ?_
  clear S; intro aa S
  refine ol_cal S H isfn22 rfl rfl trivial ?_
  clear S H aa; intro u aa ww h1 H S
  obtain ⟨r16, rfl, H⟩ := H
  refine OL.pure S (Lf.run_move (S.ev rfl)) rfl rfl trivial ?_
  clear S; intro aa S
  obtain ⟨u_1, e, x17, rfl, H⟩ := H
  refine OL.pure S (Lf.run_ex (S.ev rfl) e) rfl rfl trivial ?_
  clear S; intro aa S
  obtain ⟨u_2, e_1, x18, rfl, H⟩ := H
  refine OL.pure S (Lf.run_ex (S.ev rfl) e_1) rfl rfl trivial ?_
  clear S; intro aa S
  refine OL.pure S (Lf.run_assign (S.ev rfl)) rfl rfl trivial ?_
  clear S; intro aa S
  refine OL.pure S (Lf.run_assign (S.ev rfl)) rfl rfl trivial ?_
  clear S; intro aa S
  refine OL.nil ?_
  refine W.seq ?_
  refine W.seq ?_
  replace S := S.sub [(0, Value.int .i64 n0), (1, Value.slice pairs1.a pairs1.n pairs1.c), (7, Value.pointer x17), (8, Value.int .i64 x18)] ⟨rfl, rfl, rfl, rfl, trivial⟩
  refine W.region ?_
  refine OL.pure S (Lf.run_move (S.ev rfl)) rfl rfl trivial ?_
  clear S; intro aa S
  refine OL.pure S (Lf.run_neq (S.ev rfl) (S.ev rfl)) rfl rfl trivial ?_
  clear S; intro aa S
  refine OL.pure S (Lf.run_move (S.ev rfl)) rfl rfl trivial ?_
  clear S; intro aa S
  refine OL.cutN 3 (fun aa ww => St 83 ((24, Value.bool ((x18 != 0) || (Option.isNone x17))) :: [(0, Value.int .i64 n0), (1, Value.slice pairs1.a pairs1.n pairs1.c), (7, Value.pointer x17), (8, Value.int .i64 x18), (19, Value.int .i64 x18), (20, Value.bool (x18 != 0)), (21, Value.bool (x18 != 0))]) h1 w0 aa ww) ?_ ?_
  · rcases Bool.eq_false_or_eq_true (x18 != 0) with hb | hb
    · refine OL.not S rfl rfl (GNo.mk rfl rfl hb) ?_
      clear S; intro aa S
      refine OL.not S rfl rfl (GNo.mk rfl rfl hb) ?_
      clear S; intro aa S
      refine OL.pure S (Lf.run_pickT (S.ev rfl) hb (S.ev rfl)) rfl rfl trivial ?_
      clear S; intro aa S
      refine OL.nil ?_
      exact (S.hd (by rw [hb, Bool.true_or])).sub _ ⟨rfl, rfl, rfl, rfl, rfl, rfl, rfl, rfl, trivial⟩
    · refine OL.pure S (Lf.run_move (S.ev rfl)) rfl rfl (GOk.mk rfl rfl hb) ?_
      clear S; intro aa S
      refine OL.pure S (Lf.run_eqlpn Try.underlying24 (S.ev rfl) (S.ev rfl)) rfl rfl (GOk.mk rfl rfl hb) ?_
      clear S; intro aa S
      refine OL.pure S (Lf.run_pickF (S.ev rfl) hb (S.ev rfl)) rfl rfl trivial ?_
      clear S; intro aa S
      refine OL.nil ?_
      exact (S.hd (by rw [hb, Bool.false_or])).sub _ ⟨rfl, rfl, rfl, rfl, rfl, rfl, rfl, rfl, trivial⟩
  · clear S aa
    intro aa ww S
    refine OL.nil ?_
    refine W.cond S (b := ((x18 != 0) || (Option.isNone x17))) rfl (fun hb_1 => ?_) (fun hb_1 => ?_)
    · replace H := H.1 hb_1
      refine W.seq ?_
      replace S := S.sub [] trivial
      refine W.region ?_
      refine OL.pure S (Lf.run_assign (S.ev rfl)) rfl rfl trivial ?_
      clear S; intro aa S
      refine OL.pure S (Lf.run_assign (S.ev rfl)) rfl rfl trivial ?_
      clear S; intro aa S
      refine OL.pure S (Lf.run_assign (S.ev rfl)) rfl rfl trivial ?_
      clear S; intro aa S
      refine OL.nil ?_
      refine W.ret ?_
      exact Ret.three S rfl rfl rfl rfl H
    · replace H := H.2 hb_1
      refine W.skip ?_
      refine W.seq ?_
      replace S := S.sub [(0, Value.int .i64 n0), (1, Value.slice pairs1.a pairs1.n pairs1.c), (7, Value.pointer x17)] ⟨rfl, rfl, rfl, trivial⟩
      refine W.region ?_
      refine OL.pure S (Lf.run_move (S.ev rfl)) rfl rfl trivial ?_
      clear S; intro aa S
      refine OL.pure S (Lf.run_build (cs := #[Value.int .i64 n0, Value.slice (⟨none, 0, 0⟩ : Sv).a (⟨none, 0, 0⟩ : Sv).n (⟨none, 0, 0⟩ : Sv).c]) pl49 ti49 (parts_map S rfl) (by kernel_rfl)) rfl rfl trivial ?_
      clear S; intro aa S
      refine ol_box S H rfl rfl rfl trivial ?_
      clear S H aa; intro p27 aa ww h2 H S
      refine OL.pure S (Lf.run_assign (S.ev rfl)) rfl rfl trivial ?_
      clear S; intro aa S
      refine OL.nil ?_
      refine W.seq ?_
      refine W.seq ?_
      replace S := S.sub [(0, Value.int .i64 n0), (1, Value.slice pairs1.a pairs1.n pairs1.c), (7, Value.pointer x17), (9, Value.pointer (some p27))] ⟨rfl, rfl, rfl, rfl, trivial⟩
      refine W.region ?_
      refine OL.pure S (Lf.run_assign (S.ev rfl)) rfl rfl trivial ?_
      clear S; intro aa S
      refine OL.nil ?_
      refine W.block ?_
      obtain ⟨I, m, H, HB⟩ := H
      refine W.loopS (σ := Int × Heap) (fun s aa ww => St 83 [(0, Value.int .i64 n0), (1, Value.slice pairs1.a pairs1.n pairs1.c), (7, Value.pointer x17), (9, Value.pointer (some p27)), (10, Value.int .i64 s.1)] s.2 w0 aa ww ∧ I s.1 s.2) (fun s => m s.1 s.2) (0, h2) ⟨S.sub _ ⟨rfl, rfl, rfl, rfl, rfl, trivial⟩, H⟩ ?_
      clear H S aa
      rintro ⟨i10, h3⟩ aa ww ⟨S, HI⟩
      replace S : St 83 [(0, Value.int .i64 n0), (1, Value.slice pairs1.a pairs1.n pairs1.c), (7, Value.pointer x17), (9, Value.pointer (some p27)), (10, Value.int .i64 i10)] h3 w0 aa ww := S
      have H := HB i10 h3 HI
      clear HI
      refine W.seq ?_
      refine W.seq ?_
      replace S := S.sub [(0, Value.int .i64 n0), (1, Value.slice pairs1.a pairs1.n pairs1.c), (7, Value.pointer x17), (9, Value.pointer (some p27)), (10, Value.int .i64 i10)] ⟨rfl, rfl, rfl, rfl, rfl, trivial⟩
      refine W.region ?_
      refine OL.pure S (Lf.run_move (S.ev rfl)) rfl rfl trivial ?_
      clear S; intro aa S
      refine OL.pure S (Lf.run_move (S.ev rfl)) rfl rfl trivial ?_
      clear S; intro aa S
      refine OL.pure S (Lf.run_lens (S.ev rfl) rfl Try.underlying22) rfl rfl trivial ?_
      clear S; intro aa S
      refine OL.pure S (Lf.run_lss (S.ev rfl) (S.ev rfl)) rfl rfl trivial ?_
      clear S; intro aa S
      refine OL.nil ?_
      refine W.cond S (b := (decide (i10 < ((pairs1.n : Nat) : Int)))) rfl (fun hb_2 => ?_) (fun hb_2 => ?_)
      · replace H := H.1 hb_2
        refine W.skip ?_
        obtain ⟨J, H, HK⟩ := H
        refine W.seqJ (fun aa ww => ∃ h8, St 83 [(0, Value.int .i64 n0), (1, Value.slice pairs1.a pairs1.n pairs1.c), (7, Value.pointer x17), (9, Value.pointer (some p27)), (10, Value.int .i64 i10)] h8 w0 aa ww ∧ J h8) ?_ ?_
        · clear HK
          refine W.block ?_
          refine W.seq ?_
          replace S := S.sub [(0, Value.int .i64 n0), (1, Value.slice pairs1.a pairs1.n pairs1.c), (7, Value.pointer x17), (9, Value.pointer (some p27)), (10, Value.int .i64 i10)] ⟨rfl, rfl, rfl, rfl, rfl, trivial⟩
          refine W.regionD S (by kernel_rfl) ?_
          clear S; intro ww S
          refine AN.pure 0 S rfl (by kernel_rfl) (fun _ => Lf.run_move (S.ev rfl)) rfl rfl trivial ?_
          clear S; intro aa S
          refine AN.pure 1 S rfl (by kernel_rfl) (fun _ => Lf.run_move (S.ev rfl)) rfl rfl trivial ?_
          clear S; intro aa S
          obtain ⟨q36, e_2, e_3, e_4, H⟩ := H
          refine AN.pure 2 S rfl (by kernel_rfl) (fun _ => Lf.run_ixs (S.ev rfl) (S.ev rfl) Try.underlying22 ti33 e_2 e_3 e_4) rfl rfl trivial ?_
          clear S; intro aa S
          refine AN.pure 3 S rfl (by kernel_rfl) (fun _ => Lf.run_ixa (S.ev rfl) (S.ev rfl) Try.underlying33 ti3 (by decide) (by decide)) rfl rfl trivial ?_
          clear S; intro aa S
          obtain ⟨x38, c, H⟩ := H
          refine AN.load 4 S rfl (by kernel_rfl) (fun _ hx => Lf.run_ld (S.ev rfl) fl3 (hx.cell _ _ (S.cl c))) rfl rfl trivial ?_
          clear S; intro aa S
          refine AN.pure 5 S rfl (by kernel_rfl) (fun _ => Lf.run_move (S.ev rfl)) rfl rfl trivial ?_
          clear S; intro aa S
          refine AN.pure 6 S rfl (by kernel_rfl) (fun _ => Lf.run_move (S.ev rfl)) rfl rfl trivial ?_
          clear S; intro aa S
          obtain ⟨q41, e_7, e_8, e_9, H⟩ := H
          refine AN.pure 7 S rfl (by kernel_rfl) (fun _ => Lf.run_ixs (S.ev rfl) (S.ev rfl) Try.underlying22 ti33 e_7 e_8 e_9) rfl rfl trivial ?_
          clear S; intro aa S
          refine AN.pure 8 S rfl (by kernel_rfl) (fun _ => Lf.run_ixa (S.ev rfl) (S.ev rfl) Try.underlying33 ti3 (by decide) (by decide)) rfl rfl trivial ?_
          clear S; intro aa S
          obtain ⟨x43, c_1, H⟩ := H
          refine AN.load 9 S rfl (by kernel_rfl) (fun _ hx => Lf.run_ld (S.ev rfl) fl3 (hx.cell _ _ (S.cl c_1))) rfl rfl trivial ?_
          clear S; intro aa S
          refine AN.pure 10 S rfl (by kernel_rfl) (fun _ => Lf.run_assign (S.ev rfl)) rfl rfl trivial ?_
          clear S; intro aa S
          refine AN.pure 11 S rfl (by kernel_rfl) (fun _ => Lf.run_assign (S.ev rfl)) rfl rfl trivial ?_
          clear S; intro aa S
          refine AN.done (by kernel_rfl) ?_
          refine W.seq ?_
          replace S := S.sub [(0, Value.int .i64 n0), (1, Value.slice pairs1.a pairs1.n pairs1.c), (7, Value.pointer x17), (9, Value.pointer (some p27)), (10, Value.int .i64 i10), (11, Value.int .i64 x38), (12, Value.int .i64 x43)] ⟨rfl, rfl, rfl, rfl, rfl, rfl, rfl, trivial⟩
          refine W.region ?_
          refine OL.pure S (Lf.run_move (S.ev rfl)) rfl rfl trivial ?_
          clear S; intro aa S
          refine OL.pure S (Lf.run_geq (S.ev rfl) (S.ev rfl)) rfl rfl trivial ?_
          clear S; intro aa S
          refine OL.pure S (Lf.run_move (S.ev rfl)) rfl rfl trivial ?_
          clear S; intro aa S
          refine OL.cutN 3 (fun aa ww => St 83 ((49, Value.bool ((decide (0 ≤ x38)) && (decide (0 ≤ x43)))) :: [(0, Value.int .i64 n0), (1, Value.slice pairs1.a pairs1.n pairs1.c), (7, Value.pointer x17), (9, Value.pointer (some p27)), (10, Value.int .i64 i10), (11, Value.int .i64 x38), (12, Value.int .i64 x43), (44, Value.int .i64 x38), (45, Value.bool (decide (0 ≤ x38))), (46, Value.bool (decide (0 ≤ x38)))]) h3 w0 aa ww) ?_ ?_
          · rcases Bool.eq_false_or_eq_true (decide (0 ≤ x38)) with hb_3 | hb_3
            · refine OL.pure S (Lf.run_move (S.ev rfl)) rfl rfl (GOk.mk rfl rfl hb_3) ?_
              clear S; intro aa S
              refine OL.pure S (Lf.run_geq (S.ev rfl) (S.ev rfl)) rfl rfl (GOk.mk rfl rfl hb_3) ?_
              clear S; intro aa S
              refine OL.pure S (Lf.run_pickT (S.ev rfl) hb_3 (S.ev rfl)) rfl rfl trivial ?_
              clear S; intro aa S
              refine OL.nil ?_
              exact (S.hd (by rw [hb_3, Bool.true_and])).sub _ ⟨rfl, rfl, rfl, rfl, rfl, rfl, rfl, rfl, rfl, rfl, rfl, trivial⟩
            · refine OL.not S rfl rfl (GNo.mk rfl rfl hb_3) ?_
              clear S; intro aa S
              refine OL.not S rfl rfl (GNo.mk rfl rfl hb_3) ?_
              clear S; intro aa S
              refine OL.pure S (Lf.run_pickF (S.ev rfl) hb_3 (S.ev rfl)) rfl rfl trivial ?_
              clear S; intro aa S
              refine OL.nil ?_
              exact (S.hd (by rw [hb_3, Bool.false_and])).sub _ ⟨rfl, rfl, rfl, rfl, rfl, rfl, rfl, rfl, rfl, rfl, rfl, trivial⟩
          · clear S aa
            intro aa ww S
            refine OL.pure S (Lf.run_move (S.ev rfl)) rfl rfl trivial ?_
            clear S; intro aa S
            refine OL.cutN 4 (fun aa ww => St 83 ((54, Value.bool (((decide (0 ≤ x38)) && (decide (0 ≤ x43))) && (decide (x38 ≤ n0)))) :: [(0, Value.int .i64 n0), (1, Value.slice pairs1.a pairs1.n pairs1.c), (7, Value.pointer x17), (9, Value.pointer (some p27)), (10, Value.int .i64 i10), (11, Value.int .i64 x38), (12, Value.int .i64 x43), (44, Value.int .i64 x38), (45, Value.bool (decide (0 ≤ x38))), (46, Value.bool (decide (0 ≤ x38))), (49, Value.bool ((decide (0 ≤ x38)) && (decide (0 ≤ x43)))), (50, Value.bool ((decide (0 ≤ x38)) && (decide (0 ≤ x43))))]) h3 w0 aa ww) ?_ ?_
            · rcases Bool.eq_false_or_eq_true ((decide (0 ≤ x38)) && (decide (0 ≤ x43))) with hb_4 | hb_4
              · refine OL.pure S (Lf.run_move (S.ev rfl)) rfl rfl (GOk.mk rfl rfl hb_4) ?_
                clear S; intro aa S
                refine OL.pure S (Lf.run_move (S.ev rfl)) rfl rfl (GOk.mk rfl rfl hb_4) ?_
                clear S; intro aa S
                refine OL.pure S (Lf.run_leq (S.ev rfl) (S.ev rfl)) rfl rfl (GOk.mk rfl rfl hb_4) ?_
                clear S; intro aa S
                refine OL.pure S (Lf.run_pickT (S.ev rfl) hb_4 (S.ev rfl)) rfl rfl trivial ?_
                clear S; intro aa S
                refine OL.nil ?_
                exact (S.hd (by rw [hb_4, Bool.true_and])).sub _ ⟨rfl, rfl, rfl, rfl, rfl, rfl, rfl, rfl, rfl, rfl, rfl, rfl, rfl, trivial⟩
              · refine OL.not S rfl rfl (GNo.mk rfl rfl hb_4) ?_
                clear S; intro aa S
                refine OL.not S rfl rfl (GNo.mk rfl rfl hb_4) ?_
                clear S; intro aa S
                refine OL.not S rfl rfl (GNo.mk rfl rfl hb_4) ?_
                clear S; intro aa S
                refine OL.pure S (Lf.run_pickF (S.ev rfl) hb_4 (S.ev rfl)) rfl rfl trivial ?_
                clear S; intro aa S
                refine OL.nil ?_
                exact (S.hd (by rw [hb_4, Bool.false_and])).sub _ ⟨rfl, rfl, rfl, rfl, rfl, rfl, rfl, rfl, rfl, rfl, rfl, rfl, rfl, trivial⟩
            · clear S aa
              intro aa ww S
              refine OL.pure S (Lf.run_move (S.ev rfl)) rfl rfl trivial ?_
              clear S; intro aa S
              refine OL.cutN 4 (fun aa ww => St 83 ((59, Value.bool ((((decide (0 ≤ x38)) && (decide (0 ≤ x43))) && (decide (x38 ≤ n0))) && (decide (x43 ≤ n0)))) :: [(0, Value.int .i64 n0), (1, Value.slice pairs1.a pairs1.n pairs1.c), (7, Value.pointer x17), (9, Value.pointer (some p27)), (10, Value.int .i64 i10), (11, Value.int .i64 x38), (12, Value.int .i64 x43), (44, Value.int .i64 x38), (45, Value.bool (decide (0 ≤ x38))), (46, Value.bool (decide (0 ≤ x38))), (49, Value.bool ((decide (0 ≤ x38)) && (decide (0 ≤ x43)))), (50, Value.bool ((decide (0 ≤ x38)) && (decide (0 ≤ x43)))), (54, Value.bool (((decide (0 ≤ x38)) && (decide (0 ≤ x43))) && (decide (x38 ≤ n0)))), (55, Value.bool (((decide (0 ≤ x38)) && (decide (0 ≤ x43))) && (decide (x38 ≤ n0))))]) h3 w0 aa ww) ?_ ?_
              · rcases Bool.eq_false_or_eq_true (((decide (0 ≤ x38)) && (decide (0 ≤ x43))) && (decide (x38 ≤ n0))) with hb_5 | hb_5
                · refine OL.pure S (Lf.run_move (S.ev rfl)) rfl rfl (GOk.mk rfl rfl hb_5) ?_
                  clear S; intro aa S
                  refine OL.pure S (Lf.run_move (S.ev rfl)) rfl rfl (GOk.mk rfl rfl hb_5) ?_
                  clear S; intro aa S
                  refine OL.pure S (Lf.run_leq (S.ev rfl) (S.ev rfl)) rfl rfl (GOk.mk rfl rfl hb_5) ?_
                  clear S; intro aa S
                  refine OL.pure S (Lf.run_pickT (S.ev rfl) hb_5 (S.ev rfl)) rfl rfl trivial ?_
                  clear S; intro aa S
                  refine OL.nil ?_
                  exact (S.hd (by rw [hb_5, Bool.true_and])).sub _ ⟨rfl, rfl, rfl, rfl, rfl, rfl, rfl, rfl, rfl, rfl, rfl, rfl, rfl, rfl, rfl, trivial⟩
                · refine OL.not S rfl rfl (GNo.mk rfl rfl hb_5) ?_
                  clear S; intro aa S
                  refine OL.not S rfl rfl (GNo.mk rfl rfl hb_5) ?_
                  clear S; intro aa S
                  refine OL.not S rfl rfl (GNo.mk rfl rfl hb_5) ?_
                  clear S; intro aa S
                  refine OL.pure S (Lf.run_pickF (S.ev rfl) hb_5 (S.ev rfl)) rfl rfl trivial ?_
                  clear S; intro aa S
                  refine OL.nil ?_
                  exact (S.hd (by rw [hb_5, Bool.false_and])).sub _ ⟨rfl, rfl, rfl, rfl, rfl, rfl, rfl, rfl, rfl, rfl, rfl, rfl, rfl, rfl, rfl, trivial⟩
              · clear S aa
                intro aa ww S
                refine OL.pure S (Lf.run_assign (S.ev rfl)) rfl rfl trivial ?_
                clear S; intro aa S
                refine OL.nil ?_
                refine W.seq ?_
                refine W.seq ?_
                replace S := S.sub [(0, Value.int .i64 n0), (1, Value.slice pairs1.a pairs1.n pairs1.c), (7, Value.pointer x17), (9, Value.pointer (some p27)), (10, Value.int .i64 i10), (11, Value.int .i64 x38), (12, Value.int .i64 x43), (13, Value.bool ((((decide (0 ≤ x38)) && (decide (0 ≤ x43))) && (decide (x38 ≤ n0))) && (decide (x43 ≤ n0))))] ⟨rfl, rfl, rfl, rfl, rfl, rfl, rfl, rfl, trivial⟩
                refine W.region ?_
                refine OL.pure S (Lf.run_move (S.ev rfl)) rfl rfl trivial ?_
                clear S; intro aa S
                refine OL.pure S (Lf.run_move (S.ev rfl)) rfl rfl trivial ?_
                clear S; intro aa S
                refine OL.pure S (Lf.run_move (S.ev rfl)) rfl rfl trivial ?_
                clear S; intro aa S
                refine ol_cal S H isfn14 rfl rfl trivial ?_
                clear S H aa; intro u_3 aa ww h4 H S
                obtain ⟨x63, rfl, H⟩ := H
                refine OL.pure S (Lf.run_eql (S.ev rfl) (S.ev rfl)) rfl rfl trivial ?_
                clear S; intro aa S
                refine OL.pure S (Lf.run_move (S.ev rfl)) rfl rfl trivial ?_
                clear S; intro aa S
                refine OL.pure S (Lf.run_neqb Try.underlying4 (S.ev rfl) (S.ev rfl)) rfl rfl trivial ?_
                clear S; intro aa S
                refine OL.nil ?_
                refine W.cond S (b := ((x63 == 0) != ((((decide (0 ≤ x38)) && (decide (0 ≤ x43))) && (decide (x38 ≤ n0))) && (decide (x43 ≤ n0))))) rfl (fun hb_6 => ?_) (fun hb_6 => ?_)
                · replace H := H.1 hb_6
                  refine W.seq ?_
                  replace S := S.sub [] trivial
                  refine W.region ?_
                  refine OL.pure S (Lf.run_assign (S.ev rfl)) rfl rfl trivial ?_
                  clear S; intro aa S
                  refine OL.pure S (Lf.run_assign (S.ev rfl)) rfl rfl trivial ?_
                  clear S; intro aa S
                  refine OL.pure S (Lf.run_assign (S.ev rfl)) rfl rfl trivial ?_
                  clear S; intro aa S
                  refine OL.nil ?_
                  refine W.ret ?_
                  exact Ret.three S rfl rfl rfl rfl H
                · replace H := H.2 hb_6
                  refine W.skip ?_
                  refine W.seq ?_
                  replace S := S.sub [(0, Value.int .i64 n0), (1, Value.slice pairs1.a pairs1.n pairs1.c), (7, Value.pointer x17), (9, Value.pointer (some p27)), (10, Value.int .i64 i10), (13, Value.bool ((((decide (0 ≤ x38)) && (decide (0 ≤ x43))) && (decide (x38 ≤ n0))) && (decide (x43 ≤ n0))))] ⟨rfl, rfl, rfl, rfl, rfl, rfl, trivial⟩
                  refine W.region ?_
                  refine OL.pure S (Lf.run_move (S.ev rfl)) rfl rfl trivial ?_
                  clear S; intro aa S
                  refine OL.nil ?_
                  refine W.cond S (b := ((((decide (0 ≤ x38)) && (decide (0 ≤ x43))) && (decide (x38 ≤ n0))) && (decide (x43 ≤ n0)))) rfl (fun hb_7 => ?_) (fun hb_7 => ?_)
                  · replace H := H.1 hb_7
                    replace S := S.sub [(0, Value.int .i64 n0), (1, Value.slice pairs1.a pairs1.n pairs1.c), (7, Value.pointer x17), (9, Value.pointer (some p27)), (10, Value.int .i64 i10)] ⟨rfl, rfl, rfl, rfl, rfl, trivial⟩
                    refine W.regionD S (by kernel_rfl) ?_
                    clear S; intro ww S
                    refine AN.pure 0 S rfl (by kernel_rfl) (fun _ => Lf.run_move (S.ev rfl)) rfl rfl trivial ?_
                    clear S; intro aa S
                    refine AN.pure 1 S rfl (by kernel_rfl) (fun _ => Lf.run_move (S.ev rfl)) rfl rfl trivial ?_
                    clear S; intro aa S
                    refine AN.pure 2 S rfl (by kernel_rfl) (fun _ => Lf.run_nc (S.ev rfl)) rfl rfl trivial ?_
                    clear S; intro aa S
                    refine AN.pure 3 S rfl (by kernel_rfl) (fun _ => Lf.run_fa (S.ev rfl) fa49_1) rfl rfl trivial ?_
                    clear S; intro aa S
                    obtain ⟨x72, c_2, H⟩ := H
                    refine AN.load 4 S rfl (by kernel_rfl) (fun _ hx => Lf.run_ld (S.ev rfl) fl22 (hx.cell _ _ (S.cl c_2))) rfl rfl trivial ?_
                    clear S; intro aa S
                    refine AN.pure 5 S rfl (by kernel_rfl) (fun _ => Lf.run_move (S.ev rfl)) rfl rfl trivial ?_
                    clear S; intro aa S
                    refine AN.pure 6 S rfl (by kernel_rfl) (fun _ => Lf.run_move (S.ev rfl)) rfl rfl trivial ?_
                    clear S; intro aa S
                    obtain ⟨q75, e_12, e_13, e_14, H⟩ := H
                    refine AN.pure 7 S rfl (by kernel_rfl) (fun _ => Lf.run_ixs (S.ev rfl) (S.ev rfl) Try.underlying22 ti33 e_12 e_13 e_14) rfl rfl trivial ?_
                    clear S; intro aa S
                    obtain ⟨y76, y76_1, c_4, c_5, H⟩ := H
                    refine AN.load 8 S rfl (by kernel_rfl) (fun _ hx => Lf.run_ldA (cs := [Value.int .i64 y76, Value.int .i64 y76_1]) (S.ev rfl) ag33 ti33 (hx.row (S.row ⟨c_4, c_5, trivial⟩))) rfl rfl trivial ?_
                    clear S; intro aa S
                    refine AN.eff 9 rfl (by kernel_rfl) ?_
                    refine ol_newS S H Try.underlying22 ti33 (by decide) (parts_map S rfl) (by kernel_rfl) (by decide) rfl trivial ?_
                    clear S H aa; intro s77 aa ww h5 H S
                    refine OL.nil ?_
                    refine AN.eff 10 rfl (by kernel_rfl) ?_
                    refine ol_appS S H Try.underlying22 ti33 rfl rfl rfl trivial ?_
                    clear S H aa; intro s78 aa ww h6 H S
                    refine OL.nil ?_
                    refine AN.pure 11 S rfl (by kernel_rfl) (fun _ => Lf.run_nc (S.ev rfl)) rfl rfl trivial ?_
                    clear S; intro aa S
                    refine AN.pure 12 S rfl (by kernel_rfl) (fun _ => Lf.run_fa (S.ev rfl) fa49_1) rfl rfl trivial ?_
                    clear S; intro aa S
                    refine AN.eff 13 rfl (by kernel_rfl) ?_
                    refine ol_sto S H rfl rfl rfl ti22 trivial ?_
                    clear S H aa; intro aa ww h7 H S
                    refine OL.nil ?_
                    refine AN.done (by kernel_rfl) ?_
                    exact ⟨h7, S.sub _ ⟨rfl, rfl, rfl, rfl, rfl, trivial⟩, H⟩
                  · replace H := H.2 hb_7
                    refine W.skip ?_
                    exact ⟨h4, S.sub _ ⟨rfl, rfl, rfl, rfl, rfl, trivial⟩, H⟩
        · clear H S aa
          rintro aa ww ⟨h8, S, HJ⟩
          have H := HK _ HJ
          clear HK HJ
          replace S := S.sub [(0, Value.int .i64 n0), (1, Value.slice pairs1.a pairs1.n pairs1.c), (7, Value.pointer x17), (9, Value.pointer (some p27)), (10, Value.int .i64 i10)] ⟨rfl, rfl, rfl, rfl, rfl, trivial⟩
          refine W.region ?_
          refine OL.pure S (Lf.run_move (S.ev rfl)) rfl rfl trivial ?_
          clear S; intro aa S
          refine OL.pure S (Lf.run_add (S.ev rfl) (S.ev rfl)) rfl rfl trivial ?_
          clear S; intro aa S
          refine OL.pure S (Lf.run_assign (S.ev rfl)) rfl rfl trivial ?_
          clear S; intro aa S
          refine OL.nil ?_
          exact ⟨((IntKind.i64.wrap (i10 + 1)), h8), ⟨S.sub _ ⟨rfl, rfl, rfl, rfl, rfl, trivial⟩, H.1⟩, H.2⟩
      · replace H := H.2 hb_2
        refine W.exit_ ?_
        refine xhit ?_
        refine W.seq ?_
        replace S := S.sub [(7, Value.pointer x17), (9, Value.pointer (some p27))] ⟨rfl, rfl, trivial⟩
        refine W.region ?_
        refine OL.pure S (Lf.run_move (S.ev rfl)) rfl rfl trivial ?_
        clear S; intro aa S
        refine OL.pure S (Lf.run_move (S.ev rfl)) rfl rfl trivial ?_
        clear S; intro aa S
        refine OL.pure S (Lf.run_assign (S.ev rfl)) rfl rfl trivial ?_
        clear S; intro aa S
        refine OL.pure S (Lf.run_assign (S.ev rfl)) rfl rfl trivial ?_
        clear S; intro aa S
        refine OL.pure S (Lf.run_assign (S.ev rfl)) rfl rfl trivial ?_
        clear S; intro aa S
        refine OL.nil ?_
        refine W.ret ?_
        exact Ret.three S rfl rfl rfl rfl H

/-- chattel chattellaw06.LifeKnows -/
def L3 (n0 : Int) (pairs1 : Sv) (h : Heap) (R : Value → Heap → Prop) : Prop :=
  cal Try.prog 9 #[] h fun u h1 => asB u fun x10 =>
  ifb ((((!x10) || (decide (n0 < 0))) || (decide (12 < n0))) || (decide (30 < ((pairs1.n : Nat) : Int)))) (
    cal Try.prog 9 #[] h1 fun u_1 h2 => asB u_1 fun x25 =>
    R (Value.bool x25) h2) (
    cal Try.prog 10 #[Value.int .i64 n0, Value.slice pairs1.a pairs1.n pairs1.c] h1 fun u_2 h3 => asTup u_2 fun r29 =>
    elt r29 0 fun u_3 => asP u_3 fun x30 =>
    elt r29 1 fun u_4 => asP u_4 fun x31 =>
    elt r29 2 fun u_5 => asB u_5 fun x32 =>
    ifb (!x32) (
      R (Value.bool false) h3) (
      ∃ (I : Int → Heap → Prop) (m : Int → Heap → Nat), I (-1) h3 ∧ ∀ a8 h4, I a8 h4 →
      ifb (decide (a8 ≤ (IntKind.i64.wrap (n0 + 1)))) (
        ∃ (I_1 : Int → Heap → Prop) (m_1 : Int → Heap → Nat), I_1 (-1) h4 ∧ ∀ b9 h5, I_1 b9 h5 →
        ifb (decide (b9 ≤ (IntKind.i64.wrap (n0 + 1)))) (
          cal Try.prog 11 #[Value.pointer x30, Value.int .i64 a8, Value.int .i64 b9] h5 fun u_6 h6 => asB u_6 fun x50 =>
          cal Try.prog 12 #[Value.pointer x31, Value.int .i64 a8, Value.int .i64 b9] h6 fun u_7 h7 => asB u_7 fun x54 =>
          ifb (x50 != x54) (
            R (Value.bool false) h7) (
            I_1 (IntKind.i64.wrap (b9 + 1)) h7 ∧ m_1 (IntKind.i64.wrap (b9 + 1)) h7 < m_1 b9 h5)) (
          I (IntKind.i64.wrap (a8 + 1)) h5 ∧ m (IntKind.i64.wrap (a8 + 1)) h5 < m a8 h4)) (
        R (Value.bool true) h4)))

set_option maxRecDepth 100000 in

theorem F3 {n0 pairs1 h : _} {R : Value → Heap → Prop} (H : L3 n0 pairs1 h R) : CallsH Try.prog 3 #[Value.int .i64 n0, Value.slice pairs1.a pairs1.n pairs1.c] h R := by
  refine CallsH.enter (n := 56) Try.func3 rfl rfl rfl rfl ?_
  intro w0 aa ww S
  unfold L3 at H
  refine W.seq ?_
  replace S := S.sub [(0, Value.int .i64 n0), (1, Value.slice pairs1.a pairs1.n pairs1.c)] ⟨rfl, rfl, trivial⟩
  refine W.region ?_
  refine OL.pure S (Lf.run_assign (S.ev rfl)) rfl rfl trivial ?_
  clear S; intro aa S
  refine OL.nil ?_
  refine W.seq ?_
  refine W.seq ?_
  replace S := S.sub [(0, Value.int .i64 n0), (1, Value.slice pairs1.a pairs1.n pairs1.c)] ⟨rfl, rfl, trivial⟩
  refine W.region ?_
  refine ol_cal S H isfn9 rfl rfl trivial ?_
  clear S H aa; intro u aa ww h1 H S
  obtain ⟨x10, rfl, H⟩ := H
  refine OL.pure S (Lf.run_not (S.ev rfl)) rfl rfl trivial ?_
  clear S; intro aa S
  refine OL.pure S (Lf.run_move (S.ev rfl)) rfl rfl trivial ?_
  clear S; intro aa S
  refine OL.cutN 3 (fun aa ww => St 56 ((15, Value.bool ((!x10) || (decide (n0 < 0)))) :: [(0, Value.int .i64 n0), (1, Value.slice pairs1.a pairs1.n pairs1.c), (10, Value.bool x10), (11, Value.bool (!x10)), (12, Value.bool (!x10))]) h1 w0 aa ww) ?_ ?_
  · rcases Bool.eq_false_or_eq_true (!x10) with hb | hb
    · refine OL.not S rfl rfl (GNo.mk rfl rfl hb) ?_
      clear S; intro aa S
      refine OL.not S rfl rfl (GNo.mk rfl rfl hb) ?_
      clear S; intro aa S
      refine OL.pure S (Lf.run_pickT (S.ev rfl) hb (S.ev rfl)) rfl rfl trivial ?_
      clear S; intro aa S
      refine OL.nil ?_
      exact (S.hd (by rw [hb, Bool.true_or])).sub _ ⟨rfl, rfl, rfl, rfl, rfl, rfl, trivial⟩
    · refine OL.pure S (Lf.run_move (S.ev rfl)) rfl rfl (GOk.mk rfl rfl hb) ?_
      clear S; intro aa S
      refine OL.pure S (Lf.run_lss (S.ev rfl) (S.ev rfl)) rfl rfl (GOk.mk rfl rfl hb) ?_
      clear S; intro aa S
      refine OL.pure S (Lf.run_pickF (S.ev rfl) hb (S.ev rfl)) rfl rfl trivial ?_
      clear S; intro aa S
      refine OL.nil ?_
      exact (S.hd (by rw [hb, Bool.false_or])).sub _ ⟨rfl, rfl, rfl, rfl, rfl, rfl, trivial⟩
  · clear S aa
    intro aa ww S
    refine OL.pure S (Lf.run_move (S.ev rfl)) rfl rfl trivial ?_
    clear S; intro aa S
    refine OL.cutN 3 (fun aa ww => St 56 ((19, Value.bool (((!x10) || (decide (n0 < 0))) || (decide (12 < n0)))) :: [(0, Value.int .i64 n0), (1, Value.slice pairs1.a pairs1.n pairs1.c), (10, Value.bool x10), (11, Value.bool (!x10)), (12, Value.bool (!x10)), (15, Value.bool ((!x10) || (decide (n0 < 0)))), (16, Value.bool ((!x10) || (decide (n0 < 0))))]) h1 w0 aa ww) ?_ ?_
    · rcases Bool.eq_false_or_eq_true ((!x10) || (decide (n0 < 0))) with hb_1 | hb_1
      · refine OL.not S rfl rfl (GNo.mk rfl rfl hb_1) ?_
        clear S; intro aa S
        refine OL.not S rfl rfl (GNo.mk rfl rfl hb_1) ?_
        clear S; intro aa S
        refine OL.pure S (Lf.run_pickT (S.ev rfl) hb_1 (S.ev rfl)) rfl rfl trivial ?_
        clear S; intro aa S
        refine OL.nil ?_
        exact (S.hd (by rw [hb_1, Bool.true_or])).sub _ ⟨rfl, rfl, rfl, rfl, rfl, rfl, rfl, rfl, trivial⟩
      · refine OL.pure S (Lf.run_move (S.ev rfl)) rfl rfl (GOk.mk rfl rfl hb_1) ?_
        clear S; intro aa S
        refine OL.pure S (Lf.run_gtr (S.ev rfl) (S.ev rfl)) rfl rfl (GOk.mk rfl rfl hb_1) ?_
        clear S; intro aa S
        refine OL.pure S (Lf.run_pickF (S.ev rfl) hb_1 (S.ev rfl)) rfl rfl trivial ?_
        clear S; intro aa S
        refine OL.nil ?_
        exact (S.hd (by rw [hb_1, Bool.false_or])).sub _ ⟨rfl, rfl, rfl, rfl, rfl, rfl, rfl, rfl, trivial⟩
    · clear S aa
      intro aa ww S
      refine OL.pure S (Lf.run_move (S.ev rfl)) rfl rfl trivial ?_
      clear S; intro aa S
      refine OL.cutN 4 (fun aa ww => St 56 ((24, Value.bool ((((!x10) || (decide (n0 < 0))) || (decide (12 < n0))) || (decide (30 < ((pairs1.n : Nat) : Int))))) :: [(0, Value.int .i64 n0), (1, Value.slice pairs1.a pairs1.n pairs1.c), (10, Value.bool x10), (11, Value.bool (!x10)), (12, Value.bool (!x10)), (15, Value.bool ((!x10) || (decide (n0 < 0)))), (16, Value.bool ((!x10) || (decide (n0 < 0)))), (19, Value.bool (((!x10) || (decide (n0 < 0))) || (decide (12 < n0)))), (20, Value.bool (((!x10) || (decide (n0 < 0))) || (decide (12 < n0))))]) h1 w0 aa ww) ?_ ?_
      · rcases Bool.eq_false_or_eq_true (((!x10) || (decide (n0 < 0))) || (decide (12 < n0))) with hb_2 | hb_2
        · refine OL.not S rfl rfl (GNo.mk rfl rfl hb_2) ?_
          clear S; intro aa S
          refine OL.not S rfl rfl (GNo.mk rfl rfl hb_2) ?_
          clear S; intro aa S
          refine OL.not S rfl rfl (GNo.mk rfl rfl hb_2) ?_
          clear S; intro aa S
          refine OL.pure S (Lf.run_pickT (S.ev rfl) hb_2 (S.ev rfl)) rfl rfl trivial ?_
          clear S; intro aa S
          refine OL.nil ?_
          exact (S.hd (by rw [hb_2, Bool.true_or])).sub _ ⟨rfl, rfl, rfl, rfl, rfl, rfl, rfl, rfl, rfl, rfl, trivial⟩
        · refine OL.pure S (Lf.run_move (S.ev rfl)) rfl rfl (GOk.mk rfl rfl hb_2) ?_
          clear S; intro aa S
          refine OL.pure S (Lf.run_lens (S.ev rfl) rfl Try.underlying22) rfl rfl (GOk.mk rfl rfl hb_2) ?_
          clear S; intro aa S
          refine OL.pure S (Lf.run_gtr (S.ev rfl) (S.ev rfl)) rfl rfl (GOk.mk rfl rfl hb_2) ?_
          clear S; intro aa S
          refine OL.pure S (Lf.run_pickF (S.ev rfl) hb_2 (S.ev rfl)) rfl rfl trivial ?_
          clear S; intro aa S
          refine OL.nil ?_
          exact (S.hd (by rw [hb_2, Bool.false_or])).sub _ ⟨rfl, rfl, rfl, rfl, rfl, rfl, rfl, rfl, rfl, rfl, trivial⟩
      · clear S aa
        intro aa ww S
        refine OL.nil ?_
        refine W.cond S (b := ((((!x10) || (decide (n0 < 0))) || (decide (12 < n0))) || (decide (30 < ((pairs1.n : Nat) : Int))))) rfl (fun hb_3 => ?_) (fun hb_3 => ?_)
        · replace H := H.1 hb_3
          refine W.seq ?_
          replace S := S.sub [] trivial
          refine W.region ?_
          refine ol_cal S H isfn9 rfl rfl trivial ?_
          clear S H aa; intro u_1 aa ww h2 H S
          obtain ⟨x25, rfl, H⟩ := H
          refine OL.pure S (Lf.run_assign (S.ev rfl)) rfl rfl trivial ?_
          clear S; intro aa S
          refine OL.nil ?_
          refine W.ret ?_
          exact Ret.one S rfl rfl H
        · replace H := H.2 hb_3
          refine W.skip ?_
          refine W.seq ?_
          replace S := S.sub [(0, Value.int .i64 n0), (1, Value.slice pairs1.a pairs1.n pairs1.c)] ⟨rfl, rfl, trivial⟩
          refine W.region ?_
          refine OL.pure S (Lf.run_move (S.ev rfl)) rfl rfl trivial ?_
          clear S; intro aa S
          refine OL.pure S (Lf.run_move (S.ev rfl)) rfl rfl trivial ?_
          clear S; intro aa S
          refine ol_cal S H isfn10 rfl rfl trivial ?_
          clear S H aa; intro u_2 aa ww h3 H S
          obtain ⟨r29, rfl, H⟩ := H
          refine OL.pure S (Lf.run_move (S.ev rfl)) rfl rfl trivial ?_
          clear S; intro aa S
          obtain ⟨u_3, e, x30, rfl, H⟩ := H
          refine OL.pure S (Lf.run_ex (S.ev rfl) e) rfl rfl trivial ?_
          clear S; intro aa S
          obtain ⟨u_4, e_1, x31, rfl, H⟩ := H
          refine OL.pure S (Lf.run_ex (S.ev rfl) e_1) rfl rfl trivial ?_
          clear S; intro aa S
          obtain ⟨u_5, e_2, x32, rfl, H⟩ := H
          refine OL.pure S (Lf.run_ex (S.ev rfl) e_2) rfl rfl trivial ?_
          clear S; intro aa S
          refine OL.pure S (Lf.run_assign (S.ev rfl)) rfl rfl trivial ?_
          clear S; intro aa S
          refine OL.pure S (Lf.run_assign (S.ev rfl)) rfl rfl trivial ?_
          clear S; intro aa S
          refine OL.pure S (Lf.run_assign (S.ev rfl)) rfl rfl trivial ?_
          clear S; intro aa S
          refine OL.nil ?_
          refine W.seq ?_
          refine W.seq ?_
          replace S := S.sub [(0, Value.int .i64 n0), (5, Value.pointer x30), (6, Value.pointer x31), (7, Value.bool x32)] ⟨rfl, rfl, rfl, rfl, trivial⟩
          refine W.region ?_
          refine OL.pure S (Lf.run_move (S.ev rfl)) rfl rfl trivial ?_
          clear S; intro aa S
          refine OL.pure S (Lf.run_not (S.ev rfl)) rfl rfl trivial ?_
          clear S; intro aa S
          refine OL.nil ?_
          refine W.cond S (b := (!x32)) rfl (fun hb_4 => ?_) (fun hb_4 => ?_)
          · replace H := H.1 hb_4
            refine W.seq ?_
            replace S := S.sub [] trivial
            refine W.region ?_
            refine OL.pure S (Lf.run_assign (S.ev rfl)) rfl rfl trivial ?_
            clear S; intro aa S
            refine OL.nil ?_
            refine W.ret ?_
            exact Ret.one S rfl rfl H
          · replace H := H.2 hb_4
            refine W.skip ?_
            refine W.seq ?_
            refine W.seq ?_
            replace S := S.sub [(0, Value.int .i64 n0), (5, Value.pointer x30), (6, Value.pointer x31)] ⟨rfl, rfl, rfl, trivial⟩
            refine W.region ?_
            refine OL.pure S (Lf.run_assign (S.ev rfl)) rfl rfl trivial ?_
            clear S; intro aa S
            refine OL.nil ?_
            refine W.block ?_
            obtain ⟨I, m, H, HB_1⟩ := H
            refine W.loopS (σ := Int × Heap) (fun s aa ww => St 56 [(0, Value.int .i64 n0), (5, Value.pointer x30), (6, Value.pointer x31), (8, Value.int .i64 s.1)] s.2 w0 aa ww ∧ I s.1 s.2) (fun s => m s.1 s.2) ((-1), h3) ⟨S.sub _ ⟨rfl, rfl, rfl, rfl, trivial⟩, H⟩ ?_
            clear H S aa
            rintro ⟨a8, h4⟩ aa ww ⟨S, HI⟩
            replace S : St 56 [(0, Value.int .i64 n0), (5, Value.pointer x30), (6, Value.pointer x31), (8, Value.int .i64 a8)] h4 w0 aa ww := S
            have H := HB_1 a8 h4 HI
            clear HI
            refine W.seq ?_
            refine W.seq ?_
            replace S := S.sub [(0, Value.int .i64 n0), (5, Value.pointer x30), (6, Value.pointer x31), (8, Value.int .i64 a8)] ⟨rfl, rfl, rfl, rfl, trivial⟩
            refine W.region ?_
            refine OL.pure S (Lf.run_move (S.ev rfl)) rfl rfl trivial ?_
            clear S; intro aa S
            refine OL.pure S (Lf.run_move (S.ev rfl)) rfl rfl trivial ?_
            clear S; intro aa S
            refine OL.pure S (Lf.run_add (S.ev rfl) (S.ev rfl)) rfl rfl trivial ?_
            clear S; intro aa S
            refine OL.pure S (Lf.run_leq (S.ev rfl) (S.ev rfl)) rfl rfl trivial ?_
            clear S; intro aa S
            refine OL.nil ?_
            refine W.cond S (b := (decide (a8 ≤ (IntKind.i64.wrap (n0 + 1))))) rfl (fun hb_5 => ?_) (fun hb_5 => ?_)
            · replace H := H.1 hb_5
              refine W.skip ?_
              refine W.seq ?_
              refine W.block ?_
              refine W.seq ?_
              replace S := S.sub [(0, Value.int .i64 n0), (5, Value.pointer x30), (6, Value.pointer x31), (8, Value.int .i64 a8)] ⟨rfl, rfl, rfl, rfl, trivial⟩
              refine W.region ?_
              refine OL.pure S (Lf.run_assign (S.ev rfl)) rfl rfl trivial ?_
              clear S; intro aa S
              refine OL.nil ?_
              refine W.block ?_
              obtain ⟨I_1, m_1, H, HB⟩ := H
              refine W.loopS (σ := Int × Heap) (fun s aa ww => St 56 [(0, Value.int .i64 n0), (5, Value.pointer x30), (6, Value.pointer x31), (8, Value.int .i64 a8), (9, Value.int .i64 s.1)] s.2 w0 aa ww ∧ I_1 s.1 s.2) (fun s => m_1 s.1 s.2) ((-1), h4) ⟨S.sub _ ⟨rfl, rfl, rfl, rfl, rfl, trivial⟩, H⟩ ?_
              clear H S aa
              rintro ⟨b9, h5⟩ aa ww ⟨S, HI⟩
              replace S : St 56 [(0, Value.int .i64 n0), (5, Value.pointer x30), (6, Value.pointer x31), (8, Value.int .i64 a8), (9, Value.int .i64 b9)] h5 w0 aa ww := S
              have H := HB b9 h5 HI
              clear HI
              refine W.seq ?_
              refine W.seq ?_
              replace S := S.sub [(0, Value.int .i64 n0), (5, Value.pointer x30), (6, Value.pointer x31), (8, Value.int .i64 a8), (9, Value.int .i64 b9)] ⟨rfl, rfl, rfl, rfl, rfl, trivial⟩
              refine W.region ?_
              refine OL.pure S (Lf.run_move (S.ev rfl)) rfl rfl trivial ?_
              clear S; intro aa S
              refine OL.pure S (Lf.run_move (S.ev rfl)) rfl rfl trivial ?_
              clear S; intro aa S
              refine OL.pure S (Lf.run_add (S.ev rfl) (S.ev rfl)) rfl rfl trivial ?_
              clear S; intro aa S
              refine OL.pure S (Lf.run_leq (S.ev rfl) (S.ev rfl)) rfl rfl trivial ?_
              clear S; intro aa S
              refine OL.nil ?_
              refine W.cond S (b := (decide (b9 ≤ (IntKind.i64.wrap (n0 + 1))))) rfl (fun hb_6 => ?_) (fun hb_6 => ?_)
              · replace H := H.1 hb_6
                refine W.skip ?_
                refine W.seq ?_
                refine W.block ?_
                refine W.seq ?_
                replace S := S.sub [(0, Value.int .i64 n0), (5, Value.pointer x30), (6, Value.pointer x31), (8, Value.int .i64 a8), (9, Value.int .i64 b9)] ⟨rfl, rfl, rfl, rfl, rfl, trivial⟩
                refine W.region ?_
                refine OL.pure S (Lf.run_move (S.ev rfl)) rfl rfl trivial ?_
                clear S; intro aa S
                refine OL.pure S (Lf.run_move (S.ev rfl)) rfl rfl trivial ?_
                clear S; intro aa S
                refine OL.pure S (Lf.run_move (S.ev rfl)) rfl rfl trivial ?_
                clear S; intro aa S
                refine ol_cal S H isfn11 rfl rfl trivial ?_
                clear S H aa; intro u_6 aa ww h6 H S
                obtain ⟨x50, rfl, H⟩ := H
                refine OL.pure S (Lf.run_move (S.ev rfl)) rfl rfl trivial ?_
                clear S; intro aa S
                refine OL.pure S (Lf.run_move (S.ev rfl)) rfl rfl trivial ?_
                clear S; intro aa S
                refine OL.pure S (Lf.run_move (S.ev rfl)) rfl rfl trivial ?_
                clear S; intro aa S
                refine ol_cal S H isfn12 rfl rfl trivial ?_
                clear S H aa; intro u_7 aa ww h7 H S
                obtain ⟨x54, rfl, H⟩ := H
                refine OL.pure S (Lf.run_neqb Try.underlying4 (S.ev rfl) (S.ev rfl)) rfl rfl trivial ?_
                clear S; intro aa S
                refine OL.nil ?_
                refine W.cond S (b := (x50 != x54)) rfl (fun hb_7 => ?_) (fun hb_7 => ?_)
                · replace H := H.1 hb_7
                  refine W.seq ?_
                  replace S := S.sub [] trivial
                  refine W.region ?_
                  refine OL.pure S (Lf.run_assign (S.ev rfl)) rfl rfl trivial ?_
                  clear S; intro aa S
                  refine OL.nil ?_
                  refine W.ret ?_
                  exact Ret.one S rfl rfl H
                · replace H := H.2 hb_7
                  refine W.skip ?_
                  replace S := S.sub [(0, Value.int .i64 n0), (5, Value.pointer x30), (6, Value.pointer x31), (8, Value.int .i64 a8), (9, Value.int .i64 b9)] ⟨rfl, rfl, rfl, rfl, rfl, trivial⟩
                  refine W.region ?_
                  refine OL.pure S (Lf.run_move (S.ev rfl)) rfl rfl trivial ?_
                  clear S; intro aa S
                  refine OL.pure S (Lf.run_add (S.ev rfl) (S.ev rfl)) rfl rfl trivial ?_
                  clear S; intro aa S
                  refine OL.pure S (Lf.run_assign (S.ev rfl)) rfl rfl trivial ?_
                  clear S; intro aa S
                  refine OL.nil ?_
                  exact ⟨((IntKind.i64.wrap (b9 + 1)), h7), ⟨S.sub _ ⟨rfl, rfl, rfl, rfl, rfl, trivial⟩, H.1⟩, H.2⟩
              · replace H := H.2 hb_6
                refine W.exit_ ?_
                refine xhit ?_
                replace S := S.sub [(0, Value.int .i64 n0), (5, Value.pointer x30), (6, Value.pointer x31), (8, Value.int .i64 a8)] ⟨rfl, rfl, rfl, rfl, trivial⟩
                refine W.region ?_
                refine OL.pure S (Lf.run_move (S.ev rfl)) rfl rfl trivial ?_
                clear S; intro aa S
                refine OL.pure S (Lf.run_add (S.ev rfl) (S.ev rfl)) rfl rfl trivial ?_
                clear S; intro aa S
                refine OL.pure S (Lf.run_assign (S.ev rfl)) rfl rfl trivial ?_
                clear S; intro aa S
                refine OL.nil ?_
                exact ⟨((IntKind.i64.wrap (a8 + 1)), h5), ⟨S.sub _ ⟨rfl, rfl, rfl, rfl, trivial⟩, H.1⟩, H.2⟩
            · replace H := H.2 hb_5
              refine W.exit_ ?_
              refine xhit ?_
              refine W.seq ?_
              replace S := S.sub [] trivial
              refine W.region ?_
              refine OL.pure S (Lf.run_assign (S.ev rfl)) rfl rfl trivial ?_
              clear S; intro aa S
              refine OL.nil ?_
              refine W.ret ?_
              exact Ret.one S rfl rfl H

end Go.Proofs.Ythpfblimfaefhaa

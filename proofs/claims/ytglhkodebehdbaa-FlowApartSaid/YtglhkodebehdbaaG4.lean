/- Lifted by program off the elaborated code: each Go function, read as a proposition over typed variables and the heap. -/
import Derived.Test.YtglhkodebehdbaaG0
namespace Go.Proofs.Ytglhkodebehdbaa
open Go Go.Lf
set_option linter.unusedVariables false

/-- chattel chattelref15.has -/
def L27 (l0 : Sv) (i1 : Int) (e2 : Int) (h : Heap) (R : Value → Heap → Prop) : Prop :=
  ifb (decide (((l0.n : Nat) : Int) ≤ i1)) (
    R (Value.bool false) h) (
    ∃ (I : Int → Prop) (m : Int → Nat), I 0 ∧ ∀ k7, I k7 →
    ixS l0 i1 fun q15 =>
    ldS h (q15.add ((i1 : Int).toNat * 1)) fun x16 =>
    ifb (decide (k7 < ((x16.n : Nat) : Int))) (
      ixS l0 i1 fun q23 =>
      ldS h (q23.add ((i1 : Int).toNat * 1)) fun x24 =>
      ixS x24 k7 fun q26 =>
      ldI .i64 h (q26.add ((k7 : Int).toNat * 1)) fun x27 =>
      ifb (x27 == e2) (
        R (Value.bool true) h) (
        I (IntKind.i64.wrap (k7 + 1)) ∧ m (IntKind.i64.wrap (k7 + 1)) < m k7)) (
      R (Value.bool false) h))

set_option maxRecDepth 100000 in

theorem F27 {l0 i1 e2 h : _} {R : Value → Heap → Prop} (H : L27 l0 i1 e2 h R) : CallsH Try.prog 27 #[Value.slice l0.a l0.n l0.c, Value.int .i64 i1, Value.int .i64 e2] h R := by
  refine CallsH.enter (n := 30) Try.func27 rfl rfl rfl rfl ?_
  intro w0 aa ww S
  unfold L27 at H
  refine W.seq ?_
  replace S := S.sub [(0, Value.slice l0.a l0.n l0.c), (1, Value.int .i64 i1), (2, Value.int .i64 e2)] ⟨rfl, rfl, rfl, trivial⟩
  refine W.region ?_
  refine OL.pure S (Lf.run_assign (S.ev rfl)) rfl rfl trivial ?_
  clear S; intro aa S
  refine OL.nil ?_
  refine W.seq ?_
  refine W.seq ?_
  replace S := S.sub [(0, Value.slice l0.a l0.n l0.c), (1, Value.int .i64 i1), (2, Value.int .i64 e2)] ⟨rfl, rfl, rfl, trivial⟩
  refine W.region ?_
  refine OL.pure S (Lf.run_move (S.ev rfl)) rfl rfl trivial ?_
  clear S; intro aa S
  refine OL.pure S (Lf.run_move (S.ev rfl)) rfl rfl trivial ?_
  clear S; intro aa S
  refine OL.pure S (Lf.run_lens (S.ev rfl) rfl Try.underlying22) rfl rfl trivial ?_
  clear S; intro aa S
  refine OL.pure S (Lf.run_geq (S.ev rfl) (S.ev rfl)) rfl rfl trivial ?_
  clear S; intro aa S
  refine OL.nil ?_
  refine W.cond S (b := (decide (((l0.n : Nat) : Int) ≤ i1))) rfl (fun hb => ?_) (fun hb => ?_)
  · replace H := H.1 hb
    refine W.seq ?_
    replace S := S.sub [] trivial
    refine W.region ?_
    refine OL.pure S (Lf.run_assign (S.ev rfl)) rfl rfl trivial ?_
    clear S; intro aa S
    refine OL.nil ?_
    refine W.ret ?_
    exact Ret.one S rfl rfl H
  · replace H := H.2 hb
    refine W.skip ?_
    refine W.seq ?_
    refine W.seq ?_
    replace S := S.sub [(0, Value.slice l0.a l0.n l0.c), (1, Value.int .i64 i1), (2, Value.int .i64 e2)] ⟨rfl, rfl, rfl, trivial⟩
    refine W.region ?_
    refine OL.pure S (Lf.run_assign (S.ev rfl)) rfl rfl trivial ?_
    clear S; intro aa S
    refine OL.nil ?_
    refine W.block ?_
    obtain ⟨I, m, H, HB⟩ := H
    refine W.loopS (σ := Int) (fun s aa ww => St 30 [(0, Value.slice l0.a l0.n l0.c), (1, Value.int .i64 i1), (2, Value.int .i64 e2), (7, Value.int .i64 s)] h w0 aa ww ∧ I s) (fun s => m s) (0) ⟨S.sub _ ⟨rfl, rfl, rfl, rfl, trivial⟩, H⟩ ?_
    clear H S aa
    rintro k7 aa ww ⟨S, HI⟩
    replace S : St 30 [(0, Value.slice l0.a l0.n l0.c), (1, Value.int .i64 i1), (2, Value.int .i64 e2), (7, Value.int .i64 k7)] h w0 aa ww := S
    have H := HB k7 HI
    clear HI
    refine W.seq ?_
    refine W.seq ?_
    replace S := S.sub [(0, Value.slice l0.a l0.n l0.c), (1, Value.int .i64 i1), (2, Value.int .i64 e2), (7, Value.int .i64 k7)] ⟨rfl, rfl, rfl, rfl, trivial⟩
    refine W.region ?_
    refine OL.pure S (Lf.run_move (S.ev rfl)) rfl rfl trivial ?_
    clear S; intro aa S
    refine OL.pure S (Lf.run_move (S.ev rfl)) rfl rfl trivial ?_
    clear S; intro aa S
    refine OL.pure S (Lf.run_move (S.ev rfl)) rfl rfl trivial ?_
    clear S; intro aa S
    obtain ⟨q15, e, e_1, e_2, H⟩ := H
    refine OL.pure S (Lf.run_ixs (S.ev rfl) (S.ev rfl) Try.underlying22 ti23 e e_1 e_2) rfl rfl trivial ?_
    clear S; intro aa S
    obtain ⟨x16, c, H⟩ := H
    refine OL.pure S (Lf.run_ld (S.ev rfl) fl23 (S.cl c)) rfl rfl trivial ?_
    clear S; intro aa S
    refine OL.pure S (Lf.run_lens (S.ev rfl) rfl Try.underlying23) rfl rfl trivial ?_
    clear S; intro aa S
    refine OL.pure S (Lf.run_lss (S.ev rfl) (S.ev rfl)) rfl rfl trivial ?_
    clear S; intro aa S
    refine OL.nil ?_
    refine W.cond S (b := (decide (k7 < ((x16.n : Nat) : Int)))) rfl (fun hb_1 => ?_) (fun hb_1 => ?_)
    · replace H := H.1 hb_1
      refine W.skip ?_
      refine W.seq ?_
      refine W.block ?_
      refine W.seq ?_
      replace S := S.sub [(0, Value.slice l0.a l0.n l0.c), (1, Value.int .i64 i1), (2, Value.int .i64 e2), (7, Value.int .i64 k7)] ⟨rfl, rfl, rfl, rfl, trivial⟩
      refine W.region ?_
      refine OL.pure S (Lf.run_move (S.ev rfl)) rfl rfl trivial ?_
      clear S; intro aa S
      refine OL.pure S (Lf.run_move (S.ev rfl)) rfl rfl trivial ?_
      clear S; intro aa S
      obtain ⟨q23, e_3, e_4, e_5, H⟩ := H
      refine OL.pure S (Lf.run_ixs (S.ev rfl) (S.ev rfl) Try.underlying22 ti23 e_3 e_4 e_5) rfl rfl trivial ?_
      clear S; intro aa S
      obtain ⟨x24, c_1, H⟩ := H
      refine OL.pure S (Lf.run_ld (S.ev rfl) fl23 (S.cl c_1)) rfl rfl trivial ?_
      clear S; intro aa S
      refine OL.pure S (Lf.run_move (S.ev rfl)) rfl rfl trivial ?_
      clear S; intro aa S
      obtain ⟨q26, e_6, e_7, e_8, H⟩ := H
      refine OL.pure S (Lf.run_ixs (S.ev rfl) (S.ev rfl) Try.underlying23 ti3 e_6 e_7 e_8) rfl rfl trivial ?_
      clear S; intro aa S
      obtain ⟨x27, c_2, H⟩ := H
      refine OL.pure S (Lf.run_ld (S.ev rfl) fl3 (S.cl c_2)) rfl rfl trivial ?_
      clear S; intro aa S
      refine OL.pure S (Lf.run_move (S.ev rfl)) rfl rfl trivial ?_
      clear S; intro aa S
      refine OL.pure S (Lf.run_eql (S.ev rfl) (S.ev rfl)) rfl rfl trivial ?_
      clear S; intro aa S
      refine OL.nil ?_
      refine W.cond S (b := (x27 == e2)) rfl (fun hb_2 => ?_) (fun hb_2 => ?_)
      · replace H := H.1 hb_2
        refine W.seq ?_
        replace S := S.sub [] trivial
        refine W.region ?_
        refine OL.pure S (Lf.run_assign (S.ev rfl)) rfl rfl trivial ?_
        clear S; intro aa S
        refine OL.nil ?_
        refine W.ret ?_
        exact Ret.one S rfl rfl H
      · replace H := H.2 hb_2
        refine W.skip ?_
        replace S := S.sub [(0, Value.slice l0.a l0.n l0.c), (1, Value.int .i64 i1), (2, Value.int .i64 e2), (7, Value.int .i64 k7)] ⟨rfl, rfl, rfl, rfl, trivial⟩
        refine W.region ?_
        refine OL.pure S (Lf.run_move (S.ev rfl)) rfl rfl trivial ?_
        clear S; intro aa S
        refine OL.pure S (Lf.run_add (S.ev rfl) (S.ev rfl)) rfl rfl trivial ?_
        clear S; intro aa S
        refine OL.pure S (Lf.run_assign (S.ev rfl)) rfl rfl trivial ?_
        clear S; intro aa S
        refine OL.nil ?_
        exact ⟨((IntKind.i64.wrap (k7 + 1))), ⟨S.sub _ ⟨rfl, rfl, rfl, rfl, trivial⟩, H.1⟩, H.2⟩
    · replace H := H.2 hb_1
      refine W.exit_ ?_
      refine xhit ?_
      refine W.seq ?_
      replace S := S.sub [] trivial
      refine W.region ?_
      refine OL.pure S (Lf.run_assign (S.ev rfl)) rfl rfl trivial ?_
      clear S; intro aa S
      refine OL.nil ?_
      refine W.ret ?_
      exact Ret.one S rfl rfl H

/-- chattel flow.fits -/
def L28 (l0 : Sv) (n1 : Int) (most2 : Int) (h : Heap) (R : Value → Heap → Prop) : Prop :=
  ifb (decide (n1 < ((l0.n : Nat) : Int))) (
    R (Value.bool false) h) (
    ∃ (I : Int → Prop) (m : Int → Nat), I 0 ∧ ∀ x17, I x17 →
    ifb (decide (x17 < ((l0.n : Nat) : Int))) (
      ixS l0 x17 fun q19 =>
      ldS h (q19.add ((x17 : Int).toNat * 1)) fun x20 =>
      ∃ (I_1 : Int → Prop) (m_1 : Int → Nat), I_1 0 ∧ ∀ x23, I_1 x23 →
      ifb (decide (x23 < ((x20.n : Nat) : Int))) (
        ixS x20 x23 fun q25 =>
        ldI .i64 h (q25.add ((x23 : Int).toNat * 1)) fun x26 =>
        ifb ((decide (x26 < 0)) || (decide (most2 ≤ x26))) (
          R (Value.bool false) h) (
          I_1 (IntKind.i64.wrap (x23 + 1)) ∧ m_1 (IntKind.i64.wrap (x23 + 1)) < m_1 x23)) (
        I (IntKind.i64.wrap (x17 + 1)) ∧ m (IntKind.i64.wrap (x17 + 1)) < m x17)) (
      R (Value.bool true) h))

set_option maxRecDepth 100000 in

theorem F28 {l0 n1 most2 h : _} {R : Value → Heap → Prop} (H : L28 l0 n1 most2 h R) : CallsH Try.prog 28 #[Value.slice l0.a l0.n l0.c, Value.int .i64 n1, Value.int .i64 most2] h R := by
  refine CallsH.enter (n := 36) Try.func28 rfl rfl rfl rfl ?_
  intro w0 aa ww S
  unfold L28 at H
  refine W.seq ?_
  replace S := S.sub [(0, Value.slice l0.a l0.n l0.c), (1, Value.int .i64 n1), (2, Value.int .i64 most2)] ⟨rfl, rfl, rfl, trivial⟩
  refine W.region ?_
  refine OL.pure S (Lf.run_assign (S.ev rfl)) rfl rfl trivial ?_
  clear S; intro aa S
  refine OL.nil ?_
  refine W.seq ?_
  refine W.seq ?_
  replace S := S.sub [(0, Value.slice l0.a l0.n l0.c), (1, Value.int .i64 n1), (2, Value.int .i64 most2)] ⟨rfl, rfl, rfl, trivial⟩
  refine W.region ?_
  refine OL.pure S (Lf.run_move (S.ev rfl)) rfl rfl trivial ?_
  clear S; intro aa S
  refine OL.pure S (Lf.run_lens (S.ev rfl) rfl Try.underlying22) rfl rfl trivial ?_
  clear S; intro aa S
  refine OL.pure S (Lf.run_move (S.ev rfl)) rfl rfl trivial ?_
  clear S; intro aa S
  refine OL.pure S (Lf.run_gtr (S.ev rfl) (S.ev rfl)) rfl rfl trivial ?_
  clear S; intro aa S
  refine OL.nil ?_
  refine W.cond S (b := (decide (n1 < ((l0.n : Nat) : Int)))) rfl (fun hb => ?_) (fun hb => ?_)
  · replace H := H.1 hb
    refine W.seq ?_
    replace S := S.sub [] trivial
    refine W.region ?_
    refine OL.pure S (Lf.run_assign (S.ev rfl)) rfl rfl trivial ?_
    clear S; intro aa S
    refine OL.nil ?_
    refine W.ret ?_
    exact Ret.one S rfl rfl H
  · replace H := H.2 hb
    refine W.skip ?_
    refine W.seq ?_
    refine W.seq ?_
    replace S := S.sub [(0, Value.slice l0.a l0.n l0.c), (2, Value.int .i64 most2)] ⟨rfl, rfl, trivial⟩
    refine W.region ?_
    refine OL.pure S (Lf.run_move (S.ev rfl)) rfl rfl trivial ?_
    clear S; intro aa S
    refine OL.pure S (Lf.run_lens (S.ev rfl) rfl Try.underlying22) rfl rfl trivial ?_
    clear S; intro aa S
    refine OL.pure S (Lf.run_move (S.ev rfl)) rfl rfl trivial ?_
    clear S; intro aa S
    refine OL.nil ?_
    refine W.block ?_
    obtain ⟨I, m, H, HB_1⟩ := H
    refine W.loopS (σ := Int) (fun s aa ww => St 36 [(2, Value.int .i64 most2), (15, Value.slice l0.a l0.n l0.c), (16, Value.int .i64 ((l0.n : Nat) : Int)), (17, Value.int .i64 s)] h w0 aa ww ∧ I s) (fun s => m s) (0) ⟨S.sub _ ⟨rfl, rfl, rfl, rfl, trivial⟩, H⟩ ?_
    clear H S aa
    rintro x17 aa ww ⟨S, HI⟩
    replace S : St 36 [(2, Value.int .i64 most2), (15, Value.slice l0.a l0.n l0.c), (16, Value.int .i64 ((l0.n : Nat) : Int)), (17, Value.int .i64 x17)] h w0 aa ww := S
    have H := HB_1 x17 HI
    clear HI
    refine W.seq ?_
    replace S := S.sub [(2, Value.int .i64 most2), (15, Value.slice l0.a l0.n l0.c), (16, Value.int .i64 ((l0.n : Nat) : Int)), (17, Value.int .i64 x17)] ⟨rfl, rfl, rfl, rfl, trivial⟩
    refine W.region ?_
    refine OL.pure S (Lf.run_lss (S.ev rfl) (S.ev rfl)) rfl rfl trivial ?_
    clear S; intro aa S
    refine OL.nil ?_
    refine W.seq ?_
    refine W.cond S (b := (decide (x17 < ((l0.n : Nat) : Int)))) rfl (fun hb_1 => ?_) (fun hb_1 => ?_)
    · replace H := H.1 hb_1
      refine W.skip ?_
      refine W.seq ?_
      refine W.block ?_
      refine W.seq ?_
      replace S := S.sub [(2, Value.int .i64 most2), (15, Value.slice l0.a l0.n l0.c), (16, Value.int .i64 ((l0.n : Nat) : Int)), (17, Value.int .i64 x17)] ⟨rfl, rfl, rfl, rfl, trivial⟩
      refine W.region ?_
      obtain ⟨q19, e, e_1, e_2, H⟩ := H
      refine OL.pure S (Lf.run_ixs (S.ev rfl) (S.ev rfl) Try.underlying22 ti23 e e_1 e_2) rfl rfl trivial ?_
      clear S; intro aa S
      obtain ⟨x20, c, H⟩ := H
      refine OL.pure S (Lf.run_ld (S.ev rfl) fl23 (S.cl c)) rfl rfl trivial ?_
      clear S; intro aa S
      refine OL.pure S (Lf.run_assign (S.ev rfl)) rfl rfl trivial ?_
      clear S; intro aa S
      refine OL.nil ?_
      refine W.seq ?_
      replace S := S.sub [(2, Value.int .i64 most2), (8, Value.slice x20.a x20.n x20.c), (15, Value.slice l0.a l0.n l0.c), (16, Value.int .i64 ((l0.n : Nat) : Int)), (17, Value.int .i64 x17)] ⟨rfl, rfl, rfl, rfl, rfl, trivial⟩
      refine W.region ?_
      refine OL.pure S (Lf.run_move (S.ev rfl)) rfl rfl trivial ?_
      clear S; intro aa S
      refine OL.pure S (Lf.run_lens (S.ev rfl) rfl Try.underlying23) rfl rfl trivial ?_
      clear S; intro aa S
      refine OL.pure S (Lf.run_move (S.ev rfl)) rfl rfl trivial ?_
      clear S; intro aa S
      refine OL.nil ?_
      refine W.block ?_
      obtain ⟨I_1, m_1, H, HB⟩ := H
      refine W.loopS (σ := Int) (fun s aa ww => St 36 [(2, Value.int .i64 most2), (15, Value.slice l0.a l0.n l0.c), (16, Value.int .i64 ((l0.n : Nat) : Int)), (17, Value.int .i64 x17), (21, Value.slice x20.a x20.n x20.c), (22, Value.int .i64 ((x20.n : Nat) : Int)), (23, Value.int .i64 s)] h w0 aa ww ∧ I_1 s) (fun s => m_1 s) (0) ⟨S.sub _ ⟨rfl, rfl, rfl, rfl, rfl, rfl, rfl, trivial⟩, H⟩ ?_
      clear H S aa
      rintro x23 aa ww ⟨S, HI⟩
      replace S : St 36 [(2, Value.int .i64 most2), (15, Value.slice l0.a l0.n l0.c), (16, Value.int .i64 ((l0.n : Nat) : Int)), (17, Value.int .i64 x17), (21, Value.slice x20.a x20.n x20.c), (22, Value.int .i64 ((x20.n : Nat) : Int)), (23, Value.int .i64 x23)] h w0 aa ww := S
      have H := HB x23 HI
      clear HI
      refine W.seq ?_
      replace S := S.sub [(2, Value.int .i64 most2), (15, Value.slice l0.a l0.n l0.c), (16, Value.int .i64 ((l0.n : Nat) : Int)), (17, Value.int .i64 x17), (21, Value.slice x20.a x20.n x20.c), (22, Value.int .i64 ((x20.n : Nat) : Int)), (23, Value.int .i64 x23)] ⟨rfl, rfl, rfl, rfl, rfl, rfl, rfl, trivial⟩
      refine W.region ?_
      refine OL.pure S (Lf.run_lss (S.ev rfl) (S.ev rfl)) rfl rfl trivial ?_
      clear S; intro aa S
      refine OL.nil ?_
      refine W.seq ?_
      refine W.cond S (b := (decide (x23 < ((x20.n : Nat) : Int)))) rfl (fun hb_2 => ?_) (fun hb_2 => ?_)
      · replace H := H.1 hb_2
        refine W.skip ?_
        refine W.seq ?_
        refine W.block ?_
        refine W.seq ?_
        replace S := S.sub [(2, Value.int .i64 most2), (15, Value.slice l0.a l0.n l0.c), (16, Value.int .i64 ((l0.n : Nat) : Int)), (17, Value.int .i64 x17), (21, Value.slice x20.a x20.n x20.c), (22, Value.int .i64 ((x20.n : Nat) : Int)), (23, Value.int .i64 x23)] ⟨rfl, rfl, rfl, rfl, rfl, rfl, rfl, trivial⟩
        refine W.region ?_
        obtain ⟨q25, e_3, e_4, e_5, H⟩ := H
        refine OL.pure S (Lf.run_ixs (S.ev rfl) (S.ev rfl) Try.underlying23 ti3 e_3 e_4 e_5) rfl rfl trivial ?_
        clear S; intro aa S
        obtain ⟨x26, c_1, H⟩ := H
        refine OL.pure S (Lf.run_ld (S.ev rfl) fl3 (S.cl c_1)) rfl rfl trivial ?_
        clear S; intro aa S
        refine OL.pure S (Lf.run_assign (S.ev rfl)) rfl rfl trivial ?_
        clear S; intro aa S
        refine OL.nil ?_
        refine W.seq ?_
        replace S := S.sub [(2, Value.int .i64 most2), (10, Value.int .i64 x26), (15, Value.slice l0.a l0.n l0.c), (16, Value.int .i64 ((l0.n : Nat) : Int)), (17, Value.int .i64 x17), (21, Value.slice x20.a x20.n x20.c), (22, Value.int .i64 ((x20.n : Nat) : Int)), (23, Value.int .i64 x23)] ⟨rfl, rfl, rfl, rfl, rfl, rfl, rfl, rfl, trivial⟩
        refine W.region ?_
        refine OL.pure S (Lf.run_move (S.ev rfl)) rfl rfl trivial ?_
        clear S; intro aa S
        refine OL.pure S (Lf.run_lss (S.ev rfl) (S.ev rfl)) rfl rfl trivial ?_
        clear S; intro aa S
        refine OL.pure S (Lf.run_move (S.ev rfl)) rfl rfl trivial ?_
        clear S; intro aa S
        refine OL.cutN 4 (fun aa ww => St 36 ((33, Value.bool ((decide (x26 < 0)) || (decide (most2 ≤ x26)))) :: [(2, Value.int .i64 most2), (10, Value.int .i64 x26), (15, Value.slice l0.a l0.n l0.c), (16, Value.int .i64 ((l0.n : Nat) : Int)), (17, Value.int .i64 x17), (21, Value.slice x20.a x20.n x20.c), (22, Value.int .i64 ((x20.n : Nat) : Int)), (23, Value.int .i64 x23), (27, Value.int .i64 x26), (28, Value.bool (decide (x26 < 0))), (29, Value.bool (decide (x26 < 0)))]) h w0 aa ww) ?_ ?_
        · rcases Bool.eq_false_or_eq_true (decide (x26 < 0)) with hb_3 | hb_3
          · refine OL.not S rfl rfl (GNo.mk rfl rfl hb_3) ?_
            clear S; intro aa S
            refine OL.not S rfl rfl (GNo.mk rfl rfl hb_3) ?_
            clear S; intro aa S
            refine OL.not S rfl rfl (GNo.mk rfl rfl hb_3) ?_
            clear S; intro aa S
            refine OL.pure S (Lf.run_pickT (S.ev rfl) hb_3 (S.ev rfl)) rfl rfl trivial ?_
            clear S; intro aa S
            refine OL.nil ?_
            exact (S.hd (by rw [hb_3, Bool.true_or])).sub _ ⟨rfl, rfl, rfl, rfl, rfl, rfl, rfl, rfl, rfl, rfl, rfl, rfl, trivial⟩
          · refine OL.pure S (Lf.run_move (S.ev rfl)) rfl rfl (GOk.mk rfl rfl hb_3) ?_
            clear S; intro aa S
            refine OL.pure S (Lf.run_move (S.ev rfl)) rfl rfl (GOk.mk rfl rfl hb_3) ?_
            clear S; intro aa S
            refine OL.pure S (Lf.run_geq (S.ev rfl) (S.ev rfl)) rfl rfl (GOk.mk rfl rfl hb_3) ?_
            clear S; intro aa S
            refine OL.pure S (Lf.run_pickF (S.ev rfl) hb_3 (S.ev rfl)) rfl rfl trivial ?_
            clear S; intro aa S
            refine OL.nil ?_
            exact (S.hd (by rw [hb_3, Bool.false_or])).sub _ ⟨rfl, rfl, rfl, rfl, rfl, rfl, rfl, rfl, rfl, rfl, rfl, rfl, trivial⟩
        · clear S aa
          intro aa ww S
          refine OL.nil ?_
          refine W.cond S (b := ((decide (x26 < 0)) || (decide (most2 ≤ x26)))) rfl (fun hb_4 => ?_) (fun hb_4 => ?_)
          · replace H := H.1 hb_4
            refine W.seq ?_
            replace S := S.sub [] trivial
            refine W.region ?_
            refine OL.pure S (Lf.run_assign (S.ev rfl)) rfl rfl trivial ?_
            clear S; intro aa S
            refine OL.nil ?_
            refine W.ret ?_
            exact Ret.one S rfl rfl H
          · replace H := H.2 hb_4
            refine W.skip ?_
            replace S := S.sub [(2, Value.int .i64 most2), (15, Value.slice l0.a l0.n l0.c), (16, Value.int .i64 ((l0.n : Nat) : Int)), (17, Value.int .i64 x17), (21, Value.slice x20.a x20.n x20.c), (22, Value.int .i64 ((x20.n : Nat) : Int)), (23, Value.int .i64 x23)] ⟨rfl, rfl, rfl, rfl, rfl, rfl, rfl, trivial⟩
            refine W.region ?_
            refine OL.pure S (Lf.run_add (S.ev rfl) (S.ev rfl)) rfl rfl trivial ?_
            clear S; intro aa S
            refine OL.pure S (Lf.run_move (S.ev rfl)) rfl rfl trivial ?_
            clear S; intro aa S
            refine OL.nil ?_
            exact ⟨((IntKind.i64.wrap (x23 + 1))), ⟨S.sub _ ⟨rfl, rfl, rfl, rfl, rfl, rfl, rfl, trivial⟩, H.1⟩, H.2⟩
      · replace H := H.2 hb_2
        refine W.exit_ ?_
        refine xhit ?_
        replace S := S.sub [(2, Value.int .i64 most2), (15, Value.slice l0.a l0.n l0.c), (16, Value.int .i64 ((l0.n : Nat) : Int)), (17, Value.int .i64 x17)] ⟨rfl, rfl, rfl, rfl, trivial⟩
        refine W.region ?_
        refine OL.pure S (Lf.run_add (S.ev rfl) (S.ev rfl)) rfl rfl trivial ?_
        clear S; intro aa S
        refine OL.pure S (Lf.run_move (S.ev rfl)) rfl rfl trivial ?_
        clear S; intro aa S
        refine OL.nil ?_
        exact ⟨((IntKind.i64.wrap (x17 + 1))), ⟨S.sub _ ⟨rfl, rfl, rfl, rfl, trivial⟩, H.1⟩, H.2⟩
    · replace H := H.2 hb_1
      refine W.exit_ ?_
      refine xhit ?_
      refine W.seq ?_
      replace S := S.sub [] trivial
      refine W.region ?_
      refine OL.pure S (Lf.run_assign (S.ev rfl)) rfl rfl trivial ?_
      clear S; intro aa S
      refine OL.nil ?_
      refine W.ret ?_
      exact Ret.one S rfl rfl H

/-- chattel chattelref01.Ints -/
def L29 (a0 : Sv) (b1 : Sv) (h : Heap) (R : Value → Heap → Prop) : Prop :=
  ifb (((a0.n : Nat) : Int) != ((b1.n : Nat) : Int)) (
    R (Value.bool false) h) (
    ∃ (I : Int → Prop) (m : Int → Nat), I 0 ∧ ∀ i5, I i5 →
    ifb (decide (i5 < ((a0.n : Nat) : Int))) (
      ixS a0 i5 fun q19 =>
      ldI .i64 h (q19.add ((i5 : Int).toNat * 1)) fun x20 =>
      ixS b1 i5 fun q23 =>
      ldI .i64 h (q23.add ((i5 : Int).toNat * 1)) fun x24 =>
      ifb (x20 != x24) (
        R (Value.bool false) h) (
        I (IntKind.i64.wrap (i5 + 1)) ∧ m (IntKind.i64.wrap (i5 + 1)) < m i5)) (
      R (Value.bool true) h))

set_option maxRecDepth 100000 in

theorem F29 {a0 b1 h : _} {R : Value → Heap → Prop} (H : L29 a0 b1 h R) : CallsH Try.prog 29 #[Value.slice a0.a a0.n a0.c, Value.slice b1.a b1.n b1.c] h R := by
  refine CallsH.enter (n := 26) Try.func29 rfl rfl rfl rfl ?_
  intro w0 aa ww S
  unfold L29 at H
  refine W.seq ?_
  replace S := S.sub [(0, Value.slice a0.a a0.n a0.c), (1, Value.slice b1.a b1.n b1.c)] ⟨rfl, rfl, trivial⟩
  refine W.region ?_
  refine OL.pure S (Lf.run_assign (S.ev rfl)) rfl rfl trivial ?_
  clear S; intro aa S
  refine OL.nil ?_
  refine W.seq ?_
  refine W.seq ?_
  replace S := S.sub [(0, Value.slice a0.a a0.n a0.c), (1, Value.slice b1.a b1.n b1.c)] ⟨rfl, rfl, trivial⟩
  refine W.region ?_
  refine OL.pure S (Lf.run_move (S.ev rfl)) rfl rfl trivial ?_
  clear S; intro aa S
  refine OL.pure S (Lf.run_lens (S.ev rfl) rfl Try.underlying23) rfl rfl trivial ?_
  clear S; intro aa S
  refine OL.pure S (Lf.run_move (S.ev rfl)) rfl rfl trivial ?_
  clear S; intro aa S
  refine OL.pure S (Lf.run_lens (S.ev rfl) rfl Try.underlying23) rfl rfl trivial ?_
  clear S; intro aa S
  refine OL.pure S (Lf.run_neq (S.ev rfl) (S.ev rfl)) rfl rfl trivial ?_
  clear S; intro aa S
  refine OL.nil ?_
  refine W.cond S (b := (((a0.n : Nat) : Int) != ((b1.n : Nat) : Int))) rfl (fun hb => ?_) (fun hb => ?_)
  · replace H := H.1 hb
    refine W.seq ?_
    replace S := S.sub [] trivial
    refine W.region ?_
    refine OL.pure S (Lf.run_assign (S.ev rfl)) rfl rfl trivial ?_
    clear S; intro aa S
    refine OL.nil ?_
    refine W.ret ?_
    exact Ret.one S rfl rfl H
  · replace H := H.2 hb
    refine W.skip ?_
    refine W.seq ?_
    refine W.seq ?_
    replace S := S.sub [(0, Value.slice a0.a a0.n a0.c), (1, Value.slice b1.a b1.n b1.c)] ⟨rfl, rfl, trivial⟩
    refine W.region ?_
    refine OL.pure S (Lf.run_assign (S.ev rfl)) rfl rfl trivial ?_
    clear S; intro aa S
    refine OL.nil ?_
    refine W.block ?_
    obtain ⟨I, m, H, HB⟩ := H
    refine W.loopS (σ := Int) (fun s aa ww => St 26 [(0, Value.slice a0.a a0.n a0.c), (1, Value.slice b1.a b1.n b1.c), (5, Value.int .i64 s)] h w0 aa ww ∧ I s) (fun s => m s) (0) ⟨S.sub _ ⟨rfl, rfl, rfl, trivial⟩, H⟩ ?_
    clear H S aa
    rintro i5 aa ww ⟨S, HI⟩
    replace S : St 26 [(0, Value.slice a0.a a0.n a0.c), (1, Value.slice b1.a b1.n b1.c), (5, Value.int .i64 i5)] h w0 aa ww := S
    have H := HB i5 HI
    clear HI
    refine W.seq ?_
    refine W.seq ?_
    replace S := S.sub [(0, Value.slice a0.a a0.n a0.c), (1, Value.slice b1.a b1.n b1.c), (5, Value.int .i64 i5)] ⟨rfl, rfl, rfl, trivial⟩
    refine W.region ?_
    refine OL.pure S (Lf.run_move (S.ev rfl)) rfl rfl trivial ?_
    clear S; intro aa S
    refine OL.pure S (Lf.run_move (S.ev rfl)) rfl rfl trivial ?_
    clear S; intro aa S
    refine OL.pure S (Lf.run_lens (S.ev rfl) rfl Try.underlying23) rfl rfl trivial ?_
    clear S; intro aa S
    refine OL.pure S (Lf.run_lss (S.ev rfl) (S.ev rfl)) rfl rfl trivial ?_
    clear S; intro aa S
    refine OL.nil ?_
    refine W.cond S (b := (decide (i5 < ((a0.n : Nat) : Int)))) rfl (fun hb_1 => ?_) (fun hb_1 => ?_)
    · replace H := H.1 hb_1
      refine W.skip ?_
      refine W.seq ?_
      refine W.block ?_
      refine W.seq ?_
      replace S := S.sub [(0, Value.slice a0.a a0.n a0.c), (1, Value.slice b1.a b1.n b1.c), (5, Value.int .i64 i5)] ⟨rfl, rfl, rfl, trivial⟩
      refine W.regionD S (by kernel_rfl) ?_
      clear S; intro ww S
      refine AN.pure 0 S rfl (by kernel_rfl) (fun _ => Lf.run_move (S.ev rfl)) rfl rfl trivial ?_
      clear S; intro aa S
      refine AN.pure 1 S rfl (by kernel_rfl) (fun _ => Lf.run_move (S.ev rfl)) rfl rfl trivial ?_
      clear S; intro aa S
      obtain ⟨q19, e, e_1, e_2, H⟩ := H
      refine AN.pure 2 S rfl (by kernel_rfl) (fun _ => Lf.run_ixs (S.ev rfl) (S.ev rfl) Try.underlying23 ti3 e e_1 e_2) rfl rfl trivial ?_
      clear S; intro aa S
      obtain ⟨x20, c, H⟩ := H
      refine AN.load 3 S rfl (by kernel_rfl) (fun _ hx => Lf.run_ld (S.ev rfl) fl3 (hx.cell _ _ (S.cl c))) rfl rfl trivial ?_
      clear S; intro aa S
      refine AN.pure 4 S rfl (by kernel_rfl) (fun _ => Lf.run_move (S.ev rfl)) rfl rfl trivial ?_
      clear S; intro aa S
      refine AN.pure 5 S rfl (by kernel_rfl) (fun _ => Lf.run_move (S.ev rfl)) rfl rfl trivial ?_
      clear S; intro aa S
      obtain ⟨q23, e_3, e_4, e_5, H⟩ := H
      refine AN.pure 6 S rfl (by kernel_rfl) (fun _ => Lf.run_ixs (S.ev rfl) (S.ev rfl) Try.underlying23 ti3 e_3 e_4 e_5) rfl rfl trivial ?_
      clear S; intro aa S
      obtain ⟨x24, c_1, H⟩ := H
      refine AN.load 7 S rfl (by kernel_rfl) (fun _ hx => Lf.run_ld (S.ev rfl) fl3 (hx.cell _ _ (S.cl c_1))) rfl rfl trivial ?_
      clear S; intro aa S
      refine AN.pure 8 S rfl (by kernel_rfl) (fun _ => Lf.run_neq (S.ev rfl) (S.ev rfl)) rfl rfl trivial ?_
      clear S; intro aa S
      refine AN.done (by kernel_rfl) ?_
      refine W.cond S (b := (x20 != x24)) rfl (fun hb_2 => ?_) (fun hb_2 => ?_)
      · replace H := H.1 hb_2
        refine W.seq ?_
        replace S := S.sub [] trivial
        refine W.region ?_
        refine OL.pure S (Lf.run_assign (S.ev rfl)) rfl rfl trivial ?_
        clear S; intro aa S
        refine OL.nil ?_
        refine W.ret ?_
        exact Ret.one S rfl rfl H
      · replace H := H.2 hb_2
        refine W.skip ?_
        replace S := S.sub [(0, Value.slice a0.a a0.n a0.c), (1, Value.slice b1.a b1.n b1.c), (5, Value.int .i64 i5)] ⟨rfl, rfl, rfl, trivial⟩
        refine W.region ?_
        refine OL.pure S (Lf.run_move (S.ev rfl)) rfl rfl trivial ?_
        clear S; intro aa S
        refine OL.pure S (Lf.run_add (S.ev rfl) (S.ev rfl)) rfl rfl trivial ?_
        clear S; intro aa S
        refine OL.pure S (Lf.run_assign (S.ev rfl)) rfl rfl trivial ?_
        clear S; intro aa S
        refine OL.nil ?_
        exact ⟨((IntKind.i64.wrap (i5 + 1))), ⟨S.sub _ ⟨rfl, rfl, rfl, trivial⟩, H.1⟩, H.2⟩
    · replace H := H.2 hb_1
      refine W.exit_ ?_
      refine xhit ?_
      refine W.seq ?_
      replace S := S.sub [] trivial
      refine W.region ?_
      refine OL.pure S (Lf.run_assign (S.ev rfl)) rfl rfl trivial ?_
      clear S; intro aa S
      refine OL.nil ?_
      refine W.ret ?_
      exact Ret.one S rfl rfl H

/-- chattel chattelref15.leaves -/
def L30 (p0 : Sv) (p0_1 : Int) (p0_2 : Sv) (p0_3 : Sv) (p0_4 : Sv) (i1 : Int) (e2 : Int) (ahead3 : Bool) (h : Heap) (R : Value → Heap → Prop) : Prop :=
  new 25 #[Value.slice p0.a p0.n p0.c, Value.int .i64 p0_1, Value.slice p0_2.a p0_2.n p0_2.c, Value.slice p0_3.a p0_3.n p0_3.c, Value.slice p0_4.a p0_4.n p0_4.c] h fun p4 h1 =>
  ldS h1 (p4.add 2) fun x10 =>
  cal Try.prog 27 #[Value.slice x10.a x10.n x10.c, Value.int .i64 i1, Value.int .i64 e2] h1 fun u h2 => asB u fun x13 =>
  ∃ J : Bool → Heap → Prop, (orj x13 (fun k =>
    ∃ J_1 : Bool → Heap → Prop, (andj ahead3 (fun k_1 =>
      ldS h2 (p4.add 3) fun x18 =>
      cal Try.prog 27 #[Value.slice x18.a x18.n x18.c, Value.int .i64 i1, Value.int .i64 e2] h2 fun u_1 h5 => asB u_1 fun x21 =>
      k_1 (!x21) h5) h2 J_1) ∧ ∀ x23 h4, J_1 x23 h4 →
    k x23 h4) h2 J) ∧ ∀ x24 h3, J x24 h3 →
  R (Value.bool x24) h3

set_option maxRecDepth 100000 in

theorem F30 {p0 p0_1 p0_2 p0_3 p0_4 i1 e2 ahead3 h : _} {R : Value → Heap → Prop} (H : L30 p0 p0_1 p0_2 p0_3 p0_4 i1 e2 ahead3 h R) : CallsH Try.prog 30 #[Value.agg #[Value.slice p0.a p0.n p0.c, Value.int .i64 p0_1, Value.slice p0_2.a p0_2.n p0_2.c, Value.slice p0_3.a p0_3.n p0_3.c, Value.slice p0_4.a p0_4.n p0_4.c], Value.int .i64 i1, Value.int .i64 e2, Value.bool ahead3] h R := by
  refine CallsH.enter (n := 25) Try.func30 rfl rfl rfl rfl ?_
  intro w0 aa ww S
  unfold L30 at H
  refine W.seq ?_
  replace S := S.sub [(0, Value.agg #[Value.slice p0.a p0.n p0.c, Value.int .i64 p0_1, Value.slice p0_2.a p0_2.n p0_2.c, Value.slice p0_3.a p0_3.n p0_3.c, Value.slice p0_4.a p0_4.n p0_4.c]), (1, Value.int .i64 i1), (2, Value.int .i64 e2), (3, Value.bool ahead3)] ⟨rfl, rfl, rfl, rfl, trivial⟩
  refine W.region ?_
  refine ol_box S H rfl rfl rfl trivial ?_
  clear S H aa; intro p4 aa ww h1 H S
  refine OL.pure S (Lf.run_assign (S.ev rfl)) rfl rfl trivial ?_
  clear S; intro aa S
  refine OL.nil ?_
  refine W.seq ?_
  replace S := S.sub [(1, Value.int .i64 i1), (2, Value.int .i64 e2), (3, Value.bool ahead3), (4, Value.pointer (some p4))] ⟨rfl, rfl, rfl, rfl, trivial⟩
  refine W.region ?_
  refine OL.pure S (Lf.run_fa (S.ev rfl) fa25_2) rfl rfl trivial ?_
  clear S; intro aa S
  obtain ⟨x10, c, H⟩ := H
  refine OL.pure S (Lf.run_ld (S.ev rfl) fl22 (S.cl c)) rfl rfl trivial ?_
  clear S; intro aa S
  refine OL.pure S (Lf.run_move (S.ev rfl)) rfl rfl trivial ?_
  clear S; intro aa S
  refine OL.pure S (Lf.run_move (S.ev rfl)) rfl rfl trivial ?_
  clear S; intro aa S
  refine ol_cal S H isfn27 rfl rfl trivial ?_
  clear S H aa; intro u aa ww h2 H S
  obtain ⟨x13, rfl, H⟩ := H
  refine OL.pure S (Lf.run_move (S.ev rfl)) rfl rfl trivial ?_
  clear S; intro aa S
  obtain ⟨J, H, HK⟩ := H
  refine OL.cutN 10 (fun aa ww => ∃ x24 h3, St 25 ((24, Value.bool x24) :: [(1, Value.int .i64 i1), (2, Value.int .i64 e2), (3, Value.bool ahead3), (4, Value.pointer (some p4)), (9, Value.pointer (some (p4.add 2))), (10, Value.slice x10.a x10.n x10.c), (11, Value.int .i64 i1), (12, Value.int .i64 e2), (13, Value.bool x13), (14, Value.bool x13)]) h3 w0 aa ww ∧ J x24 h3) ?_ ?_
  · rcases Bool.eq_false_or_eq_true x13 with hb | hb
    · replace H := H.1 hb
      refine OL.not S rfl rfl (GNo.mk rfl rfl hb) ?_
      clear S; intro aa S
      refine OL.not S rfl rfl (GNo.mk rfl rfl hb) ?_
      clear S; intro aa S
      refine OL.not S rfl rfl (GNo.un rfl rfl) ?_
      clear S; intro aa S
      refine OL.not S rfl rfl (GNo.un rfl rfl) ?_
      clear S; intro aa S
      refine OL.not S rfl rfl (GNo.un rfl rfl) ?_
      clear S; intro aa S
      refine OL.not S rfl rfl (GNo.un rfl rfl) ?_
      clear S; intro aa S
      refine OL.not S rfl rfl (GNo.un rfl rfl) ?_
      clear S; intro aa S
      refine OL.not S rfl rfl (GNo.un rfl rfl) ?_
      clear S; intro aa S
      refine OL.not S rfl rfl (GNo.mk rfl rfl hb) ?_
      clear S; intro aa S
      refine OL.pure S (Lf.run_pickT (S.ev rfl) hb (S.ev rfl)) rfl rfl trivial ?_
      clear S; intro aa S
      refine OL.nil ?_
      exact ⟨_, _, S.sub _ ⟨rfl, rfl, rfl, rfl, rfl, rfl, rfl, rfl, rfl, rfl, rfl, trivial⟩, H⟩
    · replace H := H.2 hb
      refine OL.pure S (Lf.run_move (S.ev rfl)) rfl rfl (GOk.mk rfl rfl hb) ?_
      clear S; intro aa S
      refine OL.pure S (Lf.run_move (S.ev rfl)) rfl rfl (GOk.mk rfl rfl hb) ?_
      clear S; intro aa S
      obtain ⟨J_1, H, HK_1⟩ := H
      refine OL.cutN 7 (fun aa ww => ∃ x23 h4, St 25 ((23, Value.bool x23) :: [(1, Value.int .i64 i1), (2, Value.int .i64 e2), (3, Value.bool ahead3), (4, Value.pointer (some p4)), (9, Value.pointer (some (p4.add 2))), (10, Value.slice x10.a x10.n x10.c), (11, Value.int .i64 i1), (12, Value.int .i64 e2), (13, Value.bool x13), (14, Value.bool x13), (15, Value.bool ahead3), (16, Value.bool ahead3)]) h4 w0 aa ww ∧ J_1 x23 h4) ?_ ?_
      · rcases Bool.eq_false_or_eq_true ahead3 with hb_1 | hb_1
        · replace H := H.1 hb_1
          refine OL.pure S (Lf.run_fa (S.ev rfl) fa25_3) rfl rfl (GOk.mk rfl rfl hb_1) ?_
          clear S; intro aa S
          obtain ⟨x18, c_1, H⟩ := H
          refine OL.pure S (Lf.run_ld (S.ev rfl) fl22 (S.cl c_1)) rfl rfl (GOk.mk rfl rfl hb_1) ?_
          clear S; intro aa S
          refine OL.pure S (Lf.run_move (S.ev rfl)) rfl rfl (GOk.mk rfl rfl hb_1) ?_
          clear S; intro aa S
          refine OL.pure S (Lf.run_move (S.ev rfl)) rfl rfl (GOk.mk rfl rfl hb_1) ?_
          clear S; intro aa S
          refine ol_cal S H isfn27 rfl rfl (GOk.mk rfl rfl hb_1) ?_
          clear S H aa; intro u_1 aa ww h5 H S
          obtain ⟨x21, rfl, H⟩ := H
          refine OL.pure S (Lf.run_not (S.ev rfl)) rfl rfl (GOk.mk rfl rfl hb_1) ?_
          clear S; intro aa S
          refine OL.pure S (Lf.run_pickT (S.ev rfl) hb_1 (S.ev rfl)) rfl rfl (GOk.mk rfl rfl hb) ?_
          clear S; intro aa S
          refine OL.nil ?_
          exact ⟨_, _, S.sub _ ⟨rfl, rfl, rfl, rfl, rfl, rfl, rfl, rfl, rfl, rfl, rfl, rfl, rfl, trivial⟩, H⟩
        · replace H := H.2 hb_1
          refine OL.not S rfl rfl (GNo.mk rfl rfl hb_1) ?_
          clear S; intro aa S
          refine OL.not S rfl rfl (GNo.mk rfl rfl hb_1) ?_
          clear S; intro aa S
          refine OL.not S rfl rfl (GNo.mk rfl rfl hb_1) ?_
          clear S; intro aa S
          refine OL.not S rfl rfl (GNo.mk rfl rfl hb_1) ?_
          clear S; intro aa S
          refine OL.not S rfl rfl (GNo.mk rfl rfl hb_1) ?_
          clear S; intro aa S
          refine OL.not S rfl rfl (GNo.mk rfl rfl hb_1) ?_
          clear S; intro aa S
          refine OL.pure S (Lf.run_pickF (S.ev rfl) hb_1 (S.ev rfl)) rfl rfl (GOk.mk rfl rfl hb) ?_
          clear S; intro aa S
          refine OL.nil ?_
          exact ⟨_, _, S.sub _ ⟨rfl, rfl, rfl, rfl, rfl, rfl, rfl, rfl, rfl, rfl, rfl, rfl, rfl, trivial⟩, H⟩
      · clear S aa
        rintro aa ww ⟨x23, h4, S, HJ⟩
        replace H := HK_1 _ _ HJ
        clear HK_1 HJ
        refine OL.pure S (Lf.run_pickF (S.ev rfl) hb (S.ev rfl)) rfl rfl trivial ?_
        clear S; intro aa S
        refine OL.nil ?_
        exact ⟨_, _, S.sub _ ⟨rfl, rfl, rfl, rfl, rfl, rfl, rfl, rfl, rfl, rfl, rfl, trivial⟩, H⟩
  · clear S aa
    rintro aa ww ⟨x24, h3, S, HJ⟩
    replace H := HK _ _ HJ
    clear HK HJ
    refine OL.pure S (Lf.run_assign (S.ev rfl)) rfl rfl trivial ?_
    clear S; intro aa S
    refine OL.nil ?_
    refine W.ret ?_
    exact Ret.one S rfl rfl H

/-- chattel flow.list -/
def L31 (l0 : Sv) (i1 : Int) (h : Heap) (R : Value → Heap → Prop) : Prop :=
  ifb (decide (((l0.n : Nat) : Int) ≤ i1)) (
    R (Value.slice (⟨none, 0, 0⟩ : Sv).a (⟨none, 0, 0⟩ : Sv).n (⟨none, 0, 0⟩ : Sv).c) h) (
    ixS l0 i1 fun q11 =>
    ldS h (q11.add ((i1 : Int).toNat * 1)) fun x12 =>
    R (Value.slice x12.a x12.n x12.c) h)

set_option maxRecDepth 100000 in

theorem F31 {l0 i1 h : _} {R : Value → Heap → Prop} (H : L31 l0 i1 h R) : CallsH Try.prog 31 #[Value.slice l0.a l0.n l0.c, Value.int .i64 i1] h R := by
  refine CallsH.enter (n := 13) Try.func31 rfl rfl rfl rfl ?_
  intro w0 aa ww S
  unfold L31 at H
  refine W.seq ?_
  replace S := S.sub [(0, Value.slice l0.a l0.n l0.c), (1, Value.int .i64 i1)] ⟨rfl, rfl, trivial⟩
  refine W.region ?_
  refine OL.pure S (Lf.run_assign (S.ev rfl)) rfl rfl trivial ?_
  clear S; intro aa S
  refine OL.nil ?_
  refine W.seq ?_
  refine W.seq ?_
  replace S := S.sub [(0, Value.slice l0.a l0.n l0.c), (1, Value.int .i64 i1)] ⟨rfl, rfl, trivial⟩
  refine W.region ?_
  refine OL.pure S (Lf.run_move (S.ev rfl)) rfl rfl trivial ?_
  clear S; intro aa S
  refine OL.pure S (Lf.run_move (S.ev rfl)) rfl rfl trivial ?_
  clear S; intro aa S
  refine OL.pure S (Lf.run_lens (S.ev rfl) rfl Try.underlying22) rfl rfl trivial ?_
  clear S; intro aa S
  refine OL.pure S (Lf.run_geq (S.ev rfl) (S.ev rfl)) rfl rfl trivial ?_
  clear S; intro aa S
  refine OL.nil ?_
  refine W.cond S (b := (decide (((l0.n : Nat) : Int) ≤ i1))) rfl (fun hb => ?_) (fun hb => ?_)
  · replace H := H.1 hb
    refine W.seq ?_
    replace S := S.sub [] trivial
    refine W.region ?_
    refine OL.pure S (Lf.run_assign (S.ev rfl)) rfl rfl trivial ?_
    clear S; intro aa S
    refine OL.nil ?_
    refine W.ret ?_
    exact Ret.one S rfl rfl H
  · replace H := H.2 hb
    refine W.skip ?_
    refine W.seq ?_
    replace S := S.sub [(0, Value.slice l0.a l0.n l0.c), (1, Value.int .i64 i1)] ⟨rfl, rfl, trivial⟩
    refine W.region ?_
    refine OL.pure S (Lf.run_move (S.ev rfl)) rfl rfl trivial ?_
    clear S; intro aa S
    refine OL.pure S (Lf.run_move (S.ev rfl)) rfl rfl trivial ?_
    clear S; intro aa S
    obtain ⟨q11, e, e_1, e_2, H⟩ := H
    refine OL.pure S (Lf.run_ixs (S.ev rfl) (S.ev rfl) Try.underlying22 ti23 e e_1 e_2) rfl rfl trivial ?_
    clear S; intro aa S
    obtain ⟨x12, c, H⟩ := H
    refine OL.pure S (Lf.run_ld (S.ev rfl) fl23 (S.cl c)) rfl rfl trivial ?_
    clear S; intro aa S
    refine OL.pure S (Lf.run_assign (S.ev rfl)) rfl rfl trivial ?_
    clear S; intro aa S
    refine OL.nil ?_
    refine W.ret ?_
    exact Ret.one S rfl rfl H

end Go.Proofs.Ytglhkodebehdbaa

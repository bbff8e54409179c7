/- Lifted by program off the elaborated code: each Go function, read as a proposition over typed variables and the heap. -/
import Derived.Test.YtgbmihnainbgiaaDoorG0
namespace Go.Proofs.YtgbmihnainbgiaaDoor
open Go Go.Lf
set_option linter.unusedVariables false
set_option maxRecDepth 100000

/-- chattel chattellaw12.SolveLeast -/
def L3 (n0 : Int) (width1 : Int) (ops2 : Sv) (h : Heap) (R : Value → Heap → Prop) : Prop :=
  cal Tryd.prog 5 #[] h fun u h1 => asB u fun x16 =>
  ∃ J : Bool → Heap → Prop, (orj (!x16) (fun k =>
    cal Tryd.prog 6 #[Value.int .i64 n0, Value.int .i64 width1, Value.slice ops2.a ops2.n ops2.c] h1 fun u_1 h3 => asB u_1 fun x22 =>
    k (!x22) h3) h1 J) ∧ ∀ x24 h2, J x24 h2 →
  ifb x24 (
    cal Tryd.prog 5 #[] h2 fun u_2 h4 => asB u_2 fun x25 =>
    R (Value.bool x25) h4) (
    cal Tryd.prog 7 #[Value.int .i64 n0, Value.int .i64 width1, Value.slice ops2.a ops2.n ops2.c] h2 fun u_3 h5 => asTup u_3 fun r30 =>
    elt r30 0 fun u_4 => asP u_4 fun x31 =>
    elt r30 1 fun u_5 => asS u_5 fun x32 =>
    elt r30 2 fun u_6 => asS u_6 fun x33 =>
    elt r30 3 fun u_7 => asB u_7 fun x34 =>
    ifb (!x34) (
      R (Value.bool false) h5) (
      ∃ (I : Int → Heap → Prop) (m : Int → Heap → Nat), I 0 h5 ∧ ∀ r11 h6, I r11 h6 →
      ifb (decide (r11 < n0)) (
        cal Tryd.prog 8 #[Value.pointer x31, Value.int .i64 r11] h6 fun u_8 h7 => asS u_8 fun x44 =>
        ∃ (I_1 : Int → Int → Heap → Prop) (m_1 : Int → Int → Heap → Nat), I_1 0 0 h7 ∧ ∀ k13 e14 h8, I_1 k13 e14 h8 →
        ifb (decide (e14 < width1)) (
          ∃ J_1 : Int → Heap → Prop, (
            cal Tryd.prog 9 #[Value.int .i64 n0, Value.slice x32.a x32.n x32.c, Value.slice x33.a x33.n x33.c, Value.int .i64 r11, Value.int .i64 e14] h8 fun u_9 h9 => asB u_9 fun x55 =>
            cal Tryd.prog 10 #[Value.pointer x31, Value.int .i64 r11, Value.int .i64 e14] h9 fun u_10 h10 => asB u_10 fun x59 =>
            ∃ J_2 : Bool → Prop, (orr (x59 != x55) (fun k_1 =>
              ∃ J_3 : Bool → Prop, (andr x55 (fun k_2 =>
                ∃ J_4 : Bool → Prop, (orr (decide (((x44.n : Nat) : Int) ≤ k13)) (fun k_3 =>
                  ixS x44 k13 fun q72 =>
                  ldI .i64 h10 (q72.add ((k13 : Int).toNat * 1)) fun x73 =>
                  k_3 (x73 != e14)) J_4) ∧ ∀ x76, J_4 x76 →
                k_2 x76) J_3) ∧ ∀ x77, J_3 x77 →
              k_1 x77) J_2) ∧ ∀ x78, J_2 x78 →
            ifb x78 (
              R (Value.bool false) h10) (
              ifb x55 (
                J_1 (IntKind.i64.wrap (k13 + 1)) h10) (
                J_1 k13 h10))) ∧ (∀ k13_1 h11, J_1 k13_1 h11 →
          I_1 k13_1 (IntKind.i64.wrap (e14 + 1)) h11 ∧ m_1 k13_1 (IntKind.i64.wrap (e14 + 1)) h11 < m_1 k13 e14 h8)) (
          ∃ J_5 : Bool → Heap → Prop, (orj (k13 != ((x44.n : Nat) : Int)) (fun k_4 =>
            cal Tryd.prog 11 #[Value.pointer x31, Value.int .i64 r11] h8 fun u_11 h13 => asI .i64 u_11 fun x89 =>
            k_4 (x89 != k13) h13) h8 J_5) ∧ ∀ x92 h12, J_5 x92 h12 →
          ifb x92 (
            R (Value.bool false) h12) (
            I (IntKind.i64.wrap (r11 + 1)) h12 ∧ m (IntKind.i64.wrap (r11 + 1)) h12 < m r11 h6))) (
        R (Value.bool true) h6)))

set_option maxRecDepth 100000 in

theorem F3 {n0 width1 ops2 h : _} {R : Value → Heap → Prop} (H : L3 n0 width1 ops2 h R) : CallsH Tryd.prog 3 #[Value.int .i64 n0, Value.int .i64 width1, Value.slice ops2.a ops2.n ops2.c] h R := by
  refine CallsH.enter (n := 93) Tryd.func3 rfl rfl rfl rfl ?_
  intro w0 aa ww S
  unfold L3 at H
  refine W.seq ?_
  replace S := S.sub [(0, Value.int .i64 n0), (1, Value.int .i64 width1), (2, Value.slice ops2.a ops2.n ops2.c)] ⟨rfl, rfl, rfl, trivial⟩
  refine W.region ?_
  refine OL.pure S (Lf.run_assign (S.ev rfl)) rfl rfl trivial ?_
  clear S; intro aa S
  refine OL.nil ?_
  refine W.seq ?_
  refine W.seq ?_
  replace S := S.sub [(0, Value.int .i64 n0), (1, Value.int .i64 width1), (2, Value.slice ops2.a ops2.n ops2.c)] ⟨rfl, rfl, rfl, trivial⟩
  refine W.region ?_
  refine ol_cal S H isfn5 rfl rfl trivial ?_
  clear S H aa; intro u aa ww h1 H S
  obtain ⟨x16, rfl, H⟩ := H
  refine OL.pure S (Lf.run_not (S.ev rfl)) rfl rfl trivial ?_
  clear S; intro aa S
  refine OL.pure S (Lf.run_move (S.ev rfl)) rfl rfl trivial ?_
  clear S; intro aa S
  obtain ⟨J, H, HK⟩ := H
  refine OL.cutN 6 (fun aa ww => ∃ x24 h2, St 93 ((24, Value.bool x24) :: [(0, Value.int .i64 n0), (1, Value.int .i64 width1), (2, Value.slice ops2.a ops2.n ops2.c), (16, Value.bool x16), (17, Value.bool (!x16)), (18, Value.bool (!x16))]) h2 w0 aa ww ∧ J x24 h2) ?_ ?_
  · rcases Bool.eq_false_or_eq_true (!x16) with hb | hb
    · replace H := H.1 hb
      refine OL.not S rfl rfl (GNo.mk rfl rfl hb) ?_
      clear S; intro aa S
      refine OL.not S rfl rfl (GNo.mk rfl rfl hb) ?_
      clear S; intro aa S
      refine OL.not S rfl rfl (GNo.mk rfl rfl hb) ?_
      clear S; intro aa S
      refine OL.not S rfl rfl (GNo.mk rfl rfl hb) ?_
      clear S; intro aa S
      refine OL.not S rfl rfl (GNo.mk rfl rfl hb) ?_
      clear S; intro aa S
      refine OL.pure S (Lf.run_pickT (S.ev rfl) hb (S.ev rfl)) rfl rfl trivial ?_
      clear S; intro aa S
      refine OL.nil ?_
      exact ⟨_, _, S.sub _ ⟨rfl, rfl, rfl, rfl, rfl, rfl, rfl, trivial⟩, H⟩
    · replace H := H.2 hb
      refine OL.pure S (Lf.run_move (S.ev rfl)) rfl rfl (GOk.mk rfl rfl hb) ?_
      clear S; intro aa S
      refine OL.pure S (Lf.run_move (S.ev rfl)) rfl rfl (GOk.mk rfl rfl hb) ?_
      clear S; intro aa S
      refine OL.pure S (Lf.run_move (S.ev rfl)) rfl rfl (GOk.mk rfl rfl hb) ?_
      clear S; intro aa S
      refine ol_cal S H isfn6 rfl rfl (GOk.mk rfl rfl hb) ?_
      clear S H aa; intro u_1 aa ww h3 H S
      obtain ⟨x22, rfl, H⟩ := H
      refine OL.pure S (Lf.run_not (S.ev rfl)) rfl rfl (GOk.mk rfl rfl hb) ?_
      clear S; intro aa S
      refine OL.pure S (Lf.run_pickF (S.ev rfl) hb (S.ev rfl)) rfl rfl trivial ?_
      clear S; intro aa S
      refine OL.nil ?_
      exact ⟨_, _, S.sub _ ⟨rfl, rfl, rfl, rfl, rfl, rfl, rfl, trivial⟩, H⟩
  · clear S aa
    rintro aa ww ⟨x24, h2, S, HJ⟩
    replace H := HK _ _ HJ
    clear HK HJ
    refine OL.nil ?_
    refine W.cond S (b := x24) rfl (fun hb_1 => ?_) (fun hb_1 => ?_)
    · replace H := H.1 hb_1
      refine W.seq ?_
      replace S := S.sub [] trivial
      refine W.region ?_
      refine ol_cal S H isfn5 rfl rfl trivial ?_
      clear S H aa; intro u_2 aa ww h4 H S
      obtain ⟨x25, rfl, H⟩ := H
      refine OL.pure S (Lf.run_assign (S.ev rfl)) rfl rfl trivial ?_
      clear S; intro aa S
      refine OL.nil ?_
      refine W.ret ?_
      exact Ret.one S rfl rfl H
    · replace H := H.2 hb_1
      refine W.skip ?_
      refine W.seq ?_
      replace S := S.sub [(0, Value.int .i64 n0), (1, Value.int .i64 width1), (2, Value.slice ops2.a ops2.n ops2.c)] ⟨rfl, rfl, rfl, trivial⟩
      refine W.region ?_
      refine OL.pure S (Lf.run_move (S.ev rfl)) rfl rfl trivial ?_
      clear S; intro aa S
      refine OL.pure S (Lf.run_move (S.ev rfl)) rfl rfl trivial ?_
      clear S; intro aa S
      refine OL.pure S (Lf.run_move (S.ev rfl)) rfl rfl trivial ?_
      clear S; intro aa S
      refine ol_cal S H isfn7 rfl rfl trivial ?_
      clear S H aa; intro u_3 aa ww h5 H S
      obtain ⟨r30, rfl, H⟩ := H
      refine OL.pure S (Lf.run_move (S.ev rfl)) rfl rfl trivial ?_
      clear S; intro aa S
      obtain ⟨u_4, e, x31, rfl, H⟩ := H
      refine OL.pure S (Lf.run_ex (S.ev rfl) e) rfl rfl trivial ?_
      clear S; intro aa S
      obtain ⟨u_5, e_1, x32, rfl, H⟩ := H
      refine OL.pure S (Lf.run_ex (S.ev rfl) e_1) rfl rfl trivial ?_
      clear S; intro aa S
      obtain ⟨u_6, e_2, x33, rfl, H⟩ := H
      refine OL.pure S (Lf.run_ex (S.ev rfl) e_2) rfl rfl trivial ?_
      clear S; intro aa S
      obtain ⟨u_7, e_3, x34, rfl, H⟩ := H
      refine OL.pure S (Lf.run_ex (S.ev rfl) e_3) rfl rfl trivial ?_
      clear S; intro aa S
      refine OL.pure S (Lf.run_assign (S.ev rfl)) rfl rfl trivial ?_
      clear S; intro aa S
      refine OL.pure S (Lf.run_assign (S.ev rfl)) rfl rfl trivial ?_
      clear S; intro aa S
      refine OL.pure S (Lf.run_assign (S.ev rfl)) rfl rfl trivial ?_
      clear S; intro aa S
      refine OL.pure S (Lf.run_assign (S.ev rfl)) rfl rfl trivial ?_
      clear S; intro aa S
      refine OL.nil ?_
      refine W.seq ?_
      refine W.seq ?_
      replace S := S.sub [(0, Value.int .i64 n0), (1, Value.int .i64 width1), (7, Value.pointer x31), (8, Value.slice x32.a x32.n x32.c), (9, Value.slice x33.a x33.n x33.c), (10, Value.bool x34)] ⟨rfl, rfl, rfl, rfl, rfl, rfl, trivial⟩
      refine W.region ?_
      refine OL.pure S (Lf.run_move (S.ev rfl)) rfl rfl trivial ?_
      clear S; intro aa S
      refine OL.pure S (Lf.run_not (S.ev rfl)) rfl rfl trivial ?_
      clear S; intro aa S
      refine OL.nil ?_
      refine W.cond S (b := (!x34)) rfl (fun hb_2 => ?_) (fun hb_2 => ?_)
      · replace H := H.1 hb_2
        refine W.seq ?_
        replace S := S.sub [] trivial
        refine W.region ?_
        refine OL.pure S (Lf.run_assign (S.ev rfl)) rfl rfl trivial ?_
        clear S; intro aa S
        refine OL.nil ?_
        refine W.ret ?_
        exact Ret.one S rfl rfl H
      · replace H := H.2 hb_2
        refine W.skip ?_
        refine W.seq ?_
        refine W.seq ?_
        replace S := S.sub [(0, Value.int .i64 n0), (1, Value.int .i64 width1), (7, Value.pointer x31), (8, Value.slice x32.a x32.n x32.c), (9, Value.slice x33.a x33.n x33.c)] ⟨rfl, rfl, rfl, rfl, rfl, trivial⟩
        refine W.region ?_
        refine OL.pure S (Lf.run_assign (S.ev rfl)) rfl rfl trivial ?_
        clear S; intro aa S
        refine OL.nil ?_
        refine W.block ?_
        obtain ⟨I, m, H, HB_1⟩ := H
        refine W.loopS (σ := Int × Heap) (fun s aa ww => St 93 [(0, Value.int .i64 n0), (1, Value.int .i64 width1), (7, Value.pointer x31), (8, Value.slice x32.a x32.n x32.c), (9, Value.slice x33.a x33.n x33.c), (11, Value.int .i64 s.1)] s.2 w0 aa ww ∧ I s.1 s.2) (fun s => m s.1 s.2) (0, h5) ⟨S.sub _ ⟨rfl, rfl, rfl, rfl, rfl, rfl, trivial⟩, H⟩ ?_
        clear H S aa
        rintro ⟨r11, h6⟩ aa ww ⟨S, HI⟩
        replace S : St 93 [(0, Value.int .i64 n0), (1, Value.int .i64 width1), (7, Value.pointer x31), (8, Value.slice x32.a x32.n x32.c), (9, Value.slice x33.a x33.n x33.c), (11, Value.int .i64 r11)] h6 w0 aa ww := S
        have H := HB_1 r11 h6 HI
        clear HI
        refine W.seq ?_
        refine W.seq ?_
        replace S := S.sub [(0, Value.int .i64 n0), (1, Value.int .i64 width1), (7, Value.pointer x31), (8, Value.slice x32.a x32.n x32.c), (9, Value.slice x33.a x33.n x33.c), (11, Value.int .i64 r11)] ⟨rfl, rfl, rfl, rfl, rfl, rfl, trivial⟩
        refine W.region ?_
        refine OL.pure S (Lf.run_move (S.ev rfl)) rfl rfl trivial ?_
        clear S; intro aa S
        refine OL.pure S (Lf.run_move (S.ev rfl)) rfl rfl trivial ?_
        clear S; intro aa S
        refine OL.pure S (Lf.run_lss (S.ev rfl) (S.ev rfl)) rfl rfl trivial ?_
        clear S; intro aa S
        refine OL.nil ?_
        refine W.cond S (b := (decide (r11 < n0))) rfl (fun hb_3 => ?_) (fun hb_3 => ?_)
        · replace H := H.1 hb_3
          refine W.skip ?_
          refine W.seq ?_
          refine W.block ?_
          refine W.seq ?_
          replace S := S.sub [(0, Value.int .i64 n0), (1, Value.int .i64 width1), (7, Value.pointer x31), (8, Value.slice x32.a x32.n x32.c), (9, Value.slice x33.a x33.n x33.c), (11, Value.int .i64 r11)] ⟨rfl, rfl, rfl, rfl, rfl, rfl, trivial⟩
          refine W.region ?_
          refine OL.pure S (Lf.run_move (S.ev rfl)) rfl rfl trivial ?_
          clear S; intro aa S
          refine OL.pure S (Lf.run_move (S.ev rfl)) rfl rfl trivial ?_
          clear S; intro aa S
          refine ol_cal S H isfn8 rfl rfl trivial ?_
          clear S H aa; intro u_8 aa ww h7 H S
          obtain ⟨x44, rfl, H⟩ := H
          refine OL.pure S (Lf.run_assign (S.ev rfl)) rfl rfl trivial ?_
          clear S; intro aa S
          refine OL.nil ?_
          refine W.seq ?_
          replace S := S.sub [(0, Value.int .i64 n0), (1, Value.int .i64 width1), (7, Value.pointer x31), (8, Value.slice x32.a x32.n x32.c), (9, Value.slice x33.a x33.n x33.c), (11, Value.int .i64 r11), (12, Value.slice x44.a x44.n x44.c)] ⟨rfl, rfl, rfl, rfl, rfl, rfl, rfl, trivial⟩
          refine W.region ?_
          refine OL.pure S (Lf.run_assign (S.ev rfl)) rfl rfl trivial ?_
          clear S; intro aa S
          refine OL.nil ?_
          refine W.seq ?_
          refine W.seq ?_
          replace S := S.sub [(0, Value.int .i64 n0), (1, Value.int .i64 width1), (7, Value.pointer x31), (8, Value.slice x32.a x32.n x32.c), (9, Value.slice x33.a x33.n x33.c), (11, Value.int .i64 r11), (12, Value.slice x44.a x44.n x44.c), (13, Value.int .i64 0)] ⟨rfl, rfl, rfl, rfl, rfl, rfl, rfl, rfl, trivial⟩
          refine W.region ?_
          refine OL.pure S (Lf.run_assign (S.ev rfl)) rfl rfl trivial ?_
          clear S; intro aa S
          refine OL.nil ?_
          refine W.block ?_
          obtain ⟨I_1, m_1, H, HB⟩ := H
          refine W.loopS (σ := Int × Int × Heap) (fun s aa ww => St 93 [(0, Value.int .i64 n0), (1, Value.int .i64 width1), (7, Value.pointer x31), (8, Value.slice x32.a x32.n x32.c), (9, Value.slice x33.a x33.n x33.c), (11, Value.int .i64 r11), (12, Value.slice x44.a x44.n x44.c), (13, Value.int .i64 s.1), (14, Value.int .i64 s.2.1)] s.2.2 w0 aa ww ∧ I_1 s.1 s.2.1 s.2.2) (fun s => m_1 s.1 s.2.1 s.2.2) (0, 0, h7) ⟨S.sub _ ⟨rfl, rfl, rfl, rfl, rfl, rfl, rfl, rfl, rfl, trivial⟩, H⟩ ?_
          clear H S aa
          rintro ⟨k13, e14, h8⟩ aa ww ⟨S, HI⟩
          replace S : St 93 [(0, Value.int .i64 n0), (1, Value.int .i64 width1), (7, Value.pointer x31), (8, Value.slice x32.a x32.n x32.c), (9, Value.slice x33.a x33.n x33.c), (11, Value.int .i64 r11), (12, Value.slice x44.a x44.n x44.c), (13, Value.int .i64 k13), (14, Value.int .i64 e14)] h8 w0 aa ww := S
          have H := HB k13 e14 h8 HI
          clear HI
          refine W.seq ?_
          refine W.seq ?_
          replace S := S.sub [(0, Value.int .i64 n0), (1, Value.int .i64 width1), (7, Value.pointer x31), (8, Value.slice x32.a x32.n x32.c), (9, Value.slice x33.a x33.n x33.c), (11, Value.int .i64 r11), (12, Value.slice x44.a x44.n x44.c), (13, Value.int .i64 k13), (14, Value.int .i64 e14)] ⟨rfl, rfl, rfl, rfl, rfl, rfl, rfl, rfl, rfl, trivial⟩
          refine W.region ?_
          refine OL.pure S (Lf.run_move (S.ev rfl)) rfl rfl trivial ?_
          clear S; intro aa S
          refine OL.pure S (Lf.run_move (S.ev rfl)) rfl rfl trivial ?_
          clear S; intro aa S
          refine OL.pure S (Lf.run_lss (S.ev rfl) (S.ev rfl)) rfl rfl trivial ?_
          clear S; intro aa S
          refine OL.nil ?_
          refine W.cond S (b := (decide (e14 < width1))) rfl (fun hb_4 => ?_) (fun hb_4 => ?_)
          · replace H := H.1 hb_4
            refine W.skip ?_
            obtain ⟨J_1, H, HK_1⟩ := H
            refine W.seqJ (fun aa ww => ∃ k13_1 h11, St 93 [(0, Value.int .i64 n0), (1, Value.int .i64 width1), (7, Value.pointer x31), (8, Value.slice x32.a x32.n x32.c), (9, Value.slice x33.a x33.n x33.c), (11, Value.int .i64 r11), (12, Value.slice x44.a x44.n x44.c), (13, Value.int .i64 k13_1), (14, Value.int .i64 e14)] h11 w0 aa ww ∧ J_1 k13_1 h11) ?_ ?_
            · clear HK_1
              refine W.block ?_
              refine W.seq ?_
              replace S := S.sub [(0, Value.int .i64 n0), (1, Value.int .i64 width1), (7, Value.pointer x31), (8, Value.slice x32.a x32.n x32.c), (9, Value.slice x33.a x33.n x33.c), (11, Value.int .i64 r11), (12, Value.slice x44.a x44.n x44.c), (13, Value.int .i64 k13), (14, Value.int .i64 e14)] ⟨rfl, rfl, rfl, rfl, rfl, rfl, rfl, rfl, rfl, trivial⟩
              refine W.region ?_
              refine OL.pure S (Lf.run_move (S.ev rfl)) rfl rfl trivial ?_
              clear S; intro aa S
              refine OL.pure S (Lf.run_move (S.ev rfl)) rfl rfl trivial ?_
              clear S; intro aa S
              refine OL.pure S (Lf.run_move (S.ev rfl)) rfl rfl trivial ?_
              clear S; intro aa S
              refine OL.pure S (Lf.run_move (S.ev rfl)) rfl rfl trivial ?_
              clear S; intro aa S
              refine OL.pure S (Lf.run_move (S.ev rfl)) rfl rfl trivial ?_
              clear S; intro aa S
              refine ol_cal S H isfn9 rfl rfl trivial ?_
              clear S H aa; intro u_9 aa ww h9 H S
              obtain ⟨x55, rfl, H⟩ := H
              refine OL.pure S (Lf.run_assign (S.ev rfl)) rfl rfl trivial ?_
              clear S; intro aa S
              refine OL.nil ?_
              refine W.seq ?_
              refine W.seq ?_
              replace S := S.sub [(0, Value.int .i64 n0), (1, Value.int .i64 width1), (7, Value.pointer x31), (8, Value.slice x32.a x32.n x32.c), (9, Value.slice x33.a x33.n x33.c), (11, Value.int .i64 r11), (12, Value.slice x44.a x44.n x44.c), (13, Value.int .i64 k13), (14, Value.int .i64 e14), (15, Value.bool x55)] ⟨rfl, rfl, rfl, rfl, rfl, rfl, rfl, rfl, rfl, rfl, trivial⟩
              refine W.region ?_
              refine OL.pure S (Lf.run_move (S.ev rfl)) rfl rfl trivial ?_
              clear S; intro aa S
              refine OL.pure S (Lf.run_move (S.ev rfl)) rfl rfl trivial ?_
              clear S; intro aa S
              refine OL.pure S (Lf.run_move (S.ev rfl)) rfl rfl trivial ?_
              clear S; intro aa S
              refine ol_cal S H isfn10 rfl rfl trivial ?_
              clear S H aa; intro u_10 aa ww h10 H S
              obtain ⟨x59, rfl, H⟩ := H
              refine OL.pure S (Lf.run_move (S.ev rfl)) rfl rfl trivial ?_
              clear S; intro aa S
              refine OL.pure S (Lf.run_neqb Tryd.underlying4 (S.ev rfl) (S.ev rfl)) rfl rfl trivial ?_
              clear S; intro aa S
              refine OL.pure S (Lf.run_move (S.ev rfl)) rfl rfl trivial ?_
              clear S; intro aa S
              obtain ⟨J_2, H, HK_2⟩ := H
              refine OL.cutN 16 (fun aa ww => ∃ x78, St 93 ((78, Value.bool x78) :: [(0, Value.int .i64 n0), (1, Value.int .i64 width1), (7, Value.pointer x31), (8, Value.slice x32.a x32.n x32.c), (9, Value.slice x33.a x33.n x33.c), (11, Value.int .i64 r11), (12, Value.slice x44.a x44.n x44.c), (13, Value.int .i64 k13), (14, Value.int .i64 e14), (15, Value.bool x55), (56, Value.pointer x31), (57, Value.int .i64 r11), (58, Value.int .i64 e14), (59, Value.bool x59), (60, Value.bool x55), (61, Value.bool (x59 != x55)), (62, Value.bool (x59 != x55))]) h10 w0 aa ww ∧ J_2 x78) ?_ ?_
              · rcases Bool.eq_false_or_eq_true (x59 != x55) with hb_5 | hb_5
                · replace H := H.1 hb_5
                  refine OL.not S rfl rfl (GNo.mk rfl rfl hb_5) ?_
                  clear S; intro aa S
                  refine OL.not S rfl rfl (GNo.mk rfl rfl hb_5) ?_
                  clear S; intro aa S
                  refine OL.not S rfl rfl (GNo.un rfl rfl) ?_
                  clear S; intro aa S
                  refine OL.not S rfl rfl (GNo.un rfl rfl) ?_
                  clear S; intro aa S
                  refine OL.not S rfl rfl (GNo.un rfl rfl) ?_
                  clear S; intro aa S
                  refine OL.not S rfl rfl (GNo.un rfl rfl) ?_
                  clear S; intro aa S
                  refine OL.not S rfl rfl (GNo.un rfl rfl) ?_
                  clear S; intro aa S
                  refine OL.not S rfl rfl (GNo.un rfl rfl) ?_
                  clear S; intro aa S
                  refine OL.not S rfl rfl (GNo.un rfl rfl) ?_
                  clear S; intro aa S
                  refine OL.not S rfl rfl (GNo.un rfl rfl) ?_
                  clear S; intro aa S
                  refine OL.not S rfl rfl (GNo.un rfl rfl) ?_
                  clear S; intro aa S
                  refine OL.not S rfl rfl (GNo.un rfl rfl) ?_
                  clear S; intro aa S
                  refine OL.not S rfl rfl (GNo.un rfl rfl) ?_
                  clear S; intro aa S
                  refine OL.not S rfl rfl (GNo.un rfl rfl) ?_
                  clear S; intro aa S
                  refine OL.not S rfl rfl (GNo.mk rfl rfl hb_5) ?_
                  clear S; intro aa S
                  refine OL.pure S (Lf.run_pickT (S.ev rfl) hb_5 (S.ev rfl)) rfl rfl trivial ?_
                  clear S; intro aa S
                  refine OL.nil ?_
                  exact ⟨_, S.sub _ ⟨rfl, rfl, rfl, rfl, rfl, rfl, rfl, rfl, rfl, rfl, rfl, rfl, rfl, rfl, rfl, rfl, rfl, rfl, trivial⟩, H⟩
                · replace H := H.2 hb_5
                  refine OL.pure S (Lf.run_move (S.ev rfl)) rfl rfl (GOk.mk rfl rfl hb_5) ?_
                  clear S; intro aa S
                  refine OL.pure S (Lf.run_move (S.ev rfl)) rfl rfl (GOk.mk rfl rfl hb_5) ?_
                  clear S; intro aa S
                  obtain ⟨J_3, H, HK_3⟩ := H
                  refine OL.cutN 13 (fun aa ww => ∃ x77, St 93 ((77, Value.bool x77) :: [(0, Value.int .i64 n0), (1, Value.int .i64 width1), (7, Value.pointer x31), (8, Value.slice x32.a x32.n x32.c), (9, Value.slice x33.a x33.n x33.c), (11, Value.int .i64 r11), (12, Value.slice x44.a x44.n x44.c), (13, Value.int .i64 k13), (14, Value.int .i64 e14), (15, Value.bool x55), (56, Value.pointer x31), (57, Value.int .i64 r11), (58, Value.int .i64 e14), (59, Value.bool x59), (60, Value.bool x55), (61, Value.bool (x59 != x55)), (62, Value.bool (x59 != x55)), (63, Value.bool x55), (64, Value.bool x55)]) h10 w0 aa ww ∧ J_3 x77) ?_ ?_
                  · rcases Bool.eq_false_or_eq_true x55 with hb_6 | hb_6
                    · replace H := H.1 hb_6
                      refine OL.pure S (Lf.run_move (S.ev rfl)) rfl rfl (GOk.mk rfl rfl hb_6) ?_
                      clear S; intro aa S
                      refine OL.pure S (Lf.run_move (S.ev rfl)) rfl rfl (GOk.mk rfl rfl hb_6) ?_
                      clear S; intro aa S
                      refine OL.pure S (Lf.run_lens (S.ev rfl) rfl Tryd.underlying29) rfl rfl (GOk.mk rfl rfl hb_6) ?_
                      clear S; intro aa S
                      refine OL.pure S (Lf.run_geq (S.ev rfl) (S.ev rfl)) rfl rfl (GOk.mk rfl rfl hb_6) ?_
                      clear S; intro aa S
                      refine OL.pure S (Lf.run_move (S.ev rfl)) rfl rfl (GOk.mk rfl rfl hb_6) ?_
                      clear S; intro aa S
                      obtain ⟨J_4, H, HK_4⟩ := H
                      refine OL.cutN 7 (fun aa ww => ∃ x76, St 93 ((76, Value.bool x76) :: [(0, Value.int .i64 n0), (1, Value.int .i64 width1), (7, Value.pointer x31), (8, Value.slice x32.a x32.n x32.c), (9, Value.slice x33.a x33.n x33.c), (11, Value.int .i64 r11), (12, Value.slice x44.a x44.n x44.c), (13, Value.int .i64 k13), (14, Value.int .i64 e14), (15, Value.bool x55), (56, Value.pointer x31), (57, Value.int .i64 r11), (58, Value.int .i64 e14), (59, Value.bool x59), (60, Value.bool x55), (61, Value.bool (x59 != x55)), (62, Value.bool (x59 != x55)), (63, Value.bool x55), (64, Value.bool x55), (65, Value.int .i64 k13), (66, Value.slice x44.a x44.n x44.c), (67, Value.int .i64 ((x44.n : Nat) : Int)), (68, Value.bool (decide (((x44.n : Nat) : Int) ≤ k13))), (69, Value.bool (decide (((x44.n : Nat) : Int) ≤ k13)))]) h10 w0 aa ww ∧ J_4 x76) ?_ ?_
                      · rcases Bool.eq_false_or_eq_true (decide (((x44.n : Nat) : Int) ≤ k13)) with hb_7 | hb_7
                        · replace H := H.1 hb_7
                          refine OL.not S rfl rfl (GNo.mk rfl rfl hb_7) ?_
                          clear S; intro aa S
                          refine OL.not S rfl rfl (GNo.mk rfl rfl hb_7) ?_
                          clear S; intro aa S
                          refine OL.not S rfl rfl (GNo.mk rfl rfl hb_7) ?_
                          clear S; intro aa S
                          refine OL.not S rfl rfl (GNo.mk rfl rfl hb_7) ?_
                          clear S; intro aa S
                          refine OL.not S rfl rfl (GNo.mk rfl rfl hb_7) ?_
                          clear S; intro aa S
                          refine OL.not S rfl rfl (GNo.mk rfl rfl hb_7) ?_
                          clear S; intro aa S
                          refine OL.pure S (Lf.run_pickT (S.ev rfl) hb_7 (S.ev rfl)) rfl rfl (GOk.mk rfl rfl hb_6) ?_
                          clear S; intro aa S
                          refine OL.nil ?_
                          exact ⟨_, S.sub _ ⟨rfl, rfl, rfl, rfl, rfl, rfl, rfl, rfl, rfl, rfl, rfl, rfl, rfl, rfl, rfl, rfl, rfl, rfl, rfl, rfl, rfl, rfl, rfl, rfl, rfl, trivial⟩, H⟩
                        · replace H := H.2 hb_7
                          refine OL.pure S (Lf.run_move (S.ev rfl)) rfl rfl (GOk.mk rfl rfl hb_7) ?_
                          clear S; intro aa S
                          refine OL.pure S (Lf.run_move (S.ev rfl)) rfl rfl (GOk.mk rfl rfl hb_7) ?_
                          clear S; intro aa S
                          obtain ⟨q72, e_4, e_5, e_6, H⟩ := H
                          refine OL.pure S (Lf.run_ixs (S.ev rfl) (S.ev rfl) Tryd.underlying29 ti3 e_4 e_5 e_6) rfl rfl (GOk.mk rfl rfl hb_7) ?_
                          clear S; intro aa S
                          obtain ⟨x73, c, H⟩ := H
                          refine OL.pure S (Lf.run_ld (S.ev rfl) fl3 (S.cl c)) rfl rfl (GOk.mk rfl rfl hb_7) ?_
                          clear S; intro aa S
                          refine OL.pure S (Lf.run_move (S.ev rfl)) rfl rfl (GOk.mk rfl rfl hb_7) ?_
                          clear S; intro aa S
                          refine OL.pure S (Lf.run_neq (S.ev rfl) (S.ev rfl)) rfl rfl (GOk.mk rfl rfl hb_7) ?_
                          clear S; intro aa S
                          refine OL.pure S (Lf.run_pickF (S.ev rfl) hb_7 (S.ev rfl)) rfl rfl (GOk.mk rfl rfl hb_6) ?_
                          clear S; intro aa S
                          refine OL.nil ?_
                          exact ⟨_, S.sub _ ⟨rfl, rfl, rfl, rfl, rfl, rfl, rfl, rfl, rfl, rfl, rfl, rfl, rfl, rfl, rfl, rfl, rfl, rfl, rfl, rfl, rfl, rfl, rfl, rfl, rfl, trivial⟩, H⟩
                      · clear S aa
                        rintro aa ww ⟨x76, S, HJ⟩
                        replace H := HK_4 _ HJ
                        clear HK_4 HJ
                        refine OL.pure S (Lf.run_pickT (S.ev rfl) hb_6 (S.ev rfl)) rfl rfl (GOk.mk rfl rfl hb_5) ?_
                        clear S; intro aa S
                        refine OL.nil ?_
                        exact ⟨_, S.sub _ ⟨rfl, rfl, rfl, rfl, rfl, rfl, rfl, rfl, rfl, rfl, rfl, rfl, rfl, rfl, rfl, rfl, rfl, rfl, rfl, rfl, trivial⟩, H⟩
                    · replace H := H.2 hb_6
                      refine OL.not S rfl rfl (GNo.mk rfl rfl hb_6) ?_
                      clear S; intro aa S
                      refine OL.not S rfl rfl (GNo.mk rfl rfl hb_6) ?_
                      clear S; intro aa S
                      refine OL.not S rfl rfl (GNo.mk rfl rfl hb_6) ?_
                      clear S; intro aa S
                      refine OL.not S rfl rfl (GNo.mk rfl rfl hb_6) ?_
                      clear S; intro aa S
                      refine OL.not S rfl rfl (GNo.mk rfl rfl hb_6) ?_
                      clear S; intro aa S
                      refine OL.not S rfl rfl (GNo.un rfl rfl) ?_
                      clear S; intro aa S
                      refine OL.not S rfl rfl (GNo.un rfl rfl) ?_
                      clear S; intro aa S
                      refine OL.not S rfl rfl (GNo.un rfl rfl) ?_
                      clear S; intro aa S
                      refine OL.not S rfl rfl (GNo.un rfl rfl) ?_
                      clear S; intro aa S
                      refine OL.not S rfl rfl (GNo.un rfl rfl) ?_
                      clear S; intro aa S
                      refine OL.not S rfl rfl (GNo.un rfl rfl) ?_
                      clear S; intro aa S
                      refine OL.not S rfl rfl (GNo.mk rfl rfl hb_6) ?_
                      clear S; intro aa S
                      refine OL.pure S (Lf.run_pickF (S.ev rfl) hb_6 (S.ev rfl)) rfl rfl (GOk.mk rfl rfl hb_5) ?_
                      clear S; intro aa S
                      refine OL.nil ?_
                      exact ⟨_, S.sub _ ⟨rfl, rfl, rfl, rfl, rfl, rfl, rfl, rfl, rfl, rfl, rfl, rfl, rfl, rfl, rfl, rfl, rfl, rfl, rfl, rfl, trivial⟩, H⟩
                  · clear S aa
                    rintro aa ww ⟨x77, S, HJ⟩
                    replace H := HK_3 _ HJ
                    clear HK_3 HJ
                    refine OL.pure S (Lf.run_pickF (S.ev rfl) hb_5 (S.ev rfl)) rfl rfl trivial ?_
                    clear S; intro aa S
                    refine OL.nil ?_
                    exact ⟨_, S.sub _ ⟨rfl, rfl, rfl, rfl, rfl, rfl, rfl, rfl, rfl, rfl, rfl, rfl, rfl, rfl, rfl, rfl, rfl, rfl, trivial⟩, H⟩
              · clear S aa
                rintro aa ww ⟨x78, S, HJ⟩
                replace H := HK_2 _ HJ
                clear HK_2 HJ
                refine OL.nil ?_
                refine W.cond S (b := x78) rfl (fun hb_8 => ?_) (fun hb_8 => ?_)
                · replace H := H.1 hb_8
                  refine W.seq ?_
                  replace S := S.sub [] trivial
                  refine W.region ?_
                  refine OL.pure S (Lf.run_assign (S.ev rfl)) rfl rfl trivial ?_
                  clear S; intro aa S
                  refine OL.nil ?_
                  refine W.ret ?_
                  exact Ret.one S rfl rfl H
                · replace H := H.2 hb_8
                  refine W.skip ?_
                  refine W.seq ?_
                  replace S := S.sub [(0, Value.int .i64 n0), (1, Value.int .i64 width1), (7, Value.pointer x31), (8, Value.slice x32.a x32.n x32.c), (9, Value.slice x33.a x33.n x33.c), (11, Value.int .i64 r11), (12, Value.slice x44.a x44.n x44.c), (13, Value.int .i64 k13), (14, Value.int .i64 e14), (15, Value.bool x55)] ⟨rfl, rfl, rfl, rfl, rfl, rfl, rfl, rfl, rfl, rfl, trivial⟩
                  refine W.region ?_
                  refine OL.pure S (Lf.run_move (S.ev rfl)) rfl rfl trivial ?_
                  clear S; intro aa S
                  refine OL.nil ?_
                  refine W.cond S (b := x55) rfl (fun hb_9 => ?_) (fun hb_9 => ?_)
                  · replace H := H.1 hb_9
                    replace S := S.sub [(0, Value.int .i64 n0), (1, Value.int .i64 width1), (7, Value.pointer x31), (8, Value.slice x32.a x32.n x32.c), (9, Value.slice x33.a x33.n x33.c), (11, Value.int .i64 r11), (12, Value.slice x44.a x44.n x44.c), (13, Value.int .i64 k13), (14, Value.int .i64 e14)] ⟨rfl, rfl, rfl, rfl, rfl, rfl, rfl, rfl, rfl, trivial⟩
                    refine W.region ?_
                    refine OL.pure S (Lf.run_move (S.ev rfl)) rfl rfl trivial ?_
                    clear S; intro aa S
                    refine OL.pure S (Lf.run_add (S.ev rfl) (S.ev rfl)) rfl rfl trivial ?_
                    clear S; intro aa S
                    refine OL.pure S (Lf.run_assign (S.ev rfl)) rfl rfl trivial ?_
                    clear S; intro aa S
                    refine OL.nil ?_
                    exact ⟨(IntKind.i64.wrap (k13 + 1)), h10, S.sub _ ⟨rfl, rfl, rfl, rfl, rfl, rfl, rfl, rfl, rfl, trivial⟩, H⟩
                  · replace H := H.2 hb_9
                    refine W.skip ?_
                    exact ⟨k13, h10, S.sub _ ⟨rfl, rfl, rfl, rfl, rfl, rfl, rfl, rfl, rfl, trivial⟩, H⟩
            · clear H S aa
              rintro aa ww ⟨k13_1, h11, S, HJ⟩
              have H := HK_1 _ _ HJ
              clear HK_1 HJ
              replace S := S.sub [(0, Value.int .i64 n0), (1, Value.int .i64 width1), (7, Value.pointer x31), (8, Value.slice x32.a x32.n x32.c), (9, Value.slice x33.a x33.n x33.c), (11, Value.int .i64 r11), (12, Value.slice x44.a x44.n x44.c), (13, Value.int .i64 k13_1), (14, Value.int .i64 e14)] ⟨rfl, rfl, rfl, rfl, rfl, rfl, rfl, rfl, rfl, trivial⟩
              refine W.region ?_
              refine OL.pure S (Lf.run_move (S.ev rfl)) rfl rfl trivial ?_
              clear S; intro aa S
              refine OL.pure S (Lf.run_add (S.ev rfl) (S.ev rfl)) rfl rfl trivial ?_
              clear S; intro aa S
              refine OL.pure S (Lf.run_assign (S.ev rfl)) rfl rfl trivial ?_
              clear S; intro aa S
              refine OL.nil ?_
              exact ⟨(k13_1, (IntKind.i64.wrap (e14 + 1)), h11), ⟨S.sub _ ⟨rfl, rfl, rfl, rfl, rfl, rfl, rfl, rfl, rfl, trivial⟩, H.1⟩, H.2⟩
          · replace H := H.2 hb_4
            refine W.exit_ ?_
            refine xhit ?_
            refine W.seq ?_
            replace S := S.sub [(0, Value.int .i64 n0), (1, Value.int .i64 width1), (7, Value.pointer x31), (8, Value.slice x32.a x32.n x32.c), (9, Value.slice x33.a x33.n x33.c), (11, Value.int .i64 r11), (12, Value.slice x44.a x44.n x44.c), (13, Value.int .i64 k13)] ⟨rfl, rfl, rfl, rfl, rfl, rfl, rfl, rfl, trivial⟩
            refine W.region ?_
            refine OL.pure S (Lf.run_move (S.ev rfl)) rfl rfl trivial ?_
            clear S; intro aa S
            refine OL.pure S (Lf.run_move (S.ev rfl)) rfl rfl trivial ?_
            clear S; intro aa S
            refine OL.pure S (Lf.run_lens (S.ev rfl) rfl Tryd.underlying29) rfl rfl trivial ?_
            clear S; intro aa S
            refine OL.pure S (Lf.run_neq (S.ev rfl) (S.ev rfl)) rfl rfl trivial ?_
            clear S; intro aa S
            refine OL.pure S (Lf.run_move (S.ev rfl)) rfl rfl trivial ?_
            clear S; intro aa S
            obtain ⟨J_5, H, HK_5⟩ := H
            refine OL.cutN 6 (fun aa ww => ∃ x92 h12, St 93 ((92, Value.bool x92) :: [(0, Value.int .i64 n0), (1, Value.int .i64 width1), (7, Value.pointer x31), (8, Value.slice x32.a x32.n x32.c), (9, Value.slice x33.a x33.n x33.c), (11, Value.int .i64 r11), (12, Value.slice x44.a x44.n x44.c), (13, Value.int .i64 k13), (82, Value.int .i64 k13), (83, Value.slice x44.a x44.n x44.c), (84, Value.int .i64 ((x44.n : Nat) : Int)), (85, Value.bool (k13 != ((x44.n : Nat) : Int))), (86, Value.bool (k13 != ((x44.n : Nat) : Int)))]) h12 w0 aa ww ∧ J_5 x92 h12) ?_ ?_
            · rcases Bool.eq_false_or_eq_true (k13 != ((x44.n : Nat) : Int)) with hb_10 | hb_10
              · replace H := H.1 hb_10
                refine OL.not S rfl rfl (GNo.mk rfl rfl hb_10) ?_
                clear S; intro aa S
                refine OL.not S rfl rfl (GNo.mk rfl rfl hb_10) ?_
                clear S; intro aa S
                refine OL.not S rfl rfl (GNo.mk rfl rfl hb_10) ?_
                clear S; intro aa S
                refine OL.not S rfl rfl (GNo.mk rfl rfl hb_10) ?_
                clear S; intro aa S
                refine OL.not S rfl rfl (GNo.mk rfl rfl hb_10) ?_
                clear S; intro aa S
                refine OL.pure S (Lf.run_pickT (S.ev rfl) hb_10 (S.ev rfl)) rfl rfl trivial ?_
                clear S; intro aa S
                refine OL.nil ?_
                exact ⟨_, _, S.sub _ ⟨rfl, rfl, rfl, rfl, rfl, rfl, rfl, rfl, rfl, rfl, rfl, rfl, rfl, rfl, trivial⟩, H⟩
              · replace H := H.2 hb_10
                refine OL.pure S (Lf.run_move (S.ev rfl)) rfl rfl (GOk.mk rfl rfl hb_10) ?_
                clear S; intro aa S
                refine OL.pure S (Lf.run_move (S.ev rfl)) rfl rfl (GOk.mk rfl rfl hb_10) ?_
                clear S; intro aa S
                refine ol_cal S H isfn11 rfl rfl (GOk.mk rfl rfl hb_10) ?_
                clear S H aa; intro u_11 aa ww h13 H S
                obtain ⟨x89, rfl, H⟩ := H
                refine OL.pure S (Lf.run_move (S.ev rfl)) rfl rfl (GOk.mk rfl rfl hb_10) ?_
                clear S; intro aa S
                refine OL.pure S (Lf.run_neq (S.ev rfl) (S.ev rfl)) rfl rfl (GOk.mk rfl rfl hb_10) ?_
                clear S; intro aa S
                refine OL.pure S (Lf.run_pickF (S.ev rfl) hb_10 (S.ev rfl)) rfl rfl trivial ?_
                clear S; intro aa S
                refine OL.nil ?_
                exact ⟨_, _, S.sub _ ⟨rfl, rfl, rfl, rfl, rfl, rfl, rfl, rfl, rfl, rfl, rfl, rfl, rfl, rfl, trivial⟩, H⟩
            · clear S aa
              rintro aa ww ⟨x92, h12, S, HJ⟩
              replace H := HK_5 _ _ HJ
              clear HK_5 HJ
              refine OL.nil ?_
              refine W.cond S (b := x92) rfl (fun hb_11 => ?_) (fun hb_11 => ?_)
              · replace H := H.1 hb_11
                refine W.seq ?_
                replace S := S.sub [] trivial
                refine W.region ?_
                refine OL.pure S (Lf.run_assign (S.ev rfl)) rfl rfl trivial ?_
                clear S; intro aa S
                refine OL.nil ?_
                refine W.ret ?_
                exact Ret.one S rfl rfl H
              · replace H := H.2 hb_11
                refine W.skip ?_
                replace S := S.sub [(0, Value.int .i64 n0), (1, Value.int .i64 width1), (7, Value.pointer x31), (8, Value.slice x32.a x32.n x32.c), (9, Value.slice x33.a x33.n x33.c), (11, Value.int .i64 r11)] ⟨rfl, rfl, rfl, rfl, rfl, rfl, trivial⟩
                refine W.region ?_
                refine OL.pure S (Lf.run_move (S.ev rfl)) rfl rfl trivial ?_
                clear S; intro aa S
                refine OL.pure S (Lf.run_add (S.ev rfl) (S.ev rfl)) rfl rfl trivial ?_
                clear S; intro aa S
                refine OL.pure S (Lf.run_assign (S.ev rfl)) rfl rfl trivial ?_
                clear S; intro aa S
                refine OL.nil ?_
                exact ⟨((IntKind.i64.wrap (r11 + 1)), h12), ⟨S.sub _ ⟨rfl, rfl, rfl, rfl, rfl, rfl, trivial⟩, H.1⟩, H.2⟩
        · replace H := H.2 hb_3
          refine W.exit_ ?_
          refine xhit ?_
          refine W.seq ?_
          replace S := S.sub [] trivial
          refine W.region ?_
          refine OL.pure S (Lf.run_assign (S.ev rfl)) rfl rfl trivial ?_
          clear S; intro aa S
          refine OL.nil ?_
          refine W.ret ?_
          exact Ret.one S rfl rfl H

/-- chattel chattellaw12.SolveNils -/
def L4 (given0 : Int) (given0_1 : Int) (given0_2 : Int) (given0_3 : Int) (h : Heap) (R : Value → Heap → Prop) : Prop :=
  new 35 #[Value.int .i64 given0, Value.int .i64 given0_1, Value.int .i64 given0_2, Value.int .i64 given0_3] h fun p1 h1 =>
  ldI .i64 h1 p1 fun x11 =>
  ldI .i64 h1 (p1.add 1) fun x13 =>
  ldI .i64 h1 (p1.add 2) fun x15 =>
  ldI .i64 h1 (p1.add 3) fun x17 =>
  ∃ J : Heap → Prop, (
    ifb ((((decide (1501 < x11)) || (decide (2700 < x13))) || (decide (x11 < 0))) || (decide (x13 < 0))) (
      cal Tryd.prog 12 #[Value.int .i64 x11, Value.int .i64 x13] h1 fun u h2 => asTup u fun r35 =>
      elt r35 0 fun u_1 => asP u_1 fun x36 =>
      elt r35 1 fun u_2 => asI .i64 u_2 fun x37 =>
      ifb ((x37 != 14) || (Option.isSome x36)) (
        R (Value.bool false) h2) (
        J h2)) (
      J h1)) ∧ (∀ h3, J h3 →
  cal Tryd.prog 5 #[] h3 fun u_3 h4 => asB u_3 fun x44 =>
  ∃ J_1 : Bool → Heap → Prop, (andj x44 (fun k =>
    cal Tryd.prog 13 #[Value.pointer none, Value.int .i64 x15, Value.int .i64 x17] h4 fun u_4 h6 => asI .i64 u_4 fun x49 =>
    k (x49 == 14) h6) h4 J_1) ∧ ∀ x51 h5, J_1 x51 h5 →
  ∃ J_2 : Bool → Heap → Prop, (andj x51 (fun k_1 =>
    cal Tryd.prog 14 #[Value.pointer none, Value.int .i64 x15, Value.int .i64 x17] h5 fun u_5 h8 => asI .i64 u_5 fun x56 =>
    k_1 (x56 == 14) h8) h5 J_2) ∧ ∀ x58 h7, J_2 x58 h7 →
  ∃ J_3 : Bool → Heap → Prop, (andj x58 (fun k_2 =>
    cal Tryd.prog 10 #[Value.pointer none, Value.int .i64 x15, Value.int .i64 x17] h7 fun u_6 h10 => asB u_6 fun x63 =>
    k_2 (!x63) h10) h7 J_3) ∧ ∀ x65 h9, J_3 x65 h9 →
  ∃ J_4 : Bool → Heap → Prop, (andj x65 (fun k_3 =>
    cal Tryd.prog 8 #[Value.pointer none, Value.int .i64 x15] h9 fun u_7 h12 => asS u_7 fun x69 =>
    k_3 (((x69.n : Nat) : Int) == 0) h12) h9 J_4) ∧ ∀ x72 h11, J_4 x72 h11 →
  ∃ J_5 : Bool → Heap → Prop, (andj x72 (fun k_4 =>
    cal Tryd.prog 11 #[Value.pointer none, Value.int .i64 x15] h11 fun u_8 h14 => asI .i64 u_8 fun x76 =>
    k_4 (x76 == 0) h14) h11 J_5) ∧ ∀ x78 h13, J_5 x78 h13 →
  R (Value.bool x78) h13)

set_option maxRecDepth 100000 in

theorem F4 {given0 given0_1 given0_2 given0_3 h : _} {R : Value → Heap → Prop} (H : L4 given0 given0_1 given0_2 given0_3 h R) : CallsH Tryd.prog 4 #[Value.agg #[Value.int .i64 given0, Value.int .i64 given0_1, Value.int .i64 given0_2, Value.int .i64 given0_3]] h R := by
  refine CallsH.enter (n := 79) Tryd.func4 rfl rfl rfl rfl ?_
  intro w0 aa ww S
  unfold L4 at H
  refine W.seq ?_
  replace S := S.sub [(0, Value.agg #[Value.int .i64 given0, Value.int .i64 given0_1, Value.int .i64 given0_2, Value.int .i64 given0_3])] ⟨rfl, trivial⟩
  refine W.region ?_
  refine ol_box S H rfl rfl rfl trivial ?_
  clear S H aa; intro p1 aa ww h1 H S
  refine OL.pure S (Lf.run_assign (S.ev rfl)) rfl rfl trivial ?_
  clear S; intro aa S
  refine OL.nil ?_
  refine W.seq ?_
  replace S := S.sub [(1, Value.pointer (some p1))] ⟨rfl, trivial⟩
  refine W.regionD S (by kernel_rfl) ?_
  clear S; intro ww S
  refine AN.pure 0 S rfl (by kernel_rfl) (fun _ => Lf.run_fa (S.ev rfl) fa35_0) rfl rfl trivial ?_
  clear S; intro aa S
  obtain ⟨x11, c, H⟩ := H
  refine AN.load 1 S rfl (by kernel_rfl) (fun _ hx => Lf.run_ld (S.ev rfl) fl3 (hx.cell _ _ (S.cl c))) rfl rfl trivial ?_
  clear S; intro aa S
  refine AN.pure 2 S rfl (by kernel_rfl) (fun _ => Lf.run_fa (S.ev rfl) fa35_1) rfl rfl trivial ?_
  clear S; intro aa S
  obtain ⟨x13, c_1, H⟩ := H
  refine AN.load 3 S rfl (by kernel_rfl) (fun _ hx => Lf.run_ld (S.ev rfl) fl3 (hx.cell _ _ (S.cl c_1))) rfl rfl trivial ?_
  clear S; intro aa S
  refine AN.pure 4 S rfl (by kernel_rfl) (fun _ => Lf.run_fa (S.ev rfl) fa35_2) rfl rfl trivial ?_
  clear S; intro aa S
  obtain ⟨x15, c_2, H⟩ := H
  refine AN.load 5 S rfl (by kernel_rfl) (fun _ hx => Lf.run_ld (S.ev rfl) fl3 (hx.cell _ _ (S.cl c_2))) rfl rfl trivial ?_
  clear S; intro aa S
  refine AN.pure 6 S rfl (by kernel_rfl) (fun _ => Lf.run_fa (S.ev rfl) fa35_3) rfl rfl trivial ?_
  clear S; intro aa S
  obtain ⟨x17, c_3, H⟩ := H
  refine AN.load 7 S rfl (by kernel_rfl) (fun _ hx => Lf.run_ld (S.ev rfl) fl3 (hx.cell _ _ (S.cl c_3))) rfl rfl trivial ?_
  clear S; intro aa S
  refine AN.pure 8 S rfl (by kernel_rfl) (fun _ => Lf.run_assign (S.ev rfl)) rfl rfl trivial ?_
  clear S; intro aa S
  refine AN.pure 9 S rfl (by kernel_rfl) (fun _ => Lf.run_assign (S.ev rfl)) rfl rfl trivial ?_
  clear S; intro aa S
  refine AN.pure 10 S rfl (by kernel_rfl) (fun _ => Lf.run_assign (S.ev rfl)) rfl rfl trivial ?_
  clear S; intro aa S
  refine AN.pure 11 S rfl (by kernel_rfl) (fun _ => Lf.run_assign (S.ev rfl)) rfl rfl trivial ?_
  clear S; intro aa S
  refine AN.done (by kernel_rfl) ?_
  obtain ⟨J, H, HK⟩ := H
  refine W.seqJ (fun aa ww => ∃ h3, St 79 [(5, Value.int .i64 x15), (6, Value.int .i64 x17)] h3 w0 aa ww ∧ J h3) ?_ ?_
  · clear HK
    refine W.seq ?_
    replace S := S.sub [(3, Value.int .i64 x11), (4, Value.int .i64 x13), (5, Value.int .i64 x15), (6, Value.int .i64 x17)] ⟨rfl, rfl, rfl, rfl, trivial⟩
    refine W.region ?_
    refine OL.pure S (Lf.run_move (S.ev rfl)) rfl rfl trivial ?_
    clear S; intro aa S
    refine OL.pure S (Lf.run_gtr (S.ev rfl) (S.ev rfl)) rfl rfl trivial ?_
    clear S; intro aa S
    refine OL.pure S (Lf.run_move (S.ev rfl)) rfl rfl trivial ?_
    clear S; intro aa S
    refine OL.cutN 3 (fun aa ww => St 79 ((23, Value.bool ((decide (1501 < x11)) || (decide (2700 < x13)))) :: [(3, Value.int .i64 x11), (4, Value.int .i64 x13), (5, Value.int .i64 x15), (6, Value.int .i64 x17), (18, Value.int .i64 x11), (19, Value.bool (decide (1501 < x11))), (20, Value.bool (decide (1501 < x11)))]) h1 w0 aa ww) ?_ ?_
    · rcases Bool.eq_false_or_eq_true (decide (1501 < x11)) with hb | hb
      · refine OL.not S rfl rfl (GNo.mk rfl rfl hb) ?_
        clear S; intro aa S
        refine OL.not S rfl rfl (GNo.mk rfl rfl hb) ?_
        clear S; intro aa S
        refine OL.pure S (Lf.run_pickT (S.ev rfl) hb (S.ev rfl)) rfl rfl trivial ?_
        clear S; intro aa S
        refine OL.nil ?_
        exact (S.hd (by rw [hb, Bool.true_or])).sub _ ⟨rfl, rfl, rfl, rfl, rfl, rfl, rfl, rfl, trivial⟩
      · refine OL.pure S (Lf.run_move (S.ev rfl)) rfl rfl (GOk.mk rfl rfl hb) ?_
        clear S; intro aa S
        refine OL.pure S (Lf.run_gtr (S.ev rfl) (S.ev rfl)) rfl rfl (GOk.mk rfl rfl hb) ?_
        clear S; intro aa S
        refine OL.pure S (Lf.run_pickF (S.ev rfl) hb (S.ev rfl)) rfl rfl trivial ?_
        clear S; intro aa S
        refine OL.nil ?_
        exact (S.hd (by rw [hb, Bool.false_or])).sub _ ⟨rfl, rfl, rfl, rfl, rfl, rfl, rfl, rfl, trivial⟩
    · clear S aa
      intro aa ww S
      refine OL.pure S (Lf.run_move (S.ev rfl)) rfl rfl trivial ?_
      clear S; intro aa S
      refine OL.cutN 3 (fun aa ww => St 79 ((27, Value.bool (((decide (1501 < x11)) || (decide (2700 < x13))) || (decide (x11 < 0)))) :: [(3, Value.int .i64 x11), (4, Value.int .i64 x13), (5, Value.int .i64 x15), (6, Value.int .i64 x17), (18, Value.int .i64 x11), (19, Value.bool (decide (1501 < x11))), (20, Value.bool (decide (1501 < x11))), (23, Value.bool ((decide (1501 < x11)) || (decide (2700 < x13)))), (24, Value.bool ((decide (1501 < x11)) || (decide (2700 < x13))))]) h1 w0 aa ww) ?_ ?_
      · rcases Bool.eq_false_or_eq_true ((decide (1501 < x11)) || (decide (2700 < x13))) with hb_1 | hb_1
        · refine OL.not S rfl rfl (GNo.mk rfl rfl hb_1) ?_
          clear S; intro aa S
          refine OL.not S rfl rfl (GNo.mk rfl rfl hb_1) ?_
          clear S; intro aa S
          refine OL.pure S (Lf.run_pickT (S.ev rfl) hb_1 (S.ev rfl)) rfl rfl trivial ?_
          clear S; intro aa S
          refine OL.nil ?_
          exact (S.hd (by rw [hb_1, Bool.true_or])).sub _ ⟨rfl, rfl, rfl, rfl, rfl, rfl, rfl, rfl, rfl, rfl, trivial⟩
        · refine OL.pure S (Lf.run_move (S.ev rfl)) rfl rfl (GOk.mk rfl rfl hb_1) ?_
          clear S; intro aa S
          refine OL.pure S (Lf.run_lss (S.ev rfl) (S.ev rfl)) rfl rfl (GOk.mk rfl rfl hb_1) ?_
          clear S; intro aa S
          refine OL.pure S (Lf.run_pickF (S.ev rfl) hb_1 (S.ev rfl)) rfl rfl trivial ?_
          clear S; intro aa S
          refine OL.nil ?_
          exact (S.hd (by rw [hb_1, Bool.false_or])).sub _ ⟨rfl, rfl, rfl, rfl, rfl, rfl, rfl, rfl, rfl, rfl, trivial⟩
      · clear S aa
        intro aa ww S
        refine OL.pure S (Lf.run_move (S.ev rfl)) rfl rfl trivial ?_
        clear S; intro aa S
        refine OL.cutN 3 (fun aa ww => St 79 ((31, Value.bool ((((decide (1501 < x11)) || (decide (2700 < x13))) || (decide (x11 < 0))) || (decide (x13 < 0)))) :: [(3, Value.int .i64 x11), (4, Value.int .i64 x13), (5, Value.int .i64 x15), (6, Value.int .i64 x17), (18, Value.int .i64 x11), (19, Value.bool (decide (1501 < x11))), (20, Value.bool (decide (1501 < x11))), (23, Value.bool ((decide (1501 < x11)) || (decide (2700 < x13)))), (24, Value.bool ((decide (1501 < x11)) || (decide (2700 < x13)))), (27, Value.bool (((decide (1501 < x11)) || (decide (2700 < x13))) || (decide (x11 < 0)))), (28, Value.bool (((decide (1501 < x11)) || (decide (2700 < x13))) || (decide (x11 < 0))))]) h1 w0 aa ww) ?_ ?_
        · rcases Bool.eq_false_or_eq_true (((decide (1501 < x11)) || (decide (2700 < x13))) || (decide (x11 < 0))) with hb_2 | hb_2
          · refine OL.not S rfl rfl (GNo.mk rfl rfl hb_2) ?_
            clear S; intro aa S
            refine OL.not S rfl rfl (GNo.mk rfl rfl hb_2) ?_
            clear S; intro aa S
            refine OL.pure S (Lf.run_pickT (S.ev rfl) hb_2 (S.ev rfl)) rfl rfl trivial ?_
            clear S; intro aa S
            refine OL.nil ?_
            exact (S.hd (by rw [hb_2, Bool.true_or])).sub _ ⟨rfl, rfl, rfl, rfl, rfl, rfl, rfl, rfl, rfl, rfl, rfl, rfl, trivial⟩
          · refine OL.pure S (Lf.run_move (S.ev rfl)) rfl rfl (GOk.mk rfl rfl hb_2) ?_
            clear S; intro aa S
            refine OL.pure S (Lf.run_lss (S.ev rfl) (S.ev rfl)) rfl rfl (GOk.mk rfl rfl hb_2) ?_
            clear S; intro aa S
            refine OL.pure S (Lf.run_pickF (S.ev rfl) hb_2 (S.ev rfl)) rfl rfl trivial ?_
            clear S; intro aa S
            refine OL.nil ?_
            exact (S.hd (by rw [hb_2, Bool.false_or])).sub _ ⟨rfl, rfl, rfl, rfl, rfl, rfl, rfl, rfl, rfl, rfl, rfl, rfl, trivial⟩
        · clear S aa
          intro aa ww S
          refine OL.nil ?_
          refine W.cond S (b := ((((decide (1501 < x11)) || (decide (2700 < x13))) || (decide (x11 < 0))) || (decide (x13 < 0)))) rfl (fun hb_3 => ?_) (fun hb_3 => ?_)
          · replace H := H.1 hb_3
            refine W.seq ?_
            replace S := S.sub [(3, Value.int .i64 x11), (4, Value.int .i64 x13), (5, Value.int .i64 x15), (6, Value.int .i64 x17)] ⟨rfl, rfl, rfl, rfl, trivial⟩
            refine W.region ?_
            refine OL.pure S (Lf.run_move (S.ev rfl)) rfl rfl trivial ?_
            clear S; intro aa S
            refine OL.pure S (Lf.run_move (S.ev rfl)) rfl rfl trivial ?_
            clear S; intro aa S
            refine ol_cal S H isfn12 rfl rfl trivial ?_
            clear S H aa; intro u aa ww h2 H S
            obtain ⟨r35, rfl, H⟩ := H
            refine OL.pure S (Lf.run_move (S.ev rfl)) rfl rfl trivial ?_
            clear S; intro aa S
            obtain ⟨u_1, e, x36, rfl, H⟩ := H
            refine OL.pure S (Lf.run_ex (S.ev rfl) e) rfl rfl trivial ?_
            clear S; intro aa S
            obtain ⟨u_2, e_1, x37, rfl, H⟩ := H
            refine OL.pure S (Lf.run_ex (S.ev rfl) e_1) rfl rfl trivial ?_
            clear S; intro aa S
            refine OL.pure S (Lf.run_assign (S.ev rfl)) rfl rfl trivial ?_
            clear S; intro aa S
            refine OL.pure S (Lf.run_assign (S.ev rfl)) rfl rfl trivial ?_
            clear S; intro aa S
            refine OL.nil ?_
            refine W.seq ?_
            replace S := S.sub [(5, Value.int .i64 x15), (6, Value.int .i64 x17), (7, Value.pointer x36), (8, Value.int .i64 x37)] ⟨rfl, rfl, rfl, rfl, trivial⟩
            refine W.region ?_
            refine OL.pure S (Lf.run_move (S.ev rfl)) rfl rfl trivial ?_
            clear S; intro aa S
            refine OL.pure S (Lf.run_neq (S.ev rfl) (S.ev rfl)) rfl rfl trivial ?_
            clear S; intro aa S
            refine OL.pure S (Lf.run_move (S.ev rfl)) rfl rfl trivial ?_
            clear S; intro aa S
            refine OL.cutN 3 (fun aa ww => St 79 ((43, Value.bool ((x37 != 14) || (Option.isSome x36))) :: [(5, Value.int .i64 x15), (6, Value.int .i64 x17), (7, Value.pointer x36), (8, Value.int .i64 x37), (38, Value.int .i64 x37), (39, Value.bool (x37 != 14)), (40, Value.bool (x37 != 14))]) h2 w0 aa ww) ?_ ?_
            · rcases Bool.eq_false_or_eq_true (x37 != 14) with hb_4 | hb_4
              · refine OL.not S rfl rfl (GNo.mk rfl rfl hb_4) ?_
                clear S; intro aa S
                refine OL.not S rfl rfl (GNo.mk rfl rfl hb_4) ?_
                clear S; intro aa S
                refine OL.pure S (Lf.run_pickT (S.ev rfl) hb_4 (S.ev rfl)) rfl rfl trivial ?_
                clear S; intro aa S
                refine OL.nil ?_
                exact (S.hd (by rw [hb_4, Bool.true_or])).sub _ ⟨rfl, rfl, rfl, rfl, rfl, rfl, rfl, rfl, trivial⟩
              · refine OL.pure S (Lf.run_move (S.ev rfl)) rfl rfl (GOk.mk rfl rfl hb_4) ?_
                clear S; intro aa S
                refine OL.pure S (Lf.run_neqpn Tryd.underlying25 (S.ev rfl) (S.ev rfl)) rfl rfl (GOk.mk rfl rfl hb_4) ?_
                clear S; intro aa S
                refine OL.pure S (Lf.run_pickF (S.ev rfl) hb_4 (S.ev rfl)) rfl rfl trivial ?_
                clear S; intro aa S
                refine OL.nil ?_
                exact (S.hd (by rw [hb_4, Bool.false_or])).sub _ ⟨rfl, rfl, rfl, rfl, rfl, rfl, rfl, rfl, trivial⟩
            · clear S aa
              intro aa ww S
              refine OL.nil ?_
              refine W.cond S (b := ((x37 != 14) || (Option.isSome x36))) rfl (fun hb_5 => ?_) (fun hb_5 => ?_)
              · replace H := H.1 hb_5
                refine W.seq ?_
                replace S := S.sub [] trivial
                refine W.region ?_
                refine OL.pure S (Lf.run_assign (S.ev rfl)) rfl rfl trivial ?_
                clear S; intro aa S
                refine OL.nil ?_
                refine W.ret ?_
                exact Ret.one S rfl rfl H
              · replace H := H.2 hb_5
                refine W.skip ?_
                exact ⟨h2, S.sub _ ⟨rfl, rfl, trivial⟩, H⟩
          · replace H := H.2 hb_3
            refine W.skip ?_
            exact ⟨h1, S.sub _ ⟨rfl, rfl, trivial⟩, H⟩
  · clear H S aa
    rintro aa ww ⟨h3, S, HJ⟩
    have H := HK _ HJ
    clear HK HJ
    refine W.seq ?_
    replace S := S.sub [(5, Value.int .i64 x15), (6, Value.int .i64 x17)] ⟨rfl, rfl, trivial⟩
    refine W.region ?_
    refine OL.pure S (Lf.run_assign (S.ev rfl)) rfl rfl trivial ?_
    clear S; intro aa S
    refine OL.nil ?_
    refine W.seq ?_
    replace S := S.sub [(5, Value.int .i64 x15), (6, Value.int .i64 x17), (9, Value.pointer none)] ⟨rfl, rfl, rfl, trivial⟩
    refine W.region ?_
    refine ol_cal S H isfn5 rfl rfl trivial ?_
    clear S H aa; intro u_3 aa ww h4 H S
    obtain ⟨x44, rfl, H⟩ := H
    refine OL.pure S (Lf.run_move (S.ev rfl)) rfl rfl trivial ?_
    clear S; intro aa S
    obtain ⟨J_1, H, HK_1⟩ := H
    refine OL.cutN 6 (fun aa ww => ∃ x51 h5, St 79 ((51, Value.bool x51) :: [(5, Value.int .i64 x15), (6, Value.int .i64 x17), (9, Value.pointer none), (44, Value.bool x44), (45, Value.bool x44)]) h5 w0 aa ww ∧ J_1 x51 h5) ?_ ?_
    · rcases Bool.eq_false_or_eq_true x44 with hb_6 | hb_6
      · replace H := H.1 hb_6
        refine OL.pure S (Lf.run_move (S.ev rfl)) rfl rfl (GOk.mk rfl rfl hb_6) ?_
        clear S; intro aa S
        refine OL.pure S (Lf.run_move (S.ev rfl)) rfl rfl (GOk.mk rfl rfl hb_6) ?_
        clear S; intro aa S
        refine OL.pure S (Lf.run_move (S.ev rfl)) rfl rfl (GOk.mk rfl rfl hb_6) ?_
        clear S; intro aa S
        refine ol_cal S H isfn13 rfl rfl (GOk.mk rfl rfl hb_6) ?_
        clear S H aa; intro u_4 aa ww h6 H S
        obtain ⟨x49, rfl, H⟩ := H
        refine OL.pure S (Lf.run_eql (S.ev rfl) (S.ev rfl)) rfl rfl (GOk.mk rfl rfl hb_6) ?_
        clear S; intro aa S
        refine OL.pure S (Lf.run_pickT (S.ev rfl) hb_6 (S.ev rfl)) rfl rfl trivial ?_
        clear S; intro aa S
        refine OL.nil ?_
        exact ⟨_, _, S.sub _ ⟨rfl, rfl, rfl, rfl, rfl, rfl, trivial⟩, H⟩
      · replace H := H.2 hb_6
        refine OL.not S rfl rfl (GNo.mk rfl rfl hb_6) ?_
        clear S; intro aa S
        refine OL.not S rfl rfl (GNo.mk rfl rfl hb_6) ?_
        clear S; intro aa S
        refine OL.not S rfl rfl (GNo.mk rfl rfl hb_6) ?_
        clear S; intro aa S
        refine OL.not S rfl rfl (GNo.mk rfl rfl hb_6) ?_
        clear S; intro aa S
        refine OL.not S rfl rfl (GNo.mk rfl rfl hb_6) ?_
        clear S; intro aa S
        refine OL.pure S (Lf.run_pickF (S.ev rfl) hb_6 (S.ev rfl)) rfl rfl trivial ?_
        clear S; intro aa S
        refine OL.nil ?_
        exact ⟨_, _, S.sub _ ⟨rfl, rfl, rfl, rfl, rfl, rfl, trivial⟩, H⟩
    · clear S aa
      rintro aa ww ⟨x51, h5, S, HJ⟩
      replace H := HK_1 _ _ HJ
      clear HK_1 HJ
      refine OL.pure S (Lf.run_move (S.ev rfl)) rfl rfl trivial ?_
      clear S; intro aa S
      obtain ⟨J_2, H, HK_2⟩ := H
      refine OL.cutN 6 (fun aa ww => ∃ x58 h7, St 79 ((58, Value.bool x58) :: [(5, Value.int .i64 x15), (6, Value.int .i64 x17), (9, Value.pointer none), (44, Value.bool x44), (45, Value.bool x44), (51, Value.bool x51), (52, Value.bool x51)]) h7 w0 aa ww ∧ J_2 x58 h7) ?_ ?_
      · rcases Bool.eq_false_or_eq_true x51 with hb_7 | hb_7
        · replace H := H.1 hb_7
          refine OL.pure S (Lf.run_move (S.ev rfl)) rfl rfl (GOk.mk rfl rfl hb_7) ?_
          clear S; intro aa S
          refine OL.pure S (Lf.run_move (S.ev rfl)) rfl rfl (GOk.mk rfl rfl hb_7) ?_
          clear S; intro aa S
          refine OL.pure S (Lf.run_move (S.ev rfl)) rfl rfl (GOk.mk rfl rfl hb_7) ?_
          clear S; intro aa S
          refine ol_cal S H isfn14 rfl rfl (GOk.mk rfl rfl hb_7) ?_
          clear S H aa; intro u_5 aa ww h8 H S
          obtain ⟨x56, rfl, H⟩ := H
          refine OL.pure S (Lf.run_eql (S.ev rfl) (S.ev rfl)) rfl rfl (GOk.mk rfl rfl hb_7) ?_
          clear S; intro aa S
          refine OL.pure S (Lf.run_pickT (S.ev rfl) hb_7 (S.ev rfl)) rfl rfl trivial ?_
          clear S; intro aa S
          refine OL.nil ?_
          exact ⟨_, _, S.sub _ ⟨rfl, rfl, rfl, rfl, rfl, rfl, rfl, rfl, trivial⟩, H⟩
        · replace H := H.2 hb_7
          refine OL.not S rfl rfl (GNo.mk rfl rfl hb_7) ?_
          clear S; intro aa S
          refine OL.not S rfl rfl (GNo.mk rfl rfl hb_7) ?_
          clear S; intro aa S
          refine OL.not S rfl rfl (GNo.mk rfl rfl hb_7) ?_
          clear S; intro aa S
          refine OL.not S rfl rfl (GNo.mk rfl rfl hb_7) ?_
          clear S; intro aa S
          refine OL.not S rfl rfl (GNo.mk rfl rfl hb_7) ?_
          clear S; intro aa S
          refine OL.pure S (Lf.run_pickF (S.ev rfl) hb_7 (S.ev rfl)) rfl rfl trivial ?_
          clear S; intro aa S
          refine OL.nil ?_
          exact ⟨_, _, S.sub _ ⟨rfl, rfl, rfl, rfl, rfl, rfl, rfl, rfl, trivial⟩, H⟩
      · clear S aa
        rintro aa ww ⟨x58, h7, S, HJ⟩
        replace H := HK_2 _ _ HJ
        clear HK_2 HJ
        refine OL.pure S (Lf.run_move (S.ev rfl)) rfl rfl trivial ?_
        clear S; intro aa S
        obtain ⟨J_3, H, HK_3⟩ := H
        refine OL.cutN 6 (fun aa ww => ∃ x65 h9, St 79 ((65, Value.bool x65) :: [(5, Value.int .i64 x15), (6, Value.int .i64 x17), (9, Value.pointer none), (44, Value.bool x44), (45, Value.bool x44), (51, Value.bool x51), (52, Value.bool x51), (58, Value.bool x58), (59, Value.bool x58)]) h9 w0 aa ww ∧ J_3 x65 h9) ?_ ?_
        · rcases Bool.eq_false_or_eq_true x58 with hb_8 | hb_8
          · replace H := H.1 hb_8
            refine OL.pure S (Lf.run_move (S.ev rfl)) rfl rfl (GOk.mk rfl rfl hb_8) ?_
            clear S; intro aa S
            refine OL.pure S (Lf.run_move (S.ev rfl)) rfl rfl (GOk.mk rfl rfl hb_8) ?_
            clear S; intro aa S
            refine OL.pure S (Lf.run_move (S.ev rfl)) rfl rfl (GOk.mk rfl rfl hb_8) ?_
            clear S; intro aa S
            refine ol_cal S H isfn10 rfl rfl (GOk.mk rfl rfl hb_8) ?_
            clear S H aa; intro u_6 aa ww h10 H S
            obtain ⟨x63, rfl, H⟩ := H
            refine OL.pure S (Lf.run_not (S.ev rfl)) rfl rfl (GOk.mk rfl rfl hb_8) ?_
            clear S; intro aa S
            refine OL.pure S (Lf.run_pickT (S.ev rfl) hb_8 (S.ev rfl)) rfl rfl trivial ?_
            clear S; intro aa S
            refine OL.nil ?_
            exact ⟨_, _, S.sub _ ⟨rfl, rfl, rfl, rfl, rfl, rfl, rfl, rfl, rfl, rfl, trivial⟩, H⟩
          · replace H := H.2 hb_8
            refine OL.not S rfl rfl (GNo.mk rfl rfl hb_8) ?_
            clear S; intro aa S
            refine OL.not S rfl rfl (GNo.mk rfl rfl hb_8) ?_
            clear S; intro aa S
            refine OL.not S rfl rfl (GNo.mk rfl rfl hb_8) ?_
            clear S; intro aa S
            refine OL.not S rfl rfl (GNo.mk rfl rfl hb_8) ?_
            clear S; intro aa S
            refine OL.not S rfl rfl (GNo.mk rfl rfl hb_8) ?_
            clear S; intro aa S
            refine OL.pure S (Lf.run_pickF (S.ev rfl) hb_8 (S.ev rfl)) rfl rfl trivial ?_
            clear S; intro aa S
            refine OL.nil ?_
            exact ⟨_, _, S.sub _ ⟨rfl, rfl, rfl, rfl, rfl, rfl, rfl, rfl, rfl, rfl, trivial⟩, H⟩
        · clear S aa
          rintro aa ww ⟨x65, h9, S, HJ⟩
          replace H := HK_3 _ _ HJ
          clear HK_3 HJ
          refine OL.pure S (Lf.run_move (S.ev rfl)) rfl rfl trivial ?_
          clear S; intro aa S
          obtain ⟨J_4, H, HK_4⟩ := H
          refine OL.cutN 6 (fun aa ww => ∃ x72 h11, St 79 ((72, Value.bool x72) :: [(5, Value.int .i64 x15), (6, Value.int .i64 x17), (9, Value.pointer none), (44, Value.bool x44), (45, Value.bool x44), (51, Value.bool x51), (52, Value.bool x51), (58, Value.bool x58), (59, Value.bool x58), (65, Value.bool x65), (66, Value.bool x65)]) h11 w0 aa ww ∧ J_4 x72 h11) ?_ ?_
          · rcases Bool.eq_false_or_eq_true x65 with hb_9 | hb_9
            · replace H := H.1 hb_9
              refine OL.pure S (Lf.run_move (S.ev rfl)) rfl rfl (GOk.mk rfl rfl hb_9) ?_
              clear S; intro aa S
              refine OL.pure S (Lf.run_move (S.ev rfl)) rfl rfl (GOk.mk rfl rfl hb_9) ?_
              clear S; intro aa S
              refine ol_cal S H isfn8 rfl rfl (GOk.mk rfl rfl hb_9) ?_
              clear S H aa; intro u_7 aa ww h12 H S
              obtain ⟨x69, rfl, H⟩ := H
              refine OL.pure S (Lf.run_lens (S.ev rfl) rfl Tryd.underlying29) rfl rfl (GOk.mk rfl rfl hb_9) ?_
              clear S; intro aa S
              refine OL.pure S (Lf.run_eql (S.ev rfl) (S.ev rfl)) rfl rfl (GOk.mk rfl rfl hb_9) ?_
              clear S; intro aa S
              refine OL.pure S (Lf.run_pickT (S.ev rfl) hb_9 (S.ev rfl)) rfl rfl trivial ?_
              clear S; intro aa S
              refine OL.nil ?_
              exact ⟨_, _, S.sub _ ⟨rfl, rfl, rfl, rfl, rfl, rfl, rfl, rfl, rfl, rfl, rfl, rfl, trivial⟩, H⟩
            · replace H := H.2 hb_9
              refine OL.not S rfl rfl (GNo.mk rfl rfl hb_9) ?_
              clear S; intro aa S
              refine OL.not S rfl rfl (GNo.mk rfl rfl hb_9) ?_
              clear S; intro aa S
              refine OL.not S rfl rfl (GNo.mk rfl rfl hb_9) ?_
              clear S; intro aa S
              refine OL.not S rfl rfl (GNo.mk rfl rfl hb_9) ?_
              clear S; intro aa S
              refine OL.not S rfl rfl (GNo.mk rfl rfl hb_9) ?_
              clear S; intro aa S
              refine OL.pure S (Lf.run_pickF (S.ev rfl) hb_9 (S.ev rfl)) rfl rfl trivial ?_
              clear S; intro aa S
              refine OL.nil ?_
              exact ⟨_, _, S.sub _ ⟨rfl, rfl, rfl, rfl, rfl, rfl, rfl, rfl, rfl, rfl, rfl, rfl, trivial⟩, H⟩
          · clear S aa
            rintro aa ww ⟨x72, h11, S, HJ⟩
            replace H := HK_4 _ _ HJ
            clear HK_4 HJ
            refine OL.pure S (Lf.run_move (S.ev rfl)) rfl rfl trivial ?_
            clear S; intro aa S
            obtain ⟨J_5, H, HK_5⟩ := H
            refine OL.cutN 5 (fun aa ww => ∃ x78 h13, St 79 ((78, Value.bool x78) :: [(5, Value.int .i64 x15), (6, Value.int .i64 x17), (9, Value.pointer none), (44, Value.bool x44), (45, Value.bool x44), (51, Value.bool x51), (52, Value.bool x51), (58, Value.bool x58), (59, Value.bool x58), (65, Value.bool x65), (66, Value.bool x65), (72, Value.bool x72), (73, Value.bool x72)]) h13 w0 aa ww ∧ J_5 x78 h13) ?_ ?_
            · rcases Bool.eq_false_or_eq_true x72 with hb_10 | hb_10
              · replace H := H.1 hb_10
                refine OL.pure S (Lf.run_move (S.ev rfl)) rfl rfl (GOk.mk rfl rfl hb_10) ?_
                clear S; intro aa S
                refine OL.pure S (Lf.run_move (S.ev rfl)) rfl rfl (GOk.mk rfl rfl hb_10) ?_
                clear S; intro aa S
                refine ol_cal S H isfn11 rfl rfl (GOk.mk rfl rfl hb_10) ?_
                clear S H aa; intro u_8 aa ww h14 H S
                obtain ⟨x76, rfl, H⟩ := H
                refine OL.pure S (Lf.run_eql (S.ev rfl) (S.ev rfl)) rfl rfl (GOk.mk rfl rfl hb_10) ?_
                clear S; intro aa S
                refine OL.pure S (Lf.run_pickT (S.ev rfl) hb_10 (S.ev rfl)) rfl rfl trivial ?_
                clear S; intro aa S
                refine OL.nil ?_
                exact ⟨_, _, S.sub _ ⟨rfl, rfl, rfl, rfl, rfl, rfl, rfl, rfl, rfl, rfl, rfl, rfl, rfl, rfl, trivial⟩, H⟩
              · replace H := H.2 hb_10
                refine OL.not S rfl rfl (GNo.mk rfl rfl hb_10) ?_
                clear S; intro aa S
                refine OL.not S rfl rfl (GNo.mk rfl rfl hb_10) ?_
                clear S; intro aa S
                refine OL.not S rfl rfl (GNo.mk rfl rfl hb_10) ?_
                clear S; intro aa S
                refine OL.not S rfl rfl (GNo.mk rfl rfl hb_10) ?_
                clear S; intro aa S
                refine OL.pure S (Lf.run_pickF (S.ev rfl) hb_10 (S.ev rfl)) rfl rfl trivial ?_
                clear S; intro aa S
                refine OL.nil ?_
                exact ⟨_, _, S.sub _ ⟨rfl, rfl, rfl, rfl, rfl, rfl, rfl, rfl, rfl, rfl, rfl, rfl, rfl, rfl, trivial⟩, H⟩
            · clear S aa
              rintro aa ww ⟨x78, h13, S, HJ⟩
              replace H := HK_5 _ _ HJ
              clear HK_5 HJ
              refine OL.pure S (Lf.run_assign (S.ev rfl)) rfl rfl trivial ?_
              clear S; intro aa S
              refine OL.nil ?_
              refine W.ret ?_
              exact Ret.one S rfl rfl H

/-- chattel chattellaw12.solved -/
def L5  (h : Heap) (R : Value → Heap → Prop) : Prop :=
  cal Tryd.prog 12 #[Value.int .i64 3, Value.int .i64 70] h fun u h1 => asTup u fun r4 =>
  elt r4 0 fun u_1 => asP u_1 fun x5 =>
  elt r4 1 fun u_2 => asI .i64 u_2 fun x6 =>
  ifb ((Option.isNone x5) || (x6 != 0)) (
    R (Value.bool false) h1) (
    cal Tryd.prog 14 #[Value.pointer x5, Value.int .i64 0, Value.int .i64 1] h1 fun u_3 h2 => asI .i64 u_3 fun x14 =>
    ∃ J : Bool → Heap → Prop, (andj (x14 == 0) (fun k =>
      cal Tryd.prog 14 #[Value.pointer x5, Value.int .i64 1, Value.int .i64 2] h2 fun u_4 h4 => asI .i64 u_4 fun x18 =>
      k (x18 == 0) h4) h2 J) ∧ ∀ x20 h3, J x20 h3 →
    ∃ J_1 : Bool → Heap → Prop, (andj x20 (fun k_1 =>
      cal Tryd.prog 13 #[Value.pointer x5, Value.int .i64 2, Value.int .i64 67] h3 fun u_5 h6 => asI .i64 u_5 fun x23 =>
      k_1 (x23 == 0) h6) h3 J_1) ∧ ∀ x25 h5, J_1 x25 h5 →
    ∃ J_2 : Bool → Heap → Prop, (andj x25 (fun k_2 =>
      cal Tryd.prog 10 #[Value.pointer x5, Value.int .i64 0, Value.int .i64 67] h5 fun u_6 h8 => asB u_6 fun x28 =>
      k_2 x28 h8) h5 J_2) ∧ ∀ x29 h7, J_2 x29 h7 →
    ∃ J_3 : Bool → Heap → Prop, (andj x29 (fun k_3 =>
      cal Tryd.prog 10 #[Value.pointer x5, Value.int .i64 0, Value.int .i64 66] h7 fun u_7 h10 => asB u_7 fun x32 =>
      k_3 (!x32) h10) h7 J_3) ∧ ∀ x34 h9, J_3 x34 h9 →
    ∃ J_4 : Bool → Heap → Prop, (andj x34 (fun k_4 =>
      cal Tryd.prog 11 #[Value.pointer x5, Value.int .i64 1] h9 fun u_8 h12 => asI .i64 u_8 fun x37 =>
      k_4 (x37 == 1) h12) h9 J_4) ∧ ∀ x39 h11, J_4 x39 h11 →
    R (Value.bool x39) h11)

set_option maxRecDepth 100000 in

theorem F5 {h : _} {R : Value → Heap → Prop} (H : L5 h R) : CallsH Tryd.prog 5 #[] h R := by
  refine CallsH.enter (n := 40) Tryd.func5 rfl rfl rfl rfl ?_
  intro w0 aa ww S
  unfold L5 at H
  refine W.seq ?_
  replace S := S.sub [] trivial
  refine W.region ?_
  refine OL.pure S (Lf.run_assign (S.ev rfl)) rfl rfl trivial ?_
  clear S; intro aa S
  refine OL.nil ?_
  refine W.seq ?_
  replace S := S.sub [] trivial
  refine W.region ?_
  refine ol_cal S H isfn12 rfl rfl trivial ?_
  clear S H aa; intro u aa ww h1 H S
  obtain ⟨r4, rfl, H⟩ := H
  refine OL.pure S (Lf.run_move (S.ev rfl)) rfl rfl trivial ?_
  clear S; intro aa S
  obtain ⟨u_1, e, x5, rfl, H⟩ := H
  refine OL.pure S (Lf.run_ex (S.ev rfl) e) rfl rfl trivial ?_
  clear S; intro aa S
  obtain ⟨u_2, e_1, x6, rfl, H⟩ := H
  refine OL.pure S (Lf.run_ex (S.ev rfl) e_1) rfl rfl trivial ?_
  clear S; intro aa S
  refine OL.pure S (Lf.run_assign (S.ev rfl)) rfl rfl trivial ?_
  clear S; intro aa S
  refine OL.pure S (Lf.run_assign (S.ev rfl)) rfl rfl trivial ?_
  clear S; intro aa S
  refine OL.nil ?_
  refine W.seq ?_
  refine W.seq ?_
  replace S := S.sub [(1, Value.pointer x5), (2, Value.int .i64 x6)] ⟨rfl, rfl, trivial⟩
  refine W.region ?_
  refine OL.pure S (Lf.run_move (S.ev rfl)) rfl rfl trivial ?_
  clear S; intro aa S
  refine OL.pure S (Lf.run_eqlpn Tryd.underlying25 (S.ev rfl) (S.ev rfl)) rfl rfl trivial ?_
  clear S; intro aa S
  refine OL.pure S (Lf.run_move (S.ev rfl)) rfl rfl trivial ?_
  clear S; intro aa S
  refine OL.cutN 3 (fun aa ww => St 40 ((12, Value.bool ((Option.isNone x5) || (x6 != 0))) :: [(1, Value.pointer x5), (2, Value.int .i64 x6), (7, Value.pointer x5), (8, Value.bool (Option.isNone x5)), (9, Value.bool (Option.isNone x5))]) h1 w0 aa ww) ?_ ?_
  · rcases Bool.eq_false_or_eq_true (Option.isNone x5) with hb | hb
    · refine OL.not S rfl rfl (GNo.mk rfl rfl hb) ?_
      clear S; intro aa S
      refine OL.not S rfl rfl (GNo.mk rfl rfl hb) ?_
      clear S; intro aa S
      refine OL.pure S (Lf.run_pickT (S.ev rfl) hb (S.ev rfl)) rfl rfl trivial ?_
      clear S; intro aa S
      refine OL.nil ?_
      exact (S.hd (by rw [hb, Bool.true_or])).sub _ ⟨rfl, rfl, rfl, rfl, rfl, rfl, trivial⟩
    · refine OL.pure S (Lf.run_move (S.ev rfl)) rfl rfl (GOk.mk rfl rfl hb) ?_
      clear S; intro aa S
      refine OL.pure S (Lf.run_neq (S.ev rfl) (S.ev rfl)) rfl rfl (GOk.mk rfl rfl hb) ?_
      clear S; intro aa S
      refine OL.pure S (Lf.run_pickF (S.ev rfl) hb (S.ev rfl)) rfl rfl trivial ?_
      clear S; intro aa S
      refine OL.nil ?_
      exact (S.hd (by rw [hb, Bool.false_or])).sub _ ⟨rfl, rfl, rfl, rfl, rfl, rfl, trivial⟩
  · clear S aa
    intro aa ww S
    refine OL.nil ?_
    refine W.cond S (b := ((Option.isNone x5) || (x6 != 0))) rfl (fun hb_1 => ?_) (fun hb_1 => ?_)
    · replace H := H.1 hb_1
      refine W.seq ?_
      replace S := S.sub [] trivial
      refine W.region ?_
      refine OL.pure S (Lf.run_assign (S.ev rfl)) rfl rfl trivial ?_
      clear S; intro aa S
      refine OL.nil ?_
      refine W.ret ?_
      exact Ret.one S rfl rfl H
    · replace H := H.2 hb_1
      refine W.skip ?_
      refine W.seq ?_
      replace S := S.sub [(1, Value.pointer x5)] ⟨rfl, trivial⟩
      refine W.region ?_
      refine OL.pure S (Lf.run_move (S.ev rfl)) rfl rfl trivial ?_
      clear S; intro aa S
      refine ol_cal S H isfn14 rfl rfl trivial ?_
      clear S H aa; intro u_3 aa ww h2 H S
      obtain ⟨x14, rfl, H⟩ := H
      refine OL.pure S (Lf.run_eql (S.ev rfl) (S.ev rfl)) rfl rfl trivial ?_
      clear S; intro aa S
      refine OL.pure S (Lf.run_move (S.ev rfl)) rfl rfl trivial ?_
      clear S; intro aa S
      obtain ⟨J, H, HK⟩ := H
      refine OL.cutN 4 (fun aa ww => ∃ x20 h3, St 40 ((20, Value.bool x20) :: [(1, Value.pointer x5), (13, Value.pointer x5), (14, Value.int .i64 x14), (15, Value.bool (x14 == 0)), (16, Value.bool (x14 == 0))]) h3 w0 aa ww ∧ J x20 h3) ?_ ?_
      · rcases Bool.eq_false_or_eq_true (x14 == 0) with hb_2 | hb_2
        · replace H := H.1 hb_2
          refine OL.pure S (Lf.run_move (S.ev rfl)) rfl rfl (GOk.mk rfl rfl hb_2) ?_
          clear S; intro aa S
          refine ol_cal S H isfn14 rfl rfl (GOk.mk rfl rfl hb_2) ?_
          clear S H aa; intro u_4 aa ww h4 H S
          obtain ⟨x18, rfl, H⟩ := H
          refine OL.pure S (Lf.run_eql (S.ev rfl) (S.ev rfl)) rfl rfl (GOk.mk rfl rfl hb_2) ?_
          clear S; intro aa S
          refine OL.pure S (Lf.run_pickT (S.ev rfl) hb_2 (S.ev rfl)) rfl rfl trivial ?_
          clear S; intro aa S
          refine OL.nil ?_
          exact ⟨_, _, S.sub _ ⟨rfl, rfl, rfl, rfl, rfl, rfl, trivial⟩, H⟩
        · replace H := H.2 hb_2
          refine OL.not S rfl rfl (GNo.mk rfl rfl hb_2) ?_
          clear S; intro aa S
          refine OL.not S rfl rfl (GNo.mk rfl rfl hb_2) ?_
          clear S; intro aa S
          refine OL.not S rfl rfl (GNo.mk rfl rfl hb_2) ?_
          clear S; intro aa S
          refine OL.pure S (Lf.run_pickF (S.ev rfl) hb_2 (S.ev rfl)) rfl rfl trivial ?_
          clear S; intro aa S
          refine OL.nil ?_
          exact ⟨_, _, S.sub _ ⟨rfl, rfl, rfl, rfl, rfl, rfl, trivial⟩, H⟩
      · clear S aa
        rintro aa ww ⟨x20, h3, S, HJ⟩
        replace H := HK _ _ HJ
        clear HK HJ
        refine OL.pure S (Lf.run_move (S.ev rfl)) rfl rfl trivial ?_
        clear S; intro aa S
        obtain ⟨J_1, H, HK_1⟩ := H
        refine OL.cutN 4 (fun aa ww => ∃ x25 h5, St 40 ((25, Value.bool x25) :: [(1, Value.pointer x5), (13, Value.pointer x5), (14, Value.int .i64 x14), (15, Value.bool (x14 == 0)), (16, Value.bool (x14 == 0)), (20, Value.bool x20), (21, Value.bool x20)]) h5 w0 aa ww ∧ J_1 x25 h5) ?_ ?_
        · rcases Bool.eq_false_or_eq_true x20 with hb_3 | hb_3
          · replace H := H.1 hb_3
            refine OL.pure S (Lf.run_move (S.ev rfl)) rfl rfl (GOk.mk rfl rfl hb_3) ?_
            clear S; intro aa S
            refine ol_cal S H isfn13 rfl rfl (GOk.mk rfl rfl hb_3) ?_
            clear S H aa; intro u_5 aa ww h6 H S
            obtain ⟨x23, rfl, H⟩ := H
            refine OL.pure S (Lf.run_eql (S.ev rfl) (S.ev rfl)) rfl rfl (GOk.mk rfl rfl hb_3) ?_
            clear S; intro aa S
            refine OL.pure S (Lf.run_pickT (S.ev rfl) hb_3 (S.ev rfl)) rfl rfl trivial ?_
            clear S; intro aa S
            refine OL.nil ?_
            exact ⟨_, _, S.sub _ ⟨rfl, rfl, rfl, rfl, rfl, rfl, rfl, rfl, trivial⟩, H⟩
          · replace H := H.2 hb_3
            refine OL.not S rfl rfl (GNo.mk rfl rfl hb_3) ?_
            clear S; intro aa S
            refine OL.not S rfl rfl (GNo.mk rfl rfl hb_3) ?_
            clear S; intro aa S
            refine OL.not S rfl rfl (GNo.mk rfl rfl hb_3) ?_
            clear S; intro aa S
            refine OL.pure S (Lf.run_pickF (S.ev rfl) hb_3 (S.ev rfl)) rfl rfl trivial ?_
            clear S; intro aa S
            refine OL.nil ?_
            exact ⟨_, _, S.sub _ ⟨rfl, rfl, rfl, rfl, rfl, rfl, rfl, rfl, trivial⟩, H⟩
        · clear S aa
          rintro aa ww ⟨x25, h5, S, HJ⟩
          replace H := HK_1 _ _ HJ
          clear HK_1 HJ
          refine OL.pure S (Lf.run_move (S.ev rfl)) rfl rfl trivial ?_
          clear S; intro aa S
          obtain ⟨J_2, H, HK_2⟩ := H
          refine OL.cutN 3 (fun aa ww => ∃ x29 h7, St 40 ((29, Value.bool x29) :: [(1, Value.pointer x5), (13, Value.pointer x5), (14, Value.int .i64 x14), (15, Value.bool (x14 == 0)), (16, Value.bool (x14 == 0)), (20, Value.bool x20), (21, Value.bool x20), (25, Value.bool x25), (26, Value.bool x25)]) h7 w0 aa ww ∧ J_2 x29 h7) ?_ ?_
          · rcases Bool.eq_false_or_eq_true x25 with hb_4 | hb_4
            · replace H := H.1 hb_4
              refine OL.pure S (Lf.run_move (S.ev rfl)) rfl rfl (GOk.mk rfl rfl hb_4) ?_
              clear S; intro aa S
              refine ol_cal S H isfn10 rfl rfl (GOk.mk rfl rfl hb_4) ?_
              clear S H aa; intro u_6 aa ww h8 H S
              obtain ⟨x28, rfl, H⟩ := H
              refine OL.pure S (Lf.run_pickT (S.ev rfl) hb_4 (S.ev rfl)) rfl rfl trivial ?_
              clear S; intro aa S
              refine OL.nil ?_
              exact ⟨_, _, S.sub _ ⟨rfl, rfl, rfl, rfl, rfl, rfl, rfl, rfl, rfl, rfl, trivial⟩, H⟩
            · replace H := H.2 hb_4
              refine OL.not S rfl rfl (GNo.mk rfl rfl hb_4) ?_
              clear S; intro aa S
              refine OL.not S rfl rfl (GNo.mk rfl rfl hb_4) ?_
              clear S; intro aa S
              refine OL.pure S (Lf.run_pickF (S.ev rfl) hb_4 (S.ev rfl)) rfl rfl trivial ?_
              clear S; intro aa S
              refine OL.nil ?_
              exact ⟨_, _, S.sub _ ⟨rfl, rfl, rfl, rfl, rfl, rfl, rfl, rfl, rfl, rfl, trivial⟩, H⟩
          · clear S aa
            rintro aa ww ⟨x29, h7, S, HJ⟩
            replace H := HK_2 _ _ HJ
            clear HK_2 HJ
            refine OL.pure S (Lf.run_move (S.ev rfl)) rfl rfl trivial ?_
            clear S; intro aa S
            obtain ⟨J_3, H, HK_3⟩ := H
            refine OL.cutN 4 (fun aa ww => ∃ x34 h9, St 40 ((34, Value.bool x34) :: [(1, Value.pointer x5), (13, Value.pointer x5), (14, Value.int .i64 x14), (15, Value.bool (x14 == 0)), (16, Value.bool (x14 == 0)), (20, Value.bool x20), (21, Value.bool x20), (25, Value.bool x25), (26, Value.bool x25), (29, Value.bool x29), (30, Value.bool x29)]) h9 w0 aa ww ∧ J_3 x34 h9) ?_ ?_
            · rcases Bool.eq_false_or_eq_true x29 with hb_5 | hb_5
              · replace H := H.1 hb_5
                refine OL.pure S (Lf.run_move (S.ev rfl)) rfl rfl (GOk.mk rfl rfl hb_5) ?_
                clear S; intro aa S
                refine ol_cal S H isfn10 rfl rfl (GOk.mk rfl rfl hb_5) ?_
                clear S H aa; intro u_7 aa ww h10 H S
                obtain ⟨x32, rfl, H⟩ := H
                refine OL.pure S (Lf.run_not (S.ev rfl)) rfl rfl (GOk.mk rfl rfl hb_5) ?_
                clear S; intro aa S
                refine OL.pure S (Lf.run_pickT (S.ev rfl) hb_5 (S.ev rfl)) rfl rfl trivial ?_
                clear S; intro aa S
                refine OL.nil ?_
                exact ⟨_, _, S.sub _ ⟨rfl, rfl, rfl, rfl, rfl, rfl, rfl, rfl, rfl, rfl, rfl, rfl, trivial⟩, H⟩
              · replace H := H.2 hb_5
                refine OL.not S rfl rfl (GNo.mk rfl rfl hb_5) ?_
                clear S; intro aa S
                refine OL.not S rfl rfl (GNo.mk rfl rfl hb_5) ?_
                clear S; intro aa S
                refine OL.not S rfl rfl (GNo.mk rfl rfl hb_5) ?_
                clear S; intro aa S
                refine OL.pure S (Lf.run_pickF (S.ev rfl) hb_5 (S.ev rfl)) rfl rfl trivial ?_
                clear S; intro aa S
                refine OL.nil ?_
                exact ⟨_, _, S.sub _ ⟨rfl, rfl, rfl, rfl, rfl, rfl, rfl, rfl, rfl, rfl, rfl, rfl, trivial⟩, H⟩
            · clear S aa
              rintro aa ww ⟨x34, h9, S, HJ⟩
              replace H := HK_3 _ _ HJ
              clear HK_3 HJ
              refine OL.pure S (Lf.run_move (S.ev rfl)) rfl rfl trivial ?_
              clear S; intro aa S
              obtain ⟨J_4, H, HK_4⟩ := H
              refine OL.cutN 4 (fun aa ww => ∃ x39 h11, St 40 ((39, Value.bool x39) :: [(1, Value.pointer x5), (13, Value.pointer x5), (14, Value.int .i64 x14), (15, Value.bool (x14 == 0)), (16, Value.bool (x14 == 0)), (20, Value.bool x20), (21, Value.bool x20), (25, Value.bool x25), (26, Value.bool x25), (29, Value.bool x29), (30, Value.bool x29), (34, Value.bool x34), (35, Value.bool x34)]) h11 w0 aa ww ∧ J_4 x39 h11) ?_ ?_
              · rcases Bool.eq_false_or_eq_true x34 with hb_6 | hb_6
                · replace H := H.1 hb_6
                  refine OL.pure S (Lf.run_move (S.ev rfl)) rfl rfl (GOk.mk rfl rfl hb_6) ?_
                  clear S; intro aa S
                  refine ol_cal S H isfn11 rfl rfl (GOk.mk rfl rfl hb_6) ?_
                  clear S H aa; intro u_8 aa ww h12 H S
                  obtain ⟨x37, rfl, H⟩ := H
                  refine OL.pure S (Lf.run_eql (S.ev rfl) (S.ev rfl)) rfl rfl (GOk.mk rfl rfl hb_6) ?_
                  clear S; intro aa S
                  refine OL.pure S (Lf.run_pickT (S.ev rfl) hb_6 (S.ev rfl)) rfl rfl trivial ?_
                  clear S; intro aa S
                  refine OL.nil ?_
                  exact ⟨_, _, S.sub _ ⟨rfl, rfl, rfl, rfl, rfl, rfl, rfl, rfl, rfl, rfl, rfl, rfl, rfl, rfl, trivial⟩, H⟩
                · replace H := H.2 hb_6
                  refine OL.not S rfl rfl (GNo.mk rfl rfl hb_6) ?_
                  clear S; intro aa S
                  refine OL.not S rfl rfl (GNo.mk rfl rfl hb_6) ?_
                  clear S; intro aa S
                  refine OL.not S rfl rfl (GNo.mk rfl rfl hb_6) ?_
                  clear S; intro aa S
                  refine OL.pure S (Lf.run_pickF (S.ev rfl) hb_6 (S.ev rfl)) rfl rfl trivial ?_
                  clear S; intro aa S
                  refine OL.nil ?_
                  exact ⟨_, _, S.sub _ ⟨rfl, rfl, rfl, rfl, rfl, rfl, rfl, rfl, rfl, rfl, rfl, rfl, rfl, rfl, trivial⟩, H⟩
              · clear S aa
                rintro aa ww ⟨x39, h11, S, HJ⟩
                replace H := HK_4 _ _ HJ
                clear HK_4 HJ
                refine OL.pure S (Lf.run_assign (S.ev rfl)) rfl rfl trivial ?_
                clear S; intro aa S
                refine OL.nil ?_
                refine W.ret ?_
                exact Ret.one S rfl rfl H

/-- chattel chattellaw12.small -/
def L6 (n0 : Int) (width1 : Int) (ops2 : Sv) (h : Heap) (R : Value → Heap → Prop) : Prop :=
  R (Value.bool (((((decide (0 ≤ n0)) && (decide (n0 ≤ 12))) && (decide (0 ≤ width1))) && (decide (width1 ≤ 150))) && (decide (((ops2.n : Nat) : Int) ≤ 60)))) h

set_option maxRecDepth 100000 in

theorem F6 {n0 width1 ops2 h : _} {R : Value → Heap → Prop} (H : L6 n0 width1 ops2 h R) : CallsH Tryd.prog 6 #[Value.int .i64 n0, Value.int .i64 width1, Value.slice ops2.a ops2.n ops2.c] h R := by
  refine CallsH.enter (n := 26) Tryd.func6 rfl rfl rfl rfl ?_
  intro w0 aa ww S
  unfold L6 at H
  refine W.seq ?_
  replace S := S.sub [(0, Value.int .i64 n0), (1, Value.int .i64 width1), (2, Value.slice ops2.a ops2.n ops2.c)] ⟨rfl, rfl, rfl, trivial⟩
  refine W.region ?_
  refine OL.pure S (Lf.run_assign (S.ev rfl)) rfl rfl trivial ?_
  clear S; intro aa S
  refine OL.nil ?_
  refine W.seq ?_
  replace S := S.sub [(0, Value.int .i64 n0), (1, Value.int .i64 width1), (2, Value.slice ops2.a ops2.n ops2.c)] ⟨rfl, rfl, rfl, trivial⟩
  refine W.region ?_
  refine OL.pure S (Lf.run_move (S.ev rfl)) rfl rfl trivial ?_
  clear S; intro aa S
  refine OL.pure S (Lf.run_geq (S.ev rfl) (S.ev rfl)) rfl rfl trivial ?_
  clear S; intro aa S
  refine OL.pure S (Lf.run_move (S.ev rfl)) rfl rfl trivial ?_
  clear S; intro aa S
  refine OL.cutN 3 (fun aa ww => St 26 ((12, Value.bool ((decide (0 ≤ n0)) && (decide (n0 ≤ 12)))) :: [(0, Value.int .i64 n0), (1, Value.int .i64 width1), (2, Value.slice ops2.a ops2.n ops2.c), (7, Value.int .i64 n0), (8, Value.bool (decide (0 ≤ n0))), (9, Value.bool (decide (0 ≤ n0)))]) h w0 aa ww) ?_ ?_
  · rcases Bool.eq_false_or_eq_true (decide (0 ≤ n0)) with hb | hb
    · refine OL.pure S (Lf.run_move (S.ev rfl)) rfl rfl (GOk.mk rfl rfl hb) ?_
      clear S; intro aa S
      refine OL.pure S (Lf.run_leq (S.ev rfl) (S.ev rfl)) rfl rfl (GOk.mk rfl rfl hb) ?_
      clear S; intro aa S
      refine OL.pure S (Lf.run_pickT (S.ev rfl) hb (S.ev rfl)) rfl rfl trivial ?_
      clear S; intro aa S
      refine OL.nil ?_
      exact (S.hd (by rw [hb, Bool.true_and])).sub _ ⟨rfl, rfl, rfl, rfl, rfl, rfl, rfl, trivial⟩
    · refine OL.not S rfl rfl (GNo.mk rfl rfl hb) ?_
      clear S; intro aa S
      refine OL.not S rfl rfl (GNo.mk rfl rfl hb) ?_
      clear S; intro aa S
      refine OL.pure S (Lf.run_pickF (S.ev rfl) hb (S.ev rfl)) rfl rfl trivial ?_
      clear S; intro aa S
      refine OL.nil ?_
      exact (S.hd (by rw [hb, Bool.false_and])).sub _ ⟨rfl, rfl, rfl, rfl, rfl, rfl, rfl, trivial⟩
  · clear S aa
    intro aa ww S
    refine OL.pure S (Lf.run_move (S.ev rfl)) rfl rfl trivial ?_
    clear S; intro aa S
    refine OL.cutN 3 (fun aa ww => St 26 ((16, Value.bool (((decide (0 ≤ n0)) && (decide (n0 ≤ 12))) && (decide (0 ≤ width1)))) :: [(0, Value.int .i64 n0), (1, Value.int .i64 width1), (2, Value.slice ops2.a ops2.n ops2.c), (7, Value.int .i64 n0), (8, Value.bool (decide (0 ≤ n0))), (9, Value.bool (decide (0 ≤ n0))), (12, Value.bool ((decide (0 ≤ n0)) && (decide (n0 ≤ 12)))), (13, Value.bool ((decide (0 ≤ n0)) && (decide (n0 ≤ 12))))]) h w0 aa ww) ?_ ?_
    · rcases Bool.eq_false_or_eq_true ((decide (0 ≤ n0)) && (decide (n0 ≤ 12))) with hb_1 | hb_1
      · refine OL.pure S (Lf.run_move (S.ev rfl)) rfl rfl (GOk.mk rfl rfl hb_1) ?_
        clear S; intro aa S
        refine OL.pure S (Lf.run_geq (S.ev rfl) (S.ev rfl)) rfl rfl (GOk.mk rfl rfl hb_1) ?_
        clear S; intro aa S
        refine OL.pure S (Lf.run_pickT (S.ev rfl) hb_1 (S.ev rfl)) rfl rfl trivial ?_
        clear S; intro aa S
        refine OL.nil ?_
        exact (S.hd (by rw [hb_1, Bool.true_and])).sub _ ⟨rfl, rfl, rfl, rfl, rfl, rfl, rfl, rfl, rfl, trivial⟩
      · refine OL.not S rfl rfl (GNo.mk rfl rfl hb_1) ?_
        clear S; intro aa S
        refine OL.not S rfl rfl (GNo.mk rfl rfl hb_1) ?_
        clear S; intro aa S
        refine OL.pure S (Lf.run_pickF (S.ev rfl) hb_1 (S.ev rfl)) rfl rfl trivial ?_
        clear S; intro aa S
        refine OL.nil ?_
        exact (S.hd (by rw [hb_1, Bool.false_and])).sub _ ⟨rfl, rfl, rfl, rfl, rfl, rfl, rfl, rfl, rfl, trivial⟩
    · clear S aa
      intro aa ww S
      refine OL.pure S (Lf.run_move (S.ev rfl)) rfl rfl trivial ?_
      clear S; intro aa S
      refine OL.cutN 3 (fun aa ww => St 26 ((20, Value.bool ((((decide (0 ≤ n0)) && (decide (n0 ≤ 12))) && (decide (0 ≤ width1))) && (decide (width1 ≤ 150)))) :: [(0, Value.int .i64 n0), (1, Value.int .i64 width1), (2, Value.slice ops2.a ops2.n ops2.c), (7, Value.int .i64 n0), (8, Value.bool (decide (0 ≤ n0))), (9, Value.bool (decide (0 ≤ n0))), (12, Value.bool ((decide (0 ≤ n0)) && (decide (n0 ≤ 12)))), (13, Value.bool ((decide (0 ≤ n0)) && (decide (n0 ≤ 12)))), (16, Value.bool (((decide (0 ≤ n0)) && (decide (n0 ≤ 12))) && (decide (0 ≤ width1)))), (17, Value.bool (((decide (0 ≤ n0)) && (decide (n0 ≤ 12))) && (decide (0 ≤ width1))))]) h w0 aa ww) ?_ ?_
      · rcases Bool.eq_false_or_eq_true (((decide (0 ≤ n0)) && (decide (n0 ≤ 12))) && (decide (0 ≤ width1))) with hb_2 | hb_2
        · refine OL.pure S (Lf.run_move (S.ev rfl)) rfl rfl (GOk.mk rfl rfl hb_2) ?_
          clear S; intro aa S
          refine OL.pure S (Lf.run_leq (S.ev rfl) (S.ev rfl)) rfl rfl (GOk.mk rfl rfl hb_2) ?_
          clear S; intro aa S
          refine OL.pure S (Lf.run_pickT (S.ev rfl) hb_2 (S.ev rfl)) rfl rfl trivial ?_
          clear S; intro aa S
          refine OL.nil ?_
          exact (S.hd (by rw [hb_2, Bool.true_and])).sub _ ⟨rfl, rfl, rfl, rfl, rfl, rfl, rfl, rfl, rfl, rfl, rfl, trivial⟩
        · refine OL.not S rfl rfl (GNo.mk rfl rfl hb_2) ?_
          clear S; intro aa S
          refine OL.not S rfl rfl (GNo.mk rfl rfl hb_2) ?_
          clear S; intro aa S
          refine OL.pure S (Lf.run_pickF (S.ev rfl) hb_2 (S.ev rfl)) rfl rfl trivial ?_
          clear S; intro aa S
          refine OL.nil ?_
          exact (S.hd (by rw [hb_2, Bool.false_and])).sub _ ⟨rfl, rfl, rfl, rfl, rfl, rfl, rfl, rfl, rfl, rfl, rfl, trivial⟩
      · clear S aa
        intro aa ww S
        refine OL.pure S (Lf.run_move (S.ev rfl)) rfl rfl trivial ?_
        clear S; intro aa S
        refine OL.cutN 4 (fun aa ww => St 26 ((25, Value.bool (((((decide (0 ≤ n0)) && (decide (n0 ≤ 12))) && (decide (0 ≤ width1))) && (decide (width1 ≤ 150))) && (decide (((ops2.n : Nat) : Int) ≤ 60)))) :: [(0, Value.int .i64 n0), (1, Value.int .i64 width1), (2, Value.slice ops2.a ops2.n ops2.c), (7, Value.int .i64 n0), (8, Value.bool (decide (0 ≤ n0))), (9, Value.bool (decide (0 ≤ n0))), (12, Value.bool ((decide (0 ≤ n0)) && (decide (n0 ≤ 12)))), (13, Value.bool ((decide (0 ≤ n0)) && (decide (n0 ≤ 12)))), (16, Value.bool (((decide (0 ≤ n0)) && (decide (n0 ≤ 12))) && (decide (0 ≤ width1)))), (17, Value.bool (((decide (0 ≤ n0)) && (decide (n0 ≤ 12))) && (decide (0 ≤ width1)))), (20, Value.bool ((((decide (0 ≤ n0)) && (decide (n0 ≤ 12))) && (decide (0 ≤ width1))) && (decide (width1 ≤ 150)))), (21, Value.bool ((((decide (0 ≤ n0)) && (decide (n0 ≤ 12))) && (decide (0 ≤ width1))) && (decide (width1 ≤ 150))))]) h w0 aa ww) ?_ ?_
        · rcases Bool.eq_false_or_eq_true ((((decide (0 ≤ n0)) && (decide (n0 ≤ 12))) && (decide (0 ≤ width1))) && (decide (width1 ≤ 150))) with hb_3 | hb_3
          · refine OL.pure S (Lf.run_move (S.ev rfl)) rfl rfl (GOk.mk rfl rfl hb_3) ?_
            clear S; intro aa S
            refine OL.pure S (Lf.run_lens (S.ev rfl) rfl Tryd.underlying22) rfl rfl (GOk.mk rfl rfl hb_3) ?_
            clear S; intro aa S
            refine OL.pure S (Lf.run_leq (S.ev rfl) (S.ev rfl)) rfl rfl (GOk.mk rfl rfl hb_3) ?_
            clear S; intro aa S
            refine OL.pure S (Lf.run_pickT (S.ev rfl) hb_3 (S.ev rfl)) rfl rfl trivial ?_
            clear S; intro aa S
            refine OL.nil ?_
            exact (S.hd (by rw [hb_3, Bool.true_and])).sub _ ⟨rfl, rfl, rfl, rfl, rfl, rfl, rfl, rfl, rfl, rfl, rfl, rfl, rfl, trivial⟩
          · refine OL.not S rfl rfl (GNo.mk rfl rfl hb_3) ?_
            clear S; intro aa S
            refine OL.not S rfl rfl (GNo.mk rfl rfl hb_3) ?_
            clear S; intro aa S
            refine OL.not S rfl rfl (GNo.mk rfl rfl hb_3) ?_
            clear S; intro aa S
            refine OL.pure S (Lf.run_pickF (S.ev rfl) hb_3 (S.ev rfl)) rfl rfl trivial ?_
            clear S; intro aa S
            refine OL.nil ?_
            exact (S.hd (by rw [hb_3, Bool.false_and])).sub _ ⟨rfl, rfl, rfl, rfl, rfl, rfl, rfl, rfl, rfl, rfl, rfl, rfl, rfl, trivial⟩
        · clear S aa
          intro aa ww S
          refine OL.pure S (Lf.run_assign (S.ev rfl)) rfl rfl trivial ?_
          clear S; intro aa S
          refine OL.nil ?_
          refine W.ret ?_
          exact Ret.one S rfl rfl H

/-- chattel chattellaw12.told -/
def L7 (n0 : Int) (width1 : Int) (ops2 : Sv) (h : Heap) (R : Value → Heap → Prop) : Prop :=
  cal Tryd.prog 12 #[Value.int .i64 n0, Value.int .i64 width1] h fun u h1 => asTup u fun r20 =>
  elt r20 0 fun u_1 => asP u_1 fun x21 =>
  elt r20 1 fun u_2 => asI .i64 u_2 fun x22 =>
  ifb ((x22 != 0) || (Option.isNone x21)) (
    R (.tuple #[Value.pointer none, Value.slice (⟨none, 0, 0⟩ : Sv).a (⟨none, 0, 0⟩ : Sv).n (⟨none, 0, 0⟩ : Sv).c, Value.slice (⟨none, 0, 0⟩ : Sv).a (⟨none, 0, 0⟩ : Sv).n (⟨none, 0, 0⟩ : Sv).c, Value.bool false]) h1) (
    ∃ (I : Sv → Sv → Int → Heap → Prop) (m : Sv → Sv → Int → Heap → Nat), I (⟨none, 0, 0⟩ : Sv) (⟨none, 0, 0⟩ : Sv) 0 h1 ∧ ∀ outs12 puts13 i14 h2, I outs12 puts13 i14 h2 →
    ifb (decide (i14 < ((ops2.n : Nat) : Int))) (
      ∃ J : Sv → Sv → Heap → Prop, (
        ixS ops2 i14 fun q37 =>
        ∃ (y38 : Bool) (y38_1 : Int) (y38_2 : Int), cl h2 (q37.add ((i14 : Int).toNat * 3)) = some (Value.bool y38) ∧ cl h2 ((q37.add ((i14 : Int).toNat * 3)).add 1) = some (Value.int .i64 y38_1) ∧ cl h2 ((q37.add ((i14 : Int).toNat * 3)).add 2) = some (Value.int .i64 y38_2) ∧
        new 42 #[Value.bool false, Value.int .i64 0, Value.int .i64 0] h2 fun p15 h3 =>
        stoA h3 p15 [Value.bool y38, Value.int .i64 y38_1, Value.int .i64 y38_2] fun h4 =>
        ldI .i64 h4 (p15.add 1) fun x40 =>
        ∃ J_1 : Bool → Prop, (andr (decide (0 ≤ x40)) (fun k =>
          ldI .i64 h4 (p15.add 1) fun x44 =>
          k (decide (x44 < n0))) J_1) ∧ ∀ x47, J_1 x47 →
        ∃ J_2 : Bool → Prop, (andr x47 (fun k_1 =>
          ldI .i64 h4 (p15.add 2) fun x50 =>
          k_1 (decide (0 ≤ x50))) J_2) ∧ ∀ x52, J_2 x52 →
        ldB h4 p15 fun x54 =>
        ifb x54 (
          ∃ J_3 : Bool → Prop, (andr x52 (fun k_2 =>
            ldI .i64 h4 (p15.add 2) fun x58 =>
            k_2 (decide (x58 < width1))) J_3) ∧ ∀ x61, J_3 x61 →
          ldI .i64 h4 (p15.add 1) fun x64 =>
          ldI .i64 h4 (p15.add 2) fun x66 =>
          cal Tryd.prog 13 #[Value.pointer x21, Value.int .i64 x64, Value.int .i64 x66] h4 fun u_3 h5 => asI .i64 u_3 fun x67 =>
          ifb ((x67 == 0) != x61) (
            R (.tuple #[Value.pointer x21, Value.slice (⟨none, 0, 0⟩ : Sv).a (⟨none, 0, 0⟩ : Sv).n (⟨none, 0, 0⟩ : Sv).c, Value.slice (⟨none, 0, 0⟩ : Sv).a (⟨none, 0, 0⟩ : Sv).n (⟨none, 0, 0⟩ : Sv).c, Value.bool false]) h5) (
            ∃ J_4 : Sv → Heap → Prop, (
              ifb x61 (
                ldI .i64 h5 (p15.add 1) fun x75 =>
                ldI .i64 h5 (p15.add 2) fun x77 =>
                newS 43 #[Value.int .i64 x75, Value.int .i64 x77] 1 h5 fun s79 h6 =>
                appS 43 (Value.agg #[Value.int .i64 0, Value.int .i64 0]).cells 2 16 h6 puts13 s79 fun s80 h7 =>
                J_4 s80 h7) (
                J_4 puts13 h5)) ∧ (∀ puts13_1 h8, J_4 puts13_1 h8 →
            J outs12 puts13_1 h8))) (
          ∃ J_5 : Bool → Prop, (andr x52 (fun k_3 =>
            ldI .i64 h4 (p15.add 2) fun x84 =>
            k_3 (decide (x84 < n0))) J_5) ∧ ∀ x87, J_5 x87 →
          ldI .i64 h4 (p15.add 1) fun x90 =>
          ldI .i64 h4 (p15.add 2) fun x92 =>
          cal Tryd.prog 14 #[Value.pointer x21, Value.int .i64 x90, Value.int .i64 x92] h4 fun u_4 h9 => asI .i64 u_4 fun x93 =>
          ifb ((x93 == 0) != x87) (
            R (.tuple #[Value.pointer x21, Value.slice (⟨none, 0, 0⟩ : Sv).a (⟨none, 0, 0⟩ : Sv).n (⟨none, 0, 0⟩ : Sv).c, Value.slice (⟨none, 0, 0⟩ : Sv).a (⟨none, 0, 0⟩ : Sv).n (⟨none, 0, 0⟩ : Sv).c, Value.bool false]) h9) (
            ifb x87 (
              ldI .i64 h9 (p15.add 1) fun x101 =>
              ldI .i64 h9 (p15.add 2) fun x103 =>
              newS 43 #[Value.int .i64 x101, Value.int .i64 x103] 1 h9 fun s105 h10 =>
              appS 43 (Value.agg #[Value.int .i64 0, Value.int .i64 0]).cells 2 16 h10 outs12 s105 fun s106 h11 =>
              J s106 puts13 h11) (
              J outs12 puts13 h9)))) ∧ (∀ outs12_1 puts13_2 h12, J outs12_1 puts13_2 h12 →
      I outs12_1 puts13_2 (IntKind.i64.wrap (i14 + 1)) h12 ∧ m outs12_1 puts13_2 (IntKind.i64.wrap (i14 + 1)) h12 < m outs12 puts13 i14 h2)) (
      R (.tuple #[Value.pointer x21, Value.slice outs12.a outs12.n outs12.c, Value.slice puts13.a puts13.n puts13.c, Value.bool true]) h2))

set_option maxRecDepth 100000 in

theorem F7 {n0 width1 ops2 h : _} {R : Value → Heap → Prop} (H : L7 n0 width1 ops2 h R) : CallsH Tryd.prog 7 #[Value.int .i64 n0, Value.int .i64 width1, Value.slice ops2.a ops2.n ops2.c] h R := by
  refine CallsH.enter (n := 110) Tryd.func7 rfl rfl rfl rfl ?_
  intro w0 aa ww S
  unfold L7 at H
  refine W.seq ?_
  replace S := S.sub [(0, Value.int .i64 n0), (1, Value.int .i64 width1), (2, Value.slice ops2.a ops2.n ops2.c)] ⟨rfl, rfl, rfl, trivial⟩
  refine W.region ?_
  refine OL.pure S (Lf.run_assign (S.ev rfl)) rfl rfl trivial ?_
  clear S; intro aa S
  refine OL.pure S (Lf.run_assign (S.ev rfl)) rfl rfl trivial ?_
  clear S; intro aa S
  refine OL.pure S (Lf.run_assign (S.ev rfl)) rfl rfl trivial ?_
  clear S; intro aa S
  refine OL.pure S (Lf.run_assign (S.ev rfl)) rfl rfl trivial ?_
  clear S; intro aa S
  refine OL.nil ?_
  refine W.seq ?_
  replace S := S.sub [(0, Value.int .i64 n0), (1, Value.int .i64 width1), (2, Value.slice ops2.a ops2.n ops2.c)] ⟨rfl, rfl, rfl, trivial⟩
  refine W.region ?_
  refine OL.pure S (Lf.run_move (S.ev rfl)) rfl rfl trivial ?_
  clear S; intro aa S
  refine OL.pure S (Lf.run_move (S.ev rfl)) rfl rfl trivial ?_
  clear S; intro aa S
  refine ol_cal S H isfn12 rfl rfl trivial ?_
  clear S H aa; intro u aa ww h1 H S
  obtain ⟨r20, rfl, H⟩ := H
  refine OL.pure S (Lf.run_move (S.ev rfl)) rfl rfl trivial ?_
  clear S; intro aa S
  obtain ⟨u_1, e, x21, rfl, H⟩ := H
  refine OL.pure S (Lf.run_ex (S.ev rfl) e) rfl rfl trivial ?_
  clear S; intro aa S
  obtain ⟨u_2, e_1, x22, rfl, H⟩ := H
  refine OL.pure S (Lf.run_ex (S.ev rfl) e_1) rfl rfl trivial ?_
  clear S; intro aa S
  refine OL.pure S (Lf.run_assign (S.ev rfl)) rfl rfl trivial ?_
  clear S; intro aa S
  refine OL.pure S (Lf.run_assign (S.ev rfl)) rfl rfl trivial ?_
  clear S; intro aa S
  refine OL.nil ?_
  refine W.seq ?_
  refine W.seq ?_
  replace S := S.sub [(0, Value.int .i64 n0), (1, Value.int .i64 width1), (2, Value.slice ops2.a ops2.n ops2.c), (10, Value.pointer x21), (11, Value.int .i64 x22)] ⟨rfl, rfl, rfl, rfl, rfl, trivial⟩
  refine W.region ?_
  refine OL.pure S (Lf.run_move (S.ev rfl)) rfl rfl trivial ?_
  clear S; intro aa S
  refine OL.pure S (Lf.run_neq (S.ev rfl) (S.ev rfl)) rfl rfl trivial ?_
  clear S; intro aa S
  refine OL.pure S (Lf.run_move (S.ev rfl)) rfl rfl trivial ?_
  clear S; intro aa S
  refine OL.cutN 3 (fun aa ww => St 110 ((28, Value.bool ((x22 != 0) || (Option.isNone x21))) :: [(0, Value.int .i64 n0), (1, Value.int .i64 width1), (2, Value.slice ops2.a ops2.n ops2.c), (10, Value.pointer x21), (11, Value.int .i64 x22), (23, Value.int .i64 x22), (24, Value.bool (x22 != 0)), (25, Value.bool (x22 != 0))]) h1 w0 aa ww) ?_ ?_
  · rcases Bool.eq_false_or_eq_true (x22 != 0) with hb | hb
    · refine OL.not S rfl rfl (GNo.mk rfl rfl hb) ?_
      clear S; intro aa S
      refine OL.not S rfl rfl (GNo.mk rfl rfl hb) ?_
      clear S; intro aa S
      refine OL.pure S (Lf.run_pickT (S.ev rfl) hb (S.ev rfl)) rfl rfl trivial ?_
      clear S; intro aa S
      refine OL.nil ?_
      exact (S.hd (by rw [hb, Bool.true_or])).sub _ ⟨rfl, rfl, rfl, rfl, rfl, rfl, rfl, rfl, rfl, trivial⟩
    · refine OL.pure S (Lf.run_move (S.ev rfl)) rfl rfl (GOk.mk rfl rfl hb) ?_
      clear S; intro aa S
      refine OL.pure S (Lf.run_eqlpn Tryd.underlying25 (S.ev rfl) (S.ev rfl)) rfl rfl (GOk.mk rfl rfl hb) ?_
      clear S; intro aa S
      refine OL.pure S (Lf.run_pickF (S.ev rfl) hb (S.ev rfl)) rfl rfl trivial ?_
      clear S; intro aa S
      refine OL.nil ?_
      exact (S.hd (by rw [hb, Bool.false_or])).sub _ ⟨rfl, rfl, rfl, rfl, rfl, rfl, rfl, rfl, rfl, trivial⟩
  · clear S aa
    intro aa ww S
    refine OL.nil ?_
    refine W.cond S (b := ((x22 != 0) || (Option.isNone x21))) rfl (fun hb_1 => ?_) (fun hb_1 => ?_)
    · replace H := H.1 hb_1
      refine W.seq ?_
      replace S := S.sub [] trivial
      refine W.region ?_
      refine OL.pure S (Lf.run_assign (S.ev rfl)) rfl rfl trivial ?_
      clear S; intro aa S
      refine OL.pure S (Lf.run_assign (S.ev rfl)) rfl rfl trivial ?_
      clear S; intro aa S
      refine OL.pure S (Lf.run_assign (S.ev rfl)) rfl rfl trivial ?_
      clear S; intro aa S
      refine OL.pure S (Lf.run_assign (S.ev rfl)) rfl rfl trivial ?_
      clear S; intro aa S
      refine OL.nil ?_
      refine W.ret ?_
      exact Ret.four S rfl rfl rfl rfl rfl H
    · replace H := H.2 hb_1
      refine W.skip ?_
      refine W.seq ?_
      replace S := S.sub [(0, Value.int .i64 n0), (1, Value.int .i64 width1), (2, Value.slice ops2.a ops2.n ops2.c), (10, Value.pointer x21)] ⟨rfl, rfl, rfl, rfl, trivial⟩
      refine W.region ?_
      refine OL.pure S (Lf.run_assign (S.ev rfl)) rfl rfl trivial ?_
      clear S; intro aa S
      refine OL.pure S (Lf.run_assign (S.ev rfl)) rfl rfl trivial ?_
      clear S; intro aa S
      refine OL.nil ?_
      refine W.seq ?_
      refine W.seq ?_
      replace S := S.sub [(0, Value.int .i64 n0), (1, Value.int .i64 width1), (2, Value.slice ops2.a ops2.n ops2.c), (10, Value.pointer x21), (12, Value.slice (⟨none, 0, 0⟩ : Sv).a (⟨none, 0, 0⟩ : Sv).n (⟨none, 0, 0⟩ : Sv).c), (13, Value.slice (⟨none, 0, 0⟩ : Sv).a (⟨none, 0, 0⟩ : Sv).n (⟨none, 0, 0⟩ : Sv).c)] ⟨rfl, rfl, rfl, rfl, rfl, rfl, trivial⟩
      refine W.region ?_
      refine OL.pure S (Lf.run_assign (S.ev rfl)) rfl rfl trivial ?_
      clear S; intro aa S
      refine OL.nil ?_
      refine W.block ?_
      obtain ⟨I, m, H, HB⟩ := H
      refine W.loopS (σ := Sv × Sv × Int × Heap) (fun s aa ww => St 110 [(0, Value.int .i64 n0), (1, Value.int .i64 width1), (2, Value.slice ops2.a ops2.n ops2.c), (10, Value.pointer x21), (12, Value.slice s.1.a s.1.n s.1.c), (13, Value.slice s.2.1.a s.2.1.n s.2.1.c), (14, Value.int .i64 s.2.2.1)] s.2.2.2 w0 aa ww ∧ I s.1 s.2.1 s.2.2.1 s.2.2.2) (fun s => m s.1 s.2.1 s.2.2.1 s.2.2.2) ((⟨none, 0, 0⟩ : Sv), (⟨none, 0, 0⟩ : Sv), 0, h1) ⟨S.sub _ ⟨rfl, rfl, rfl, rfl, rfl, rfl, rfl, trivial⟩, H⟩ ?_
      clear H S aa
      rintro ⟨outs12, puts13, i14, h2⟩ aa ww ⟨S, HI⟩
      replace S : St 110 [(0, Value.int .i64 n0), (1, Value.int .i64 width1), (2, Value.slice ops2.a ops2.n ops2.c), (10, Value.pointer x21), (12, Value.slice outs12.a outs12.n outs12.c), (13, Value.slice puts13.a puts13.n puts13.c), (14, Value.int .i64 i14)] h2 w0 aa ww := S
      have H := HB outs12 puts13 i14 h2 HI
      clear HI
      refine W.seq ?_
      refine W.seq ?_
      replace S := S.sub [(0, Value.int .i64 n0), (1, Value.int .i64 width1), (2, Value.slice ops2.a ops2.n ops2.c), (10, Value.pointer x21), (12, Value.slice outs12.a outs12.n outs12.c), (13, Value.slice puts13.a puts13.n puts13.c), (14, Value.int .i64 i14)] ⟨rfl, rfl, rfl, rfl, rfl, rfl, rfl, trivial⟩
      refine W.region ?_
      refine OL.pure S (Lf.run_move (S.ev rfl)) rfl rfl trivial ?_
      clear S; intro aa S
      refine OL.pure S (Lf.run_move (S.ev rfl)) rfl rfl trivial ?_
      clear S; intro aa S
      refine OL.pure S (Lf.run_lens (S.ev rfl) rfl Tryd.underlying22) rfl rfl trivial ?_
      clear S; intro aa S
      refine OL.pure S (Lf.run_lss (S.ev rfl) (S.ev rfl)) rfl rfl trivial ?_
      clear S; intro aa S
      refine OL.nil ?_
      refine W.cond S (b := (decide (i14 < ((ops2.n : Nat) : Int)))) rfl (fun hb_2 => ?_) (fun hb_2 => ?_)
      · replace H := H.1 hb_2
        refine W.skip ?_
        obtain ⟨J, H, HK⟩ := H
        refine W.seqJ (fun aa ww => ∃ outs12_1 puts13_2 h12, St 110 [(0, Value.int .i64 n0), (1, Value.int .i64 width1), (2, Value.slice ops2.a ops2.n ops2.c), (10, Value.pointer x21), (12, Value.slice outs12_1.a outs12_1.n outs12_1.c), (13, Value.slice puts13_2.a puts13_2.n puts13_2.c), (14, Value.int .i64 i14)] h12 w0 aa ww ∧ J outs12_1 puts13_2 h12) ?_ ?_
        · clear HK
          refine W.block ?_
          refine W.seq ?_
          replace S := S.sub [(0, Value.int .i64 n0), (1, Value.int .i64 width1), (2, Value.slice ops2.a ops2.n ops2.c), (10, Value.pointer x21), (12, Value.slice outs12.a outs12.n outs12.c), (13, Value.slice puts13.a puts13.n puts13.c), (14, Value.int .i64 i14)] ⟨rfl, rfl, rfl, rfl, rfl, rfl, rfl, trivial⟩
          refine W.region ?_
          refine OL.pure S (Lf.run_move (S.ev rfl)) rfl rfl trivial ?_
          clear S; intro aa S
          refine OL.pure S (Lf.run_move (S.ev rfl)) rfl rfl trivial ?_
          clear S; intro aa S
          obtain ⟨q37, e_2, e_3, e_4, H⟩ := H
          refine OL.pure S (Lf.run_ixs (S.ev rfl) (S.ev rfl) Tryd.underlying22 ti42 e_2 e_3 e_4) rfl rfl trivial ?_
          clear S; intro aa S
          obtain ⟨y38, y38_1, y38_2, c_15, c_16, c_17, H⟩ := H
          refine OL.pure S (Lf.run_ldA (cs := [Value.bool y38, Value.int .i64 y38_1, Value.int .i64 y38_2]) (S.ev rfl) ag42 ti42 (by rw [S.heap]; exact RowL.toRow ⟨c_15, c_16, c_17, trivial⟩)) rfl rfl trivial ?_
          clear S; intro aa S
          refine ol_alloc S H ti42 rfl rfl trivial ?_
          clear S H aa; intro p15 aa ww h3 H S
          refine ol_stoA S H rfl rfl ti42 trivial ?_
          clear S H aa; intro aa ww h4 H S
          refine OL.nil ?_
          refine W.seq ?_
          replace S := S.sub [(0, Value.int .i64 n0), (1, Value.int .i64 width1), (2, Value.slice ops2.a ops2.n ops2.c), (10, Value.pointer x21), (12, Value.slice outs12.a outs12.n outs12.c), (13, Value.slice puts13.a puts13.n puts13.c), (14, Value.int .i64 i14), (15, Value.pointer (some p15))] ⟨rfl, rfl, rfl, rfl, rfl, rfl, rfl, rfl, trivial⟩
          refine W.region ?_
          refine OL.pure S (Lf.run_fa (S.ev rfl) fa42_1) rfl rfl trivial ?_
          clear S; intro aa S
          obtain ⟨x40, c_1, H⟩ := H
          refine OL.pure S (Lf.run_ld (S.ev rfl) fl3 (S.cl c_1)) rfl rfl trivial ?_
          clear S; intro aa S
          refine OL.pure S (Lf.run_geq (S.ev rfl) (S.ev rfl)) rfl rfl trivial ?_
          clear S; intro aa S
          refine OL.pure S (Lf.run_move (S.ev rfl)) rfl rfl trivial ?_
          clear S; intro aa S
          obtain ⟨J_1, H, HK_1⟩ := H
          refine OL.cutN 5 (fun aa ww => ∃ x47, St 110 ((47, Value.bool x47) :: [(0, Value.int .i64 n0), (1, Value.int .i64 width1), (2, Value.slice ops2.a ops2.n ops2.c), (10, Value.pointer x21), (12, Value.slice outs12.a outs12.n outs12.c), (13, Value.slice puts13.a puts13.n puts13.c), (14, Value.int .i64 i14), (15, Value.pointer (some p15)), (39, Value.pointer (some (p15.add 1))), (40, Value.int .i64 x40), (41, Value.bool (decide (0 ≤ x40))), (42, Value.bool (decide (0 ≤ x40)))]) h4 w0 aa ww ∧ J_1 x47) ?_ ?_
          · rcases Bool.eq_false_or_eq_true (decide (0 ≤ x40)) with hb_3 | hb_3
            · replace H := H.1 hb_3
              refine OL.pure S (Lf.run_fa (S.ev rfl) fa42_1) rfl rfl (GOk.mk rfl rfl hb_3) ?_
              clear S; intro aa S
              obtain ⟨x44, c_2, H⟩ := H
              refine OL.pure S (Lf.run_ld (S.ev rfl) fl3 (S.cl c_2)) rfl rfl (GOk.mk rfl rfl hb_3) ?_
              clear S; intro aa S
              refine OL.pure S (Lf.run_move (S.ev rfl)) rfl rfl (GOk.mk rfl rfl hb_3) ?_
              clear S; intro aa S
              refine OL.pure S (Lf.run_lss (S.ev rfl) (S.ev rfl)) rfl rfl (GOk.mk rfl rfl hb_3) ?_
              clear S; intro aa S
              refine OL.pure S (Lf.run_pickT (S.ev rfl) hb_3 (S.ev rfl)) rfl rfl trivial ?_
              clear S; intro aa S
              refine OL.nil ?_
              exact ⟨_, S.sub _ ⟨rfl, rfl, rfl, rfl, rfl, rfl, rfl, rfl, rfl, rfl, rfl, rfl, rfl, trivial⟩, H⟩
            · replace H := H.2 hb_3
              refine OL.not S rfl rfl (GNo.mk rfl rfl hb_3) ?_
              clear S; intro aa S
              refine OL.not S rfl rfl (GNo.mk rfl rfl hb_3) ?_
              clear S; intro aa S
              refine OL.not S rfl rfl (GNo.mk rfl rfl hb_3) ?_
              clear S; intro aa S
              refine OL.not S rfl rfl (GNo.mk rfl rfl hb_3) ?_
              clear S; intro aa S
              refine OL.pure S (Lf.run_pickF (S.ev rfl) hb_3 (S.ev rfl)) rfl rfl trivial ?_
              clear S; intro aa S
              refine OL.nil ?_
              exact ⟨_, S.sub _ ⟨rfl, rfl, rfl, rfl, rfl, rfl, rfl, rfl, rfl, rfl, rfl, rfl, rfl, trivial⟩, H⟩
          · clear S aa
            rintro aa ww ⟨x47, S, HJ⟩
            replace H := HK_1 _ HJ
            clear HK_1 HJ
            refine OL.pure S (Lf.run_move (S.ev rfl)) rfl rfl trivial ?_
            clear S; intro aa S
            obtain ⟨J_2, H, HK_2⟩ := H
            refine OL.cutN 4 (fun aa ww => ∃ x52, St 110 ((52, Value.bool x52) :: [(0, Value.int .i64 n0), (1, Value.int .i64 width1), (2, Value.slice ops2.a ops2.n ops2.c), (10, Value.pointer x21), (12, Value.slice outs12.a outs12.n outs12.c), (13, Value.slice puts13.a puts13.n puts13.c), (14, Value.int .i64 i14), (15, Value.pointer (some p15)), (39, Value.pointer (some (p15.add 1))), (40, Value.int .i64 x40), (41, Value.bool (decide (0 ≤ x40))), (42, Value.bool (decide (0 ≤ x40))), (47, Value.bool x47), (48, Value.bool x47)]) h4 w0 aa ww ∧ J_2 x52) ?_ ?_
            · rcases Bool.eq_false_or_eq_true x47 with hb_4 | hb_4
              · replace H := H.1 hb_4
                refine OL.pure S (Lf.run_fa (S.ev rfl) fa42_2) rfl rfl (GOk.mk rfl rfl hb_4) ?_
                clear S; intro aa S
                obtain ⟨x50, c_3, H⟩ := H
                refine OL.pure S (Lf.run_ld (S.ev rfl) fl3 (S.cl c_3)) rfl rfl (GOk.mk rfl rfl hb_4) ?_
                clear S; intro aa S
                refine OL.pure S (Lf.run_geq (S.ev rfl) (S.ev rfl)) rfl rfl (GOk.mk rfl rfl hb_4) ?_
                clear S; intro aa S
                refine OL.pure S (Lf.run_pickT (S.ev rfl) hb_4 (S.ev rfl)) rfl rfl trivial ?_
                clear S; intro aa S
                refine OL.nil ?_
                exact ⟨_, S.sub _ ⟨rfl, rfl, rfl, rfl, rfl, rfl, rfl, rfl, rfl, rfl, rfl, rfl, rfl, rfl, rfl, trivial⟩, H⟩
              · replace H := H.2 hb_4
                refine OL.not S rfl rfl (GNo.mk rfl rfl hb_4) ?_
                clear S; intro aa S
                refine OL.not S rfl rfl (GNo.mk rfl rfl hb_4) ?_
                clear S; intro aa S
                refine OL.not S rfl rfl (GNo.mk rfl rfl hb_4) ?_
                clear S; intro aa S
                refine OL.pure S (Lf.run_pickF (S.ev rfl) hb_4 (S.ev rfl)) rfl rfl trivial ?_
                clear S; intro aa S
                refine OL.nil ?_
                exact ⟨_, S.sub _ ⟨rfl, rfl, rfl, rfl, rfl, rfl, rfl, rfl, rfl, rfl, rfl, rfl, rfl, rfl, rfl, trivial⟩, H⟩
            · clear S aa
              rintro aa ww ⟨x52, S, HJ⟩
              replace H := HK_2 _ HJ
              clear HK_2 HJ
              refine OL.pure S (Lf.run_assign (S.ev rfl)) rfl rfl trivial ?_
              clear S; intro aa S
              refine OL.nil ?_
              refine W.seq ?_
              refine W.seq ?_
              replace S := S.sub [(0, Value.int .i64 n0), (1, Value.int .i64 width1), (2, Value.slice ops2.a ops2.n ops2.c), (10, Value.pointer x21), (12, Value.slice outs12.a outs12.n outs12.c), (13, Value.slice puts13.a puts13.n puts13.c), (14, Value.int .i64 i14), (15, Value.pointer (some p15)), (16, Value.bool x52)] ⟨rfl, rfl, rfl, rfl, rfl, rfl, rfl, rfl, rfl, trivial⟩
              refine W.region ?_
              refine OL.pure S (Lf.run_fa (S.ev rfl) fa42_0) rfl rfl trivial ?_
              clear S; intro aa S
              obtain ⟨x54, c_4, H⟩ := H
              refine OL.pure S (Lf.run_ld (S.ev rfl) fl4 (S.cl c_4)) rfl rfl trivial ?_
              clear S; intro aa S
              refine OL.nil ?_
              refine W.cond S (b := x54) rfl (fun hb_5 => ?_) (fun hb_5 => ?_)
              · replace H := H.1 hb_5
                refine W.seq ?_
                replace S := S.sub [(0, Value.int .i64 n0), (1, Value.int .i64 width1), (2, Value.slice ops2.a ops2.n ops2.c), (10, Value.pointer x21), (12, Value.slice outs12.a outs12.n outs12.c), (13, Value.slice puts13.a puts13.n puts13.c), (14, Value.int .i64 i14), (15, Value.pointer (some p15)), (16, Value.bool x52)] ⟨rfl, rfl, rfl, rfl, rfl, rfl, rfl, rfl, rfl, trivial⟩
                refine W.region ?_
                refine OL.pure S (Lf.run_move (S.ev rfl)) rfl rfl trivial ?_
                clear S; intro aa S
                refine OL.pure S (Lf.run_move (S.ev rfl)) rfl rfl trivial ?_
                clear S; intro aa S
                obtain ⟨J_3, H, HK_3⟩ := H
                refine OL.cutN 5 (fun aa ww => ∃ x61, St 110 ((61, Value.bool x61) :: [(0, Value.int .i64 n0), (1, Value.int .i64 width1), (2, Value.slice ops2.a ops2.n ops2.c), (10, Value.pointer x21), (12, Value.slice outs12.a outs12.n outs12.c), (13, Value.slice puts13.a puts13.n puts13.c), (14, Value.int .i64 i14), (15, Value.pointer (some p15)), (16, Value.bool x52), (55, Value.bool x52), (56, Value.bool x52)]) h4 w0 aa ww ∧ J_3 x61) ?_ ?_
                · rcases Bool.eq_false_or_eq_true x52 with hb_6 | hb_6
                  · replace H := H.1 hb_6
                    refine OL.pure S (Lf.run_fa (S.ev rfl) fa42_2) rfl rfl (GOk.mk rfl rfl hb_6) ?_
                    clear S; intro aa S
                    obtain ⟨x58, c_5, H⟩ := H
                    refine OL.pure S (Lf.run_ld (S.ev rfl) fl3 (S.cl c_5)) rfl rfl (GOk.mk rfl rfl hb_6) ?_
                    clear S; intro aa S
                    refine OL.pure S (Lf.run_move (S.ev rfl)) rfl rfl (GOk.mk rfl rfl hb_6) ?_
                    clear S; intro aa S
                    refine OL.pure S (Lf.run_lss (S.ev rfl) (S.ev rfl)) rfl rfl (GOk.mk rfl rfl hb_6) ?_
                    clear S; intro aa S
                    refine OL.pure S (Lf.run_pickT (S.ev rfl) hb_6 (S.ev rfl)) rfl rfl trivial ?_
                    clear S; intro aa S
                    refine OL.nil ?_
                    exact ⟨_, S.sub _ ⟨rfl, rfl, rfl, rfl, rfl, rfl, rfl, rfl, rfl, rfl, rfl, rfl, trivial⟩, H⟩
                  · replace H := H.2 hb_6
                    refine OL.not S rfl rfl (GNo.mk rfl rfl hb_6) ?_
                    clear S; intro aa S
                    refine OL.not S rfl rfl (GNo.mk rfl rfl hb_6) ?_
                    clear S; intro aa S
                    refine OL.not S rfl rfl (GNo.mk rfl rfl hb_6) ?_
                    clear S; intro aa S
                    refine OL.not S rfl rfl (GNo.mk rfl rfl hb_6) ?_
                    clear S; intro aa S
                    refine OL.pure S (Lf.run_pickF (S.ev rfl) hb_6 (S.ev rfl)) rfl rfl trivial ?_
                    clear S; intro aa S
                    refine OL.nil ?_
                    exact ⟨_, S.sub _ ⟨rfl, rfl, rfl, rfl, rfl, rfl, rfl, rfl, rfl, rfl, rfl, rfl, trivial⟩, H⟩
                · clear S aa
                  rintro aa ww ⟨x61, S, HJ⟩
                  replace H := HK_3 _ HJ
                  clear HK_3 HJ
                  refine OL.pure S (Lf.run_assign (S.ev rfl)) rfl rfl trivial ?_
                  clear S; intro aa S
                  refine OL.nil ?_
                  refine W.seq ?_
                  refine W.seq ?_
                  replace S := S.sub [(0, Value.int .i64 n0), (1, Value.int .i64 width1), (2, Value.slice ops2.a ops2.n ops2.c), (10, Value.pointer x21), (12, Value.slice outs12.a outs12.n outs12.c), (13, Value.slice puts13.a puts13.n puts13.c), (14, Value.int .i64 i14), (15, Value.pointer (some p15)), (16, Value.bool x61)] ⟨rfl, rfl, rfl, rfl, rfl, rfl, rfl, rfl, rfl, trivial⟩
                  refine W.region ?_
                  refine OL.pure S (Lf.run_move (S.ev rfl)) rfl rfl trivial ?_
                  clear S; intro aa S
                  refine OL.pure S (Lf.run_fa (S.ev rfl) fa42_1) rfl rfl trivial ?_
                  clear S; intro aa S
                  obtain ⟨x64, c_6, H⟩ := H
                  refine OL.pure S (Lf.run_ld (S.ev rfl) fl3 (S.cl c_6)) rfl rfl trivial ?_
                  clear S; intro aa S
                  refine OL.pure S (Lf.run_fa (S.ev rfl) fa42_2) rfl rfl trivial ?_
                  clear S; intro aa S
                  obtain ⟨x66, c_7, H⟩ := H
                  refine OL.pure S (Lf.run_ld (S.ev rfl) fl3 (S.cl c_7)) rfl rfl trivial ?_
                  clear S; intro aa S
                  refine ol_cal S H isfn13 rfl rfl trivial ?_
                  clear S H aa; intro u_3 aa ww h5 H S
                  obtain ⟨x67, rfl, H⟩ := H
                  refine OL.pure S (Lf.run_eql (S.ev rfl) (S.ev rfl)) rfl rfl trivial ?_
                  clear S; intro aa S
                  refine OL.pure S (Lf.run_move (S.ev rfl)) rfl rfl trivial ?_
                  clear S; intro aa S
                  refine OL.pure S (Lf.run_neqb Tryd.underlying4 (S.ev rfl) (S.ev rfl)) rfl rfl trivial ?_
                  clear S; intro aa S
                  refine OL.nil ?_
                  refine W.cond S (b := ((x67 == 0) != x61)) rfl (fun hb_7 => ?_) (fun hb_7 => ?_)
                  · replace H := H.1 hb_7
                    refine W.seq ?_
                    replace S := S.sub [(10, Value.pointer x21)] ⟨rfl, trivial⟩
                    refine W.region ?_
                    refine OL.pure S (Lf.run_move (S.ev rfl)) rfl rfl trivial ?_
                    clear S; intro aa S
                    refine OL.pure S (Lf.run_assign (S.ev rfl)) rfl rfl trivial ?_
                    clear S; intro aa S
                    refine OL.pure S (Lf.run_assign (S.ev rfl)) rfl rfl trivial ?_
                    clear S; intro aa S
                    refine OL.pure S (Lf.run_assign (S.ev rfl)) rfl rfl trivial ?_
                    clear S; intro aa S
                    refine OL.pure S (Lf.run_assign (S.ev rfl)) rfl rfl trivial ?_
                    clear S; intro aa S
                    refine OL.nil ?_
                    refine W.ret ?_
                    exact Ret.four S rfl rfl rfl rfl rfl H
                  · replace H := H.2 hb_7
                    refine W.skip ?_
                    obtain ⟨J_4, H, HK_4⟩ := H
                    refine W.seqJ (fun aa ww => ∃ puts13_1 h8, St 110 [(0, Value.int .i64 n0), (1, Value.int .i64 width1), (2, Value.slice ops2.a ops2.n ops2.c), (10, Value.pointer x21), (12, Value.slice outs12.a outs12.n outs12.c), (13, Value.slice puts13_1.a puts13_1.n puts13_1.c), (14, Value.int .i64 i14)] h8 w0 aa ww ∧ J_4 puts13_1 h8) ?_ ?_
                    · clear HK_4
                      refine W.seq ?_
                      replace S := S.sub [(0, Value.int .i64 n0), (1, Value.int .i64 width1), (2, Value.slice ops2.a ops2.n ops2.c), (10, Value.pointer x21), (12, Value.slice outs12.a outs12.n outs12.c), (13, Value.slice puts13.a puts13.n puts13.c), (14, Value.int .i64 i14), (15, Value.pointer (some p15)), (16, Value.bool x61)] ⟨rfl, rfl, rfl, rfl, rfl, rfl, rfl, rfl, rfl, trivial⟩
                      refine W.region ?_
                      refine OL.pure S (Lf.run_move (S.ev rfl)) rfl rfl trivial ?_
                      clear S; intro aa S
                      refine OL.nil ?_
                      refine W.cond S (b := x61) rfl (fun hb_8 => ?_) (fun hb_8 => ?_)
                      · replace H := H.1 hb_8
                        replace S := S.sub [(0, Value.int .i64 n0), (1, Value.int .i64 width1), (2, Value.slice ops2.a ops2.n ops2.c), (10, Value.pointer x21), (12, Value.slice outs12.a outs12.n outs12.c), (13, Value.slice puts13.a puts13.n puts13.c), (14, Value.int .i64 i14), (15, Value.pointer (some p15))] ⟨rfl, rfl, rfl, rfl, rfl, rfl, rfl, rfl, trivial⟩
                        refine W.region ?_
                        refine OL.pure S (Lf.run_move (S.ev rfl)) rfl rfl trivial ?_
                        clear S; intro aa S
                        refine OL.pure S (Lf.run_fa (S.ev rfl) fa42_1) rfl rfl trivial ?_
                        clear S; intro aa S
                        obtain ⟨x75, c_8, H⟩ := H
                        refine OL.pure S (Lf.run_ld (S.ev rfl) fl3 (S.cl c_8)) rfl rfl trivial ?_
                        clear S; intro aa S
                        refine OL.pure S (Lf.run_fa (S.ev rfl) fa42_2) rfl rfl trivial ?_
                        clear S; intro aa S
                        obtain ⟨x77, c_9, H⟩ := H
                        refine OL.pure S (Lf.run_ld (S.ev rfl) fl3 (S.cl c_9)) rfl rfl trivial ?_
                        clear S; intro aa S
                        refine OL.pure S (Lf.run_buildArr (cs := #[Value.int .i64 x75, Value.int .i64 x77]) Tryd.underlying43 ti3 ti43 (parts_map S rfl) (by kernel_rfl)) rfl rfl trivial ?_
                        clear S; intro aa S
                        refine ol_newS S H Tryd.underlying26 ti43 (by decide) (parts_map S rfl) (by kernel_rfl) (by decide) rfl trivial ?_
                        clear S H aa; intro s79 aa ww h6 H S
                        refine ol_appS S H Tryd.underlying26 ti43 rfl rfl rfl trivial ?_
                        clear S H aa; intro s80 aa ww h7 H S
                        refine OL.pure S (Lf.run_assign (S.ev rfl)) rfl rfl trivial ?_
                        clear S; intro aa S
                        refine OL.nil ?_
                        exact ⟨s80, h7, S.sub _ ⟨rfl, rfl, rfl, rfl, rfl, rfl, rfl, trivial⟩, H⟩
                      · replace H := H.2 hb_8
                        refine W.skip ?_
                        exact ⟨puts13, h5, S.sub _ ⟨rfl, rfl, rfl, rfl, rfl, rfl, rfl, trivial⟩, H⟩
                    · clear H S aa
                      rintro aa ww ⟨puts13_1, h8, S, HJ⟩
                      have H := HK_4 _ _ HJ
                      clear HK_4 HJ
                      refine W.exit_ ?_
                      refine xhit ?_
                      exact ⟨outs12, puts13_1, h8, S.sub _ ⟨rfl, rfl, rfl, rfl, rfl, rfl, rfl, trivial⟩, H⟩
              · replace H := H.2 hb_5
                refine W.skip ?_
                refine W.seq ?_
                replace S := S.sub [(0, Value.int .i64 n0), (1, Value.int .i64 width1), (2, Value.slice ops2.a ops2.n ops2.c), (10, Value.pointer x21), (12, Value.slice outs12.a outs12.n outs12.c), (13, Value.slice puts13.a puts13.n puts13.c), (14, Value.int .i64 i14), (15, Value.pointer (some p15)), (16, Value.bool x52)] ⟨rfl, rfl, rfl, rfl, rfl, rfl, rfl, rfl, rfl, trivial⟩
                refine W.region ?_
                refine OL.pure S (Lf.run_move (S.ev rfl)) rfl rfl trivial ?_
                clear S; intro aa S
                refine OL.pure S (Lf.run_move (S.ev rfl)) rfl rfl trivial ?_
                clear S; intro aa S
                obtain ⟨J_5, H, HK_5⟩ := H
                refine OL.cutN 5 (fun aa ww => ∃ x87, St 110 ((87, Value.bool x87) :: [(0, Value.int .i64 n0), (1, Value.int .i64 width1), (2, Value.slice ops2.a ops2.n ops2.c), (10, Value.pointer x21), (12, Value.slice outs12.a outs12.n outs12.c), (13, Value.slice puts13.a puts13.n puts13.c), (14, Value.int .i64 i14), (15, Value.pointer (some p15)), (16, Value.bool x52), (81, Value.bool x52), (82, Value.bool x52)]) h4 w0 aa ww ∧ J_5 x87) ?_ ?_
                · rcases Bool.eq_false_or_eq_true x52 with hb_9 | hb_9
                  · replace H := H.1 hb_9
                    refine OL.pure S (Lf.run_fa (S.ev rfl) fa42_2) rfl rfl (GOk.mk rfl rfl hb_9) ?_
                    clear S; intro aa S
                    obtain ⟨x84, c_10, H⟩ := H
                    refine OL.pure S (Lf.run_ld (S.ev rfl) fl3 (S.cl c_10)) rfl rfl (GOk.mk rfl rfl hb_9) ?_
                    clear S; intro aa S
                    refine OL.pure S (Lf.run_move (S.ev rfl)) rfl rfl (GOk.mk rfl rfl hb_9) ?_
                    clear S; intro aa S
                    refine OL.pure S (Lf.run_lss (S.ev rfl) (S.ev rfl)) rfl rfl (GOk.mk rfl rfl hb_9) ?_
                    clear S; intro aa S
                    refine OL.pure S (Lf.run_pickT (S.ev rfl) hb_9 (S.ev rfl)) rfl rfl trivial ?_
                    clear S; intro aa S
                    refine OL.nil ?_
                    exact ⟨_, S.sub _ ⟨rfl, rfl, rfl, rfl, rfl, rfl, rfl, rfl, rfl, rfl, rfl, rfl, trivial⟩, H⟩
                  · replace H := H.2 hb_9
                    refine OL.not S rfl rfl (GNo.mk rfl rfl hb_9) ?_
                    clear S; intro aa S
                    refine OL.not S rfl rfl (GNo.mk rfl rfl hb_9) ?_
                    clear S; intro aa S
                    refine OL.not S rfl rfl (GNo.mk rfl rfl hb_9) ?_
                    clear S; intro aa S
                    refine OL.not S rfl rfl (GNo.mk rfl rfl hb_9) ?_
                    clear S; intro aa S
                    refine OL.pure S (Lf.run_pickF (S.ev rfl) hb_9 (S.ev rfl)) rfl rfl trivial ?_
                    clear S; intro aa S
                    refine OL.nil ?_
                    exact ⟨_, S.sub _ ⟨rfl, rfl, rfl, rfl, rfl, rfl, rfl, rfl, rfl, rfl, rfl, rfl, trivial⟩, H⟩
                · clear S aa
                  rintro aa ww ⟨x87, S, HJ⟩
                  replace H := HK_5 _ HJ
                  clear HK_5 HJ
                  refine OL.pure S (Lf.run_assign (S.ev rfl)) rfl rfl trivial ?_
                  clear S; intro aa S
                  refine OL.nil ?_
                  refine W.seq ?_
                  refine W.seq ?_
                  replace S := S.sub [(0, Value.int .i64 n0), (1, Value.int .i64 width1), (2, Value.slice ops2.a ops2.n ops2.c), (10, Value.pointer x21), (12, Value.slice outs12.a outs12.n outs12.c), (13, Value.slice puts13.a puts13.n puts13.c), (14, Value.int .i64 i14), (15, Value.pointer (some p15)), (16, Value.bool x87)] ⟨rfl, rfl, rfl, rfl, rfl, rfl, rfl, rfl, rfl, trivial⟩
                  refine W.region ?_
                  refine OL.pure S (Lf.run_move (S.ev rfl)) rfl rfl trivial ?_
                  clear S; intro aa S
                  refine OL.pure S (Lf.run_fa (S.ev rfl) fa42_1) rfl rfl trivial ?_
                  clear S; intro aa S
                  obtain ⟨x90, c_11, H⟩ := H
                  refine OL.pure S (Lf.run_ld (S.ev rfl) fl3 (S.cl c_11)) rfl rfl trivial ?_
                  clear S; intro aa S
                  refine OL.pure S (Lf.run_fa (S.ev rfl) fa42_2) rfl rfl trivial ?_
                  clear S; intro aa S
                  obtain ⟨x92, c_12, H⟩ := H
                  refine OL.pure S (Lf.run_ld (S.ev rfl) fl3 (S.cl c_12)) rfl rfl trivial ?_
                  clear S; intro aa S
                  refine ol_cal S H isfn14 rfl rfl trivial ?_
                  clear S H aa; intro u_4 aa ww h9 H S
                  obtain ⟨x93, rfl, H⟩ := H
                  refine OL.pure S (Lf.run_eql (S.ev rfl) (S.ev rfl)) rfl rfl trivial ?_
                  clear S; intro aa S
                  refine OL.pure S (Lf.run_move (S.ev rfl)) rfl rfl trivial ?_
                  clear S; intro aa S
                  refine OL.pure S (Lf.run_neqb Tryd.underlying4 (S.ev rfl) (S.ev rfl)) rfl rfl trivial ?_
                  clear S; intro aa S
                  refine OL.nil ?_
                  refine W.cond S (b := ((x93 == 0) != x87)) rfl (fun hb_10 => ?_) (fun hb_10 => ?_)
                  · replace H := H.1 hb_10
                    refine W.seq ?_
                    replace S := S.sub [(10, Value.pointer x21)] ⟨rfl, trivial⟩
                    refine W.region ?_
                    refine OL.pure S (Lf.run_move (S.ev rfl)) rfl rfl trivial ?_
                    clear S; intro aa S
                    refine OL.pure S (Lf.run_assign (S.ev rfl)) rfl rfl trivial ?_
                    clear S; intro aa S
                    refine OL.pure S (Lf.run_assign (S.ev rfl)) rfl rfl trivial ?_
                    clear S; intro aa S
                    refine OL.pure S (Lf.run_assign (S.ev rfl)) rfl rfl trivial ?_
                    clear S; intro aa S
                    refine OL.pure S (Lf.run_assign (S.ev rfl)) rfl rfl trivial ?_
                    clear S; intro aa S
                    refine OL.nil ?_
                    refine W.ret ?_
                    exact Ret.four S rfl rfl rfl rfl rfl H
                  · replace H := H.2 hb_10
                    refine W.skip ?_
                    refine W.seq ?_
                    replace S := S.sub [(0, Value.int .i64 n0), (1, Value.int .i64 width1), (2, Value.slice ops2.a ops2.n ops2.c), (10, Value.pointer x21), (12, Value.slice outs12.a outs12.n outs12.c), (13, Value.slice puts13.a puts13.n puts13.c), (14, Value.int .i64 i14), (15, Value.pointer (some p15)), (16, Value.bool x87)] ⟨rfl, rfl, rfl, rfl, rfl, rfl, rfl, rfl, rfl, trivial⟩
                    refine W.region ?_
                    refine OL.pure S (Lf.run_move (S.ev rfl)) rfl rfl trivial ?_
                    clear S; intro aa S
                    refine OL.nil ?_
                    refine W.cond S (b := x87) rfl (fun hb_11 => ?_) (fun hb_11 => ?_)
                    · replace H := H.1 hb_11
                      replace S := S.sub [(0, Value.int .i64 n0), (1, Value.int .i64 width1), (2, Value.slice ops2.a ops2.n ops2.c), (10, Value.pointer x21), (12, Value.slice outs12.a outs12.n outs12.c), (13, Value.slice puts13.a puts13.n puts13.c), (14, Value.int .i64 i14), (15, Value.pointer (some p15))] ⟨rfl, rfl, rfl, rfl, rfl, rfl, rfl, rfl, trivial⟩
                      refine W.region ?_
                      refine OL.pure S (Lf.run_move (S.ev rfl)) rfl rfl trivial ?_
                      clear S; intro aa S
                      refine OL.pure S (Lf.run_fa (S.ev rfl) fa42_1) rfl rfl trivial ?_
                      clear S; intro aa S
                      obtain ⟨x101, c_13, H⟩ := H
                      refine OL.pure S (Lf.run_ld (S.ev rfl) fl3 (S.cl c_13)) rfl rfl trivial ?_
                      clear S; intro aa S
                      refine OL.pure S (Lf.run_fa (S.ev rfl) fa42_2) rfl rfl trivial ?_
                      clear S; intro aa S
                      obtain ⟨x103, c_14, H⟩ := H
                      refine OL.pure S (Lf.run_ld (S.ev rfl) fl3 (S.cl c_14)) rfl rfl trivial ?_
                      clear S; intro aa S
                      refine OL.pure S (Lf.run_buildArr (cs := #[Value.int .i64 x101, Value.int .i64 x103]) Tryd.underlying43 ti3 ti43 (parts_map S rfl) (by kernel_rfl)) rfl rfl trivial ?_
                      clear S; intro aa S
                      refine ol_newS S H Tryd.underlying26 ti43 (by decide) (parts_map S rfl) (by kernel_rfl) (by decide) rfl trivial ?_
                      clear S H aa; intro s105 aa ww h10 H S
                      refine ol_appS S H Tryd.underlying26 ti43 rfl rfl rfl trivial ?_
                      clear S H aa; intro s106 aa ww h11 H S
                      refine OL.pure S (Lf.run_assign (S.ev rfl)) rfl rfl trivial ?_
                      clear S; intro aa S
                      refine OL.nil ?_
                      exact ⟨s106, puts13, h11, S.sub _ ⟨rfl, rfl, rfl, rfl, rfl, rfl, rfl, trivial⟩, H⟩
                    · replace H := H.2 hb_11
                      refine W.skip ?_
                      exact ⟨outs12, puts13, h9, S.sub _ ⟨rfl, rfl, rfl, rfl, rfl, rfl, rfl, trivial⟩, H⟩
        · clear H S aa
          rintro aa ww ⟨outs12_1, puts13_2, h12, S, HJ⟩
          have H := HK _ _ _ HJ
          clear HK HJ
          replace S := S.sub [(0, Value.int .i64 n0), (1, Value.int .i64 width1), (2, Value.slice ops2.a ops2.n ops2.c), (10, Value.pointer x21), (12, Value.slice outs12_1.a outs12_1.n outs12_1.c), (13, Value.slice puts13_2.a puts13_2.n puts13_2.c), (14, Value.int .i64 i14)] ⟨rfl, rfl, rfl, rfl, rfl, rfl, rfl, trivial⟩
          refine W.region ?_
          refine OL.pure S (Lf.run_move (S.ev rfl)) rfl rfl trivial ?_
          clear S; intro aa S
          refine OL.pure S (Lf.run_add (S.ev rfl) (S.ev rfl)) rfl rfl trivial ?_
          clear S; intro aa S
          refine OL.pure S (Lf.run_assign (S.ev rfl)) rfl rfl trivial ?_
          clear S; intro aa S
          refine OL.nil ?_
          exact ⟨(outs12_1, puts13_2, (IntKind.i64.wrap (i14 + 1)), h12), ⟨S.sub _ ⟨rfl, rfl, rfl, rfl, rfl, rfl, rfl, trivial⟩, H.1⟩, H.2⟩
      · replace H := H.2 hb_2
        refine W.exit_ ?_
        refine xhit ?_
        refine W.seq ?_
        replace S := S.sub [(10, Value.pointer x21), (12, Value.slice outs12.a outs12.n outs12.c), (13, Value.slice puts13.a puts13.n puts13.c)] ⟨rfl, rfl, rfl, trivial⟩
        refine W.region ?_
        refine OL.pure S (Lf.run_move (S.ev rfl)) rfl rfl trivial ?_
        clear S; intro aa S
        refine OL.pure S (Lf.run_move (S.ev rfl)) rfl rfl trivial ?_
        clear S; intro aa S
        refine OL.pure S (Lf.run_move (S.ev rfl)) rfl rfl trivial ?_
        clear S; intro aa S
        refine OL.pure S (Lf.run_assign (S.ev rfl)) rfl rfl trivial ?_
        clear S; intro aa S
        refine OL.pure S (Lf.run_assign (S.ev rfl)) rfl rfl trivial ?_
        clear S; intro aa S
        refine OL.pure S (Lf.run_assign (S.ev rfl)) rfl rfl trivial ?_
        clear S; intro aa S
        refine OL.pure S (Lf.run_assign (S.ev rfl)) rfl rfl trivial ?_
        clear S; intro aa S
        refine OL.nil ?_
        refine W.ret ?_
        exact Ret.four S rfl rfl rfl rfl rfl H

/-- (*chattel solve.Solver).List -/
def L8 (s0 : Option Addr) (r1 : Int) (h : Heap) (R : Value → Heap → Prop) : Prop :=
  cal Tryd.prog 15 #[Value.pointer s0, Value.int .i64 r1] h fun u h1 => asB u fun x10 =>
  ifb (!x10) (
    R (Value.slice (⟨none, 0, 0⟩ : Sv).a (⟨none, 0, 0⟩ : Sv).n (⟨none, 0, 0⟩ : Sv).c) h1) (
    nn s0 fun p13 =>
    ldS h1 (p13.add 2) fun x15 =>
    ixS x15 r1 fun q17 =>
    ldS h1 (q17.add ((r1 : Int).toNat * 1)) fun x18 =>
    ∃ (I : Sv → Int → Heap → Prop) (m : Sv → Int → Heap → Nat), I (⟨none, 0, 0⟩ : Sv) 0 h1 ∧ ∀ l5 x20 h2, I l5 x20 h2 →
    ifb (decide (x20 < ((x18.n : Nat) : Int))) (
      ixS x18 x20 fun q23 =>
      ldI .u64 h2 (q23.add ((x20 : Int).toNat * 1)) fun x24 =>
      ∃ (I_1 : Sv → Int → Heap → Prop) (m_1 : Sv → Int → Heap → Nat), I_1 l5 x24 h2 ∧ ∀ l5_1 w7 h3, I_1 l5_1 w7 h3 →
      ifb (w7 != 0) (
        cal Tryd.prog 16 #[Value.int .u64 w7] h3 fun u_1 h4 => asI .i64 u_1 fun x35 =>
        newS 3 #[Value.int .i64 (IntKind.i64.wrap ((IntKind.i64.wrap (64 * x20)) + x35))] 1 h4 fun s37 h5 =>
        appS 3 (Value.int .i64 0).cells 1 8 h5 l5_1 s37 fun s38 h6 =>
        I_1 s38 (bitsI .and .u64 w7 (IntKind.u64.wrap (w7 - 1))) h6 ∧ m_1 s38 (bitsI .and .u64 w7 (IntKind.u64.wrap (w7 - 1))) h6 < m_1 l5_1 w7 h3) (
        I l5_1 (IntKind.i64.wrap (x20 + 1)) h3 ∧ m l5_1 (IntKind.i64.wrap (x20 + 1)) h3 < m l5 x20 h2)) (
      R (Value.slice l5.a l5.n l5.c) h2))

set_option maxRecDepth 100000 in

theorem F8 {s0 r1 h : _} {R : Value → Heap → Prop} (H : L8 s0 r1 h R) : CallsH Tryd.prog 8 #[Value.pointer s0, Value.int .i64 r1] h R := by
  refine CallsH.enter (n := 41) Tryd.func8 rfl rfl rfl rfl ?_
  intro w0 aa ww S
  unfold L8 at H
  refine W.seq ?_
  replace S := S.sub [(0, Value.pointer s0), (1, Value.int .i64 r1)] ⟨rfl, rfl, trivial⟩
  refine W.region ?_
  refine OL.pure S (Lf.run_assign (S.ev rfl)) rfl rfl trivial ?_
  clear S; intro aa S
  refine OL.nil ?_
  refine W.seq ?_
  refine W.seq ?_
  replace S := S.sub [(0, Value.pointer s0), (1, Value.int .i64 r1)] ⟨rfl, rfl, trivial⟩
  refine W.region ?_
  refine OL.pure S (Lf.run_move (S.ev rfl)) rfl rfl trivial ?_
  clear S; intro aa S
  refine OL.pure S (Lf.run_move (S.ev rfl)) rfl rfl trivial ?_
  clear S; intro aa S
  refine ol_cal S H isfn15 rfl rfl trivial ?_
  clear S H aa; intro u aa ww h1 H S
  obtain ⟨x10, rfl, H⟩ := H
  refine OL.pure S (Lf.run_not (S.ev rfl)) rfl rfl trivial ?_
  clear S; intro aa S
  refine OL.nil ?_
  refine W.cond S (b := (!x10)) rfl (fun hb => ?_) (fun hb => ?_)
  · replace H := H.1 hb
    refine W.seq ?_
    replace S := S.sub [] trivial
    refine W.region ?_
    refine OL.pure S (Lf.run_assign (S.ev rfl)) rfl rfl trivial ?_
    clear S; intro aa S
    refine OL.nil ?_
    refine W.ret ?_
    exact Ret.one S rfl rfl H
  · replace H := H.2 hb
    refine W.skip ?_
    refine W.seq ?_
    replace S := S.sub [(0, Value.pointer s0), (1, Value.int .i64 r1)] ⟨rfl, rfl, trivial⟩
    refine W.region ?_
    refine OL.pure S (Lf.run_assign (S.ev rfl)) rfl rfl trivial ?_
    clear S; intro aa S
    refine OL.nil ?_
    refine W.seq ?_
    refine W.seq ?_
    replace S := S.sub [(0, Value.pointer s0), (1, Value.int .i64 r1), (5, Value.slice (⟨none, 0, 0⟩ : Sv).a (⟨none, 0, 0⟩ : Sv).n (⟨none, 0, 0⟩ : Sv).c)] ⟨rfl, rfl, rfl, trivial⟩
    refine W.region ?_
    refine OL.pure S (Lf.run_move (S.ev rfl)) rfl rfl trivial ?_
    clear S; intro aa S
    obtain ⟨p13, e, H⟩ := H
    refine OL.pure S (Lf.run_nc' (S.ev rfl) e) rfl rfl trivial ?_
    clear S; intro aa S
    refine OL.pure S (Lf.run_fa (S.ev rfl) fa50_2) rfl rfl trivial ?_
    clear S; intro aa S
    obtain ⟨x15, c, H⟩ := H
    refine OL.pure S (Lf.run_ld (S.ev rfl) fl46 (S.cl c)) rfl rfl trivial ?_
    clear S; intro aa S
    refine OL.pure S (Lf.run_move (S.ev rfl)) rfl rfl trivial ?_
    clear S; intro aa S
    obtain ⟨q17, e_1, e_2, e_3, H⟩ := H
    refine OL.pure S (Lf.run_ixs (S.ev rfl) (S.ev rfl) Tryd.underlying46 ti45 e_1 e_2 e_3) rfl rfl trivial ?_
    clear S; intro aa S
    obtain ⟨x18, c_1, H⟩ := H
    refine OL.pure S (Lf.run_ld (S.ev rfl) fl45 (S.cl c_1)) rfl rfl trivial ?_
    clear S; intro aa S
    refine OL.pure S (Lf.run_lens (S.ev rfl) rfl Tryd.underlying45) rfl rfl trivial ?_
    clear S; intro aa S
    refine OL.pure S (Lf.run_move (S.ev rfl)) rfl rfl trivial ?_
    clear S; intro aa S
    refine OL.nil ?_
    refine W.block ?_
    obtain ⟨I, m, H, HB_1⟩ := H
    refine W.loopS (σ := Sv × Int × Heap) (fun s aa ww => St 41 [(5, Value.slice s.1.a s.1.n s.1.c), (18, Value.slice x18.a x18.n x18.c), (19, Value.int .i64 ((x18.n : Nat) : Int)), (20, Value.int .i64 s.2.1)] s.2.2 w0 aa ww ∧ I s.1 s.2.1 s.2.2) (fun s => m s.1 s.2.1 s.2.2) ((⟨none, 0, 0⟩ : Sv), 0, h1) ⟨S.sub _ ⟨rfl, rfl, rfl, rfl, trivial⟩, H⟩ ?_
    clear H S aa
    rintro ⟨l5, x20, h2⟩ aa ww ⟨S, HI⟩
    replace S : St 41 [(5, Value.slice l5.a l5.n l5.c), (18, Value.slice x18.a x18.n x18.c), (19, Value.int .i64 ((x18.n : Nat) : Int)), (20, Value.int .i64 x20)] h2 w0 aa ww := S
    have H := HB_1 l5 x20 h2 HI
    clear HI
    refine W.seq ?_
    replace S := S.sub [(5, Value.slice l5.a l5.n l5.c), (18, Value.slice x18.a x18.n x18.c), (19, Value.int .i64 ((x18.n : Nat) : Int)), (20, Value.int .i64 x20)] ⟨rfl, rfl, rfl, rfl, trivial⟩
    refine W.region ?_
    refine OL.pure S (Lf.run_lss (S.ev rfl) (S.ev rfl)) rfl rfl trivial ?_
    clear S; intro aa S
    refine OL.nil ?_
    refine W.seq ?_
    refine W.cond S (b := (decide (x20 < ((x18.n : Nat) : Int)))) rfl (fun hb_1 => ?_) (fun hb_1 => ?_)
    · replace H := H.1 hb_1
      refine W.skip ?_
      refine W.seq ?_
      refine W.block ?_
      refine W.seq ?_
      replace S := S.sub [(5, Value.slice l5.a l5.n l5.c), (18, Value.slice x18.a x18.n x18.c), (19, Value.int .i64 ((x18.n : Nat) : Int)), (20, Value.int .i64 x20)] ⟨rfl, rfl, rfl, rfl, trivial⟩
      refine W.region ?_
      refine OL.pure S (Lf.run_move (S.ev rfl)) rfl rfl trivial ?_
      clear S; intro aa S
      obtain ⟨q23, e_4, e_5, e_6, H⟩ := H
      refine OL.pure S (Lf.run_ixs (S.ev rfl) (S.ev rfl) Tryd.underlying45 ti51 e_4 e_5 e_6) rfl rfl trivial ?_
      clear S; intro aa S
      obtain ⟨x24, c_2, H⟩ := H
      refine OL.pure S (Lf.run_ld (S.ev rfl) fl51 (S.cl c_2)) rfl rfl trivial ?_
      clear S; intro aa S
      refine OL.pure S (Lf.run_assign (S.ev rfl)) rfl rfl trivial ?_
      clear S; intro aa S
      refine OL.pure S (Lf.run_assign (S.ev rfl)) rfl rfl trivial ?_
      clear S; intro aa S
      refine OL.nil ?_
      refine W.block ?_
      obtain ⟨I_1, m_1, H, HB⟩ := H
      refine W.loopS (σ := Sv × Int × Heap) (fun s aa ww => St 41 [(5, Value.slice s.1.a s.1.n s.1.c), (6, Value.int .i64 x20), (7, Value.int .u64 s.2.1), (18, Value.slice x18.a x18.n x18.c), (19, Value.int .i64 ((x18.n : Nat) : Int)), (20, Value.int .i64 x20)] s.2.2 w0 aa ww ∧ I_1 s.1 s.2.1 s.2.2) (fun s => m_1 s.1 s.2.1 s.2.2) (l5, x24, h2) ⟨S.sub _ ⟨rfl, rfl, rfl, rfl, rfl, rfl, trivial⟩, H⟩ ?_
      clear H S aa
      rintro ⟨l5_1, w7, h3⟩ aa ww ⟨S, HI⟩
      replace S : St 41 [(5, Value.slice l5_1.a l5_1.n l5_1.c), (6, Value.int .i64 x20), (7, Value.int .u64 w7), (18, Value.slice x18.a x18.n x18.c), (19, Value.int .i64 ((x18.n : Nat) : Int)), (20, Value.int .i64 x20)] h3 w0 aa ww := S
      have H := HB l5_1 w7 h3 HI
      clear HI
      refine W.seq ?_
      refine W.seq ?_
      replace S := S.sub [(5, Value.slice l5_1.a l5_1.n l5_1.c), (6, Value.int .i64 x20), (7, Value.int .u64 w7), (18, Value.slice x18.a x18.n x18.c), (19, Value.int .i64 ((x18.n : Nat) : Int)), (20, Value.int .i64 x20)] ⟨rfl, rfl, rfl, rfl, rfl, rfl, trivial⟩
      refine W.region ?_
      refine OL.pure S (Lf.run_move (S.ev rfl)) rfl rfl trivial ?_
      clear S; intro aa S
      refine OL.pure S (Lf.run_neq (S.ev rfl) (S.ev rfl)) rfl rfl trivial ?_
      clear S; intro aa S
      refine OL.nil ?_
      refine W.cond S (b := (w7 != 0)) rfl (fun hb_2 => ?_) (fun hb_2 => ?_)
      · replace H := H.1 hb_2
        refine W.skip ?_
        refine W.seq ?_
        refine W.block ?_
        replace S := S.sub [(5, Value.slice l5_1.a l5_1.n l5_1.c), (6, Value.int .i64 x20), (7, Value.int .u64 w7), (18, Value.slice x18.a x18.n x18.c), (19, Value.int .i64 ((x18.n : Nat) : Int)), (20, Value.int .i64 x20)] ⟨rfl, rfl, rfl, rfl, rfl, rfl, trivial⟩
        refine W.region ?_
        refine OL.pure S (Lf.run_move (S.ev rfl)) rfl rfl trivial ?_
        clear S; intro aa S
        refine OL.pure S (Lf.run_move (S.ev rfl)) rfl rfl trivial ?_
        clear S; intro aa S
        refine OL.pure S (Lf.run_mul (S.ev rfl) (S.ev rfl)) rfl rfl trivial ?_
        clear S; intro aa S
        refine OL.pure S (Lf.run_move (S.ev rfl)) rfl rfl trivial ?_
        clear S; intro aa S
        refine ol_cal S H isfn16 rfl rfl trivial ?_
        clear S H aa; intro u_1 aa ww h4 H S
        obtain ⟨x35, rfl, H⟩ := H
        refine OL.pure S (Lf.run_add (S.ev rfl) (S.ev rfl)) rfl rfl trivial ?_
        clear S; intro aa S
        refine ol_newS S H Tryd.underlying29 ti3 (by decide) (parts_map S rfl) (by kernel_rfl) (by decide) rfl trivial ?_
        clear S H aa; intro s37 aa ww h5 H S
        refine ol_appS S H Tryd.underlying29 ti3 rfl rfl rfl trivial ?_
        clear S H aa; intro s38 aa ww h6 H S
        refine OL.pure S (Lf.run_assign (S.ev rfl)) rfl rfl trivial ?_
        clear S; intro aa S
        refine OL.nil ?_
        replace S := S.sub [(5, Value.slice s38.a s38.n s38.c), (6, Value.int .i64 x20), (7, Value.int .u64 w7), (18, Value.slice x18.a x18.n x18.c), (19, Value.int .i64 ((x18.n : Nat) : Int)), (20, Value.int .i64 x20)] ⟨rfl, rfl, rfl, rfl, rfl, rfl, trivial⟩
        refine W.region ?_
        refine OL.pure S (Lf.run_move (S.ev rfl)) rfl rfl trivial ?_
        clear S; intro aa S
        refine OL.pure S (Lf.run_move (S.ev rfl)) rfl rfl trivial ?_
        clear S; intro aa S
        refine OL.pure S (Lf.run_sub (S.ev rfl) (S.ev rfl)) rfl rfl trivial ?_
        clear S; intro aa S
        refine OL.pure S (Lf.run_bits (op := .and) (by simp) (S.ev rfl) (S.ev rfl)) rfl rfl trivial ?_
        clear S; intro aa S
        refine OL.pure S (Lf.run_assign (S.ev rfl)) rfl rfl trivial ?_
        clear S; intro aa S
        refine OL.nil ?_
        exact ⟨(s38, (bitsI .and .u64 w7 (IntKind.u64.wrap (w7 - 1))), h6), ⟨S.sub _ ⟨rfl, rfl, rfl, rfl, rfl, rfl, trivial⟩, H.1⟩, H.2⟩
      · replace H := H.2 hb_2
        refine W.exit_ ?_
        refine xhit ?_
        replace S := S.sub [(5, Value.slice l5_1.a l5_1.n l5_1.c), (18, Value.slice x18.a x18.n x18.c), (19, Value.int .i64 ((x18.n : Nat) : Int)), (20, Value.int .i64 x20)] ⟨rfl, rfl, rfl, rfl, trivial⟩
        refine W.region ?_
        refine OL.pure S (Lf.run_add (S.ev rfl) (S.ev rfl)) rfl rfl trivial ?_
        clear S; intro aa S
        refine OL.pure S (Lf.run_move (S.ev rfl)) rfl rfl trivial ?_
        clear S; intro aa S
        refine OL.nil ?_
        exact ⟨(l5_1, (IntKind.i64.wrap (x20 + 1)), h3), ⟨S.sub _ ⟨rfl, rfl, rfl, rfl, trivial⟩, H.1⟩, H.2⟩
    · replace H := H.2 hb_1
      refine W.exit_ ?_
      refine xhit ?_
      refine W.seq ?_
      replace S := S.sub [(5, Value.slice l5.a l5.n l5.c)] ⟨rfl, trivial⟩
      refine W.region ?_
      refine OL.pure S (Lf.run_move (S.ev rfl)) rfl rfl trivial ?_
      clear S; intro aa S
      refine OL.pure S (Lf.run_assign (S.ev rfl)) rfl rfl trivial ?_
      clear S; intro aa S
      refine OL.nil ?_
      refine W.ret ?_
      exact Ret.one S rfl rfl H

/-- chattel chattelref12.Has -/
def L9 (n0 : Int) (outs1 : Sv) (puts2 : Sv) (r3 : Int) (e4 : Int) (h : Heap) (R : Value → Heap → Prop) : Prop :=
  mkS 3 (Value.int .i64 0).cells 1 8 n0 n0 h fun s16 h1 =>
  ixS s16 r3 fun q19 =>
  sto h1 (q19.add ((r3 : Int).toNat * 1)) (Value.int .i64 1) fun h2 =>
  ∃ (I : Int → Heap → Prop) (m : Int → Heap → Nat), I 0 h2 ∧ ∀ round12 h3, I round12 h3 →
  ifb (decide (round12 < n0)) (
    ∃ (I_1 : Int → Heap → Prop) (m_1 : Int → Heap → Nat), I_1 0 h3 ∧ ∀ i13 h4, I_1 i13 h4 →
    ifb (decide (i13 < ((outs1.n : Nat) : Int))) (
      ∃ J : Heap → Prop, (
        ixS outs1 i13 fun q34 =>
        ldI .i64 h4 (q34.add ((i13 : Int).toNat * 2)) fun x36 =>
        ixS s16 x36 fun q37 =>
        ldI .i64 h4 (q37.add ((x36 : Int).toNat * 1)) fun x38 =>
        ifb (decide (0 < x38)) (
          ixS outs1 i13 fun q43 =>
          ldI .i64 h4 ((q43.add ((i13 : Int).toNat * 2)).add 1) fun x45 =>
          ixS s16 x45 fun q46 =>
          sto h4 (q46.add ((x45 : Int).toNat * 1)) (Value.int .i64 1) fun h5 =>
          J h5) (
          J h4)) ∧ (∀ h6, J h6 →
      I_1 (IntKind.i64.wrap (i13 + 1)) h6 ∧ m_1 (IntKind.i64.wrap (i13 + 1)) h6 < m_1 i13 h4)) (
      I (IntKind.i64.wrap (round12 + 1)) h4 ∧ m (IntKind.i64.wrap (round12 + 1)) h4 < m round12 h3)) (
    ∃ (I_2 : Int → Prop) (m_2 : Int → Nat), I_2 0 ∧ ∀ i14, I_2 i14 →
    ifb (decide (i14 < ((puts2.n : Nat) : Int))) (
      ixS puts2 i14 fun q55 =>
      ldI .i64 h3 ((q55.add ((i14 : Int).toNat * 2)).add 1) fun x57 =>
      ∃ J_1 : Bool → Prop, (andr (x57 == e4) (fun k =>
        ixS puts2 i14 fun q64 =>
        ldI .i64 h3 (q64.add ((i14 : Int).toNat * 2)) fun x66 =>
        ixS s16 x66 fun q67 =>
        ldI .i64 h3 (q67.add ((x66 : Int).toNat * 1)) fun x68 =>
        k (decide (0 < x68))) J_1) ∧ ∀ x70, J_1 x70 →
      ifb x70 (
        R (Value.bool true) h3) (
        I_2 (IntKind.i64.wrap (i14 + 1)) ∧ m_2 (IntKind.i64.wrap (i14 + 1)) < m_2 i14)) (
      R (Value.bool false) h3))

set_option maxRecDepth 100000 in

theorem F9 {n0 outs1 puts2 r3 e4 h : _} {R : Value → Heap → Prop} (H : L9 n0 outs1 puts2 r3 e4 h R) : CallsH Tryd.prog 9 #[Value.int .i64 n0, Value.slice outs1.a outs1.n outs1.c, Value.slice puts2.a puts2.n puts2.c, Value.int .i64 r3, Value.int .i64 e4] h R := by
  refine CallsH.enter (n := 71) Tryd.func9 rfl rfl rfl rfl ?_
  intro w0 aa ww S
  unfold L9 at H
  refine W.seq ?_
  replace S := S.sub [(0, Value.int .i64 n0), (1, Value.slice outs1.a outs1.n outs1.c), (2, Value.slice puts2.a puts2.n puts2.c), (3, Value.int .i64 r3), (4, Value.int .i64 e4)] ⟨rfl, rfl, rfl, rfl, rfl, trivial⟩
  refine W.region ?_
  refine OL.pure S (Lf.run_assign (S.ev rfl)) rfl rfl trivial ?_
  clear S; intro aa S
  refine OL.nil ?_
  refine W.seq ?_
  replace S := S.sub [(0, Value.int .i64 n0), (1, Value.slice outs1.a outs1.n outs1.c), (2, Value.slice puts2.a puts2.n puts2.c), (3, Value.int .i64 r3), (4, Value.int .i64 e4)] ⟨rfl, rfl, rfl, rfl, rfl, trivial⟩
  refine W.region ?_
  refine OL.pure S (Lf.run_move (S.ev rfl)) rfl rfl trivial ?_
  clear S; intro aa S
  refine ol_mkS S H Tryd.underlying29 ti3 rfl rfl rfl trivial ?_
  clear S H aa; intro s16 aa ww h1 H S
  refine OL.pure S (Lf.run_assign (S.ev rfl)) rfl rfl trivial ?_
  clear S; intro aa S
  refine OL.nil ?_
  refine W.seq ?_
  replace S := S.sub [(0, Value.int .i64 n0), (1, Value.slice outs1.a outs1.n outs1.c), (2, Value.slice puts2.a puts2.n puts2.c), (3, Value.int .i64 r3), (4, Value.int .i64 e4), (11, Value.slice s16.a s16.n s16.c)] ⟨rfl, rfl, rfl, rfl, rfl, rfl, trivial⟩
  refine W.region ?_
  refine OL.pure S (Lf.run_move (S.ev rfl)) rfl rfl trivial ?_
  clear S; intro aa S
  refine OL.pure S (Lf.run_move (S.ev rfl)) rfl rfl trivial ?_
  clear S; intro aa S
  obtain ⟨q19, e, e_1, e_2, H⟩ := H
  refine OL.pure S (Lf.run_ixs (S.ev rfl) (S.ev rfl) Tryd.underlying29 ti3 e e_1 e_2) rfl rfl trivial ?_
  clear S; intro aa S
  refine ol_sto S H rfl rfl rfl ti3 trivial ?_
  clear S H aa; intro aa ww h2 H S
  refine OL.nil ?_
  refine W.seq ?_
  refine W.seq ?_
  replace S := S.sub [(0, Value.int .i64 n0), (1, Value.slice outs1.a outs1.n outs1.c), (2, Value.slice puts2.a puts2.n puts2.c), (4, Value.int .i64 e4), (11, Value.slice s16.a s16.n s16.c)] ⟨rfl, rfl, rfl, rfl, rfl, trivial⟩
  refine W.region ?_
  refine OL.pure S (Lf.run_assign (S.ev rfl)) rfl rfl trivial ?_
  clear S; intro aa S
  refine OL.nil ?_
  refine W.block ?_
  obtain ⟨I, m, H, HB_2⟩ := H
  refine W.loopS (σ := Int × Heap) (fun s aa ww => St 71 [(0, Value.int .i64 n0), (1, Value.slice outs1.a outs1.n outs1.c), (2, Value.slice puts2.a puts2.n puts2.c), (4, Value.int .i64 e4), (11, Value.slice s16.a s16.n s16.c), (12, Value.int .i64 s.1)] s.2 w0 aa ww ∧ I s.1 s.2) (fun s => m s.1 s.2) (0, h2) ⟨S.sub _ ⟨rfl, rfl, rfl, rfl, rfl, rfl, trivial⟩, H⟩ ?_
  clear H S aa
  rintro ⟨round12, h3⟩ aa ww ⟨S, HI⟩
  replace S : St 71 [(0, Value.int .i64 n0), (1, Value.slice outs1.a outs1.n outs1.c), (2, Value.slice puts2.a puts2.n puts2.c), (4, Value.int .i64 e4), (11, Value.slice s16.a s16.n s16.c), (12, Value.int .i64 round12)] h3 w0 aa ww := S
  have H := HB_2 round12 h3 HI
  clear HI
  refine W.seq ?_
  refine W.seq ?_
  replace S := S.sub [(0, Value.int .i64 n0), (1, Value.slice outs1.a outs1.n outs1.c), (2, Value.slice puts2.a puts2.n puts2.c), (4, Value.int .i64 e4), (11, Value.slice s16.a s16.n s16.c), (12, Value.int .i64 round12)] ⟨rfl, rfl, rfl, rfl, rfl, rfl, trivial⟩
  refine W.region ?_
  refine OL.pure S (Lf.run_move (S.ev rfl)) rfl rfl trivial ?_
  clear S; intro aa S
  refine OL.pure S (Lf.run_move (S.ev rfl)) rfl rfl trivial ?_
  clear S; intro aa S
  refine OL.pure S (Lf.run_lss (S.ev rfl) (S.ev rfl)) rfl rfl trivial ?_
  clear S; intro aa S
  refine OL.nil ?_
  refine W.cond S (b := (decide (round12 < n0))) rfl (fun hb => ?_) (fun hb => ?_)
  · replace H := H.1 hb
    refine W.skip ?_
    refine W.seq ?_
    refine W.block ?_
    refine W.seq ?_
    replace S := S.sub [(0, Value.int .i64 n0), (1, Value.slice outs1.a outs1.n outs1.c), (2, Value.slice puts2.a puts2.n puts2.c), (4, Value.int .i64 e4), (11, Value.slice s16.a s16.n s16.c), (12, Value.int .i64 round12)] ⟨rfl, rfl, rfl, rfl, rfl, rfl, trivial⟩
    refine W.region ?_
    refine OL.pure S (Lf.run_assign (S.ev rfl)) rfl rfl trivial ?_
    clear S; intro aa S
    refine OL.nil ?_
    refine W.block ?_
    obtain ⟨I_1, m_1, H, HB⟩ := H
    refine W.loopS (σ := Int × Heap) (fun s aa ww => St 71 [(0, Value.int .i64 n0), (1, Value.slice outs1.a outs1.n outs1.c), (2, Value.slice puts2.a puts2.n puts2.c), (4, Value.int .i64 e4), (11, Value.slice s16.a s16.n s16.c), (12, Value.int .i64 round12), (13, Value.int .i64 s.1)] s.2 w0 aa ww ∧ I_1 s.1 s.2) (fun s => m_1 s.1 s.2) (0, h3) ⟨S.sub _ ⟨rfl, rfl, rfl, rfl, rfl, rfl, rfl, trivial⟩, H⟩ ?_
    clear H S aa
    rintro ⟨i13, h4⟩ aa ww ⟨S, HI⟩
    replace S : St 71 [(0, Value.int .i64 n0), (1, Value.slice outs1.a outs1.n outs1.c), (2, Value.slice puts2.a puts2.n puts2.c), (4, Value.int .i64 e4), (11, Value.slice s16.a s16.n s16.c), (12, Value.int .i64 round12), (13, Value.int .i64 i13)] h4 w0 aa ww := S
    have H := HB i13 h4 HI
    clear HI
    refine W.seq ?_
    refine W.seq ?_
    replace S := S.sub [(0, Value.int .i64 n0), (1, Value.slice outs1.a outs1.n outs1.c), (2, Value.slice puts2.a puts2.n puts2.c), (4, Value.int .i64 e4), (11, Value.slice s16.a s16.n s16.c), (12, Value.int .i64 round12), (13, Value.int .i64 i13)] ⟨rfl, rfl, rfl, rfl, rfl, rfl, rfl, trivial⟩
    refine W.region ?_
    refine OL.pure S (Lf.run_move (S.ev rfl)) rfl rfl trivial ?_
    clear S; intro aa S
    refine OL.pure S (Lf.run_move (S.ev rfl)) rfl rfl trivial ?_
    clear S; intro aa S
    refine OL.pure S (Lf.run_lens (S.ev rfl) rfl Tryd.underlying26) rfl rfl trivial ?_
    clear S; intro aa S
    refine OL.pure S (Lf.run_lss (S.ev rfl) (S.ev rfl)) rfl rfl trivial ?_
    clear S; intro aa S
    refine OL.nil ?_
    refine W.cond S (b := (decide (i13 < ((outs1.n : Nat) : Int)))) rfl (fun hb_1 => ?_) (fun hb_1 => ?_)
    · replace H := H.1 hb_1
      refine W.skip ?_
      obtain ⟨J, H, HK⟩ := H
      refine W.seqJ (fun aa ww => ∃ h6, St 71 [(0, Value.int .i64 n0), (1, Value.slice outs1.a outs1.n outs1.c), (2, Value.slice puts2.a puts2.n puts2.c), (4, Value.int .i64 e4), (11, Value.slice s16.a s16.n s16.c), (12, Value.int .i64 round12), (13, Value.int .i64 i13)] h6 w0 aa ww ∧ J h6) ?_ ?_
      · clear HK
        refine W.block ?_
        refine W.seq ?_
        replace S := S.sub [(0, Value.int .i64 n0), (1, Value.slice outs1.a outs1.n outs1.c), (2, Value.slice puts2.a puts2.n puts2.c), (4, Value.int .i64 e4), (11, Value.slice s16.a s16.n s16.c), (12, Value.int .i64 round12), (13, Value.int .i64 i13)] ⟨rfl, rfl, rfl, rfl, rfl, rfl, rfl, trivial⟩
        refine W.region ?_
        refine OL.pure S (Lf.run_move (S.ev rfl)) rfl rfl trivial ?_
        clear S; intro aa S
        refine OL.pure S (Lf.run_move (S.ev rfl)) rfl rfl trivial ?_
        clear S; intro aa S
        refine OL.pure S (Lf.run_move (S.ev rfl)) rfl rfl trivial ?_
        clear S; intro aa S
        obtain ⟨q34, e_3, e_4, e_5, H⟩ := H
        refine OL.pure S (Lf.run_ixs (S.ev rfl) (S.ev rfl) Tryd.underlying26 ti43 e_3 e_4 e_5) rfl rfl trivial ?_
        clear S; intro aa S
        refine OL.pure S (Lf.run_ixa (S.ev rfl) (S.ev rfl) Tryd.underlying43 ti3 (by decide) (by decide)) rfl rfl trivial ?_
        clear S; intro aa S
        obtain ⟨x36, c, H⟩ := H
        refine OL.pure S (Lf.run_ld (S.ev rfl) fl3 (S.cl c)) rfl rfl trivial ?_
        clear S; intro aa S
        obtain ⟨q37, e_8, e_9, e_10, H⟩ := H
        refine OL.pure S (Lf.run_ixs (S.ev rfl) (S.ev rfl) Tryd.underlying29 ti3 e_8 e_9 e_10) rfl rfl trivial ?_
        clear S; intro aa S
        obtain ⟨x38, c_1, H⟩ := H
        refine OL.pure S (Lf.run_ld (S.ev rfl) fl3 (S.cl c_1)) rfl rfl trivial ?_
        clear S; intro aa S
        refine OL.pure S (Lf.run_gtr (S.ev rfl) (S.ev rfl)) rfl rfl trivial ?_
        clear S; intro aa S
        refine OL.nil ?_
        refine W.cond S (b := (decide (0 < x38))) rfl (fun hb_2 => ?_) (fun hb_2 => ?_)
        · replace H := H.1 hb_2
          replace S := S.sub [(0, Value.int .i64 n0), (1, Value.slice outs1.a outs1.n outs1.c), (2, Value.slice puts2.a puts2.n puts2.c), (4, Value.int .i64 e4), (11, Value.slice s16.a s16.n s16.c), (12, Value.int .i64 round12), (13, Value.int .i64 i13)] ⟨rfl, rfl, rfl, rfl, rfl, rfl, rfl, trivial⟩
          refine W.region ?_
          refine OL.pure S (Lf.run_move (S.ev rfl)) rfl rfl trivial ?_
          clear S; intro aa S
          refine OL.pure S (Lf.run_move (S.ev rfl)) rfl rfl trivial ?_
          clear S; intro aa S
          refine OL.pure S (Lf.run_move (S.ev rfl)) rfl rfl trivial ?_
          clear S; intro aa S
          obtain ⟨q43, e_11, e_12, e_13, H⟩ := H
          refine OL.pure S (Lf.run_ixs (S.ev rfl) (S.ev rfl) Tryd.underlying26 ti43 e_11 e_12 e_13) rfl rfl trivial ?_
          clear S; intro aa S
          refine OL.pure S (Lf.run_ixa (S.ev rfl) (S.ev rfl) Tryd.underlying43 ti3 (by decide) (by decide)) rfl rfl trivial ?_
          clear S; intro aa S
          obtain ⟨x45, c_2, H⟩ := H
          refine OL.pure S (Lf.run_ld (S.ev rfl) fl3 (S.cl c_2)) rfl rfl trivial ?_
          clear S; intro aa S
          obtain ⟨q46, e_16, e_17, e_18, H⟩ := H
          refine OL.pure S (Lf.run_ixs (S.ev rfl) (S.ev rfl) Tryd.underlying29 ti3 e_16 e_17 e_18) rfl rfl trivial ?_
          clear S; intro aa S
          refine ol_sto S H rfl rfl rfl ti3 trivial ?_
          clear S H aa; intro aa ww h5 H S
          refine OL.nil ?_
          exact ⟨h5, S.sub _ ⟨rfl, rfl, rfl, rfl, rfl, rfl, rfl, trivial⟩, H⟩
        · replace H := H.2 hb_2
          refine W.skip ?_
          exact ⟨h4, S.sub _ ⟨rfl, rfl, rfl, rfl, rfl, rfl, rfl, trivial⟩, H⟩
      · clear H S aa
        rintro aa ww ⟨h6, S, HJ⟩
        have H := HK _ HJ
        clear HK HJ
        replace S := S.sub [(0, Value.int .i64 n0), (1, Value.slice outs1.a outs1.n outs1.c), (2, Value.slice puts2.a puts2.n puts2.c), (4, Value.int .i64 e4), (11, Value.slice s16.a s16.n s16.c), (12, Value.int .i64 round12), (13, Value.int .i64 i13)] ⟨rfl, rfl, rfl, rfl, rfl, rfl, rfl, trivial⟩
        refine W.region ?_
        refine OL.pure S (Lf.run_move (S.ev rfl)) rfl rfl trivial ?_
        clear S; intro aa S
        refine OL.pure S (Lf.run_add (S.ev rfl) (S.ev rfl)) rfl rfl trivial ?_
        clear S; intro aa S
        refine OL.pure S (Lf.run_assign (S.ev rfl)) rfl rfl trivial ?_
        clear S; intro aa S
        refine OL.nil ?_
        exact ⟨((IntKind.i64.wrap (i13 + 1)), h6), ⟨S.sub _ ⟨rfl, rfl, rfl, rfl, rfl, rfl, rfl, trivial⟩, H.1⟩, H.2⟩
    · replace H := H.2 hb_1
      refine W.exit_ ?_
      refine xhit ?_
      replace S := S.sub [(0, Value.int .i64 n0), (1, Value.slice outs1.a outs1.n outs1.c), (2, Value.slice puts2.a puts2.n puts2.c), (4, Value.int .i64 e4), (11, Value.slice s16.a s16.n s16.c), (12, Value.int .i64 round12)] ⟨rfl, rfl, rfl, rfl, rfl, rfl, trivial⟩
      refine W.region ?_
      refine OL.pure S (Lf.run_move (S.ev rfl)) rfl rfl trivial ?_
      clear S; intro aa S
      refine OL.pure S (Lf.run_add (S.ev rfl) (S.ev rfl)) rfl rfl trivial ?_
      clear S; intro aa S
      refine OL.pure S (Lf.run_assign (S.ev rfl)) rfl rfl trivial ?_
      clear S; intro aa S
      refine OL.nil ?_
      exact ⟨((IntKind.i64.wrap (round12 + 1)), h4), ⟨S.sub _ ⟨rfl, rfl, rfl, rfl, rfl, rfl, trivial⟩, H.1⟩, H.2⟩
  · replace H := H.2 hb
    refine W.exit_ ?_
    refine xhit ?_
    refine W.seq ?_
    refine W.seq ?_
    replace S := S.sub [(2, Value.slice puts2.a puts2.n puts2.c), (4, Value.int .i64 e4), (11, Value.slice s16.a s16.n s16.c)] ⟨rfl, rfl, rfl, trivial⟩
    refine W.region ?_
    refine OL.pure S (Lf.run_assign (S.ev rfl)) rfl rfl trivial ?_
    clear S; intro aa S
    refine OL.nil ?_
    refine W.block ?_
    obtain ⟨I_2, m_2, H, HB_1⟩ := H
    refine W.loopS (σ := Int) (fun s aa ww => St 71 [(2, Value.slice puts2.a puts2.n puts2.c), (4, Value.int .i64 e4), (11, Value.slice s16.a s16.n s16.c), (14, Value.int .i64 s)] h3 w0 aa ww ∧ I_2 s) (fun s => m_2 s) (0) ⟨S.sub _ ⟨rfl, rfl, rfl, rfl, trivial⟩, H⟩ ?_
    clear H S aa
    rintro i14 aa ww ⟨S, HI⟩
    replace S : St 71 [(2, Value.slice puts2.a puts2.n puts2.c), (4, Value.int .i64 e4), (11, Value.slice s16.a s16.n s16.c), (14, Value.int .i64 i14)] h3 w0 aa ww := S
    have H := HB_1 i14 HI
    clear HI
    refine W.seq ?_
    refine W.seq ?_
    replace S := S.sub [(2, Value.slice puts2.a puts2.n puts2.c), (4, Value.int .i64 e4), (11, Value.slice s16.a s16.n s16.c), (14, Value.int .i64 i14)] ⟨rfl, rfl, rfl, rfl, trivial⟩
    refine W.region ?_
    refine OL.pure S (Lf.run_move (S.ev rfl)) rfl rfl trivial ?_
    clear S; intro aa S
    refine OL.pure S (Lf.run_move (S.ev rfl)) rfl rfl trivial ?_
    clear S; intro aa S
    refine OL.pure S (Lf.run_lens (S.ev rfl) rfl Tryd.underlying26) rfl rfl trivial ?_
    clear S; intro aa S
    refine OL.pure S (Lf.run_lss (S.ev rfl) (S.ev rfl)) rfl rfl trivial ?_
    clear S; intro aa S
    refine OL.nil ?_
    refine W.cond S (b := (decide (i14 < ((puts2.n : Nat) : Int)))) rfl (fun hb_3 => ?_) (fun hb_3 => ?_)
    · replace H := H.1 hb_3
      refine W.skip ?_
      refine W.seq ?_
      refine W.block ?_
      refine W.seq ?_
      replace S := S.sub [(2, Value.slice puts2.a puts2.n puts2.c), (4, Value.int .i64 e4), (11, Value.slice s16.a s16.n s16.c), (14, Value.int .i64 i14)] ⟨rfl, rfl, rfl, rfl, trivial⟩
      refine W.region ?_
      refine OL.pure S (Lf.run_move (S.ev rfl)) rfl rfl trivial ?_
      clear S; intro aa S
      refine OL.pure S (Lf.run_move (S.ev rfl)) rfl rfl trivial ?_
      clear S; intro aa S
      obtain ⟨q55, e_19, e_20, e_21, H⟩ := H
      refine OL.pure S (Lf.run_ixs (S.ev rfl) (S.ev rfl) Tryd.underlying26 ti43 e_19 e_20 e_21) rfl rfl trivial ?_
      clear S; intro aa S
      refine OL.pure S (Lf.run_ixa (S.ev rfl) (S.ev rfl) Tryd.underlying43 ti3 (by decide) (by decide)) rfl rfl trivial ?_
      clear S; intro aa S
      obtain ⟨x57, c_3, H⟩ := H
      refine OL.pure S (Lf.run_ld (S.ev rfl) fl3 (S.cl c_3)) rfl rfl trivial ?_
      clear S; intro aa S
      refine OL.pure S (Lf.run_move (S.ev rfl)) rfl rfl trivial ?_
      clear S; intro aa S
      refine OL.pure S (Lf.run_eql (S.ev rfl) (S.ev rfl)) rfl rfl trivial ?_
      clear S; intro aa S
      refine OL.pure S (Lf.run_move (S.ev rfl)) rfl rfl trivial ?_
      clear S; intro aa S
      obtain ⟨J_1, H, HK_1⟩ := H
      refine OL.cutN 10 (fun aa ww => ∃ x70, St 71 ((70, Value.bool x70) :: [(2, Value.slice puts2.a puts2.n puts2.c), (4, Value.int .i64 e4), (11, Value.slice s16.a s16.n s16.c), (14, Value.int .i64 i14), (53, Value.slice puts2.a puts2.n puts2.c), (54, Value.int .i64 i14), (55, Value.pointer (some (q55.add ((i14 : Int).toNat * 2)))), (56, Value.pointer (some ((q55.add ((i14 : Int).toNat * 2)).add 1))), (57, Value.int .i64 x57), (58, Value.int .i64 e4), (59, Value.bool (x57 == e4)), (60, Value.bool (x57 == e4))]) h3 w0 aa ww ∧ J_1 x70) ?_ ?_
      · rcases Bool.eq_false_or_eq_true (x57 == e4) with hb_4 | hb_4
        · replace H := H.1 hb_4
          refine OL.pure S (Lf.run_move (S.ev rfl)) rfl rfl (GOk.mk rfl rfl hb_4) ?_
          clear S; intro aa S
          refine OL.pure S (Lf.run_move (S.ev rfl)) rfl rfl (GOk.mk rfl rfl hb_4) ?_
          clear S; intro aa S
          refine OL.pure S (Lf.run_move (S.ev rfl)) rfl rfl (GOk.mk rfl rfl hb_4) ?_
          clear S; intro aa S
          obtain ⟨q64, e_24, e_25, e_26, H⟩ := H
          refine OL.pure S (Lf.run_ixs (S.ev rfl) (S.ev rfl) Tryd.underlying26 ti43 e_24 e_25 e_26) rfl rfl (GOk.mk rfl rfl hb_4) ?_
          clear S; intro aa S
          refine OL.pure S (Lf.run_ixa (S.ev rfl) (S.ev rfl) Tryd.underlying43 ti3 (by decide) (by decide)) rfl rfl (GOk.mk rfl rfl hb_4) ?_
          clear S; intro aa S
          obtain ⟨x66, c_4, H⟩ := H
          refine OL.pure S (Lf.run_ld (S.ev rfl) fl3 (S.cl c_4)) rfl rfl (GOk.mk rfl rfl hb_4) ?_
          clear S; intro aa S
          obtain ⟨q67, e_29, e_30, e_31, H⟩ := H
          refine OL.pure S (Lf.run_ixs (S.ev rfl) (S.ev rfl) Tryd.underlying29 ti3 e_29 e_30 e_31) rfl rfl (GOk.mk rfl rfl hb_4) ?_
          clear S; intro aa S
          obtain ⟨x68, c_5, H⟩ := H
          refine OL.pure S (Lf.run_ld (S.ev rfl) fl3 (S.cl c_5)) rfl rfl (GOk.mk rfl rfl hb_4) ?_
          clear S; intro aa S
          refine OL.pure S (Lf.run_gtr (S.ev rfl) (S.ev rfl)) rfl rfl (GOk.mk rfl rfl hb_4) ?_
          clear S; intro aa S
          refine OL.pure S (Lf.run_pickT (S.ev rfl) hb_4 (S.ev rfl)) rfl rfl trivial ?_
          clear S; intro aa S
          refine OL.nil ?_
          exact ⟨_, S.sub _ ⟨rfl, rfl, rfl, rfl, rfl, rfl, rfl, rfl, rfl, rfl, rfl, rfl, rfl, trivial⟩, H⟩
        · replace H := H.2 hb_4
          refine OL.not S rfl rfl (GNo.mk rfl rfl hb_4) ?_
          clear S; intro aa S
          refine OL.not S rfl rfl (GNo.mk rfl rfl hb_4) ?_
          clear S; intro aa S
          refine OL.not S rfl rfl (GNo.mk rfl rfl hb_4) ?_
          clear S; intro aa S
          refine OL.not S rfl rfl (GNo.mk rfl rfl hb_4) ?_
          clear S; intro aa S
          refine OL.not S rfl rfl (GNo.mk rfl rfl hb_4) ?_
          clear S; intro aa S
          refine OL.not S rfl rfl (GNo.mk rfl rfl hb_4) ?_
          clear S; intro aa S
          refine OL.not S rfl rfl (GNo.mk rfl rfl hb_4) ?_
          clear S; intro aa S
          refine OL.not S rfl rfl (GNo.mk rfl rfl hb_4) ?_
          clear S; intro aa S
          refine OL.not S rfl rfl (GNo.mk rfl rfl hb_4) ?_
          clear S; intro aa S
          refine OL.pure S (Lf.run_pickF (S.ev rfl) hb_4 (S.ev rfl)) rfl rfl trivial ?_
          clear S; intro aa S
          refine OL.nil ?_
          exact ⟨_, S.sub _ ⟨rfl, rfl, rfl, rfl, rfl, rfl, rfl, rfl, rfl, rfl, rfl, rfl, rfl, trivial⟩, H⟩
      · clear S aa
        rintro aa ww ⟨x70, S, HJ⟩
        replace H := HK_1 _ HJ
        clear HK_1 HJ
        refine OL.nil ?_
        refine W.cond S (b := x70) rfl (fun hb_5 => ?_) (fun hb_5 => ?_)
        · replace H := H.1 hb_5
          refine W.seq ?_
          replace S := S.sub [] trivial
          refine W.region ?_
          refine OL.pure S (Lf.run_assign (S.ev rfl)) rfl rfl trivial ?_
          clear S; intro aa S
          refine OL.nil ?_
          refine W.ret ?_
          exact Ret.one S rfl rfl H
        · replace H := H.2 hb_5
          refine W.skip ?_
          replace S := S.sub [(2, Value.slice puts2.a puts2.n puts2.c), (4, Value.int .i64 e4), (11, Value.slice s16.a s16.n s16.c), (14, Value.int .i64 i14)] ⟨rfl, rfl, rfl, rfl, trivial⟩
          refine W.region ?_
          refine OL.pure S (Lf.run_move (S.ev rfl)) rfl rfl trivial ?_
          clear S; intro aa S
          refine OL.pure S (Lf.run_add (S.ev rfl) (S.ev rfl)) rfl rfl trivial ?_
          clear S; intro aa S
          refine OL.pure S (Lf.run_assign (S.ev rfl)) rfl rfl trivial ?_
          clear S; intro aa S
          refine OL.nil ?_
          exact ⟨((IntKind.i64.wrap (i14 + 1))), ⟨S.sub _ ⟨rfl, rfl, rfl, rfl, trivial⟩, H.1⟩, H.2⟩
    · replace H := H.2 hb_3
      refine W.exit_ ?_
      refine xhit ?_
      refine W.seq ?_
      replace S := S.sub [] trivial
      refine W.region ?_
      refine OL.pure S (Lf.run_assign (S.ev rfl)) rfl rfl trivial ?_
      clear S; intro aa S
      refine OL.nil ?_
      refine W.ret ?_
      exact Ret.one S rfl rfl H

/-- (*chattel solve.Solver).Has -/
def L10 (s0 : Option Addr) (r1 : Int) (e2 : Int) (h : Heap) (R : Value → Heap → Prop) : Prop :=
  cal Tryd.prog 15 #[Value.pointer s0, Value.int .i64 r1] h fun u h1 => asB u fun x9 =>
  ∃ J : Bool → Heap → Prop, (andj x9 (fun k =>
    cal Tryd.prog 17 #[Value.pointer s0, Value.int .i64 e2] h1 fun u_1 h3 => asB u_1 fun x13 =>
    k x13 h3) h1 J) ∧ ∀ x14 h2, J x14 h2 →
  ∃ J_1 : Bool → Prop, (andr x14 (fun k_1 =>
    nn s0 fun p17 =>
    ldS h2 (p17.add 2) fun x19 =>
    ixS x19 r1 fun q21 =>
    ldS h2 (q21.add ((r1 : Int).toNat * 1)) fun x22 =>
    ixS x22 (IntKind.i64.wrap ((e2 : Int).tdiv 64)) fun q25 =>
    ldI .u64 h2 (q25.add (((IntKind.i64.wrap ((e2 : Int).tdiv 64)) : Int).toNat * 1)) fun x26 =>
    (0 ≤ ((e2 : Int).tmod 64)) ∧
    k_1 ((bitsI .and .u64 ((x26 : Int).fdiv (2 ^ (min (((e2 : Int).tmod 64) : Int).toNat IntKind.u64.bits))) 1) == 1)) J_1) ∧ ∀ x32, J_1 x32 →
  R (Value.bool x32) h2

set_option maxRecDepth 100000 in

theorem F10 {s0 r1 e2 h : _} {R : Value → Heap → Prop} (H : L10 s0 r1 e2 h R) : CallsH Tryd.prog 10 #[Value.pointer s0, Value.int .i64 r1, Value.int .i64 e2] h R := by
  refine CallsH.enter (n := 33) Tryd.func10 rfl rfl rfl rfl ?_
  intro w0 aa ww S
  unfold L10 at H
  refine W.seq ?_
  replace S := S.sub [(0, Value.pointer s0), (1, Value.int .i64 r1), (2, Value.int .i64 e2)] ⟨rfl, rfl, rfl, trivial⟩
  refine W.region ?_
  refine OL.pure S (Lf.run_assign (S.ev rfl)) rfl rfl trivial ?_
  clear S; intro aa S
  refine OL.nil ?_
  refine W.seq ?_
  replace S := S.sub [(0, Value.pointer s0), (1, Value.int .i64 r1), (2, Value.int .i64 e2)] ⟨rfl, rfl, rfl, trivial⟩
  refine W.region ?_
  refine OL.pure S (Lf.run_move (S.ev rfl)) rfl rfl trivial ?_
  clear S; intro aa S
  refine OL.pure S (Lf.run_move (S.ev rfl)) rfl rfl trivial ?_
  clear S; intro aa S
  refine ol_cal S H isfn15 rfl rfl trivial ?_
  clear S H aa; intro u aa ww h1 H S
  obtain ⟨x9, rfl, H⟩ := H
  refine OL.pure S (Lf.run_move (S.ev rfl)) rfl rfl trivial ?_
  clear S; intro aa S
  obtain ⟨J, H, HK⟩ := H
  refine OL.cutN 4 (fun aa ww => ∃ x14 h2, St 33 ((14, Value.bool x14) :: [(0, Value.pointer s0), (1, Value.int .i64 r1), (2, Value.int .i64 e2), (7, Value.pointer s0), (8, Value.int .i64 r1), (9, Value.bool x9), (10, Value.bool x9)]) h2 w0 aa ww ∧ J x14 h2) ?_ ?_
  · rcases Bool.eq_false_or_eq_true x9 with hb | hb
    · replace H := H.1 hb
      refine OL.pure S (Lf.run_move (S.ev rfl)) rfl rfl (GOk.mk rfl rfl hb) ?_
      clear S; intro aa S
      refine OL.pure S (Lf.run_move (S.ev rfl)) rfl rfl (GOk.mk rfl rfl hb) ?_
      clear S; intro aa S
      refine ol_cal S H isfn17 rfl rfl (GOk.mk rfl rfl hb) ?_
      clear S H aa; intro u_1 aa ww h3 H S
      obtain ⟨x13, rfl, H⟩ := H
      refine OL.pure S (Lf.run_pickT (S.ev rfl) hb (S.ev rfl)) rfl rfl trivial ?_
      clear S; intro aa S
      refine OL.nil ?_
      exact ⟨_, _, S.sub _ ⟨rfl, rfl, rfl, rfl, rfl, rfl, rfl, rfl, trivial⟩, H⟩
    · replace H := H.2 hb
      refine OL.not S rfl rfl (GNo.mk rfl rfl hb) ?_
      clear S; intro aa S
      refine OL.not S rfl rfl (GNo.mk rfl rfl hb) ?_
      clear S; intro aa S
      refine OL.not S rfl rfl (GNo.mk rfl rfl hb) ?_
      clear S; intro aa S
      refine OL.pure S (Lf.run_pickF (S.ev rfl) hb (S.ev rfl)) rfl rfl trivial ?_
      clear S; intro aa S
      refine OL.nil ?_
      exact ⟨_, _, S.sub _ ⟨rfl, rfl, rfl, rfl, rfl, rfl, rfl, rfl, trivial⟩, H⟩
  · clear S aa
    rintro aa ww ⟨x14, h2, S, HJ⟩
    replace H := HK _ _ HJ
    clear HK HJ
    refine OL.pure S (Lf.run_move (S.ev rfl)) rfl rfl trivial ?_
    clear S; intro aa S
    obtain ⟨J_1, H, HK_1⟩ := H
    refine OL.cutN 17 (fun aa ww => ∃ x32, St 33 ((32, Value.bool x32) :: [(0, Value.pointer s0), (1, Value.int .i64 r1), (2, Value.int .i64 e2), (7, Value.pointer s0), (8, Value.int .i64 r1), (9, Value.bool x9), (10, Value.bool x9), (14, Value.bool x14), (15, Value.bool x14)]) h2 w0 aa ww ∧ J_1 x32) ?_ ?_
    · rcases Bool.eq_false_or_eq_true x14 with hb_1 | hb_1
      · replace H := H.1 hb_1
        refine OL.pure S (Lf.run_move (S.ev rfl)) rfl rfl (GOk.mk rfl rfl hb_1) ?_
        clear S; intro aa S
        obtain ⟨p17, e, H⟩ := H
        refine OL.pure S (Lf.run_nc' (S.ev rfl) e) rfl rfl (GOk.mk rfl rfl hb_1) ?_
        clear S; intro aa S
        refine OL.pure S (Lf.run_fa (S.ev rfl) fa50_2) rfl rfl (GOk.mk rfl rfl hb_1) ?_
        clear S; intro aa S
        obtain ⟨x19, c, H⟩ := H
        refine OL.pure S (Lf.run_ld (S.ev rfl) fl46 (S.cl c)) rfl rfl (GOk.mk rfl rfl hb_1) ?_
        clear S; intro aa S
        refine OL.pure S (Lf.run_move (S.ev rfl)) rfl rfl (GOk.mk rfl rfl hb_1) ?_
        clear S; intro aa S
        obtain ⟨q21, e_1, e_2, e_3, H⟩ := H
        refine OL.pure S (Lf.run_ixs (S.ev rfl) (S.ev rfl) Tryd.underlying46 ti45 e_1 e_2 e_3) rfl rfl (GOk.mk rfl rfl hb_1) ?_
        clear S; intro aa S
        obtain ⟨x22, c_1, H⟩ := H
        refine OL.pure S (Lf.run_ld (S.ev rfl) fl45 (S.cl c_1)) rfl rfl (GOk.mk rfl rfl hb_1) ?_
        clear S; intro aa S
        refine OL.pure S (Lf.run_move (S.ev rfl)) rfl rfl (GOk.mk rfl rfl hb_1) ?_
        clear S; intro aa S
        refine OL.pure S (Lf.run_quo (S.ev rfl) (S.ev rfl) (by decide)) rfl rfl (GOk.mk rfl rfl hb_1) ?_
        clear S; intro aa S
        obtain ⟨q25, e_4, e_5, e_6, H⟩ := H
        refine OL.pure S (Lf.run_ixs (S.ev rfl) (S.ev rfl) Tryd.underlying45 ti51 e_4 e_5 e_6) rfl rfl (GOk.mk rfl rfl hb_1) ?_
        clear S; intro aa S
        obtain ⟨x26, c_2, H⟩ := H
        refine OL.pure S (Lf.run_ld (S.ev rfl) fl51 (S.cl c_2)) rfl rfl (GOk.mk rfl rfl hb_1) ?_
        clear S; intro aa S
        refine OL.pure S (Lf.run_move (S.ev rfl)) rfl rfl (GOk.mk rfl rfl hb_1) ?_
        clear S; intro aa S
        refine OL.pure S (Lf.run_rem (S.ev rfl) (S.ev rfl) (by decide)) rfl rfl (GOk.mk rfl rfl hb_1) ?_
        clear S; intro aa S
        obtain ⟨c_3, H⟩ := H
        refine OL.pure S (Lf.run_shr (S.ev rfl) (S.ev rfl) c_3) rfl rfl (GOk.mk rfl rfl hb_1) ?_
        clear S; intro aa S
        refine OL.pure S (Lf.run_bits (op := .and) (by simp) (S.ev rfl) (S.ev rfl)) rfl rfl (GOk.mk rfl rfl hb_1) ?_
        clear S; intro aa S
        refine OL.pure S (Lf.run_eql (S.ev rfl) (S.ev rfl)) rfl rfl (GOk.mk rfl rfl hb_1) ?_
        clear S; intro aa S
        refine OL.pure S (Lf.run_pickT (S.ev rfl) hb_1 (S.ev rfl)) rfl rfl trivial ?_
        clear S; intro aa S
        refine OL.nil ?_
        exact ⟨_, S.sub _ ⟨rfl, rfl, rfl, rfl, rfl, rfl, rfl, rfl, rfl, rfl, trivial⟩, H⟩
      · replace H := H.2 hb_1
        refine OL.not S rfl rfl (GNo.mk rfl rfl hb_1) ?_
        clear S; intro aa S
        refine OL.not S rfl rfl (GNo.mk rfl rfl hb_1) ?_
        clear S; intro aa S
        refine OL.not S rfl rfl (GNo.mk rfl rfl hb_1) ?_
        clear S; intro aa S
        refine OL.not S rfl rfl (GNo.mk rfl rfl hb_1) ?_
        clear S; intro aa S
        refine OL.not S rfl rfl (GNo.mk rfl rfl hb_1) ?_
        clear S; intro aa S
        refine OL.not S rfl rfl (GNo.mk rfl rfl hb_1) ?_
        clear S; intro aa S
        refine OL.not S rfl rfl (GNo.mk rfl rfl hb_1) ?_
        clear S; intro aa S
        refine OL.not S rfl rfl (GNo.mk rfl rfl hb_1) ?_
        clear S; intro aa S
        refine OL.not S rfl rfl (GNo.mk rfl rfl hb_1) ?_
        clear S; intro aa S
        refine OL.not S rfl rfl (GNo.mk rfl rfl hb_1) ?_
        clear S; intro aa S
        refine OL.not S rfl rfl (GNo.mk rfl rfl hb_1) ?_
        clear S; intro aa S
        refine OL.not S rfl rfl (GNo.mk rfl rfl hb_1) ?_
        clear S; intro aa S
        refine OL.not S rfl rfl (GNo.mk rfl rfl hb_1) ?_
        clear S; intro aa S
        refine OL.not S rfl rfl (GNo.mk rfl rfl hb_1) ?_
        clear S; intro aa S
        refine OL.not S rfl rfl (GNo.mk rfl rfl hb_1) ?_
        clear S; intro aa S
        refine OL.not S rfl rfl (GNo.mk rfl rfl hb_1) ?_
        clear S; intro aa S
        refine OL.pure S (Lf.run_pickF (S.ev rfl) hb_1 (S.ev rfl)) rfl rfl trivial ?_
        clear S; intro aa S
        refine OL.nil ?_
        exact ⟨_, S.sub _ ⟨rfl, rfl, rfl, rfl, rfl, rfl, rfl, rfl, rfl, rfl, trivial⟩, H⟩
    · clear S aa
      rintro aa ww ⟨x32, S, HJ⟩
      replace H := HK_1 _ HJ
      clear HK_1 HJ
      refine OL.pure S (Lf.run_assign (S.ev rfl)) rfl rfl trivial ?_
      clear S; intro aa S
      refine OL.nil ?_
      refine W.ret ?_
      exact Ret.one S rfl rfl H

/-- (*chattel solve.Solver).Count -/
def L11 (s0 : Option Addr) (r1 : Int) (h : Heap) (R : Value → Heap → Prop) : Prop :=
  ∃ J : Int → Heap → Prop, (
    cal Tryd.prog 15 #[Value.pointer s0, Value.int .i64 r1] h fun u h1 => asB u fun x10 =>
    ifb x10 (
      nn s0 fun p12 =>
      ldS h1 (p12.add 2) fun x14 =>
      ixS x14 r1 fun q16 =>
      ldS h1 (q16.add ((r1 : Int).toNat * 1)) fun x17 =>
      ∃ (I : Int → Int → Heap → Prop) (m : Int → Int → Heap → Nat), I 0 0 h1 ∧ ∀ n5 x19 h2, I n5 x19 h2 →
      ifb (decide (x19 < ((x17.n : Nat) : Int))) (
        ixS x17 x19 fun q21 =>
        ldI .u64 h2 (q21.add ((x19 : Int).toNat * 1)) fun x22 =>
        cal Tryd.prog 18 #[Value.int .u64 x22] h2 fun u_1 h3 => asI .i64 u_1 fun x25 =>
        I (IntKind.i64.wrap (n5 + x25)) (IntKind.i64.wrap (x19 + 1)) h3 ∧ m (IntKind.i64.wrap (n5 + x25)) (IntKind.i64.wrap (x19 + 1)) h3 < m n5 x19 h2) (
        J n5 h2)) (
      J 0 h1)) ∧ (∀ n5_1 h4, J n5_1 h4 →
  R (Value.int .i64 n5_1) h4)

set_option maxRecDepth 100000 in

theorem F11 {s0 r1 h : _} {R : Value → Heap → Prop} (H : L11 s0 r1 h R) : CallsH Tryd.prog 11 #[Value.pointer s0, Value.int .i64 r1] h R := by
  refine CallsH.enter (n := 29) Tryd.func11 rfl rfl rfl rfl ?_
  intro w0 aa ww S
  unfold L11 at H
  refine W.seq ?_
  replace S := S.sub [(0, Value.pointer s0), (1, Value.int .i64 r1)] ⟨rfl, rfl, trivial⟩
  refine W.region ?_
  refine OL.pure S (Lf.run_assign (S.ev rfl)) rfl rfl trivial ?_
  clear S; intro aa S
  refine OL.nil ?_
  refine W.seq ?_
  replace S := S.sub [(0, Value.pointer s0), (1, Value.int .i64 r1)] ⟨rfl, rfl, trivial⟩
  refine W.region ?_
  refine OL.pure S (Lf.run_assign (S.ev rfl)) rfl rfl trivial ?_
  clear S; intro aa S
  refine OL.nil ?_
  obtain ⟨J, H, HK⟩ := H
  refine W.seqJ (fun aa ww => ∃ n5_1 h4, St 29 [(5, Value.int .i64 n5_1)] h4 w0 aa ww ∧ J n5_1 h4) ?_ ?_
  · clear HK
    refine W.seq ?_
    replace S := S.sub [(0, Value.pointer s0), (1, Value.int .i64 r1), (5, Value.int .i64 0)] ⟨rfl, rfl, rfl, trivial⟩
    refine W.region ?_
    refine OL.pure S (Lf.run_move (S.ev rfl)) rfl rfl trivial ?_
    clear S; intro aa S
    refine OL.pure S (Lf.run_move (S.ev rfl)) rfl rfl trivial ?_
    clear S; intro aa S
    refine ol_cal S H isfn15 rfl rfl trivial ?_
    clear S H aa; intro u aa ww h1 H S
    obtain ⟨x10, rfl, H⟩ := H
    refine OL.nil ?_
    refine W.cond S (b := x10) rfl (fun hb => ?_) (fun hb => ?_)
    · replace H := H.1 hb
      refine W.seq ?_
      replace S := S.sub [(0, Value.pointer s0), (1, Value.int .i64 r1), (5, Value.int .i64 0)] ⟨rfl, rfl, rfl, trivial⟩
      refine W.region ?_
      refine OL.pure S (Lf.run_move (S.ev rfl)) rfl rfl trivial ?_
      clear S; intro aa S
      obtain ⟨p12, e, H⟩ := H
      refine OL.pure S (Lf.run_nc' (S.ev rfl) e) rfl rfl trivial ?_
      clear S; intro aa S
      refine OL.pure S (Lf.run_fa (S.ev rfl) fa50_2) rfl rfl trivial ?_
      clear S; intro aa S
      obtain ⟨x14, c, H⟩ := H
      refine OL.pure S (Lf.run_ld (S.ev rfl) fl46 (S.cl c)) rfl rfl trivial ?_
      clear S; intro aa S
      refine OL.pure S (Lf.run_move (S.ev rfl)) rfl rfl trivial ?_
      clear S; intro aa S
      obtain ⟨q16, e_1, e_2, e_3, H⟩ := H
      refine OL.pure S (Lf.run_ixs (S.ev rfl) (S.ev rfl) Tryd.underlying46 ti45 e_1 e_2 e_3) rfl rfl trivial ?_
      clear S; intro aa S
      obtain ⟨x17, c_1, H⟩ := H
      refine OL.pure S (Lf.run_ld (S.ev rfl) fl45 (S.cl c_1)) rfl rfl trivial ?_
      clear S; intro aa S
      refine OL.pure S (Lf.run_lens (S.ev rfl) rfl Tryd.underlying45) rfl rfl trivial ?_
      clear S; intro aa S
      refine OL.pure S (Lf.run_move (S.ev rfl)) rfl rfl trivial ?_
      clear S; intro aa S
      refine OL.nil ?_
      refine W.block ?_
      obtain ⟨I, m, H, HB⟩ := H
      refine W.loopS (σ := Int × Int × Heap) (fun s aa ww => St 29 [(5, Value.int .i64 s.1), (17, Value.slice x17.a x17.n x17.c), (18, Value.int .i64 ((x17.n : Nat) : Int)), (19, Value.int .i64 s.2.1)] s.2.2 w0 aa ww ∧ I s.1 s.2.1 s.2.2) (fun s => m s.1 s.2.1 s.2.2) (0, 0, h1) ⟨S.sub _ ⟨rfl, rfl, rfl, rfl, trivial⟩, H⟩ ?_
      clear H S aa
      rintro ⟨n5, x19, h2⟩ aa ww ⟨S, HI⟩
      replace S : St 29 [(5, Value.int .i64 n5), (17, Value.slice x17.a x17.n x17.c), (18, Value.int .i64 ((x17.n : Nat) : Int)), (19, Value.int .i64 x19)] h2 w0 aa ww := S
      have H := HB n5 x19 h2 HI
      clear HI
      refine W.seq ?_
      replace S := S.sub [(5, Value.int .i64 n5), (17, Value.slice x17.a x17.n x17.c), (18, Value.int .i64 ((x17.n : Nat) : Int)), (19, Value.int .i64 x19)] ⟨rfl, rfl, rfl, rfl, trivial⟩
      refine W.region ?_
      refine OL.pure S (Lf.run_lss (S.ev rfl) (S.ev rfl)) rfl rfl trivial ?_
      clear S; intro aa S
      refine OL.nil ?_
      refine W.seq ?_
      refine W.cond S (b := (decide (x19 < ((x17.n : Nat) : Int)))) rfl (fun hb_1 => ?_) (fun hb_1 => ?_)
      · replace H := H.1 hb_1
        refine W.skip ?_
        refine W.seq ?_
        refine W.block ?_
        refine W.seq ?_
        replace S := S.sub [(5, Value.int .i64 n5), (17, Value.slice x17.a x17.n x17.c), (18, Value.int .i64 ((x17.n : Nat) : Int)), (19, Value.int .i64 x19)] ⟨rfl, rfl, rfl, rfl, trivial⟩
        refine W.region ?_
        obtain ⟨q21, e_4, e_5, e_6, H⟩ := H
        refine OL.pure S (Lf.run_ixs (S.ev rfl) (S.ev rfl) Tryd.underlying45 ti51 e_4 e_5 e_6) rfl rfl trivial ?_
        clear S; intro aa S
        obtain ⟨x22, c_2, H⟩ := H
        refine OL.pure S (Lf.run_ld (S.ev rfl) fl51 (S.cl c_2)) rfl rfl trivial ?_
        clear S; intro aa S
        refine OL.pure S (Lf.run_assign (S.ev rfl)) rfl rfl trivial ?_
        clear S; intro aa S
        refine OL.nil ?_
        replace S := S.sub [(5, Value.int .i64 n5), (7, Value.int .u64 x22), (17, Value.slice x17.a x17.n x17.c), (18, Value.int .i64 ((x17.n : Nat) : Int)), (19, Value.int .i64 x19)] ⟨rfl, rfl, rfl, rfl, rfl, trivial⟩
        refine W.region ?_
        refine OL.pure S (Lf.run_move (S.ev rfl)) rfl rfl trivial ?_
        clear S; intro aa S
        refine OL.pure S (Lf.run_move (S.ev rfl)) rfl rfl trivial ?_
        clear S; intro aa S
        refine ol_cal S H isfn18 rfl rfl trivial ?_
        clear S H aa; intro u_1 aa ww h3 H S
        obtain ⟨x25, rfl, H⟩ := H
        refine OL.pure S (Lf.run_add (S.ev rfl) (S.ev rfl)) rfl rfl trivial ?_
        clear S; intro aa S
        refine OL.pure S (Lf.run_assign (S.ev rfl)) rfl rfl trivial ?_
        clear S; intro aa S
        refine OL.nil ?_
        replace S := S.sub [(5, Value.int .i64 (IntKind.i64.wrap (n5 + x25))), (17, Value.slice x17.a x17.n x17.c), (18, Value.int .i64 ((x17.n : Nat) : Int)), (19, Value.int .i64 x19)] ⟨rfl, rfl, rfl, rfl, trivial⟩
        refine W.region ?_
        refine OL.pure S (Lf.run_add (S.ev rfl) (S.ev rfl)) rfl rfl trivial ?_
        clear S; intro aa S
        refine OL.pure S (Lf.run_move (S.ev rfl)) rfl rfl trivial ?_
        clear S; intro aa S
        refine OL.nil ?_
        exact ⟨((IntKind.i64.wrap (n5 + x25)), (IntKind.i64.wrap (x19 + 1)), h3), ⟨S.sub _ ⟨rfl, rfl, rfl, rfl, trivial⟩, H.1⟩, H.2⟩
      · replace H := H.2 hb_1
        refine W.exit_ ?_
        refine xhit ?_
        exact ⟨n5, h2, S.sub _ ⟨rfl, trivial⟩, H⟩
    · replace H := H.2 hb
      refine W.skip ?_
      exact ⟨0, h1, S.sub _ ⟨rfl, trivial⟩, H⟩
  · clear H S aa
    rintro aa ww ⟨n5_1, h4, S, HJ⟩
    have H := HK _ _ HJ
    clear HK HJ
    refine W.seq ?_
    replace S := S.sub [(5, Value.int .i64 n5_1)] ⟨rfl, trivial⟩
    refine W.region ?_
    refine OL.pure S (Lf.run_move (S.ev rfl)) rfl rfl trivial ?_
    clear S; intro aa S
    refine OL.pure S (Lf.run_assign (S.ev rfl)) rfl rfl trivial ?_
    clear S; intro aa S
    refine OL.nil ?_
    refine W.ret ?_
    exact Ret.one S rfl rfl H

/-- chattel solve.New -/
def L12 (n0 : Int) (width1 : Int) (h : Heap) (R : Value → Heap → Prop) : Prop :=
  ifb ((((decide (n0 < 0)) || (decide (1501 < n0))) || (decide (width1 < 0))) || (decide (2700 < width1))) (
    R (.tuple #[Value.pointer none, Value.int .i64 14]) h) (
    ∃ J : Option Addr → Heap → Prop, (
      (
        mkS 29 (Value.slice (⟨none, 0, 0⟩ : Sv).a (⟨none, 0, 0⟩ : Sv).n (⟨none, 0, 0⟩ : Sv).c).cells 1 24 n0 n0 h fun s24 h1 =>
        mkS 4 (Value.bool false).cells 1 1 n0 n0 h1 fun s26 h2 =>
        new 50 #[Value.int .i64 n0, Value.int .i64 width1, Value.slice (⟨none, 0, 0⟩ : Sv).a (⟨none, 0, 0⟩ : Sv).n (⟨none, 0, 0⟩ : Sv).c, Value.slice s24.a s24.n s24.c, Value.slice (⟨none, 0, 0⟩ : Sv).a (⟨none, 0, 0⟩ : Sv).n (⟨none, 0, 0⟩ : Sv).c, Value.slice s26.a s26.n s26.c] h2 fun p28 h3 =>
        J (some p28) h3) ∧ (
        mkS 4 (Value.bool false).cells 1 1 n0 n0 h fun s26_1 h4 =>
        mkS 29 (Value.slice (⟨none, 0, 0⟩ : Sv).a (⟨none, 0, 0⟩ : Sv).n (⟨none, 0, 0⟩ : Sv).c).cells 1 24 n0 n0 h4 fun s24_1 h5 =>
        new 50 #[Value.int .i64 n0, Value.int .i64 width1, Value.slice (⟨none, 0, 0⟩ : Sv).a (⟨none, 0, 0⟩ : Sv).n (⟨none, 0, 0⟩ : Sv).c, Value.slice s24_1.a s24_1.n s24_1.c, Value.slice (⟨none, 0, 0⟩ : Sv).a (⟨none, 0, 0⟩ : Sv).n (⟨none, 0, 0⟩ : Sv).c, Value.slice s26_1.a s26_1.n s26_1.c] h5 fun p28_1 h6 =>
        J (some p28_1) h6)) ∧ (∀ s6 h7, J s6 h7 →
    ∃ (I : Int → Heap → Prop) (m : Int → Heap → Nat), I 0 h7 ∧ ∀ x30 h8, I x30 h8 →
    ifb (decide (x30 < n0)) (
      ∃ Sq_1 : Heap → Prop, Sq_1 h8 ∧ (
        nn s6 fun p34 =>
        hlS Sq_1 (p34.add 2) fun x36 =>
        mkS 51 (Value.int .u64 0).cells 1 8 (IntKind.i64.wrap (((IntKind.i64.wrap (width1 + 63)) : Int).tdiv 64)) (IntKind.i64.wrap (((IntKind.i64.wrap (width1 + 63)) : Int).tdiv 64)) h8 fun s40 h9 =>
        Sq_1 h9 ∧
        newS 45 #[Value.slice s40.a s40.n s40.c] 1 h9 fun s41 h10 =>
        Sq_1 h10 ∧
        appS 45 (Value.slice (⟨none, 0, 0⟩ : Sv).a (⟨none, 0, 0⟩ : Sv).n (⟨none, 0, 0⟩ : Sv).c).cells 1 24 h10 x36 s41 fun s42 h11 =>
        nn s6 fun p43 =>
        sto h11 (p43.add 2) (Value.slice s42.a s42.n s42.c) fun h12 =>
        I (IntKind.i64.wrap (x30 + 1)) h12 ∧ m (IntKind.i64.wrap (x30 + 1)) h12 < m x30 h8)) (
      R (.tuple #[Value.pointer s6, Value.int .i64 0]) h8)))

set_option maxRecDepth 100000 in

theorem F12 {n0 width1 h : _} {R : Value → Heap → Prop} (H : L12 n0 width1 h R) : CallsH Tryd.prog 12 #[Value.int .i64 n0, Value.int .i64 width1] h R := by
  refine CallsH.enter (n := 47) Tryd.func12 rfl rfl rfl rfl ?_
  intro w0 aa ww S
  unfold L12 at H
  refine W.seq ?_
  replace S := S.sub [(0, Value.int .i64 n0), (1, Value.int .i64 width1)] ⟨rfl, rfl, trivial⟩
  refine W.region ?_
  refine OL.pure S (Lf.run_assign (S.ev rfl)) rfl rfl trivial ?_
  clear S; intro aa S
  refine OL.pure S (Lf.run_assign (S.ev rfl)) rfl rfl trivial ?_
  clear S; intro aa S
  refine OL.nil ?_
  refine W.seq ?_
  refine W.seq ?_
  replace S := S.sub [(0, Value.int .i64 n0), (1, Value.int .i64 width1)] ⟨rfl, rfl, trivial⟩
  refine W.region ?_
  refine OL.pure S (Lf.run_move (S.ev rfl)) rfl rfl trivial ?_
  clear S; intro aa S
  refine OL.pure S (Lf.run_lss (S.ev rfl) (S.ev rfl)) rfl rfl trivial ?_
  clear S; intro aa S
  refine OL.pure S (Lf.run_move (S.ev rfl)) rfl rfl trivial ?_
  clear S; intro aa S
  refine OL.cutN 3 (fun aa ww => St 47 ((12, Value.bool ((decide (n0 < 0)) || (decide (1501 < n0)))) :: [(0, Value.int .i64 n0), (1, Value.int .i64 width1), (7, Value.int .i64 n0), (8, Value.bool (decide (n0 < 0))), (9, Value.bool (decide (n0 < 0)))]) h w0 aa ww) ?_ ?_
  · rcases Bool.eq_false_or_eq_true (decide (n0 < 0)) with hb | hb
    · refine OL.not S rfl rfl (GNo.mk rfl rfl hb) ?_
      clear S; intro aa S
      refine OL.not S rfl rfl (GNo.mk rfl rfl hb) ?_
      clear S; intro aa S
      refine OL.pure S (Lf.run_pickT (S.ev rfl) hb (S.ev rfl)) rfl rfl trivial ?_
      clear S; intro aa S
      refine OL.nil ?_
      exact (S.hd (by rw [hb, Bool.true_or])).sub _ ⟨rfl, rfl, rfl, rfl, rfl, rfl, trivial⟩
    · refine OL.pure S (Lf.run_move (S.ev rfl)) rfl rfl (GOk.mk rfl rfl hb) ?_
      clear S; intro aa S
      refine OL.pure S (Lf.run_gtr (S.ev rfl) (S.ev rfl)) rfl rfl (GOk.mk rfl rfl hb) ?_
      clear S; intro aa S
      refine OL.pure S (Lf.run_pickF (S.ev rfl) hb (S.ev rfl)) rfl rfl trivial ?_
      clear S; intro aa S
      refine OL.nil ?_
      exact (S.hd (by rw [hb, Bool.false_or])).sub _ ⟨rfl, rfl, rfl, rfl, rfl, rfl, trivial⟩
  · clear S aa
    intro aa ww S
    refine OL.pure S (Lf.run_move (S.ev rfl)) rfl rfl trivial ?_
    clear S; intro aa S
    refine OL.cutN 3 (fun aa ww => St 47 ((16, Value.bool (((decide (n0 < 0)) || (decide (1501 < n0))) || (decide (width1 < 0)))) :: [(0, Value.int .i64 n0), (1, Value.int .i64 width1), (7, Value.int .i64 n0), (8, Value.bool (decide (n0 < 0))), (9, Value.bool (decide (n0 < 0))), (12, Value.bool ((decide (n0 < 0)) || (decide (1501 < n0)))), (13, Value.bool ((decide (n0 < 0)) || (decide (1501 < n0))))]) h w0 aa ww) ?_ ?_
    · rcases Bool.eq_false_or_eq_true ((decide (n0 < 0)) || (decide (1501 < n0))) with hb_1 | hb_1
      · refine OL.not S rfl rfl (GNo.mk rfl rfl hb_1) ?_
        clear S; intro aa S
        refine OL.not S rfl rfl (GNo.mk rfl rfl hb_1) ?_
        clear S; intro aa S
        refine OL.pure S (Lf.run_pickT (S.ev rfl) hb_1 (S.ev rfl)) rfl rfl trivial ?_
        clear S; intro aa S
        refine OL.nil ?_
        exact (S.hd (by rw [hb_1, Bool.true_or])).sub _ ⟨rfl, rfl, rfl, rfl, rfl, rfl, rfl, rfl, trivial⟩
      · refine OL.pure S (Lf.run_move (S.ev rfl)) rfl rfl (GOk.mk rfl rfl hb_1) ?_
        clear S; intro aa S
        refine OL.pure S (Lf.run_lss (S.ev rfl) (S.ev rfl)) rfl rfl (GOk.mk rfl rfl hb_1) ?_
        clear S; intro aa S
        refine OL.pure S (Lf.run_pickF (S.ev rfl) hb_1 (S.ev rfl)) rfl rfl trivial ?_
        clear S; intro aa S
        refine OL.nil ?_
        exact (S.hd (by rw [hb_1, Bool.false_or])).sub _ ⟨rfl, rfl, rfl, rfl, rfl, rfl, rfl, rfl, trivial⟩
    · clear S aa
      intro aa ww S
      refine OL.pure S (Lf.run_move (S.ev rfl)) rfl rfl trivial ?_
      clear S; intro aa S
      refine OL.cutN 3 (fun aa ww => St 47 ((20, Value.bool ((((decide (n0 < 0)) || (decide (1501 < n0))) || (decide (width1 < 0))) || (decide (2700 < width1)))) :: [(0, Value.int .i64 n0), (1, Value.int .i64 width1), (7, Value.int .i64 n0), (8, Value.bool (decide (n0 < 0))), (9, Value.bool (decide (n0 < 0))), (12, Value.bool ((decide (n0 < 0)) || (decide (1501 < n0)))), (13, Value.bool ((decide (n0 < 0)) || (decide (1501 < n0)))), (16, Value.bool (((decide (n0 < 0)) || (decide (1501 < n0))) || (decide (width1 < 0)))), (17, Value.bool (((decide (n0 < 0)) || (decide (1501 < n0))) || (decide (width1 < 0))))]) h w0 aa ww) ?_ ?_
      · rcases Bool.eq_false_or_eq_true (((decide (n0 < 0)) || (decide (1501 < n0))) || (decide (width1 < 0))) with hb_2 | hb_2
        · refine OL.not S rfl rfl (GNo.mk rfl rfl hb_2) ?_
          clear S; intro aa S
          refine OL.not S rfl rfl (GNo.mk rfl rfl hb_2) ?_
          clear S; intro aa S
          refine OL.pure S (Lf.run_pickT (S.ev rfl) hb_2 (S.ev rfl)) rfl rfl trivial ?_
          clear S; intro aa S
          refine OL.nil ?_
          exact (S.hd (by rw [hb_2, Bool.true_or])).sub _ ⟨rfl, rfl, rfl, rfl, rfl, rfl, rfl, rfl, rfl, rfl, trivial⟩
        · refine OL.pure S (Lf.run_move (S.ev rfl)) rfl rfl (GOk.mk rfl rfl hb_2) ?_
          clear S; intro aa S
          refine OL.pure S (Lf.run_gtr (S.ev rfl) (S.ev rfl)) rfl rfl (GOk.mk rfl rfl hb_2) ?_
          clear S; intro aa S
          refine OL.pure S (Lf.run_pickF (S.ev rfl) hb_2 (S.ev rfl)) rfl rfl trivial ?_
          clear S; intro aa S
          refine OL.nil ?_
          exact (S.hd (by rw [hb_2, Bool.false_or])).sub _ ⟨rfl, rfl, rfl, rfl, rfl, rfl, rfl, rfl, rfl, rfl, trivial⟩
      · clear S aa
        intro aa ww S
        refine OL.nil ?_
        refine W.cond S (b := ((((decide (n0 < 0)) || (decide (1501 < n0))) || (decide (width1 < 0))) || (decide (2700 < width1)))) rfl (fun hb_3 => ?_) (fun hb_3 => ?_)
        · replace H := H.1 hb_3
          refine W.seq ?_
          replace S := S.sub [] trivial
          refine W.region ?_
          refine OL.pure S (Lf.run_assign (S.ev rfl)) rfl rfl trivial ?_
          clear S; intro aa S
          refine OL.pure S (Lf.run_assign (S.ev rfl)) rfl rfl trivial ?_
          clear S; intro aa S
          refine OL.nil ?_
          refine W.ret ?_
          exact Ret.two S rfl rfl rfl H
        · replace H := H.2 hb_3
          refine W.skip ?_
          refine W.seq ?_
          replace S := S.sub [(0, Value.int .i64 n0), (1, Value.int .i64 width1)] ⟨rfl, rfl, trivial⟩
          obtain ⟨J, H, HK⟩ := H
          refine W.mono (N' := fun aa ww => ∃ s6 h7, St 47 [(0, Value.int .i64 n0), (1, Value.int .i64 width1), (6, Value.pointer s6)] h7 w0 aa ww ∧ J s6 h7) ?_ ?_
          · refine W.regionN [] [3, 5, 7] (fun _ => True) S (by kernel_rfl) ?_
            clear S; intro ww S
            refine BN.pure 0 S (noNeed (by kernel_rfl)) rfl (by kernel_rfl) (by kernel_rfl) (fun _ => Lf.run_move (S.ev rfl)) rfl rfl trivial ?_
            clear S; intro aa S
            refine BN.pure 1 S (noNeed (by kernel_rfl)) rfl (by kernel_rfl) (by kernel_rfl) (fun _ => Lf.run_move (S.ev rfl)) rfl rfl trivial ?_
            clear S; intro aa S
            refine BN.pure 2 S (noNeed (by kernel_rfl)) rfl (by kernel_rfl) (by kernel_rfl) (fun _ => Lf.run_move (S.ev rfl)) rfl rfl trivial ?_
            clear S; intro aa S
            refine BN.pure 4 S (noNeed (by kernel_rfl)) rfl (by kernel_rfl) (by kernel_rfl) (fun _ => Lf.run_move (S.ev rfl)) rfl rfl trivial ?_
            clear S; intro aa S
            refine BN.effs [3, 5] (by kernel_rfl) rfl ⟨⟨_, rfl, ?_⟩, ⟨_, rfl, ?_⟩, trivial⟩
            · replace H := H.1
              refine ol_mkS S H Tryd.underlying47 ti29 rfl rfl rfl trivial ?_
              clear S H aa; intro s24 aa ww h1 H S
              refine OL.nil ?_
              refine ⟨noNeed (by kernel_rfl), ?_⟩
              refine BN.eff 5 rfl (by kernel_rfl) ?_
              refine ol_mkS S H Tryd.underlying48 ti4 rfl rfl rfl trivial ?_
              clear S H aa; intro s26 aa ww h2 H S
              refine OL.nil ?_
              refine ⟨noNeed (by kernel_rfl), ?_⟩
              refine BN.pure 6 S (noNeed (by kernel_rfl)) rfl (by kernel_rfl) (by kernel_rfl) (fun _ => Lf.run_build (cs := #[Value.int .i64 n0, Value.int .i64 width1, Value.slice (⟨none, 0, 0⟩ : Sv).a (⟨none, 0, 0⟩ : Sv).n (⟨none, 0, 0⟩ : Sv).c, Value.slice s24.a s24.n s24.c, Value.slice (⟨none, 0, 0⟩ : Sv).a (⟨none, 0, 0⟩ : Sv).n (⟨none, 0, 0⟩ : Sv).c, Value.slice s26.a s26.n s26.c]) pl50 ti50 (parts_map S rfl) (by kernel_rfl)) rfl rfl trivial ?_
              clear S; intro aa S
              refine BN.eff 7 rfl (by kernel_rfl) ?_
              refine ol_box S H rfl rfl rfl trivial ?_
              clear S H aa; intro p28 aa ww h3 H S
              refine OL.nil ?_
              refine ⟨noNeed (by kernel_rfl), ?_⟩
              refine BN.pure 8 S (noNeed (by kernel_rfl)) rfl (by kernel_rfl) (by kernel_rfl) (fun _ => Lf.run_assign (S.ev rfl)) rfl rfl trivial ?_
              clear S; intro aa S
              refine BN.done (by kernel_rfl) ?_
              exact ⟨(some p28), h3, S.sub _ ⟨rfl, rfl, rfl, trivial⟩, H⟩
            · replace H := H.2
              refine ol_mkS S H Tryd.underlying48 ti4 rfl rfl rfl trivial ?_
              clear S H aa; intro s26_1 aa ww h4 H S
              refine OL.nil ?_
              refine ⟨noNeed (by kernel_rfl), ?_⟩
              refine BN.eff 3 rfl (by kernel_rfl) ?_
              refine ol_mkS S H Tryd.underlying47 ti29 rfl rfl rfl trivial ?_
              clear S H aa; intro s24_1 aa ww h5 H S
              refine OL.nil ?_
              refine ⟨noNeed (by kernel_rfl), ?_⟩
              refine BN.pure 6 S (noNeed (by kernel_rfl)) rfl (by kernel_rfl) (by kernel_rfl) (fun _ => Lf.run_build (cs := #[Value.int .i64 n0, Value.int .i64 width1, Value.slice (⟨none, 0, 0⟩ : Sv).a (⟨none, 0, 0⟩ : Sv).n (⟨none, 0, 0⟩ : Sv).c, Value.slice s24_1.a s24_1.n s24_1.c, Value.slice (⟨none, 0, 0⟩ : Sv).a (⟨none, 0, 0⟩ : Sv).n (⟨none, 0, 0⟩ : Sv).c, Value.slice s26_1.a s26_1.n s26_1.c]) pl50 ti50 (parts_map S rfl) (by kernel_rfl)) rfl rfl trivial ?_
              clear S; intro aa S
              refine BN.eff 7 rfl (by kernel_rfl) ?_
              refine ol_box S H rfl rfl rfl trivial ?_
              clear S H aa; intro p28_1 aa ww h6 H S
              refine OL.nil ?_
              refine ⟨noNeed (by kernel_rfl), ?_⟩
              refine BN.pure 8 S (noNeed (by kernel_rfl)) rfl (by kernel_rfl) (by kernel_rfl) (fun _ => Lf.run_assign (S.ev rfl)) rfl rfl trivial ?_
              clear S; intro aa S
              refine BN.done (by kernel_rfl) ?_
              exact ⟨(some p28_1), h6, S.sub _ ⟨rfl, rfl, rfl, trivial⟩, H⟩
          · clear H S aa
            rintro aa ww ⟨s6, h7, S, HJ⟩
            have H := HK _ _ HJ
            clear HK HJ
            refine W.seq ?_
            refine W.seq ?_
            replace S := S.sub [(0, Value.int .i64 n0), (1, Value.int .i64 width1), (6, Value.pointer s6)] ⟨rfl, rfl, rfl, trivial⟩
            refine W.region ?_
            refine OL.pure S (Lf.run_move (S.ev rfl)) rfl rfl trivial ?_
            clear S; intro aa S
            refine OL.pure S (Lf.run_move (S.ev rfl)) rfl rfl trivial ?_
            clear S; intro aa S
            refine OL.nil ?_
            refine W.block ?_
            obtain ⟨I, m, H, HB⟩ := H
            refine W.loopS (σ := Int × Heap) (fun s aa ww => St 47 [(1, Value.int .i64 width1), (6, Value.pointer s6), (29, Value.int .i64 n0), (30, Value.int .i64 s.1)] s.2 w0 aa ww ∧ I s.1 s.2) (fun s => m s.1 s.2) (0, h7) ⟨S.sub _ ⟨rfl, rfl, rfl, rfl, trivial⟩, H⟩ ?_
            clear H S aa
            rintro ⟨x30, h8⟩ aa ww ⟨S, HI⟩
            replace S : St 47 [(1, Value.int .i64 width1), (6, Value.pointer s6), (29, Value.int .i64 n0), (30, Value.int .i64 x30)] h8 w0 aa ww := S
            have H := HB x30 h8 HI
            clear HI
            refine W.seq ?_
            replace S := S.sub [(1, Value.int .i64 width1), (6, Value.pointer s6), (29, Value.int .i64 n0), (30, Value.int .i64 x30)] ⟨rfl, rfl, rfl, rfl, trivial⟩
            refine W.region ?_
            refine OL.pure S (Lf.run_lss (S.ev rfl) (S.ev rfl)) rfl rfl trivial ?_
            clear S; intro aa S
            refine OL.nil ?_
            refine W.seq ?_
            refine W.cond S (b := (decide (x30 < n0))) rfl (fun hb_4 => ?_) (fun hb_4 => ?_)
            · replace H := H.1 hb_4
              refine W.skip ?_
              refine W.seq ?_
              refine W.block ?_
              replace S := S.sub [(1, Value.int .i64 width1), (6, Value.pointer s6), (29, Value.int .i64 n0), (30, Value.int .i64 x30)] ⟨rfl, rfl, rfl, rfl, trivial⟩
              obtain ⟨Sq_1, HS_1, H⟩ := H
              refine W.regionN [4] [8, 9, 10, 13] Sq_1 S (by kernel_rfl) ?_
              clear S; intro ww S
              refine BN.pure 0 S (fun _ => HS_1) rfl (by kernel_rfl) (by kernel_rfl) (fun _ => Lf.run_move (S.ev rfl)) rfl rfl trivial ?_
              clear S; intro aa S
              refine BN.pure 1 S (fun _ => HS_1) rfl (by kernel_rfl) (by kernel_rfl) (fun _ => Lf.run_move (S.ev rfl)) rfl rfl trivial ?_
              clear S; intro aa S
              obtain ⟨p34, e, H⟩ := H
              refine BN.pure 2 S (fun _ => HS_1) rfl (by kernel_rfl) (by kernel_rfl) (fun _ => Lf.run_nc' (S.ev rfl) e) rfl rfl trivial ?_
              clear S; intro aa S
              refine BN.pure 3 S (fun _ => HS_1) rfl (by kernel_rfl) (by kernel_rfl) (fun _ => Lf.run_fa (S.ev rfl) fa50_2) rfl rfl trivial ?_
              clear S; intro aa S
              refine BN.pure 5 S (fun _ => HS_1) rfl (by kernel_rfl) (by kernel_rfl) (fun _ => Lf.run_move (S.ev rfl)) rfl rfl trivial ?_
              clear S; intro aa S
              refine BN.pure 6 S (fun _ => HS_1) rfl (by kernel_rfl) (by kernel_rfl) (fun _ => Lf.run_add (S.ev rfl) (S.ev rfl)) rfl rfl trivial ?_
              clear S; intro aa S
              refine BN.pure 7 S (fun _ => HS_1) rfl (by kernel_rfl) (by kernel_rfl) (fun _ => Lf.run_quo (S.ev rfl) (S.ev rfl) (by decide)) rfl rfl trivial ?_
              clear S; intro aa S
              obtain ⟨x36, c, H⟩ := H
              refine BN.held 4 S HS_1 rfl (by kernel_rfl) (fun _ hq => Lf.run_ld (S.ev rfl) fl46 (c _ hq)) rfl rfl trivial ?_
              clear S; intro aa S
              refine BN.eff 8 rfl (by kernel_rfl) ?_
              refine ol_mkS S H Tryd.underlying45 ti51 rfl rfl rfl trivial ?_
              clear S H aa; intro s40 aa ww h9 H S
              refine OL.nil ?_
              clear HS_1; obtain ⟨HS_1, H⟩ := H
              refine ⟨fun _ => by rw [S.heap]; exact HS_1, ?_⟩
              refine BN.eff 9 rfl (by kernel_rfl) ?_
              refine ol_newS S H Tryd.underlying46 ti45 (by decide) (parts_map S rfl) (by kernel_rfl) (by decide) rfl trivial ?_
              clear S H aa; intro s41 aa ww h10 H S
              refine OL.nil ?_
              clear HS_1; obtain ⟨HS_1, H⟩ := H
              refine ⟨fun _ => by rw [S.heap]; exact HS_1, ?_⟩
              refine BN.eff 10 rfl (by kernel_rfl) ?_
              refine ol_appS S H Tryd.underlying46 ti45 rfl rfl rfl trivial ?_
              clear S H aa; intro s42 aa ww h11 H S
              refine OL.nil ?_
              refine ⟨noNeed (by kernel_rfl), ?_⟩
              obtain ⟨p43, e_1, H⟩ := H
              refine BN.pure 11 S (noNeed (by kernel_rfl)) rfl (by kernel_rfl) (by kernel_rfl) (fun _ => Lf.run_nc' (S.ev rfl) e_1) rfl rfl trivial ?_
              clear S; intro aa S
              refine BN.pure 12 S (noNeed (by kernel_rfl)) rfl (by kernel_rfl) (by kernel_rfl) (fun _ => Lf.run_fa (S.ev rfl) fa50_2) rfl rfl trivial ?_
              clear S; intro aa S
              refine BN.eff 13 rfl (by kernel_rfl) ?_
              refine ol_sto S H rfl rfl rfl ti46 trivial ?_
              clear S H aa; intro aa ww h12 H S
              refine OL.nil ?_
              refine ⟨noNeed (by kernel_rfl), ?_⟩
              refine BN.done (by kernel_rfl) ?_
              replace S := S.sub [(1, Value.int .i64 width1), (6, Value.pointer s6), (29, Value.int .i64 n0), (30, Value.int .i64 x30)] ⟨rfl, rfl, rfl, rfl, trivial⟩
              refine W.region ?_
              refine OL.pure S (Lf.run_add (S.ev rfl) (S.ev rfl)) rfl rfl trivial ?_
              clear S; intro aa S
              refine OL.pure S (Lf.run_move (S.ev rfl)) rfl rfl trivial ?_
              clear S; intro aa S
              refine OL.nil ?_
              exact ⟨((IntKind.i64.wrap (x30 + 1)), h12), ⟨S.sub _ ⟨rfl, rfl, rfl, rfl, trivial⟩, H.1⟩, H.2⟩
            · replace H := H.2 hb_4
              refine W.exit_ ?_
              refine xhit ?_
              refine W.seq ?_
              replace S := S.sub [(6, Value.pointer s6)] ⟨rfl, trivial⟩
              refine W.region ?_
              refine OL.pure S (Lf.run_move (S.ev rfl)) rfl rfl trivial ?_
              clear S; intro aa S
              refine OL.pure S (Lf.run_assign (S.ev rfl)) rfl rfl trivial ?_
              clear S; intro aa S
              refine OL.pure S (Lf.run_assign (S.ev rfl)) rfl rfl trivial ?_
              clear S; intro aa S
              refine OL.nil ?_
              refine W.ret ?_
              exact Ret.two S rfl rfl rfl H

/-- (*chattel solve.Solver).Put -/
def L13 (s0 : Option Addr) (r1 : Int) (e2 : Int) (h : Heap) (R : Value → Heap → Prop) : Prop :=
  cal Tryd.prog 15 #[Value.pointer s0, Value.int .i64 r1] h fun u h1 => asB u fun x9 =>
  ∃ J : Bool → Heap → Prop, (orj (!x9) (fun k =>
    cal Tryd.prog 17 #[Value.pointer s0, Value.int .i64 e2] h1 fun u_1 h3 => asB u_1 fun x14 =>
    k (!x14) h3) h1 J) ∧ ∀ x16 h2, J x16 h2 →
  ifb x16 (
    R (Value.int .i64 14) h2) (
    ∃ J_1 : Heap → Prop, (
      cal Tryd.prog 10 #[Value.pointer s0, Value.int .i64 r1, Value.int .i64 e2] h2 fun u_2 h4 => asB u_2 fun x20 =>
      ifb (!x20) (
        nn s0 fun p23 =>
        ldS h4 (p23.add 2) fun x25 =>
        ixS x25 r1 fun q27 =>
        ldS h4 (q27.add ((r1 : Int).toNat * 1)) fun x28 =>
        ixS x28 (IntKind.i64.wrap ((e2 : Int).tdiv 64)) fun q31 =>
        ldI .u64 h4 (q31.add (((IntKind.i64.wrap ((e2 : Int).tdiv 64)) : Int).toNat * 1)) fun x32 =>
        (0 ≤ ((e2 : Int).tmod 64)) ∧
        ixS x28 (IntKind.i64.wrap ((e2 : Int).tdiv 64)) fun q37 =>
        sto h4 (q37.add (((IntKind.i64.wrap ((e2 : Int).tdiv 64)) : Int).toNat * 1)) (Value.int .u64 (bitsI .or .u64 x32 (IntKind.u64.wrap (1 * 2 ^ (min (((e2 : Int).tmod 64) : Int).toNat IntKind.u64.bits))))) fun h5 =>
        cal Tryd.prog 19 #[Value.pointer s0, Value.int .i64 r1] h5 fun u_3 h6 =>
        cal Tryd.prog 20 #[Value.pointer s0] h6 fun u_4 h7 =>
        J_1 h7) (
        J_1 h4)) ∧ (∀ h8, J_1 h8 →
    R (Value.int .i64 0) h8))

set_option maxRecDepth 100000 in

theorem F13 {s0 r1 e2 h : _} {R : Value → Heap → Prop} (H : L13 s0 r1 e2 h R) : CallsH Tryd.prog 13 #[Value.pointer s0, Value.int .i64 r1, Value.int .i64 e2] h R := by
  refine CallsH.enter (n := 43) Tryd.func13 rfl rfl rfl rfl ?_
  intro w0 aa ww S
  unfold L13 at H
  refine W.seq ?_
  replace S := S.sub [(0, Value.pointer s0), (1, Value.int .i64 r1), (2, Value.int .i64 e2)] ⟨rfl, rfl, rfl, trivial⟩
  refine W.region ?_
  refine OL.pure S (Lf.run_assign (S.ev rfl)) rfl rfl trivial ?_
  clear S; intro aa S
  refine OL.nil ?_
  refine W.seq ?_
  refine W.seq ?_
  replace S := S.sub [(0, Value.pointer s0), (1, Value.int .i64 r1), (2, Value.int .i64 e2)] ⟨rfl, rfl, rfl, trivial⟩
  refine W.region ?_
  refine OL.pure S (Lf.run_move (S.ev rfl)) rfl rfl trivial ?_
  clear S; intro aa S
  refine OL.pure S (Lf.run_move (S.ev rfl)) rfl rfl trivial ?_
  clear S; intro aa S
  refine ol_cal S H isfn15 rfl rfl trivial ?_
  clear S H aa; intro u aa ww h1 H S
  obtain ⟨x9, rfl, H⟩ := H
  refine OL.pure S (Lf.run_not (S.ev rfl)) rfl rfl trivial ?_
  clear S; intro aa S
  refine OL.pure S (Lf.run_move (S.ev rfl)) rfl rfl trivial ?_
  clear S; intro aa S
  obtain ⟨J, H, HK⟩ := H
  refine OL.cutN 5 (fun aa ww => ∃ x16 h2, St 43 ((16, Value.bool x16) :: [(0, Value.pointer s0), (1, Value.int .i64 r1), (2, Value.int .i64 e2), (7, Value.pointer s0), (8, Value.int .i64 r1), (9, Value.bool x9), (10, Value.bool (!x9)), (11, Value.bool (!x9))]) h2 w0 aa ww ∧ J x16 h2) ?_ ?_
  · rcases Bool.eq_false_or_eq_true (!x9) with hb | hb
    · replace H := H.1 hb
      refine OL.not S rfl rfl (GNo.mk rfl rfl hb) ?_
      clear S; intro aa S
      refine OL.not S rfl rfl (GNo.mk rfl rfl hb) ?_
      clear S; intro aa S
      refine OL.not S rfl rfl (GNo.mk rfl rfl hb) ?_
      clear S; intro aa S
      refine OL.not S rfl rfl (GNo.mk rfl rfl hb) ?_
      clear S; intro aa S
      refine OL.pure S (Lf.run_pickT (S.ev rfl) hb (S.ev rfl)) rfl rfl trivial ?_
      clear S; intro aa S
      refine OL.nil ?_
      exact ⟨_, _, S.sub _ ⟨rfl, rfl, rfl, rfl, rfl, rfl, rfl, rfl, rfl, trivial⟩, H⟩
    · replace H := H.2 hb
      refine OL.pure S (Lf.run_move (S.ev rfl)) rfl rfl (GOk.mk rfl rfl hb) ?_
      clear S; intro aa S
      refine OL.pure S (Lf.run_move (S.ev rfl)) rfl rfl (GOk.mk rfl rfl hb) ?_
      clear S; intro aa S
      refine ol_cal S H isfn17 rfl rfl (GOk.mk rfl rfl hb) ?_
      clear S H aa; intro u_1 aa ww h3 H S
      obtain ⟨x14, rfl, H⟩ := H
      refine OL.pure S (Lf.run_not (S.ev rfl)) rfl rfl (GOk.mk rfl rfl hb) ?_
      clear S; intro aa S
      refine OL.pure S (Lf.run_pickF (S.ev rfl) hb (S.ev rfl)) rfl rfl trivial ?_
      clear S; intro aa S
      refine OL.nil ?_
      exact ⟨_, _, S.sub _ ⟨rfl, rfl, rfl, rfl, rfl, rfl, rfl, rfl, rfl, trivial⟩, H⟩
  · clear S aa
    rintro aa ww ⟨x16, h2, S, HJ⟩
    replace H := HK _ _ HJ
    clear HK HJ
    refine OL.nil ?_
    refine W.cond S (b := x16) rfl (fun hb_1 => ?_) (fun hb_1 => ?_)
    · replace H := H.1 hb_1
      refine W.seq ?_
      replace S := S.sub [] trivial
      refine W.region ?_
      refine OL.pure S (Lf.run_assign (S.ev rfl)) rfl rfl trivial ?_
      clear S; intro aa S
      refine OL.nil ?_
      refine W.ret ?_
      exact Ret.one S rfl rfl H
    · replace H := H.2 hb_1
      refine W.skip ?_
      obtain ⟨J_1, H, HK_1⟩ := H
      refine W.seqJ (fun aa ww => ∃ h8, St 43 [] h8 w0 aa ww ∧ J_1 h8) ?_ ?_
      · clear HK_1
        refine W.seq ?_
        replace S := S.sub [(0, Value.pointer s0), (1, Value.int .i64 r1), (2, Value.int .i64 e2)] ⟨rfl, rfl, rfl, trivial⟩
        refine W.region ?_
        refine OL.pure S (Lf.run_move (S.ev rfl)) rfl rfl trivial ?_
        clear S; intro aa S
        refine OL.pure S (Lf.run_move (S.ev rfl)) rfl rfl trivial ?_
        clear S; intro aa S
        refine OL.pure S (Lf.run_move (S.ev rfl)) rfl rfl trivial ?_
        clear S; intro aa S
        refine ol_cal S H isfn10 rfl rfl trivial ?_
        clear S H aa; intro u_2 aa ww h4 H S
        obtain ⟨x20, rfl, H⟩ := H
        refine OL.pure S (Lf.run_not (S.ev rfl)) rfl rfl trivial ?_
        clear S; intro aa S
        refine OL.nil ?_
        refine W.cond S (b := (!x20)) rfl (fun hb_2 => ?_) (fun hb_2 => ?_)
        · replace H := H.1 hb_2
          refine W.seq ?_
          replace S := S.sub [(0, Value.pointer s0), (1, Value.int .i64 r1), (2, Value.int .i64 e2)] ⟨rfl, rfl, rfl, trivial⟩
          refine W.regionD S (by kernel_rfl) ?_
          clear S; intro ww S
          refine AN.pure 0 S rfl (by kernel_rfl) (fun _ => Lf.run_move (S.ev rfl)) rfl rfl trivial ?_
          clear S; intro aa S
          obtain ⟨p23, e, H⟩ := H
          refine AN.pure 1 S rfl (by kernel_rfl) (fun _ => Lf.run_nc' (S.ev rfl) e) rfl rfl trivial ?_
          clear S; intro aa S
          refine AN.pure 2 S rfl (by kernel_rfl) (fun _ => Lf.run_fa (S.ev rfl) fa50_2) rfl rfl trivial ?_
          clear S; intro aa S
          obtain ⟨x25, c, H⟩ := H
          refine AN.load 3 S rfl (by kernel_rfl) (fun _ hx => Lf.run_ld (S.ev rfl) fl46 (hx.cell _ _ (S.cl c))) rfl rfl trivial ?_
          clear S; intro aa S
          refine AN.pure 4 S rfl (by kernel_rfl) (fun _ => Lf.run_move (S.ev rfl)) rfl rfl trivial ?_
          clear S; intro aa S
          obtain ⟨q27, e_1, e_2, e_3, H⟩ := H
          refine AN.pure 5 S rfl (by kernel_rfl) (fun _ => Lf.run_ixs (S.ev rfl) (S.ev rfl) Tryd.underlying46 ti45 e_1 e_2 e_3) rfl rfl trivial ?_
          clear S; intro aa S
          obtain ⟨x28, c_1, H⟩ := H
          refine AN.load 6 S rfl (by kernel_rfl) (fun _ hx => Lf.run_ld (S.ev rfl) fl45 (hx.cell _ _ (S.cl c_1))) rfl rfl trivial ?_
          clear S; intro aa S
          refine AN.pure 7 S rfl (by kernel_rfl) (fun _ => Lf.run_move (S.ev rfl)) rfl rfl trivial ?_
          clear S; intro aa S
          refine AN.pure 8 S rfl (by kernel_rfl) (fun _ => Lf.run_quo (S.ev rfl) (S.ev rfl) (by decide)) rfl rfl trivial ?_
          clear S; intro aa S
          obtain ⟨q31, e_4, e_5, e_6, H⟩ := H
          refine AN.pure 9 S rfl (by kernel_rfl) (fun _ => Lf.run_ixs (S.ev rfl) (S.ev rfl) Tryd.underlying45 ti51 e_4 e_5 e_6) rfl rfl trivial ?_
          clear S; intro aa S
          obtain ⟨x32, c_2, H⟩ := H
          refine AN.load 10 S rfl (by kernel_rfl) (fun _ hx => Lf.run_ld (S.ev rfl) fl51 (hx.cell _ _ (S.cl c_2))) rfl rfl trivial ?_
          clear S; intro aa S
          refine AN.pure 11 S rfl (by kernel_rfl) (fun _ => Lf.run_move (S.ev rfl)) rfl rfl trivial ?_
          clear S; intro aa S
          refine AN.pure 12 S rfl (by kernel_rfl) (fun _ => Lf.run_rem (S.ev rfl) (S.ev rfl) (by decide)) rfl rfl trivial ?_
          clear S; intro aa S
          obtain ⟨c_3, H⟩ := H
          refine AN.pure 13 S rfl (by kernel_rfl) (fun _ => Lf.run_shl (S.ev rfl) (S.ev rfl) c_3) rfl rfl trivial ?_
          clear S; intro aa S
          refine AN.pure 14 S rfl (by kernel_rfl) (fun _ => Lf.run_bits (op := .or) (by simp) (S.ev rfl) (S.ev rfl)) rfl rfl trivial ?_
          clear S; intro aa S
          obtain ⟨q37, e_7, e_8, e_9, H⟩ := H
          refine AN.pure 15 S rfl (by kernel_rfl) (fun _ => Lf.run_ixs (S.ev rfl) (S.ev rfl) Tryd.underlying45 ti51 e_7 e_8 e_9) rfl rfl trivial ?_
          clear S; intro aa S
          refine AN.eff 16 rfl (by kernel_rfl) ?_
          refine ol_sto S H rfl rfl rfl ti51 trivial ?_
          clear S H aa; intro aa ww h5 H S
          refine OL.nil ?_
          refine AN.done (by kernel_rfl) ?_
          refine W.seq ?_
          replace S := S.sub [(0, Value.pointer s0), (1, Value.int .i64 r1)] ⟨rfl, rfl, trivial⟩
          refine W.region ?_
          refine OL.pure S (Lf.run_move (S.ev rfl)) rfl rfl trivial ?_
          clear S; intro aa S
          refine OL.pure S (Lf.run_move (S.ev rfl)) rfl rfl trivial ?_
          clear S; intro aa S
          refine ol_cal S H isfn19 rfl rfl trivial ?_
          clear S H aa; intro u_3 aa ww h6 H S
          refine OL.nil ?_
          replace S := S.sub [(0, Value.pointer s0)] ⟨rfl, trivial⟩
          refine W.region ?_
          refine OL.pure S (Lf.run_move (S.ev rfl)) rfl rfl trivial ?_
          clear S; intro aa S
          refine ol_cal S H isfn20 rfl rfl trivial ?_
          clear S H aa; intro u_4 aa ww h7 H S
          refine OL.nil ?_
          exact ⟨h7, S.sub _ trivial, H⟩
        · replace H := H.2 hb_2
          refine W.skip ?_
          exact ⟨h4, S.sub _ trivial, H⟩
      · clear H S aa
        rintro aa ww ⟨h8, S, HJ⟩
        have H := HK_1 _ HJ
        clear HK_1 HJ
        refine W.seq ?_
        replace S := S.sub [] trivial
        refine W.region ?_
        refine OL.pure S (Lf.run_assign (S.ev rfl)) rfl rfl trivial ?_
        clear S; intro aa S
        refine OL.nil ?_
        refine W.ret ?_
        exact Ret.one S rfl rfl H

/-- (*chattel solve.Solver).Outlives -/
def L14 (s0 : Option Addr) (a1 : Int) (b2 : Int) (h : Heap) (R : Value → Heap → Prop) : Prop :=
  cal Tryd.prog 15 #[Value.pointer s0, Value.int .i64 a1] h fun u h1 => asB u fun x9 =>
  ∃ J : Bool → Heap → Prop, (orj (!x9) (fun k =>
    cal Tryd.prog 15 #[Value.pointer s0, Value.int .i64 b2] h1 fun u_1 h3 => asB u_1 fun x14 =>
    k (!x14) h3) h1 J) ∧ ∀ x16 h2, J x16 h2 →
  ifb x16 (
    R (Value.int .i64 14) h2) (
    ∃ Sq : Heap → Prop, Sq h2 ∧ (
      nn s0 fun p18 =>
      nn s0 fun p23 =>
      ldS h2 (p23.add 3) fun x25 =>
      ixS x25 b2 fun q27 =>
      ldS h2 (q27.add ((b2 : Int).toNat * 1)) fun x28 =>
      hlS Sq (p18.add 3) fun x20 =>
      newS 3 #[Value.int .i64 a1] 1 h2 fun s30 h4 =>
      Sq h4 ∧
      appS 3 (Value.int .i64 0).cells 1 8 h4 x28 s30 fun s31 h5 =>
      Sq h5 ∧
      ixS x20 b2 fun q32 =>
      sto h5 (q32.add ((b2 : Int).toNat * 1)) (Value.slice s31.a s31.n s31.c) fun h6 =>
      cal Tryd.prog 19 #[Value.pointer s0, Value.int .i64 b2] h6 fun u_2 h7 =>
      cal Tryd.prog 20 #[Value.pointer s0] h7 fun u_3 h8 =>
      R (Value.int .i64 0) h8))

set_option maxRecDepth 100000 in

theorem F14 {s0 a1 b2 h : _} {R : Value → Heap → Prop} (H : L14 s0 a1 b2 h R) : CallsH Tryd.prog 14 #[Value.pointer s0, Value.int .i64 a1, Value.int .i64 b2] h R := by
  refine CallsH.enter (n := 38) Tryd.func14 rfl rfl rfl rfl ?_
  intro w0 aa ww S
  unfold L14 at H
  refine W.seq ?_
  replace S := S.sub [(0, Value.pointer s0), (1, Value.int .i64 a1), (2, Value.int .i64 b2)] ⟨rfl, rfl, rfl, trivial⟩
  refine W.region ?_
  refine OL.pure S (Lf.run_assign (S.ev rfl)) rfl rfl trivial ?_
  clear S; intro aa S
  refine OL.nil ?_
  refine W.seq ?_
  refine W.seq ?_
  replace S := S.sub [(0, Value.pointer s0), (1, Value.int .i64 a1), (2, Value.int .i64 b2)] ⟨rfl, rfl, rfl, trivial⟩
  refine W.region ?_
  refine OL.pure S (Lf.run_move (S.ev rfl)) rfl rfl trivial ?_
  clear S; intro aa S
  refine OL.pure S (Lf.run_move (S.ev rfl)) rfl rfl trivial ?_
  clear S; intro aa S
  refine ol_cal S H isfn15 rfl rfl trivial ?_
  clear S H aa; intro u aa ww h1 H S
  obtain ⟨x9, rfl, H⟩ := H
  refine OL.pure S (Lf.run_not (S.ev rfl)) rfl rfl trivial ?_
  clear S; intro aa S
  refine OL.pure S (Lf.run_move (S.ev rfl)) rfl rfl trivial ?_
  clear S; intro aa S
  obtain ⟨J, H, HK⟩ := H
  refine OL.cutN 5 (fun aa ww => ∃ x16 h2, St 38 ((16, Value.bool x16) :: [(0, Value.pointer s0), (1, Value.int .i64 a1), (2, Value.int .i64 b2), (7, Value.pointer s0), (8, Value.int .i64 a1), (9, Value.bool x9), (10, Value.bool (!x9)), (11, Value.bool (!x9))]) h2 w0 aa ww ∧ J x16 h2) ?_ ?_
  · rcases Bool.eq_false_or_eq_true (!x9) with hb | hb
    · replace H := H.1 hb
      refine OL.not S rfl rfl (GNo.mk rfl rfl hb) ?_
      clear S; intro aa S
      refine OL.not S rfl rfl (GNo.mk rfl rfl hb) ?_
      clear S; intro aa S
      refine OL.not S rfl rfl (GNo.mk rfl rfl hb) ?_
      clear S; intro aa S
      refine OL.not S rfl rfl (GNo.mk rfl rfl hb) ?_
      clear S; intro aa S
      refine OL.pure S (Lf.run_pickT (S.ev rfl) hb (S.ev rfl)) rfl rfl trivial ?_
      clear S; intro aa S
      refine OL.nil ?_
      exact ⟨_, _, S.sub _ ⟨rfl, rfl, rfl, rfl, rfl, rfl, rfl, rfl, rfl, trivial⟩, H⟩
    · replace H := H.2 hb
      refine OL.pure S (Lf.run_move (S.ev rfl)) rfl rfl (GOk.mk rfl rfl hb) ?_
      clear S; intro aa S
      refine OL.pure S (Lf.run_move (S.ev rfl)) rfl rfl (GOk.mk rfl rfl hb) ?_
      clear S; intro aa S
      refine ol_cal S H isfn15 rfl rfl (GOk.mk rfl rfl hb) ?_
      clear S H aa; intro u_1 aa ww h3 H S
      obtain ⟨x14, rfl, H⟩ := H
      refine OL.pure S (Lf.run_not (S.ev rfl)) rfl rfl (GOk.mk rfl rfl hb) ?_
      clear S; intro aa S
      refine OL.pure S (Lf.run_pickF (S.ev rfl) hb (S.ev rfl)) rfl rfl trivial ?_
      clear S; intro aa S
      refine OL.nil ?_
      exact ⟨_, _, S.sub _ ⟨rfl, rfl, rfl, rfl, rfl, rfl, rfl, rfl, rfl, trivial⟩, H⟩
  · clear S aa
    rintro aa ww ⟨x16, h2, S, HJ⟩
    replace H := HK _ _ HJ
    clear HK HJ
    refine OL.nil ?_
    refine W.cond S (b := x16) rfl (fun hb_1 => ?_) (fun hb_1 => ?_)
    · replace H := H.1 hb_1
      refine W.seq ?_
      replace S := S.sub [] trivial
      refine W.region ?_
      refine OL.pure S (Lf.run_assign (S.ev rfl)) rfl rfl trivial ?_
      clear S; intro aa S
      refine OL.nil ?_
      refine W.ret ?_
      exact Ret.one S rfl rfl H
    · replace H := H.2 hb_1
      refine W.skip ?_
      refine W.seq ?_
      replace S := S.sub [(0, Value.pointer s0), (1, Value.int .i64 a1), (2, Value.int .i64 b2)] ⟨rfl, rfl, rfl, trivial⟩
      obtain ⟨Sq, HS, H⟩ := H
      refine W.regionN [3] [13, 14, 16] Sq S (by kernel_rfl) ?_
      clear S; intro ww S
      refine BN.pure 0 S (fun _ => HS) rfl (by kernel_rfl) (by kernel_rfl) (fun _ => Lf.run_move (S.ev rfl)) rfl rfl trivial ?_
      clear S; intro aa S
      obtain ⟨p18, e, H⟩ := H
      refine BN.pure 1 S (fun _ => HS) rfl (by kernel_rfl) (by kernel_rfl) (fun _ => Lf.run_nc' (S.ev rfl) e) rfl rfl trivial ?_
      clear S; intro aa S
      refine BN.pure 2 S (fun _ => HS) rfl (by kernel_rfl) (by kernel_rfl) (fun _ => Lf.run_fa (S.ev rfl) fa50_3) rfl rfl trivial ?_
      clear S; intro aa S
      refine BN.pure 4 S (fun _ => HS) rfl (by kernel_rfl) (by kernel_rfl) (fun _ => Lf.run_move (S.ev rfl)) rfl rfl trivial ?_
      clear S; intro aa S
      refine BN.pure 5 S (fun _ => HS) rfl (by kernel_rfl) (by kernel_rfl) (fun _ => Lf.run_move (S.ev rfl)) rfl rfl trivial ?_
      clear S; intro aa S
      obtain ⟨p23, e_1, H⟩ := H
      refine BN.pure 6 S (fun _ => HS) rfl (by kernel_rfl) (by kernel_rfl) (fun _ => Lf.run_nc' (S.ev rfl) e_1) rfl rfl trivial ?_
      clear S; intro aa S
      refine BN.pure 7 S (fun _ => HS) rfl (by kernel_rfl) (by kernel_rfl) (fun _ => Lf.run_fa (S.ev rfl) fa50_3) rfl rfl trivial ?_
      clear S; intro aa S
      obtain ⟨x25, c, H⟩ := H
      refine BN.load 8 S (fun _ => HS) rfl (by kernel_rfl) (by kernel_rfl) (fun _ hx => Lf.run_ld (S.ev rfl) fl47 (hx.cell _ _ (S.cl c))) rfl rfl trivial ?_
      clear S; intro aa S
      refine BN.pure 9 S (fun _ => HS) rfl (by kernel_rfl) (by kernel_rfl) (fun _ => Lf.run_move (S.ev rfl)) rfl rfl trivial ?_
      clear S; intro aa S
      obtain ⟨q27, e_2, e_3, e_4, H⟩ := H
      refine BN.pure 10 S (fun _ => HS) rfl (by kernel_rfl) (by kernel_rfl) (fun _ => Lf.run_ixs (S.ev rfl) (S.ev rfl) Tryd.underlying47 ti29 e_2 e_3 e_4) rfl rfl trivial ?_
      clear S; intro aa S
      obtain ⟨x28, c_1, H⟩ := H
      refine BN.load 11 S (fun _ => HS) rfl (by kernel_rfl) (by kernel_rfl) (fun _ hx => Lf.run_ld (S.ev rfl) fl29 (hx.cell _ _ (S.cl c_1))) rfl rfl trivial ?_
      clear S; intro aa S
      refine BN.pure 12 S (fun _ => HS) rfl (by kernel_rfl) (by kernel_rfl) (fun _ => Lf.run_move (S.ev rfl)) rfl rfl trivial ?_
      clear S; intro aa S
      obtain ⟨x20, c_2, H⟩ := H
      refine BN.held 3 S HS rfl (by kernel_rfl) (fun _ hq => Lf.run_ld (S.ev rfl) fl47 (c_2 _ hq)) rfl rfl trivial ?_
      clear S; intro aa S
      refine BN.eff 13 rfl (by kernel_rfl) ?_
      refine ol_newS S H Tryd.underlying29 ti3 (by decide) (parts_map S rfl) (by kernel_rfl) (by decide) rfl trivial ?_
      clear S H aa; intro s30 aa ww h4 H S
      refine OL.nil ?_
      clear HS; obtain ⟨HS, H⟩ := H
      refine ⟨fun _ => by rw [S.heap]; exact HS, ?_⟩
      refine BN.eff 14 rfl (by kernel_rfl) ?_
      refine ol_appS S H Tryd.underlying29 ti3 rfl rfl rfl trivial ?_
      clear S H aa; intro s31 aa ww h5 H S
      refine OL.nil ?_
      clear HS; obtain ⟨HS, H⟩ := H
      refine ⟨fun _ => by rw [S.heap]; exact HS, ?_⟩
      obtain ⟨q32, e_5, e_6, e_7, H⟩ := H
      refine BN.pure 15 S (fun _ => HS) rfl (by kernel_rfl) (by kernel_rfl) (fun _ => Lf.run_ixs (S.ev rfl) (S.ev rfl) Tryd.underlying47 ti29 e_5 e_6 e_7) rfl rfl trivial ?_
      clear S; intro aa S
      refine BN.eff 16 rfl (by kernel_rfl) ?_
      refine ol_sto S H rfl rfl rfl ti29 trivial ?_
      clear S H aa; intro aa ww h6 H S
      refine OL.nil ?_
      refine ⟨noNeed (by kernel_rfl), ?_⟩
      refine BN.done (by kernel_rfl) ?_
      refine W.seq ?_
      replace S := S.sub [(0, Value.pointer s0), (2, Value.int .i64 b2)] ⟨rfl, rfl, trivial⟩
      refine W.region ?_
      refine OL.pure S (Lf.run_move (S.ev rfl)) rfl rfl trivial ?_
      clear S; intro aa S
      refine OL.pure S (Lf.run_move (S.ev rfl)) rfl rfl trivial ?_
      clear S; intro aa S
      refine ol_cal S H isfn19 rfl rfl trivial ?_
      clear S H aa; intro u_2 aa ww h7 H S
      refine OL.nil ?_
      refine W.seq ?_
      replace S := S.sub [(0, Value.pointer s0)] ⟨rfl, trivial⟩
      refine W.region ?_
      refine OL.pure S (Lf.run_move (S.ev rfl)) rfl rfl trivial ?_
      clear S; intro aa S
      refine ol_cal S H isfn20 rfl rfl trivial ?_
      clear S H aa; intro u_3 aa ww h8 H S
      refine OL.nil ?_
      refine W.seq ?_
      replace S := S.sub [] trivial
      refine W.region ?_
      refine OL.pure S (Lf.run_assign (S.ev rfl)) rfl rfl trivial ?_
      clear S; intro aa S
      refine OL.nil ?_
      refine W.ret ?_
      exact Ret.one S rfl rfl H

/-- (*chattel solve.Solver).region -/
def L15 (s0 : Option Addr) (r1 : Int) (h : Heap) (R : Value → Heap → Prop) : Prop :=
  ∃ J : Bool → Prop, (andr ((Option.isSome s0) && (decide (0 ≤ r1))) (fun k =>
    nn s0 fun p14 =>
    ldI .i64 h p14 fun x16 =>
    k (decide (r1 < x16))) J) ∧ ∀ x18, J x18 →
  R (Value.bool x18) h

set_option maxRecDepth 100000 in

theorem F15 {s0 r1 h : _} {R : Value → Heap → Prop} (H : L15 s0 r1 h R) : CallsH Tryd.prog 15 #[Value.pointer s0, Value.int .i64 r1] h R := by
  refine CallsH.enter (n := 19) Tryd.func15 rfl rfl rfl rfl ?_
  intro w0 aa ww S
  unfold L15 at H
  refine W.seq ?_
  replace S := S.sub [(0, Value.pointer s0), (1, Value.int .i64 r1)] ⟨rfl, rfl, trivial⟩
  refine W.region ?_
  refine OL.pure S (Lf.run_assign (S.ev rfl)) rfl rfl trivial ?_
  clear S; intro aa S
  refine OL.nil ?_
  refine W.seq ?_
  replace S := S.sub [(0, Value.pointer s0), (1, Value.int .i64 r1)] ⟨rfl, rfl, trivial⟩
  refine W.region ?_
  refine OL.pure S (Lf.run_move (S.ev rfl)) rfl rfl trivial ?_
  clear S; intro aa S
  refine OL.pure S (Lf.run_neqpn Tryd.underlying25 (S.ev rfl) (S.ev rfl)) rfl rfl trivial ?_
  clear S; intro aa S
  refine OL.pure S (Lf.run_move (S.ev rfl)) rfl rfl trivial ?_
  clear S; intro aa S
  refine OL.cutN 3 (fun aa ww => St 19 ((10, Value.bool ((Option.isSome s0) && (decide (0 ≤ r1)))) :: [(0, Value.pointer s0), (1, Value.int .i64 r1), (5, Value.pointer s0), (6, Value.bool (Option.isSome s0)), (7, Value.bool (Option.isSome s0))]) h w0 aa ww) ?_ ?_
  · rcases Bool.eq_false_or_eq_true (Option.isSome s0) with hb | hb
    · refine OL.pure S (Lf.run_move (S.ev rfl)) rfl rfl (GOk.mk rfl rfl hb) ?_
      clear S; intro aa S
      refine OL.pure S (Lf.run_geq (S.ev rfl) (S.ev rfl)) rfl rfl (GOk.mk rfl rfl hb) ?_
      clear S; intro aa S
      refine OL.pure S (Lf.run_pickT (S.ev rfl) hb (S.ev rfl)) rfl rfl trivial ?_
      clear S; intro aa S
      refine OL.nil ?_
      exact (S.hd (by rw [hb, Bool.true_and])).sub _ ⟨rfl, rfl, rfl, rfl, rfl, rfl, trivial⟩
    · refine OL.not S rfl rfl (GNo.mk rfl rfl hb) ?_
      clear S; intro aa S
      refine OL.not S rfl rfl (GNo.mk rfl rfl hb) ?_
      clear S; intro aa S
      refine OL.pure S (Lf.run_pickF (S.ev rfl) hb (S.ev rfl)) rfl rfl trivial ?_
      clear S; intro aa S
      refine OL.nil ?_
      exact (S.hd (by rw [hb, Bool.false_and])).sub _ ⟨rfl, rfl, rfl, rfl, rfl, rfl, trivial⟩
  · clear S aa
    intro aa ww S
    refine OL.pure S (Lf.run_move (S.ev rfl)) rfl rfl trivial ?_
    clear S; intro aa S
    obtain ⟨J, H, HK⟩ := H
    refine OL.cutN 7 (fun aa ww => ∃ x18, St 19 ((18, Value.bool x18) :: [(0, Value.pointer s0), (1, Value.int .i64 r1), (5, Value.pointer s0), (6, Value.bool (Option.isSome s0)), (7, Value.bool (Option.isSome s0)), (10, Value.bool ((Option.isSome s0) && (decide (0 ≤ r1)))), (11, Value.bool ((Option.isSome s0) && (decide (0 ≤ r1))))]) h w0 aa ww ∧ J x18) ?_ ?_
    · rcases Bool.eq_false_or_eq_true ((Option.isSome s0) && (decide (0 ≤ r1))) with hb_1 | hb_1
      · replace H := H.1 hb_1
        refine OL.pure S (Lf.run_move (S.ev rfl)) rfl rfl (GOk.mk rfl rfl hb_1) ?_
        clear S; intro aa S
        refine OL.pure S (Lf.run_move (S.ev rfl)) rfl rfl (GOk.mk rfl rfl hb_1) ?_
        clear S; intro aa S
        obtain ⟨p14, e, H⟩ := H
        refine OL.pure S (Lf.run_nc' (S.ev rfl) e) rfl rfl (GOk.mk rfl rfl hb_1) ?_
        clear S; intro aa S
        refine OL.pure S (Lf.run_fa (S.ev rfl) fa50_0) rfl rfl (GOk.mk rfl rfl hb_1) ?_
        clear S; intro aa S
        obtain ⟨x16, c, H⟩ := H
        refine OL.pure S (Lf.run_ld (S.ev rfl) fl3 (S.cl c)) rfl rfl (GOk.mk rfl rfl hb_1) ?_
        clear S; intro aa S
        refine OL.pure S (Lf.run_lss (S.ev rfl) (S.ev rfl)) rfl rfl (GOk.mk rfl rfl hb_1) ?_
        clear S; intro aa S
        refine OL.pure S (Lf.run_pickT (S.ev rfl) hb_1 (S.ev rfl)) rfl rfl trivial ?_
        clear S; intro aa S
        refine OL.nil ?_
        exact ⟨_, S.sub _ ⟨rfl, rfl, rfl, rfl, rfl, rfl, rfl, rfl, trivial⟩, H⟩
      · replace H := H.2 hb_1
        refine OL.not S rfl rfl (GNo.mk rfl rfl hb_1) ?_
        clear S; intro aa S
        refine OL.not S rfl rfl (GNo.mk rfl rfl hb_1) ?_
        clear S; intro aa S
        refine OL.not S rfl rfl (GNo.mk rfl rfl hb_1) ?_
        clear S; intro aa S
        refine OL.not S rfl rfl (GNo.mk rfl rfl hb_1) ?_
        clear S; intro aa S
        refine OL.not S rfl rfl (GNo.mk rfl rfl hb_1) ?_
        clear S; intro aa S
        refine OL.not S rfl rfl (GNo.mk rfl rfl hb_1) ?_
        clear S; intro aa S
        refine OL.pure S (Lf.run_pickF (S.ev rfl) hb_1 (S.ev rfl)) rfl rfl trivial ?_
        clear S; intro aa S
        refine OL.nil ?_
        exact ⟨_, S.sub _ ⟨rfl, rfl, rfl, rfl, rfl, rfl, rfl, rfl, trivial⟩, H⟩
    · clear S aa
      rintro aa ww ⟨x18, S, HJ⟩
      replace H := HK _ HJ
      clear HK HJ
      refine OL.pure S (Lf.run_assign (S.ev rfl)) rfl rfl trivial ?_
      clear S; intro aa S
      refine OL.nil ?_
      refine W.ret ?_
      exact Ret.one S rfl rfl H

/-- math bits.TrailingZeros64 -/
def L16 (x0 : Int) (h : Heap) (R : Value → Heap → Prop) : Prop :=
  ifb (x0 == 0) (
    R (Value.int .i64 64) h) (
    ixA 64 (((IntKind.u64.wrap ((bitsI .and .u64 x0 (IntKind.u64.wrap (0 - x0))) * 285870213051353865)) : Int).fdiv (2 ^ (min (58 : Int).toNat IntKind.u64.bits))) (
    ldI .u8 h ((⟨0, 0, none⟩ : Addr).add (((((IntKind.u64.wrap ((bitsI .and .u64 x0 (IntKind.u64.wrap (0 - x0))) * 285870213051353865)) : Int).fdiv (2 ^ (min (58 : Int).toNat IntKind.u64.bits))) : Int).toNat * 1)) fun x12 =>
    R (Value.int .i64 (IntKind.i64.wrap x12)) h))

set_option maxRecDepth 100000 in

theorem F16 {x0 h : _} {R : Value → Heap → Prop} (H : L16 x0 h R) : CallsH Tryd.prog 16 #[Value.int .u64 x0] h R := by
  refine CallsH.enter (n := 14) Tryd.func16 rfl rfl rfl rfl ?_
  intro w0 aa ww S
  unfold L16 at H
  refine W.seq ?_
  replace S := S.sub [(0, Value.int .u64 x0)] ⟨rfl, trivial⟩
  refine W.region ?_
  refine OL.pure S (Lf.run_assign (S.ev rfl)) rfl rfl trivial ?_
  clear S; intro aa S
  refine OL.nil ?_
  refine W.seq ?_
  refine W.seq ?_
  replace S := S.sub [(0, Value.int .u64 x0)] ⟨rfl, trivial⟩
  refine W.region ?_
  refine OL.pure S (Lf.run_move (S.ev rfl)) rfl rfl trivial ?_
  clear S; intro aa S
  refine OL.pure S (Lf.run_eql (S.ev rfl) (S.ev rfl)) rfl rfl trivial ?_
  clear S; intro aa S
  refine OL.nil ?_
  refine W.cond S (b := (x0 == 0)) rfl (fun hb => ?_) (fun hb => ?_)
  · replace H := H.1 hb
    refine W.seq ?_
    replace S := S.sub [] trivial
    refine W.region ?_
    refine OL.pure S (Lf.run_assign (S.ev rfl)) rfl rfl trivial ?_
    clear S; intro aa S
    refine OL.nil ?_
    refine W.ret ?_
    exact Ret.one S rfl rfl H
  · replace H := H.2 hb
    refine W.skip ?_
    refine W.seq ?_
    replace S := S.sub [(0, Value.int .u64 x0)] ⟨rfl, trivial⟩
    refine W.region ?_
    refine OL.pure S (Lf.run_move (S.ev rfl)) rfl rfl trivial ?_
    clear S; intro aa S
    refine OL.pure S (Lf.run_move (S.ev rfl)) rfl rfl trivial ?_
    clear S; intro aa S
    refine OL.pure S (Lf.run_neg (S.ev rfl)) rfl rfl trivial ?_
    clear S; intro aa S
    refine OL.pure S (Lf.run_bits (op := .and) (by simp) (S.ev rfl) (S.ev rfl)) rfl rfl trivial ?_
    clear S; intro aa S
    refine OL.pure S (Lf.run_mul (S.ev rfl) (S.ev rfl)) rfl rfl trivial ?_
    clear S; intro aa S
    refine OL.pure S (Lf.run_shr (S.ev rfl) (S.ev rfl) (by decide)) rfl rfl trivial ?_
    clear S; intro aa S
    obtain ⟨e, e_1, H⟩ := H
    refine OL.pure S (Lf.run_ixa (S.ev rfl) (S.ev rfl) Tryd.underlying54 ti5 e e_1) rfl rfl trivial ?_
    clear S; intro aa S
    obtain ⟨x12, c, H⟩ := H
    refine OL.pure S (Lf.run_ld (S.ev rfl) fl5 (S.cl c)) rfl rfl trivial ?_
    clear S; intro aa S
    refine OL.pure S (Lf.run_cvi Tryd.underlying5 Tryd.underlying3 (S.ev rfl)) rfl rfl trivial ?_
    clear S; intro aa S
    refine OL.pure S (Lf.run_assign (S.ev rfl)) rfl rfl trivial ?_
    clear S; intro aa S
    refine OL.nil ?_
    refine W.ret ?_
    exact Ret.one S rfl rfl H

end Go.Proofs.YtgbmihnainbgiaaDoor

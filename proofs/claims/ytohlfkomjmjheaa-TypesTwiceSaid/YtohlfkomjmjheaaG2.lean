/- Lifted by program off the elaborated code: each Go function, read as a proposition over typed variables and the heap. -/
import Derived.Test.YtohlfkomjmjheaaG0
namespace Go.Proofs.Ytohlfkomjmjheaa
open Go Go.Lf
set_option linter.unusedVariables false
set_option maxRecDepth 100000

/-- chattel chattelref07.Small -/
def L9 (x0 : Int) (x0_1 : ByteArray) (x0_2 : Bool) (x0_3 : Int) (x0_4 : Sv) (x0_5 : Sv) (deep1 : Int) (h : Heap) (R : Value → Heap → Prop) : Prop :=
  new 25 #[Value.int .i64 x0, Value.string x0_1, Value.bool x0_2, Value.int .i64 x0_3, Value.slice x0_4.a x0_4.n x0_4.c, Value.slice x0_5.a x0_5.n x0_5.c] h fun p2 h1 =>
  ∃ J : Bool → Prop, (orr (deep1 == 0) (fun k =>
    ldS h1 (p2.add 5) fun x10 =>
    k (decide (4 < ((x10.n : Nat) : Int)))) J) ∧ ∀ x13, J x13 →
  ∃ J_1 : Bool → Prop, (orr x13 (fun k_1 =>
    ldS h1 (p2.add 4) fun x16 =>
    k_1 (decide (6 < ((x16.n : Nat) : Int)))) J_1) ∧ ∀ x19, J_1 x19 →
  ∃ J_2 : Bool → Prop, (orr x19 (fun k_2 =>
    ldT h1 (p2.add 1) fun x22 =>
    k_2 (decide (60 < ((x22.size : Nat) : Int)))) J_2) ∧ ∀ x25, J_2 x25 →
  ifb x25 (
    R (Value.bool false) h1) (
    ∃ (I : Int → Heap → Prop) (m : Int → Heap → Nat), I 0 h1 ∧ ∀ i5 h2, I i5 h2 →
    ldS h2 (p2.add 5) fun x28 =>
    ifb (decide (i5 < ((x28.n : Nat) : Int))) (
      ldS h2 (p2.add 5) fun x34 =>
      ixS x34 i5 fun q36 =>
      ∃ (y37 : Int) (y37_1 : ByteArray) (y37_2 : Bool) (y37_3 : Int) (y37_4 : Sv) (y37_5 : Sv), cl h2 (q36.add ((i5 : Int).toNat * 6)) = some (Value.int .i64 y37) ∧ cl h2 ((q36.add ((i5 : Int).toNat * 6)).add 1) = some (Value.string y37_1) ∧ cl h2 ((q36.add ((i5 : Int).toNat * 6)).add 2) = some (Value.bool y37_2) ∧ cl h2 ((q36.add ((i5 : Int).toNat * 6)).add 3) = some (Value.int .i64 y37_3) ∧ cl h2 ((q36.add ((i5 : Int).toNat * 6)).add 4) = some (Value.slice y37_4.a y37_4.n y37_4.c) ∧ cl h2 ((q36.add ((i5 : Int).toNat * 6)).add 5) = some (Value.slice y37_5.a y37_5.n y37_5.c) ∧
      cal Try.prog 9 #[Value.agg #[Value.int .i64 y37, Value.string y37_1, Value.bool y37_2, Value.int .i64 y37_3, Value.slice y37_4.a y37_4.n y37_4.c, Value.slice y37_5.a y37_5.n y37_5.c], Value.int .i64 (IntKind.i64.wrap (deep1 - 1))] h2 fun u h3 => asB u fun x40 =>
      ifb (!x40) (
        R (Value.bool false) h3) (
        I (IntKind.i64.wrap (i5 + 1)) h3 ∧ m (IntKind.i64.wrap (i5 + 1)) h3 < m i5 h2)) (
      R (Value.bool true) h2))

set_option maxRecDepth 100000 in

theorem F9 {x0 x0_1 x0_2 x0_3 x0_4 x0_5 deep1 h : _} {R : Value → Heap → Prop} (H : L9 x0 x0_1 x0_2 x0_3 x0_4 x0_5 deep1 h R) : CallsH Try.prog 9 #[Value.agg #[Value.int .i64 x0, Value.string x0_1, Value.bool x0_2, Value.int .i64 x0_3, Value.slice x0_4.a x0_4.n x0_4.c, Value.slice x0_5.a x0_5.n x0_5.c], Value.int .i64 deep1] h R := by
  refine CallsH.enter (n := 42) Try.func9 rfl rfl rfl rfl ?_
  intro w0 aa ww S
  unfold L9 at H
  refine W.seq ?_
  replace S := S.sub [(0, Value.agg #[Value.int .i64 x0, Value.string x0_1, Value.bool x0_2, Value.int .i64 x0_3, Value.slice x0_4.a x0_4.n x0_4.c, Value.slice x0_5.a x0_5.n x0_5.c]), (1, Value.int .i64 deep1)] ⟨rfl, rfl, trivial⟩
  refine W.region ?_
  refine ol_box S H rfl rfl rfl trivial ?_
  clear S H aa; intro p2 aa ww h1 H S
  refine OL.pure S (Lf.run_assign (S.ev rfl)) rfl rfl trivial ?_
  clear S; intro aa S
  refine OL.nil ?_
  refine W.seq ?_
  refine W.seq ?_
  replace S := S.sub [(1, Value.int .i64 deep1), (2, Value.pointer (some p2))] ⟨rfl, rfl, trivial⟩
  refine W.region ?_
  refine OL.pure S (Lf.run_move (S.ev rfl)) rfl rfl trivial ?_
  clear S; intro aa S
  refine OL.pure S (Lf.run_eql (S.ev rfl) (S.ev rfl)) rfl rfl trivial ?_
  clear S; intro aa S
  refine OL.pure S (Lf.run_move (S.ev rfl)) rfl rfl trivial ?_
  clear S; intro aa S
  obtain ⟨J, H, HK⟩ := H
  refine OL.cutN 5 (fun aa ww => ∃ x13, St 42 ((13, Value.bool x13) :: [(1, Value.int .i64 deep1), (2, Value.pointer (some p2)), (6, Value.int .i64 deep1), (7, Value.bool (deep1 == 0)), (8, Value.bool (deep1 == 0))]) h1 w0 aa ww ∧ J x13) ?_ ?_
  · rcases Bool.eq_false_or_eq_true (deep1 == 0) with hb | hb
    · replace H := H.1 hb
      refine OL.not S rfl rfl (GNo.mk rfl rfl hb) ?_
      clear S; intro aa S
      refine OL.not S rfl rfl (GNo.mk rfl rfl hb) ?_
      clear S; intro aa S
      refine OL.not S rfl rfl (GNo.mk rfl rfl hb) ?_
      clear S; intro aa S
      refine OL.not S rfl rfl (GNo.mk rfl rfl hb) ?_
      clear S; intro aa S
      refine OL.pure S (Lf.run_pickT (S.ev rfl) hb (S.ev rfl)) rfl rfl trivial ?_
      clear S; intro aa S
      refine OL.nil ?_
      exact ⟨_, S.sub _ ⟨rfl, rfl, rfl, rfl, rfl, rfl, trivial⟩, H⟩
    · replace H := H.2 hb
      refine OL.pure S (Lf.run_fa (S.ev rfl) fa25_5) rfl rfl (GOk.mk rfl rfl hb) ?_
      clear S; intro aa S
      obtain ⟨x10, c, H⟩ := H
      refine OL.pure S (Lf.run_ld (S.ev rfl) fl23 (S.cl c)) rfl rfl (GOk.mk rfl rfl hb) ?_
      clear S; intro aa S
      refine OL.pure S (Lf.run_lens (S.ev rfl) rfl Try.underlying23) rfl rfl (GOk.mk rfl rfl hb) ?_
      clear S; intro aa S
      refine OL.pure S (Lf.run_gtr (S.ev rfl) (S.ev rfl)) rfl rfl (GOk.mk rfl rfl hb) ?_
      clear S; intro aa S
      refine OL.pure S (Lf.run_pickF (S.ev rfl) hb (S.ev rfl)) rfl rfl trivial ?_
      clear S; intro aa S
      refine OL.nil ?_
      exact ⟨_, S.sub _ ⟨rfl, rfl, rfl, rfl, rfl, rfl, trivial⟩, H⟩
  · clear S aa
    rintro aa ww ⟨x13, S, HJ⟩
    replace H := HK _ HJ
    clear HK HJ
    refine OL.pure S (Lf.run_move (S.ev rfl)) rfl rfl trivial ?_
    clear S; intro aa S
    obtain ⟨J_1, H, HK_1⟩ := H
    refine OL.cutN 5 (fun aa ww => ∃ x19, St 42 ((19, Value.bool x19) :: [(1, Value.int .i64 deep1), (2, Value.pointer (some p2)), (6, Value.int .i64 deep1), (7, Value.bool (deep1 == 0)), (8, Value.bool (deep1 == 0)), (13, Value.bool x13), (14, Value.bool x13)]) h1 w0 aa ww ∧ J_1 x19) ?_ ?_
    · rcases Bool.eq_false_or_eq_true x13 with hb_1 | hb_1
      · replace H := H.1 hb_1
        refine OL.not S rfl rfl (GNo.mk rfl rfl hb_1) ?_
        clear S; intro aa S
        refine OL.not S rfl rfl (GNo.mk rfl rfl hb_1) ?_
        clear S; intro aa S
        refine OL.not S rfl rfl (GNo.mk rfl rfl hb_1) ?_
        clear S; intro aa S
        refine OL.not S rfl rfl (GNo.mk rfl rfl hb_1) ?_
        clear S; intro aa S
        refine OL.pure S (Lf.run_pickT (S.ev rfl) hb_1 (S.ev rfl)) rfl rfl trivial ?_
        clear S; intro aa S
        refine OL.nil ?_
        exact ⟨_, S.sub _ ⟨rfl, rfl, rfl, rfl, rfl, rfl, rfl, rfl, trivial⟩, H⟩
      · replace H := H.2 hb_1
        refine OL.pure S (Lf.run_fa (S.ev rfl) fa25_4) rfl rfl (GOk.mk rfl rfl hb_1) ?_
        clear S; intro aa S
        obtain ⟨x16, c_1, H⟩ := H
        refine OL.pure S (Lf.run_ld (S.ev rfl) fl22 (S.cl c_1)) rfl rfl (GOk.mk rfl rfl hb_1) ?_
        clear S; intro aa S
        refine OL.pure S (Lf.run_lens (S.ev rfl) rfl Try.underlying22) rfl rfl (GOk.mk rfl rfl hb_1) ?_
        clear S; intro aa S
        refine OL.pure S (Lf.run_gtr (S.ev rfl) (S.ev rfl)) rfl rfl (GOk.mk rfl rfl hb_1) ?_
        clear S; intro aa S
        refine OL.pure S (Lf.run_pickF (S.ev rfl) hb_1 (S.ev rfl)) rfl rfl trivial ?_
        clear S; intro aa S
        refine OL.nil ?_
        exact ⟨_, S.sub _ ⟨rfl, rfl, rfl, rfl, rfl, rfl, rfl, rfl, trivial⟩, H⟩
    · clear S aa
      rintro aa ww ⟨x19, S, HJ⟩
      replace H := HK_1 _ HJ
      clear HK_1 HJ
      refine OL.pure S (Lf.run_move (S.ev rfl)) rfl rfl trivial ?_
      clear S; intro aa S
      obtain ⟨J_2, H, HK_2⟩ := H
      refine OL.cutN 5 (fun aa ww => ∃ x25, St 42 ((25, Value.bool x25) :: [(1, Value.int .i64 deep1), (2, Value.pointer (some p2)), (6, Value.int .i64 deep1), (7, Value.bool (deep1 == 0)), (8, Value.bool (deep1 == 0)), (13, Value.bool x13), (14, Value.bool x13), (19, Value.bool x19), (20, Value.bool x19)]) h1 w0 aa ww ∧ J_2 x25) ?_ ?_
      · rcases Bool.eq_false_or_eq_true x19 with hb_2 | hb_2
        · replace H := H.1 hb_2
          refine OL.not S rfl rfl (GNo.mk rfl rfl hb_2) ?_
          clear S; intro aa S
          refine OL.not S rfl rfl (GNo.mk rfl rfl hb_2) ?_
          clear S; intro aa S
          refine OL.not S rfl rfl (GNo.mk rfl rfl hb_2) ?_
          clear S; intro aa S
          refine OL.not S rfl rfl (GNo.mk rfl rfl hb_2) ?_
          clear S; intro aa S
          refine OL.pure S (Lf.run_pickT (S.ev rfl) hb_2 (S.ev rfl)) rfl rfl trivial ?_
          clear S; intro aa S
          refine OL.nil ?_
          exact ⟨_, S.sub _ ⟨rfl, rfl, rfl, rfl, rfl, rfl, rfl, rfl, rfl, rfl, trivial⟩, H⟩
        · replace H := H.2 hb_2
          refine OL.pure S (Lf.run_fa (S.ev rfl) fa25_1) rfl rfl (GOk.mk rfl rfl hb_2) ?_
          clear S; intro aa S
          obtain ⟨x22, c_2, H⟩ := H
          refine OL.pure S (Lf.run_ld (S.ev rfl) fl9 (S.cl c_2)) rfl rfl (GOk.mk rfl rfl hb_2) ?_
          clear S; intro aa S
          refine OL.pure S (Lf.run_lent (S.ev rfl) rfl Try.underlying9) rfl rfl (GOk.mk rfl rfl hb_2) ?_
          clear S; intro aa S
          refine OL.pure S (Lf.run_gtr (S.ev rfl) (S.ev rfl)) rfl rfl (GOk.mk rfl rfl hb_2) ?_
          clear S; intro aa S
          refine OL.pure S (Lf.run_pickF (S.ev rfl) hb_2 (S.ev rfl)) rfl rfl trivial ?_
          clear S; intro aa S
          refine OL.nil ?_
          exact ⟨_, S.sub _ ⟨rfl, rfl, rfl, rfl, rfl, rfl, rfl, rfl, rfl, rfl, trivial⟩, H⟩
      · clear S aa
        rintro aa ww ⟨x25, S, HJ⟩
        replace H := HK_2 _ HJ
        clear HK_2 HJ
        refine OL.nil ?_
        refine W.cond S (b := x25) rfl (fun hb_3 => ?_) (fun hb_3 => ?_)
        · replace H := H.1 hb_3
          refine W.seq ?_
          replace S := S.sub [] trivial
          refine W.region ?_
          refine OL.pure S (Lf.run_assign (S.ev rfl)) rfl rfl trivial ?_
          clear S; intro aa S
          refine OL.nil ?_
          refine W.ret ?_
          exact Ret.one S rfl rfl H
        · replace H := H.2 hb_3
          refine W.skip ?_
          refine W.seq ?_
          refine W.seq ?_
          replace S := S.sub [(1, Value.int .i64 deep1), (2, Value.pointer (some p2))] ⟨rfl, rfl, trivial⟩
          refine W.region ?_
          refine OL.pure S (Lf.run_assign (S.ev rfl)) rfl rfl trivial ?_
          clear S; intro aa S
          refine OL.nil ?_
          refine W.block ?_
          obtain ⟨I, m, H, HB⟩ := H
          refine W.loopS (σ := Int × Heap) (fun s aa ww => St 42 [(1, Value.int .i64 deep1), (2, Value.pointer (some p2)), (5, Value.int .i64 s.1)] s.2 w0 aa ww ∧ I s.1 s.2) (fun s => m s.1 s.2) (0, h1) ⟨S.sub _ ⟨rfl, rfl, rfl, trivial⟩, H⟩ ?_
          clear H S aa
          rintro ⟨i5, h2⟩ aa ww ⟨S, HI⟩
          replace S : St 42 [(1, Value.int .i64 deep1), (2, Value.pointer (some p2)), (5, Value.int .i64 i5)] h2 w0 aa ww := S
          have H := HB i5 h2 HI
          clear HI
          refine W.seq ?_
          refine W.seq ?_
          replace S := S.sub [(1, Value.int .i64 deep1), (2, Value.pointer (some p2)), (5, Value.int .i64 i5)] ⟨rfl, rfl, rfl, trivial⟩
          refine W.region ?_
          refine OL.pure S (Lf.run_move (S.ev rfl)) rfl rfl trivial ?_
          clear S; intro aa S
          refine OL.pure S (Lf.run_fa (S.ev rfl) fa25_5) rfl rfl trivial ?_
          clear S; intro aa S
          obtain ⟨x28, c_3, H⟩ := H
          refine OL.pure S (Lf.run_ld (S.ev rfl) fl23 (S.cl c_3)) rfl rfl trivial ?_
          clear S; intro aa S
          refine OL.pure S (Lf.run_lens (S.ev rfl) rfl Try.underlying23) rfl rfl trivial ?_
          clear S; intro aa S
          refine OL.pure S (Lf.run_lss (S.ev rfl) (S.ev rfl)) rfl rfl trivial ?_
          clear S; intro aa S
          refine OL.nil ?_
          refine W.cond S (b := (decide (i5 < ((x28.n : Nat) : Int)))) rfl (fun hb_4 => ?_) (fun hb_4 => ?_)
          · replace H := H.1 hb_4
            refine W.skip ?_
            refine W.seq ?_
            refine W.block ?_
            refine W.seq ?_
            replace S := S.sub [(1, Value.int .i64 deep1), (2, Value.pointer (some p2)), (5, Value.int .i64 i5)] ⟨rfl, rfl, rfl, trivial⟩
            refine W.region ?_
            refine OL.pure S (Lf.run_fa (S.ev rfl) fa25_5) rfl rfl trivial ?_
            clear S; intro aa S
            obtain ⟨x34, c_4, H⟩ := H
            refine OL.pure S (Lf.run_ld (S.ev rfl) fl23 (S.cl c_4)) rfl rfl trivial ?_
            clear S; intro aa S
            refine OL.pure S (Lf.run_move (S.ev rfl)) rfl rfl trivial ?_
            clear S; intro aa S
            obtain ⟨q36, e, e_1, e_2, H⟩ := H
            refine OL.pure S (Lf.run_ixs (S.ev rfl) (S.ev rfl) Try.underlying23 ti25 e e_1 e_2) rfl rfl trivial ?_
            clear S; intro aa S
            obtain ⟨y37, y37_1, y37_2, y37_3, y37_4, y37_5, c_6, c_7, c_8, c_9, c_10, c_11, H⟩ := H
            refine OL.pure S (Lf.run_ldA (cs := [Value.int .i64 y37, Value.string y37_1, Value.bool y37_2, Value.int .i64 y37_3, Value.slice y37_4.a y37_4.n y37_4.c, Value.slice y37_5.a y37_5.n y37_5.c]) (S.ev rfl) ag25 ti25 (by rw [S.heap]; exact RowL.toRow ⟨c_6, c_7, c_8, c_9, c_10, c_11, trivial⟩)) rfl rfl trivial ?_
            clear S; intro aa S
            refine OL.pure S (Lf.run_move (S.ev rfl)) rfl rfl trivial ?_
            clear S; intro aa S
            refine OL.pure S (Lf.run_sub (S.ev rfl) (S.ev rfl)) rfl rfl trivial ?_
            clear S; intro aa S
            refine ol_cal S H isfn9 rfl rfl trivial ?_
            clear S H aa; intro u aa ww h3 H S
            obtain ⟨x40, rfl, H⟩ := H
            refine OL.pure S (Lf.run_not (S.ev rfl)) rfl rfl trivial ?_
            clear S; intro aa S
            refine OL.nil ?_
            refine W.cond S (b := (!x40)) rfl (fun hb_5 => ?_) (fun hb_5 => ?_)
            · replace H := H.1 hb_5
              refine W.seq ?_
              replace S := S.sub [] trivial
              refine W.region ?_
              refine OL.pure S (Lf.run_assign (S.ev rfl)) rfl rfl trivial ?_
              clear S; intro aa S
              refine OL.nil ?_
              refine W.ret ?_
              exact Ret.one S rfl rfl H
            · replace H := H.2 hb_5
              refine W.skip ?_
              replace S := S.sub [(1, Value.int .i64 deep1), (2, Value.pointer (some p2)), (5, Value.int .i64 i5)] ⟨rfl, rfl, rfl, trivial⟩
              refine W.region ?_
              refine OL.pure S (Lf.run_move (S.ev rfl)) rfl rfl trivial ?_
              clear S; intro aa S
              refine OL.pure S (Lf.run_add (S.ev rfl) (S.ev rfl)) rfl rfl trivial ?_
              clear S; intro aa S
              refine OL.pure S (Lf.run_assign (S.ev rfl)) rfl rfl trivial ?_
              clear S; intro aa S
              refine OL.nil ?_
              exact ⟨((IntKind.i64.wrap (i5 + 1)), h3), ⟨S.sub _ ⟨rfl, rfl, rfl, trivial⟩, H.1⟩, H.2⟩
          · replace H := H.2 hb_4
            refine W.exit_ ?_
            refine xhit ?_
            refine W.seq ?_
            replace S := S.sub [] trivial
            refine W.region ?_
            refine OL.pure S (Lf.run_assign (S.ev rfl)) rfl rfl trivial ?_
            clear S; intro aa S
            refine OL.nil ?_
            refine W.ret ?_
            exact Ret.one S rfl rfl H

/-- chattel chattelref06.Same -/
def L10 (a0 : Sv) (b1 : Sv) (h : Heap) (R : Value → Heap → Prop) : Prop :=
  ifb (((a0.n : Nat) : Int) != ((b1.n : Nat) : Int)) (
    R (Value.bool false) h) (
    ∃ (I : Int → Prop) (m : Int → Nat), I 0 ∧ ∀ i5, I i5 →
    ifb (decide (i5 < ((a0.n : Nat) : Int))) (
      ixS a0 i5 fun q19 =>
      ∃ (y20 : Int) (y20_1 : Int), cl h (q19.add ((i5 : Int).toNat * 2)) = some (Value.int .i64 y20) ∧ cl h ((q19.add ((i5 : Int).toNat * 2)).add 1) = some (Value.int .i64 y20_1) ∧
      ixS b1 i5 fun q23 =>
      ∃ (y24 : Int) (y24_1 : Int), cl h (q23.add ((i5 : Int).toNat * 2)) = some (Value.int .i64 y24) ∧ cl h ((q23.add ((i5 : Int).toNat * 2)).add 1) = some (Value.int .i64 y24_1) ∧
      ifb (!(y20 == y24 && y20_1 == y24_1)) (
        R (Value.bool false) h) (
        I (IntKind.i64.wrap (i5 + 1)) ∧ m (IntKind.i64.wrap (i5 + 1)) < m i5)) (
      R (Value.bool true) h))

set_option maxRecDepth 100000 in

theorem F10 {a0 b1 h : _} {R : Value → Heap → Prop} (H : L10 a0 b1 h R) : CallsH Try.prog 10 #[Value.slice a0.a a0.n a0.c, Value.slice b1.a b1.n b1.c] h R := by
  refine CallsH.enter (n := 26) Try.func10 rfl rfl rfl rfl ?_
  intro w0 aa ww S
  unfold L10 at H
  refine W.seq ?_
  replace S := S.sub [(0, Value.slice a0.a a0.n a0.c), (1, Value.slice b1.a b1.n b1.c)] ⟨rfl, rfl, trivial⟩
  refine W.region ?_
  refine OL.pure S (Lf.run_assign (S.ev rfl)) rfl rfl trivial ?_
  clear S; intro aa S
  refine OL.nil ?_
  refine W.seq ?_
  refine W.seq ?_
  replace S := S.sub [(0, Value.slice a0.a a0.n a0.c), (1, Value.slice b1.a b1.n b1.c)] ⟨rfl, rfl, trivial⟩
  refine W.region ?_
  refine OL.pure S (Lf.run_move (S.ev rfl)) rfl rfl trivial ?_
  clear S; intro aa S
  refine OL.pure S (Lf.run_lens (S.ev rfl) rfl Try.underlying26) rfl rfl trivial ?_
  clear S; intro aa S
  refine OL.pure S (Lf.run_move (S.ev rfl)) rfl rfl trivial ?_
  clear S; intro aa S
  refine OL.pure S (Lf.run_lens (S.ev rfl) rfl Try.underlying26) rfl rfl trivial ?_
  clear S; intro aa S
  refine OL.pure S (Lf.run_neq (S.ev rfl) (S.ev rfl)) rfl rfl trivial ?_
  clear S; intro aa S
  refine OL.nil ?_
  refine W.cond S (b := (((a0.n : Nat) : Int) != ((b1.n : Nat) : Int))) rfl (fun hb => ?_) (fun hb => ?_)
  · replace H := H.1 hb
    refine W.seq ?_
    replace S := S.sub [] trivial
    refine W.region ?_
    refine OL.pure S (Lf.run_assign (S.ev rfl)) rfl rfl trivial ?_
    clear S; intro aa S
    refine OL.nil ?_
    refine W.ret ?_
    exact Ret.one S rfl rfl H
  · replace H := H.2 hb
    refine W.skip ?_
    refine W.seq ?_
    refine W.seq ?_
    replace S := S.sub [(0, Value.slice a0.a a0.n a0.c), (1, Value.slice b1.a b1.n b1.c)] ⟨rfl, rfl, trivial⟩
    refine W.region ?_
    refine OL.pure S (Lf.run_assign (S.ev rfl)) rfl rfl trivial ?_
    clear S; intro aa S
    refine OL.nil ?_
    refine W.block ?_
    obtain ⟨I, m, H, HB⟩ := H
    refine W.loopS (σ := Int) (fun s aa ww => St 26 [(0, Value.slice a0.a a0.n a0.c), (1, Value.slice b1.a b1.n b1.c), (5, Value.int .i64 s)] h w0 aa ww ∧ I s) (fun s => m s) (0) ⟨S.sub _ ⟨rfl, rfl, rfl, trivial⟩, H⟩ ?_
    clear H S aa
    rintro i5 aa ww ⟨S, HI⟩
    replace S : St 26 [(0, Value.slice a0.a a0.n a0.c), (1, Value.slice b1.a b1.n b1.c), (5, Value.int .i64 i5)] h w0 aa ww := S
    have H := HB i5 HI
    clear HI
    refine W.seq ?_
    refine W.seq ?_
    replace S := S.sub [(0, Value.slice a0.a a0.n a0.c), (1, Value.slice b1.a b1.n b1.c), (5, Value.int .i64 i5)] ⟨rfl, rfl, rfl, trivial⟩
    refine W.region ?_
    refine OL.pure S (Lf.run_move (S.ev rfl)) rfl rfl trivial ?_
    clear S; intro aa S
    refine OL.pure S (Lf.run_move (S.ev rfl)) rfl rfl trivial ?_
    clear S; intro aa S
    refine OL.pure S (Lf.run_lens (S.ev rfl) rfl Try.underlying26) rfl rfl trivial ?_
    clear S; intro aa S
    refine OL.pure S (Lf.run_lss (S.ev rfl) (S.ev rfl)) rfl rfl trivial ?_
    clear S; intro aa S
    refine OL.nil ?_
    refine W.cond S (b := (decide (i5 < ((a0.n : Nat) : Int)))) rfl (fun hb_1 => ?_) (fun hb_1 => ?_)
    · replace H := H.1 hb_1
      refine W.skip ?_
      refine W.seq ?_
      refine W.block ?_
      refine W.seq ?_
      replace S := S.sub [(0, Value.slice a0.a a0.n a0.c), (1, Value.slice b1.a b1.n b1.c), (5, Value.int .i64 i5)] ⟨rfl, rfl, rfl, trivial⟩
      refine W.regionD S (by kernel_rfl) ?_
      clear S; intro ww S
      refine AN.pure 0 S rfl (by kernel_rfl) (fun _ => Lf.run_move (S.ev rfl)) rfl rfl trivial ?_
      clear S; intro aa S
      refine AN.pure 1 S rfl (by kernel_rfl) (fun _ => Lf.run_move (S.ev rfl)) rfl rfl trivial ?_
      clear S; intro aa S
      obtain ⟨q19, e, e_1, e_2, H⟩ := H
      refine AN.pure 2 S rfl (by kernel_rfl) (fun _ => Lf.run_ixs (S.ev rfl) (S.ev rfl) Try.underlying26 ti46 e e_1 e_2) rfl rfl trivial ?_
      clear S; intro aa S
      obtain ⟨y20, y20_1, c_4, c_5, H⟩ := H
      refine AN.load 3 S rfl (by kernel_rfl) (fun _ hx => Lf.run_ldA (cs := [Value.int .i64 y20, Value.int .i64 y20_1]) (S.ev rfl) ag46 ti46 (hx.row (S.row ⟨c_4, c_5, trivial⟩))) rfl rfl trivial ?_
      clear S; intro aa S
      refine AN.pure 4 S rfl (by kernel_rfl) (fun _ => Lf.run_move (S.ev rfl)) rfl rfl trivial ?_
      clear S; intro aa S
      refine AN.pure 5 S rfl (by kernel_rfl) (fun _ => Lf.run_move (S.ev rfl)) rfl rfl trivial ?_
      clear S; intro aa S
      obtain ⟨q23, e_3, e_4, e_5, H⟩ := H
      refine AN.pure 6 S rfl (by kernel_rfl) (fun _ => Lf.run_ixs (S.ev rfl) (S.ev rfl) Try.underlying26 ti46 e_3 e_4 e_5) rfl rfl trivial ?_
      clear S; intro aa S
      obtain ⟨y24, y24_1, c_2, c_3, H⟩ := H
      refine AN.load 7 S rfl (by kernel_rfl) (fun _ hx => Lf.run_ldA (cs := [Value.int .i64 y24, Value.int .i64 y24_1]) (S.ev rfl) ag46 ti46 (hx.row (S.row ⟨c_2, c_3, trivial⟩))) rfl rfl trivial ?_
      clear S; intro aa S
      refine AN.pure 8 S rfl (by kernel_rfl) (fun _ => Lf.run_neqA2 Try.underlying46 Try.underlying3 ti3 (by kernel_rfl) (S.ev rfl) (S.ev rfl)) rfl rfl trivial ?_
      clear S; intro aa S
      refine AN.done (by kernel_rfl) ?_
      refine W.cond S (b := (!(y20 == y24 && y20_1 == y24_1))) rfl (fun hb_2 => ?_) (fun hb_2 => ?_)
      · replace H := H.1 hb_2
        refine W.seq ?_
        replace S := S.sub [] trivial
        refine W.region ?_
        refine OL.pure S (Lf.run_assign (S.ev rfl)) rfl rfl trivial ?_
        clear S; intro aa S
        refine OL.nil ?_
        refine W.ret ?_
        exact Ret.one S rfl rfl H
      · replace H := H.2 hb_2
        refine W.skip ?_
        replace S := S.sub [(0, Value.slice a0.a a0.n a0.c), (1, Value.slice b1.a b1.n b1.c), (5, Value.int .i64 i5)] ⟨rfl, rfl, rfl, trivial⟩
        refine W.region ?_
        refine OL.pure S (Lf.run_move (S.ev rfl)) rfl rfl trivial ?_
        clear S; intro aa S
        refine OL.pure S (Lf.run_add (S.ev rfl) (S.ev rfl)) rfl rfl trivial ?_
        clear S; intro aa S
        refine OL.pure S (Lf.run_assign (S.ev rfl)) rfl rfl trivial ?_
        clear S; intro aa S
        refine OL.nil ?_
        exact ⟨((IntKind.i64.wrap (i5 + 1))), ⟨S.sub _ ⟨rfl, rfl, rfl, trivial⟩, H.1⟩, H.2⟩
    · replace H := H.2 hb_1
      refine W.exit_ ?_
      refine xhit ?_
      refine W.seq ?_
      replace S := S.sub [] trivial
      refine W.region ?_
      refine OL.pure S (Lf.run_assign (S.ev rfl)) rfl rfl trivial ?_
      clear S; intro aa S
      refine OL.nil ?_
      refine W.ret ?_
      exact Ret.one S rfl rfl H

/-- chattel types.Wf -/
def L11 (x0 : Int) (x0_1 : ByteArray) (x0_2 : Bool) (x0_3 : Int) (x0_4 : Sv) (x0_5 : Sv) (needs1 : Option Nat) (h : Heap) (R : Value → Heap → Prop) : Prop :=
  new 25 #[Value.int .i64 x0, Value.string x0_1, Value.bool x0_2, Value.int .i64 x0_3, Value.slice x0_4.a x0_4.n x0_4.c, Value.slice x0_5.a x0_5.n x0_5.c] h fun p2 h1 =>
  ∃ J : Sv → Heap → Prop, (
    ldI .i64 h1 p2 fun x13 =>
    ifb (x13 == 7) (
      ldS h1 (p2.add 5) fun x17 =>
      ∃ (I : Sv → Int → Heap → Prop) (m : Sv → Int → Heap → Nat), I (⟨none, 0, 0⟩ : Sv) 0 h1 ∧ ∀ l5 x19 h2, I l5 x19 h2 →
      ifb (decide (x19 < ((x17.n : Nat) : Int))) (
        ixS x17 x19 fun q21 =>
        ∃ (y22 : Int) (y22_1 : ByteArray) (y22_2 : Bool) (y22_3 : Int) (y22_4 : Sv) (y22_5 : Sv), cl h2 (q21.add ((x19 : Int).toNat * 6)) = some (Value.int .i64 y22) ∧ cl h2 ((q21.add ((x19 : Int).toNat * 6)).add 1) = some (Value.string y22_1) ∧ cl h2 ((q21.add ((x19 : Int).toNat * 6)).add 2) = some (Value.bool y22_2) ∧ cl h2 ((q21.add ((x19 : Int).toNat * 6)).add 3) = some (Value.int .i64 y22_3) ∧ cl h2 ((q21.add ((x19 : Int).toNat * 6)).add 4) = some (Value.slice y22_4.a y22_4.n y22_4.c) ∧ cl h2 ((q21.add ((x19 : Int).toNat * 6)).add 5) = some (Value.slice y22_5.a y22_5.n y22_5.c) ∧
        new 25 #[Value.int .i64 0, Value.string (⟨#[]⟩ : ByteArray), Value.bool false, Value.int .i64 0, Value.slice (⟨none, 0, 0⟩ : Sv).a (⟨none, 0, 0⟩ : Sv).n (⟨none, 0, 0⟩ : Sv).c, Value.slice (⟨none, 0, 0⟩ : Sv).a (⟨none, 0, 0⟩ : Sv).n (⟨none, 0, 0⟩ : Sv).c] h2 fun p7 h3 =>
        stoA h3 p7 [Value.int .i64 y22, Value.string y22_1, Value.bool y22_2, Value.int .i64 y22_3, Value.slice y22_4.a y22_4.n y22_4.c, Value.slice y22_5.a y22_5.n y22_5.c] fun h4 =>
        ∃ (y24 : Int) (y24_1 : ByteArray) (y24_2 : Bool) (y24_3 : Int) (y24_4 : Sv) (y24_5 : Sv), cl h4 p7 = some (Value.int .i64 y24) ∧ cl h4 (p7.add 1) = some (Value.string y24_1) ∧ cl h4 (p7.add 2) = some (Value.bool y24_2) ∧ cl h4 (p7.add 3) = some (Value.int .i64 y24_3) ∧ cl h4 (p7.add 4) = some (Value.slice y24_4.a y24_4.n y24_4.c) ∧ cl h4 (p7.add 5) = some (Value.slice y24_5.a y24_5.n y24_5.c) ∧
        ∃ T : Heap → Heap → Prop, Pre T ∧
        hlI .i64 (T h4) (p2.add 3) fun x27 =>
        ∃ Fq2 : Sv → Nat → Nat → Heap → Prop, (∀ x25 lo hi h h', T h h' → Fq2 x25 lo hi h → Fq2 x25 lo hi h') ∧
        ∃ Fq5 : Sv → Nat → Nat → Heap → Prop, (∀ s28 lo hi h h', T h h' → Fq5 s28 lo hi h → Fq5 s28 lo hi h') ∧
        (∀ (h5 : Heap), T h4 h5 →
          cal Try.prog 26 #[Value.agg #[Value.int .i64 y24, Value.string y24_1, Value.bool y24_2, Value.int .i64 y24_3, Value.slice y24_4.a y24_4.n y24_4.c, Value.slice y24_5.a y24_5.n y24_5.c]] h5 fun u h6 => asS u fun x25 =>
          T h5 h6 ∧ Fq2 x25 h5.size h6.size h6) ∧
        (∀ (h9 : Heap), T h4 h9 →
          newS 3 #[Value.int .i64 x27] 1 h9 fun s28 h10 =>
          T h9 h10 ∧ Fq5 s28 h9.size h10.size h10) ∧
        (∀ (x25 : Sv) (lo2 hi2 : Nat) (s28 : Sv) (lo5 hi5 : Nat) (h13 : Heap), T h4 h13 → Dis h4.size h13.size [(lo2, hi2), (lo5, hi5)] → Fq2 x25 lo2 hi2 h13 → Fq5 s28 lo5 hi5 h13 →
        cal Try.prog 28 #[Value.slice l5.a l5.n l5.c, Value.slice x25.a x25.n x25.c, Value.slice s28.a s28.n s28.c] h13 fun u_2 h14 => asS u_2 fun x29 =>
        I x29 (IntKind.i64.wrap (x19 + 1)) h14 ∧ m x29 (IntKind.i64.wrap (x19 + 1)) h14 < m l5 x19 h2)) (
        J l5 h2)) (
      ifb (x13 == 5) (
        ldT h1 (p2.add 1) fun x35 =>
        lkS h1 (Value.map needs1) x35 (Value.slice (⟨none, 0, 0⟩ : Sv).a (⟨none, 0, 0⟩ : Sv).n (⟨none, 0, 0⟩ : Sv).c) fun u_3 => asS u_3 fun x36 =>
        ∃ (I_1 : Sv → Int → Heap → Prop) (m_1 : Sv → Int → Heap → Nat), I_1 (⟨none, 0, 0⟩ : Sv) 0 h1 ∧ ∀ l5_1 x38 h16, I_1 l5_1 x38 h16 →
        ifb (decide (x38 < ((x36.n : Nat) : Int))) (
          ixS x36 x38 fun q40 =>
          ∃ (y41 : Int) (y41_1 : Int), cl h16 (q40.add ((x38 : Int).toNat * 2)) = some (Value.int .i64 y41) ∧ cl h16 ((q40.add ((x38 : Int).toNat * 2)).add 1) = some (Value.int .i64 y41_1) ∧
          new 46 #[Value.int .i64 0, Value.int .i64 0] h16 fun p9 h17 =>
          stoA h17 p9 [Value.int .i64 y41, Value.int .i64 y41_1] fun h18 =>
          ∃ Sq : Heap → Prop, Sq h18 ∧ (
            ∃ (y43 : Int) (y43_1 : ByteArray) (y43_2 : Bool) (y43_3 : Int) (y43_4 : Sv) (y43_5 : Sv), cl h18 p2 = some (Value.int .i64 y43) ∧ cl h18 (p2.add 1) = some (Value.string y43_1) ∧ cl h18 (p2.add 2) = some (Value.bool y43_2) ∧ cl h18 (p2.add 3) = some (Value.int .i64 y43_3) ∧ cl h18 (p2.add 4) = some (Value.slice y43_4.a y43_4.n y43_4.c) ∧ cl h18 (p2.add 5) = some (Value.slice y43_5.a y43_5.n y43_5.c) ∧
            ldI .i64 h18 p9 fun x45 =>
            ∃ (y47 : Int) (y47_1 : ByteArray) (y47_2 : Bool) (y47_3 : Int) (y47_4 : Sv) (y47_5 : Sv), hld Sq p2 (Value.int .i64 y47) ∧ hld Sq (p2.add 1) (Value.string y47_1) ∧ hld Sq (p2.add 2) (Value.bool y47_2) ∧ hld Sq (p2.add 3) (Value.int .i64 y47_3) ∧ hld Sq (p2.add 4) (Value.slice y47_4.a y47_4.n y47_4.c) ∧ hld Sq (p2.add 5) (Value.slice y47_5.a y47_5.n y47_5.c) ∧
            hlI .i64 Sq (p9.add 1) fun x49 =>
            cal Try.prog 29 #[Value.agg #[Value.int .i64 y43, Value.string y43_1, Value.bool y43_2, Value.int .i64 y43_3, Value.slice y43_4.a y43_4.n y43_4.c, Value.slice y43_5.a y43_5.n y43_5.c], Value.int .i64 x45] h18 fun u_4 h19 => asS u_4 fun x46 =>
            Sq h19 ∧
            cal Try.prog 29 #[Value.agg #[Value.int .i64 y47, Value.string y47_1, Value.bool y47_2, Value.int .i64 y47_3, Value.slice y47_4.a y47_4.n y47_4.c, Value.slice y47_5.a y47_5.n y47_5.c], Value.int .i64 x49] h19 fun u_5 h20 => asS u_5 fun x50 =>
            cal Try.prog 28 #[Value.slice l5_1.a l5_1.n l5_1.c, Value.slice x46.a x46.n x46.c, Value.slice x50.a x50.n x50.c] h20 fun u_6 h21 => asS u_6 fun x51 =>
            I_1 x51 (IntKind.i64.wrap (x38 + 1)) h21 ∧ m_1 x51 (IntKind.i64.wrap (x38 + 1)) h21 < m_1 l5_1 x38 h16)) (
          J l5_1 h16)) (
        J (⟨none, 0, 0⟩ : Sv) h1))) ∧ (∀ l5_2 h22, J l5_2 h22 →
  ldS h22 (p2.add 5) fun x54 =>
  ∃ (I_2 : Sv → Int → Heap → Prop) (m_2 : Sv → Int → Heap → Nat), I_2 l5_2 0 h22 ∧ ∀ l5_3 x56 h23, I_2 l5_3 x56 h23 →
  ifb (decide (x56 < ((x54.n : Nat) : Int))) (
    ixS x54 x56 fun q58 =>
    ∃ (y59 : Int) (y59_1 : ByteArray) (y59_2 : Bool) (y59_3 : Int) (y59_4 : Sv) (y59_5 : Sv), cl h23 (q58.add ((x56 : Int).toNat * 6)) = some (Value.int .i64 y59) ∧ cl h23 ((q58.add ((x56 : Int).toNat * 6)).add 1) = some (Value.string y59_1) ∧ cl h23 ((q58.add ((x56 : Int).toNat * 6)).add 2) = some (Value.bool y59_2) ∧ cl h23 ((q58.add ((x56 : Int).toNat * 6)).add 3) = some (Value.int .i64 y59_3) ∧ cl h23 ((q58.add ((x56 : Int).toNat * 6)).add 4) = some (Value.slice y59_4.a y59_4.n y59_4.c) ∧ cl h23 ((q58.add ((x56 : Int).toNat * 6)).add 5) = some (Value.slice y59_5.a y59_5.n y59_5.c) ∧
    new 25 #[Value.int .i64 0, Value.string (⟨#[]⟩ : ByteArray), Value.bool false, Value.int .i64 0, Value.slice (⟨none, 0, 0⟩ : Sv).a (⟨none, 0, 0⟩ : Sv).n (⟨none, 0, 0⟩ : Sv).c, Value.slice (⟨none, 0, 0⟩ : Sv).a (⟨none, 0, 0⟩ : Sv).n (⟨none, 0, 0⟩ : Sv).c] h23 fun p11 h24 =>
    stoA h24 p11 [Value.int .i64 y59, Value.string y59_1, Value.bool y59_2, Value.int .i64 y59_3, Value.slice y59_4.a y59_4.n y59_4.c, Value.slice y59_5.a y59_5.n y59_5.c] fun h25 =>
    ∃ (y61 : Int) (y61_1 : ByteArray) (y61_2 : Bool) (y61_3 : Int) (y61_4 : Sv) (y61_5 : Sv), cl h25 p11 = some (Value.int .i64 y61) ∧ cl h25 (p11.add 1) = some (Value.string y61_1) ∧ cl h25 (p11.add 2) = some (Value.bool y61_2) ∧ cl h25 (p11.add 3) = some (Value.int .i64 y61_3) ∧ cl h25 (p11.add 4) = some (Value.slice y61_4.a y61_4.n y61_4.c) ∧ cl h25 (p11.add 5) = some (Value.slice y61_5.a y61_5.n y61_5.c) ∧
    cal Try.prog 11 #[Value.agg #[Value.int .i64 y61, Value.string y61_1, Value.bool y61_2, Value.int .i64 y61_3, Value.slice y61_4.a y61_4.n y61_4.c, Value.slice y61_5.a y61_5.n y61_5.c], Value.map needs1] h25 fun u_7 h26 => asS u_7 fun x63 =>
    appS 46 (Value.agg #[Value.int .i64 0, Value.int .i64 0]).cells 2 16 h26 l5_3 x63 fun s64 h27 =>
    I_2 s64 (IntKind.i64.wrap (x56 + 1)) h27 ∧ m_2 s64 (IntKind.i64.wrap (x56 + 1)) h27 < m_2 l5_3 x56 h23) (
    R (Value.slice l5_3.a l5_3.n l5_3.c) h23))

set_option maxRecDepth 100000 in

theorem F11 {x0 x0_1 x0_2 x0_3 x0_4 x0_5 needs1 h : _} {R : Value → Heap → Prop} (H : L11 x0 x0_1 x0_2 x0_3 x0_4 x0_5 needs1 h R) : CallsH Try.prog 11 #[Value.agg #[Value.int .i64 x0, Value.string x0_1, Value.bool x0_2, Value.int .i64 x0_3, Value.slice x0_4.a x0_4.n x0_4.c, Value.slice x0_5.a x0_5.n x0_5.c], Value.map needs1] h R := by
  refine CallsH.enter (n := 67) Try.func11 rfl rfl rfl rfl ?_
  intro w0 aa ww S
  unfold L11 at H
  refine W.seq ?_
  replace S := S.sub [(0, Value.agg #[Value.int .i64 x0, Value.string x0_1, Value.bool x0_2, Value.int .i64 x0_3, Value.slice x0_4.a x0_4.n x0_4.c, Value.slice x0_5.a x0_5.n x0_5.c]), (1, Value.map needs1)] ⟨rfl, rfl, trivial⟩
  refine W.region ?_
  refine ol_box S H rfl rfl rfl trivial ?_
  clear S H aa; intro p2 aa ww h1 H S
  refine OL.pure S (Lf.run_assign (S.ev rfl)) rfl rfl trivial ?_
  clear S; intro aa S
  refine OL.nil ?_
  refine W.seq ?_
  replace S := S.sub [(1, Value.map needs1), (2, Value.pointer (some p2))] ⟨rfl, rfl, trivial⟩
  refine W.region ?_
  refine OL.pure S (Lf.run_assign (S.ev rfl)) rfl rfl trivial ?_
  clear S; intro aa S
  refine OL.nil ?_
  obtain ⟨J, H, HK⟩ := H
  refine W.seqJ (fun aa ww => ∃ l5_2 h22, St 67 [(1, Value.map needs1), (2, Value.pointer (some p2)), (5, Value.slice l5_2.a l5_2.n l5_2.c)] h22 w0 aa ww ∧ J l5_2 h22) ?_ ?_
  · clear HK
    refine W.seq ?_
    replace S := S.sub [(1, Value.map needs1), (2, Value.pointer (some p2)), (5, Value.slice (⟨none, 0, 0⟩ : Sv).a (⟨none, 0, 0⟩ : Sv).n (⟨none, 0, 0⟩ : Sv).c)] ⟨rfl, rfl, rfl, trivial⟩
    refine W.region ?_
    refine OL.pure S (Lf.run_fa (S.ev rfl) fa25_0) rfl rfl trivial ?_
    clear S; intro aa S
    obtain ⟨x13, c, H⟩ := H
    refine OL.pure S (Lf.run_ld (S.ev rfl) fl3 (S.cl c)) rfl rfl trivial ?_
    clear S; intro aa S
    refine OL.nil ?_
    refine W.block ?_
    refine W.seq ?_
    replace S := S.sub [(1, Value.map needs1), (2, Value.pointer (some p2)), (5, Value.slice (⟨none, 0, 0⟩ : Sv).a (⟨none, 0, 0⟩ : Sv).n (⟨none, 0, 0⟩ : Sv).c), (13, Value.int .i64 x13)] ⟨rfl, rfl, rfl, rfl, trivial⟩
    refine W.region ?_
    refine OL.pure S (Lf.run_eql (S.ev rfl) (S.ev rfl)) rfl rfl trivial ?_
    clear S; intro aa S
    refine OL.pure S (Lf.run_assign (S.ev rfl)) rfl rfl trivial ?_
    clear S; intro aa S
    refine OL.nil ?_
    refine W.cond S (b := (x13 == 7)) rfl (fun hb => ?_) (fun hb => ?_)
    · replace H := H.1 hb
      refine W.seq ?_
      replace S := S.sub [(1, Value.map needs1), (2, Value.pointer (some p2)), (5, Value.slice (⟨none, 0, 0⟩ : Sv).a (⟨none, 0, 0⟩ : Sv).n (⟨none, 0, 0⟩ : Sv).c)] ⟨rfl, rfl, rfl, trivial⟩
      refine W.region ?_
      refine OL.pure S (Lf.run_fa (S.ev rfl) fa25_5) rfl rfl trivial ?_
      clear S; intro aa S
      obtain ⟨x17, c_1, H⟩ := H
      refine OL.pure S (Lf.run_ld (S.ev rfl) fl23 (S.cl c_1)) rfl rfl trivial ?_
      clear S; intro aa S
      refine OL.pure S (Lf.run_lens (S.ev rfl) rfl Try.underlying23) rfl rfl trivial ?_
      clear S; intro aa S
      refine OL.pure S (Lf.run_move (S.ev rfl)) rfl rfl trivial ?_
      clear S; intro aa S
      refine OL.nil ?_
      refine W.block ?_
      obtain ⟨I, m, H, HB⟩ := H
      refine W.loopS (σ := Sv × Int × Heap) (fun s aa ww => St 67 [(1, Value.map needs1), (2, Value.pointer (some p2)), (5, Value.slice s.1.a s.1.n s.1.c), (17, Value.slice x17.a x17.n x17.c), (18, Value.int .i64 ((x17.n : Nat) : Int)), (19, Value.int .i64 s.2.1)] s.2.2 w0 aa ww ∧ I s.1 s.2.1 s.2.2) (fun s => m s.1 s.2.1 s.2.2) ((⟨none, 0, 0⟩ : Sv), 0, h1) ⟨S.sub _ ⟨rfl, rfl, rfl, rfl, rfl, rfl, trivial⟩, H⟩ ?_
      clear H S aa
      rintro ⟨l5, x19, h2⟩ aa ww ⟨S, HI⟩
      replace S : St 67 [(1, Value.map needs1), (2, Value.pointer (some p2)), (5, Value.slice l5.a l5.n l5.c), (17, Value.slice x17.a x17.n x17.c), (18, Value.int .i64 ((x17.n : Nat) : Int)), (19, Value.int .i64 x19)] h2 w0 aa ww := S
      have H := HB l5 x19 h2 HI
      clear HI
      refine W.seq ?_
      replace S := S.sub [(1, Value.map needs1), (2, Value.pointer (some p2)), (5, Value.slice l5.a l5.n l5.c), (17, Value.slice x17.a x17.n x17.c), (18, Value.int .i64 ((x17.n : Nat) : Int)), (19, Value.int .i64 x19)] ⟨rfl, rfl, rfl, rfl, rfl, rfl, trivial⟩
      refine W.region ?_
      refine OL.pure S (Lf.run_lss (S.ev rfl) (S.ev rfl)) rfl rfl trivial ?_
      clear S; intro aa S
      refine OL.nil ?_
      refine W.seq ?_
      refine W.cond S (b := (decide (x19 < ((x17.n : Nat) : Int)))) rfl (fun hb_1 => ?_) (fun hb_1 => ?_)
      · replace H := H.1 hb_1
        refine W.skip ?_
        refine W.seq ?_
        refine W.block ?_
        refine W.seq ?_
        replace S := S.sub [(1, Value.map needs1), (2, Value.pointer (some p2)), (5, Value.slice l5.a l5.n l5.c), (17, Value.slice x17.a x17.n x17.c), (18, Value.int .i64 ((x17.n : Nat) : Int)), (19, Value.int .i64 x19)] ⟨rfl, rfl, rfl, rfl, rfl, rfl, trivial⟩
        refine W.region ?_
        obtain ⟨q21, e, e_1, e_2, H⟩ := H
        refine OL.pure S (Lf.run_ixs (S.ev rfl) (S.ev rfl) Try.underlying23 ti25 e e_1 e_2) rfl rfl trivial ?_
        clear S; intro aa S
        obtain ⟨y22, y22_1, y22_2, y22_3, y22_4, y22_5, c_11, c_12, c_13, c_14, c_15, c_16, H⟩ := H
        refine OL.pure S (Lf.run_ldA (cs := [Value.int .i64 y22, Value.string y22_1, Value.bool y22_2, Value.int .i64 y22_3, Value.slice y22_4.a y22_4.n y22_4.c, Value.slice y22_5.a y22_5.n y22_5.c]) (S.ev rfl) ag25 ti25 (by rw [S.heap]; exact RowL.toRow ⟨c_11, c_12, c_13, c_14, c_15, c_16, trivial⟩)) rfl rfl trivial ?_
        clear S; intro aa S
        refine ol_alloc S H ti25 rfl rfl trivial ?_
        clear S H aa; intro p7 aa ww h3 H S
        refine ol_stoA S H rfl rfl ti25 trivial ?_
        clear S H aa; intro aa ww h4 H S
        refine OL.nil ?_
        replace S := S.sub [(1, Value.map needs1), (2, Value.pointer (some p2)), (5, Value.slice l5.a l5.n l5.c), (7, Value.pointer (some p7)), (17, Value.slice x17.a x17.n x17.c), (18, Value.int .i64 ((x17.n : Nat) : Int)), (19, Value.int .i64 x19)] ⟨rfl, rfl, rfl, rfl, rfl, rfl, rfl, trivial⟩
        refine W.regionD S (by kernel_rfl) ?_
        clear S; intro ww S
        refine AN.pure 0 S rfl (by kernel_rfl) (fun _ => Lf.run_move (S.ev rfl)) rfl rfl trivial ?_
        clear S; intro aa S
        obtain ⟨y24, y24_1, y24_2, y24_3, y24_4, y24_5, c_5, c_6, c_7, c_8, c_9, c_10, H⟩ := H
        refine AN.load 1 S rfl (by kernel_rfl) (fun _ hx => Lf.run_ldA (cs := [Value.int .i64 y24, Value.string y24_1, Value.bool y24_2, Value.int .i64 y24_3, Value.slice y24_4.a y24_4.n y24_4.c, Value.slice y24_5.a y24_5.n y24_5.c]) (S.ev rfl) ag25 ti25 (hx.row (S.row ⟨c_5, c_6, c_7, c_8, c_9, c_10, trivial⟩))) rfl rfl trivial ?_
        clear S; intro aa S
        refine AN.pure 3 S rfl (by kernel_rfl) (fun _ => Lf.run_fa (S.ev rfl) fa25_3) rfl rfl trivial ?_
        clear S; intro aa S
        obtain ⟨T, hT, H⟩ := H
        obtain ⟨x27, c_4, H⟩ := H
        obtain ⟨Fq2, sq, H⟩ := H
        obtain ⟨Fq5, sq_1, H⟩ := H
        obtain ⟨Oq, Oq_1, H⟩ := H
        let gq2 : GOp := ⟨2, 25, true, [2], fun lq => Value.slice (pS (nth lq 0)).a (pS (nth lq 0)).n (pS (nth lq 0)).c, fun lq lo hi h => Fq2 (pS (nth lq 0)) lo hi h⟩
        let gq4 : GOp := ⟨4, 27, false, [4], fun lq => Value.int .i64 x27, fun _ _ _ _ => True⟩
        let gq5 : GOp := ⟨5, 28, true, [5], fun lq => Value.slice (pS (nth lq 0)).a (pS (nth lq 0)).n (pS (nth lq 0)).c, fun lq lo hi h => Fq5 (pS (nth lq 0)) lo hi h⟩
        replace S := S.sub [(1, Value.map needs1), (2, Value.pointer (some p2)), (5, Value.slice l5.a l5.n l5.c), (7, Value.pointer (some p7)), (17, Value.slice x17.a x17.n x17.c), (18, Value.int .i64 ((x17.n : Nat) : Int)), (19, Value.int .i64 x19), (23, Value.slice l5.a l5.n l5.c), (24, Value.agg #[Value.int .i64 y24, Value.string y24_1, Value.bool y24_2, Value.int .i64 y24_3, Value.slice y24_4.a y24_4.n y24_4.c, Value.slice y24_5.a y24_5.n y24_5.c]), (26, Value.pointer (some (p2.add 3)))] ⟨rfl, rfl, rfl, rfl, rfl, rfl, rfl, rfl, rfl, rfl, trivial⟩
        refine AN.group (fuel := 2) T hT [(gq2, []), (gq4, []), (gq5, [gq4])] [(2, 25, [2], []), (4, 27, [4], []), (5, 28, [5], [4])] [1, 2, 5, 7, 17, 18, 19, 23, 24, 26] S rfl rfl (by kernel_rfl) (by simp) ⟨?_, ?_, ?_, trivial⟩ ?_
        · refine ⟨_, rfl, rfl, fun _ _ _ _ _ ht hf => sq _ _ _ _ _ ht hf, ?_⟩
          intro Xg Bg aa ww h7 Ef S hTg hok
          replace S : St 67 ((1, Value.map needs1) :: (2, Value.pointer (some p2)) :: (5, Value.slice l5.a l5.n l5.c) :: (7, Value.pointer (some p7)) :: (17, Value.slice x17.a x17.n x17.c) :: (18, Value.int .i64 ((x17.n : Nat) : Int)) :: (19, Value.int .i64 x19) :: (23, Value.slice l5.a l5.n l5.c) :: (24, Value.agg #[Value.int .i64 y24, Value.string y24_1, Value.bool y24_2, Value.int .i64 y24_3, Value.slice y24_4.a y24_4.n y24_4.c, Value.slice y24_5.a y24_5.n y24_5.c]) :: (26, Value.pointer (some (p2.add 3))) :: Ef) h7 w0 aa ww := S
          have H := Oq h7 hTg
          refine ol_cal S H isfn26 rfl rfl trivial ?_
          clear S H aa; intro u_1 aa ww h8 H S
          obtain ⟨x25_1, rfl, H⟩ := H
          refine OL.nil ?_
          exact ⟨Value.slice x25_1.a x25_1.n x25_1.c, _, S, H.1, H.2⟩
        · refine ⟨_, rfl, rfl, fun _ _ _ _ _ _ _ => trivial, ?_⟩
          intro Xg Bg aa ww h15 Ef S hTg hok
          replace S : St 67 ((1, Value.map needs1) :: (2, Value.pointer (some p2)) :: (5, Value.slice l5.a l5.n l5.c) :: (7, Value.pointer (some p7)) :: (17, Value.slice x17.a x17.n x17.c) :: (18, Value.int .i64 ((x17.n : Nat) : Int)) :: (19, Value.int .i64 x19) :: (23, Value.slice l5.a l5.n l5.c) :: (24, Value.agg #[Value.int .i64 y24, Value.string y24_1, Value.bool y24_2, Value.int .i64 y24_3, Value.slice y24_4.a y24_4.n y24_4.c, Value.slice y24_5.a y24_5.n y24_5.c]) :: (26, Value.pointer (some (p2.add 3))) :: Ef) h15 w0 aa ww := S
          refine OL.pure S (Lf.run_ld (S.ev rfl) fl3 (S.cl (c_4 _ hTg))) rfl rfl trivial ?_
          clear S; intro aa S
          refine OL.nil ?_
          exact ⟨undef, _, S, hT.refl _, trivial⟩
        · refine ⟨_, rfl, rfl, fun _ _ _ _ _ ht hf => sq_1 _ _ _ _ _ ht hf, ?_⟩
          intro Xg Bg aa ww h11 Ef S hTg hok
          obtain ⟨kq4, -⟩ := hok
          replace S : St 67 ((27, Value.int .i64 x27) :: (1, Value.map needs1) :: (2, Value.pointer (some p2)) :: (5, Value.slice l5.a l5.n l5.c) :: (7, Value.pointer (some p7)) :: (17, Value.slice x17.a x17.n x17.c) :: (18, Value.int .i64 ((x17.n : Nat) : Int)) :: (19, Value.int .i64 x19) :: (23, Value.slice l5.a l5.n l5.c) :: (24, Value.agg #[Value.int .i64 y24, Value.string y24_1, Value.bool y24_2, Value.int .i64 y24_3, Value.slice y24_4.a y24_4.n y24_4.c, Value.slice y24_5.a y24_5.n y24_5.c]) :: (26, Value.pointer (some (p2.add 3))) :: Ef) h11 w0 aa ww := S
          have H := Oq_1 h11 hTg
          refine ol_newS S H Try.underlying22 ti3 (by decide) (parts_map S rfl) (by kernel_rfl) (by decide) rfl trivial ?_
          clear S H aa; intro s28_1 aa ww h12 H S
          refine OL.nil ?_
          exact ⟨Value.slice s28_1.a s28_1.n s28_1.c, _, S, H.1, H.2⟩
        clear S aa ww
        intro Xg Bg aa ww h13 S hTg hok hdis
        obtain ⟨kq2, kq4, kq5, -⟩ := hok
        replace H := H (pS (Xg 2)) (Bg 2).1 (Bg 2).2 (pS (Xg 5)) (Bg 5).1 (Bg 5).2 h13 hTg hdis kq2 kq5
        replace S := S.sub [(1, Value.map needs1), (2, Value.pointer (some p2)), (5, Value.slice l5.a l5.n l5.c), (7, Value.pointer (some p7)), (17, Value.slice x17.a x17.n x17.c), (18, Value.int .i64 ((x17.n : Nat) : Int)), (19, Value.int .i64 x19), (23, Value.slice l5.a l5.n l5.c), (24, Value.agg #[Value.int .i64 y24, Value.string y24_1, Value.bool y24_2, Value.int .i64 y24_3, Value.slice y24_4.a y24_4.n y24_4.c, Value.slice y24_5.a y24_5.n y24_5.c]), (25, Value.slice (pS (Xg 2)).a (pS (Xg 2)).n (pS (Xg 2)).c), (26, Value.pointer (some (p2.add 3))), (27, Value.int .i64 x27), (28, Value.slice (pS (Xg 5)).a (pS (Xg 5)).n (pS (Xg 5)).c)] ⟨rfl, rfl, rfl, rfl, rfl, rfl, rfl, rfl, rfl, rfl, rfl, rfl, rfl, trivial⟩
        generalize (pS (Xg 2)) = x25 at H S
        generalize (pS (Xg 5)) = s28 at H S
        generalize Bg 2 = bq2 at H
        generalize Bg 5 = bq5 at H
        clear hTg hdis kq5 kq4 kq2 gq5 gq4 gq2 Oq Oq_1 sq sq_1
        refine AN.eff 6 rfl (by kernel_rfl) ?_
        refine ol_cal S H isfn28 rfl rfl trivial ?_
        clear S H aa; intro u_2 aa ww h14 H S
        obtain ⟨x29, rfl, H⟩ := H
        refine OL.nil ?_
        refine AN.pure 7 S rfl (by kernel_rfl) (fun _ => Lf.run_assign (S.ev rfl)) rfl rfl trivial ?_
        clear S; intro aa S
        refine AN.done (by kernel_rfl) ?_
        replace S := S.sub [(1, Value.map needs1), (2, Value.pointer (some p2)), (5, Value.slice x29.a x29.n x29.c), (17, Value.slice x17.a x17.n x17.c), (18, Value.int .i64 ((x17.n : Nat) : Int)), (19, Value.int .i64 x19)] ⟨rfl, rfl, rfl, rfl, rfl, rfl, trivial⟩
        refine W.region ?_
        refine OL.pure S (Lf.run_add (S.ev rfl) (S.ev rfl)) rfl rfl trivial ?_
        clear S; intro aa S
        refine OL.pure S (Lf.run_move (S.ev rfl)) rfl rfl trivial ?_
        clear S; intro aa S
        refine OL.nil ?_
        exact ⟨(x29, (IntKind.i64.wrap (x19 + 1)), h14), ⟨S.sub _ ⟨rfl, rfl, rfl, rfl, rfl, rfl, trivial⟩, H.1⟩, H.2⟩
      · replace H := H.2 hb_1
        refine W.exit_ ?_
        refine xhit ?_
        exact ⟨l5, h2, S.sub _ ⟨rfl, rfl, rfl, trivial⟩, H⟩
    · replace H := H.2 hb
      refine W.seq ?_
      replace S := S.sub [(1, Value.map needs1), (2, Value.pointer (some p2)), (5, Value.slice (⟨none, 0, 0⟩ : Sv).a (⟨none, 0, 0⟩ : Sv).n (⟨none, 0, 0⟩ : Sv).c), (13, Value.int .i64 x13)] ⟨rfl, rfl, rfl, rfl, trivial⟩
      refine W.region ?_
      refine OL.pure S (Lf.run_eql (S.ev rfl) (S.ev rfl)) rfl rfl trivial ?_
      clear S; intro aa S
      refine OL.pure S (Lf.run_assign (S.ev rfl)) rfl rfl trivial ?_
      clear S; intro aa S
      refine OL.nil ?_
      refine W.cond S (b := (x13 == 5)) rfl (fun hb_2 => ?_) (fun hb_2 => ?_)
      · replace H := H.1 hb_2
        refine W.seq ?_
        replace S := S.sub [(1, Value.map needs1), (2, Value.pointer (some p2)), (5, Value.slice (⟨none, 0, 0⟩ : Sv).a (⟨none, 0, 0⟩ : Sv).n (⟨none, 0, 0⟩ : Sv).c)] ⟨rfl, rfl, rfl, trivial⟩
        refine W.region ?_
        refine OL.pure S (Lf.run_move (S.ev rfl)) rfl rfl trivial ?_
        clear S; intro aa S
        refine OL.pure S (Lf.run_fa (S.ev rfl) fa25_1) rfl rfl trivial ?_
        clear S; intro aa S
        obtain ⟨x35, c_17, H⟩ := H
        refine OL.pure S (Lf.run_ld (S.ev rfl) fl9 (S.cl c_17)) rfl rfl trivial ?_
        clear S; intro aa S
        refine ol_lkS S H Try.underlying30 Try.underlying9 ti26 rfl rfl rfl trivial ?_
        clear S H aa; intro u_3 aa H S
        obtain ⟨x36, rfl, H⟩ := H
        refine OL.pure S (Lf.run_lens (S.ev rfl) rfl Try.underlying26) rfl rfl trivial ?_
        clear S; intro aa S
        refine OL.pure S (Lf.run_move (S.ev rfl)) rfl rfl trivial ?_
        clear S; intro aa S
        refine OL.nil ?_
        refine W.block ?_
        obtain ⟨I_1, m_1, H, HB_1⟩ := H
        refine W.loopS (σ := Sv × Int × Heap) (fun s aa ww => St 67 [(1, Value.map needs1), (2, Value.pointer (some p2)), (5, Value.slice s.1.a s.1.n s.1.c), (36, Value.slice x36.a x36.n x36.c), (37, Value.int .i64 ((x36.n : Nat) : Int)), (38, Value.int .i64 s.2.1)] s.2.2 w0 aa ww ∧ I_1 s.1 s.2.1 s.2.2) (fun s => m_1 s.1 s.2.1 s.2.2) ((⟨none, 0, 0⟩ : Sv), 0, h1) ⟨S.sub _ ⟨rfl, rfl, rfl, rfl, rfl, rfl, trivial⟩, H⟩ ?_
        clear H S aa
        rintro ⟨l5_1, x38, h16⟩ aa ww ⟨S, HI⟩
        replace S : St 67 [(1, Value.map needs1), (2, Value.pointer (some p2)), (5, Value.slice l5_1.a l5_1.n l5_1.c), (36, Value.slice x36.a x36.n x36.c), (37, Value.int .i64 ((x36.n : Nat) : Int)), (38, Value.int .i64 x38)] h16 w0 aa ww := S
        have H := HB_1 l5_1 x38 h16 HI
        clear HI
        refine W.seq ?_
        replace S := S.sub [(1, Value.map needs1), (2, Value.pointer (some p2)), (5, Value.slice l5_1.a l5_1.n l5_1.c), (36, Value.slice x36.a x36.n x36.c), (37, Value.int .i64 ((x36.n : Nat) : Int)), (38, Value.int .i64 x38)] ⟨rfl, rfl, rfl, rfl, rfl, rfl, trivial⟩
        refine W.region ?_
        refine OL.pure S (Lf.run_lss (S.ev rfl) (S.ev rfl)) rfl rfl trivial ?_
        clear S; intro aa S
        refine OL.nil ?_
        refine W.seq ?_
        refine W.cond S (b := (decide (x38 < ((x36.n : Nat) : Int)))) rfl (fun hb_3 => ?_) (fun hb_3 => ?_)
        · replace H := H.1 hb_3
          refine W.skip ?_
          refine W.seq ?_
          refine W.block ?_
          refine W.seq ?_
          replace S := S.sub [(1, Value.map needs1), (2, Value.pointer (some p2)), (5, Value.slice l5_1.a l5_1.n l5_1.c), (36, Value.slice x36.a x36.n x36.c), (37, Value.int .i64 ((x36.n : Nat) : Int)), (38, Value.int .i64 x38)] ⟨rfl, rfl, rfl, rfl, rfl, rfl, trivial⟩
          refine W.region ?_
          obtain ⟨q40, e_3, e_4, e_5, H⟩ := H
          refine OL.pure S (Lf.run_ixs (S.ev rfl) (S.ev rfl) Try.underlying26 ti46 e_3 e_4 e_5) rfl rfl trivial ?_
          clear S; intro aa S
          obtain ⟨y41, y41_1, c_35, c_36, H⟩ := H
          refine OL.pure S (Lf.run_ldA (cs := [Value.int .i64 y41, Value.int .i64 y41_1]) (S.ev rfl) ag46 ti46 (by rw [S.heap]; exact RowL.toRow ⟨c_35, c_36, trivial⟩)) rfl rfl trivial ?_
          clear S; intro aa S
          refine ol_alloc S H ti46 rfl rfl trivial ?_
          clear S H aa; intro p9 aa ww h17 H S
          refine ol_stoA S H rfl rfl ti46 trivial ?_
          clear S H aa; intro aa ww h18 H S
          refine OL.nil ?_
          replace S := S.sub [(1, Value.map needs1), (2, Value.pointer (some p2)), (5, Value.slice l5_1.a l5_1.n l5_1.c), (9, Value.pointer (some p9)), (36, Value.slice x36.a x36.n x36.c), (37, Value.int .i64 ((x36.n : Nat) : Int)), (38, Value.int .i64 x38)] ⟨rfl, rfl, rfl, rfl, rfl, rfl, rfl, trivial⟩
          obtain ⟨Sq, HS, H⟩ := H
          refine W.regionN [5, 7] [4, 8, 9] Sq S (by kernel_rfl) ?_
          clear S; intro ww S
          refine BN.pure 0 S (fun _ => HS) rfl (by kernel_rfl) (by kernel_rfl) (fun _ => Lf.run_move (S.ev rfl)) rfl rfl trivial ?_
          clear S; intro aa S
          obtain ⟨y43, y43_1, y43_2, y43_3, y43_4, y43_5, c_29, c_30, c_31, c_32, c_33, c_34, H⟩ := H
          refine BN.load 1 S (fun _ => HS) rfl (by kernel_rfl) (by kernel_rfl) (fun _ hx => Lf.run_ldA (cs := [Value.int .i64 y43, Value.string y43_1, Value.bool y43_2, Value.int .i64 y43_3, Value.slice y43_4.a y43_4.n y43_4.c, Value.slice y43_5.a y43_5.n y43_5.c]) (S.ev rfl) ag25 ti25 (hx.row (S.row ⟨c_29, c_30, c_31, c_32, c_33, c_34, trivial⟩))) rfl rfl trivial ?_
          clear S; intro aa S
          refine BN.pure 2 S (fun _ => HS) rfl (by kernel_rfl) (by kernel_rfl) (fun _ => Lf.run_ixa (S.ev rfl) (S.ev rfl) Try.underlying46 ti3 (by decide) (by decide)) rfl rfl trivial ?_
          clear S; intro aa S
          obtain ⟨x45, c_20, H⟩ := H
          refine BN.load 3 S (fun _ => HS) rfl (by kernel_rfl) (by kernel_rfl) (fun _ hx => Lf.run_ld (S.ev rfl) fl3 (hx.cell _ _ (S.cl c_20))) rfl rfl trivial ?_
          clear S; intro aa S
          refine BN.pure 6 S (fun _ => HS) rfl (by kernel_rfl) (by kernel_rfl) (fun _ => Lf.run_ixa (S.ev rfl) (S.ev rfl) Try.underlying46 ti3 (by decide) (by decide)) rfl rfl trivial ?_
          clear S; intro aa S
          obtain ⟨y47, y47_1, y47_2, y47_3, y47_4, y47_5, c_23, c_24, c_25, c_26, c_27, c_28, H⟩ := H
          refine BN.held 5 S HS rfl (by kernel_rfl) (fun _ hq => Lf.run_ldA (cs := [Value.int .i64 y47, Value.string y47_1, Value.bool y47_2, Value.int .i64 y47_3, Value.slice y47_4.a y47_4.n y47_4.c, Value.slice y47_5.a y47_5.n y47_5.c]) (S.ev rfl) ag25 ti25 (hlRow hq fun h_ hs_ => ⟨c_23 h_ hs_, c_24 h_ hs_, c_25 h_ hs_, c_26 h_ hs_, c_27 h_ hs_, c_28 h_ hs_, trivial⟩)) rfl rfl trivial ?_
          clear S; intro aa S
          obtain ⟨x49, c_22, H⟩ := H
          refine BN.held 7 S HS rfl (by kernel_rfl) (fun _ hq => Lf.run_ld (S.ev rfl) fl3 (c_22 _ hq)) rfl rfl trivial ?_
          clear S; intro aa S
          refine BN.eff 4 rfl (by kernel_rfl) ?_
          refine ol_cal S H isfn29 rfl rfl trivial ?_
          clear S H aa; intro u_4 aa ww h19 H S
          obtain ⟨x46, rfl, H⟩ := H
          refine OL.nil ?_
          clear HS; obtain ⟨HS, H⟩ := H
          refine ⟨fun _ => by rw [S.heap]; exact HS, ?_⟩
          refine BN.eff 8 rfl (by kernel_rfl) ?_
          refine ol_cal S H isfn29 rfl rfl trivial ?_
          clear S H aa; intro u_5 aa ww h20 H S
          obtain ⟨x50, rfl, H⟩ := H
          refine OL.nil ?_
          refine ⟨noNeed (by kernel_rfl), ?_⟩
          refine BN.eff 9 rfl (by kernel_rfl) ?_
          refine ol_cal S H isfn28 rfl rfl trivial ?_
          clear S H aa; intro u_6 aa ww h21 H S
          obtain ⟨x51, rfl, H⟩ := H
          refine OL.nil ?_
          refine ⟨noNeed (by kernel_rfl), ?_⟩
          refine BN.pure 10 S (noNeed (by kernel_rfl)) rfl (by kernel_rfl) (by kernel_rfl) (fun _ => Lf.run_assign (S.ev rfl)) rfl rfl trivial ?_
          clear S; intro aa S
          refine BN.done (by kernel_rfl) ?_
          replace S := S.sub [(1, Value.map needs1), (2, Value.pointer (some p2)), (5, Value.slice x51.a x51.n x51.c), (36, Value.slice x36.a x36.n x36.c), (37, Value.int .i64 ((x36.n : Nat) : Int)), (38, Value.int .i64 x38)] ⟨rfl, rfl, rfl, rfl, rfl, rfl, trivial⟩
          refine W.region ?_
          refine OL.pure S (Lf.run_add (S.ev rfl) (S.ev rfl)) rfl rfl trivial ?_
          clear S; intro aa S
          refine OL.pure S (Lf.run_move (S.ev rfl)) rfl rfl trivial ?_
          clear S; intro aa S
          refine OL.nil ?_
          exact ⟨(x51, (IntKind.i64.wrap (x38 + 1)), h21), ⟨S.sub _ ⟨rfl, rfl, rfl, rfl, rfl, rfl, trivial⟩, H.1⟩, H.2⟩
        · replace H := H.2 hb_3
          refine W.exit_ ?_
          refine xhit ?_
          exact ⟨l5_1, h16, S.sub _ ⟨rfl, rfl, rfl, trivial⟩, H⟩
      · replace H := H.2 hb_2
        refine W.skip ?_
        exact ⟨(⟨none, 0, 0⟩ : Sv), h1, S.sub _ ⟨rfl, rfl, rfl, trivial⟩, H⟩
  · clear H S aa
    rintro aa ww ⟨l5_2, h22, S, HJ⟩
    have H := HK _ _ HJ
    clear HK HJ
    refine W.seq ?_
    refine W.seq ?_
    replace S := S.sub [(1, Value.map needs1), (2, Value.pointer (some p2)), (5, Value.slice l5_2.a l5_2.n l5_2.c)] ⟨rfl, rfl, rfl, trivial⟩
    refine W.region ?_
    refine OL.pure S (Lf.run_fa (S.ev rfl) fa25_5) rfl rfl trivial ?_
    clear S; intro aa S
    obtain ⟨x54, c_37, H⟩ := H
    refine OL.pure S (Lf.run_ld (S.ev rfl) fl23 (S.cl c_37)) rfl rfl trivial ?_
    clear S; intro aa S
    refine OL.pure S (Lf.run_lens (S.ev rfl) rfl Try.underlying23) rfl rfl trivial ?_
    clear S; intro aa S
    refine OL.pure S (Lf.run_move (S.ev rfl)) rfl rfl trivial ?_
    clear S; intro aa S
    refine OL.nil ?_
    refine W.block ?_
    obtain ⟨I_2, m_2, H, HB_2⟩ := H
    refine W.loopS (σ := Sv × Int × Heap) (fun s aa ww => St 67 [(1, Value.map needs1), (5, Value.slice s.1.a s.1.n s.1.c), (54, Value.slice x54.a x54.n x54.c), (55, Value.int .i64 ((x54.n : Nat) : Int)), (56, Value.int .i64 s.2.1)] s.2.2 w0 aa ww ∧ I_2 s.1 s.2.1 s.2.2) (fun s => m_2 s.1 s.2.1 s.2.2) (l5_2, 0, h22) ⟨S.sub _ ⟨rfl, rfl, rfl, rfl, rfl, trivial⟩, H⟩ ?_
    clear H S aa
    rintro ⟨l5_3, x56, h23⟩ aa ww ⟨S, HI⟩
    replace S : St 67 [(1, Value.map needs1), (5, Value.slice l5_3.a l5_3.n l5_3.c), (54, Value.slice x54.a x54.n x54.c), (55, Value.int .i64 ((x54.n : Nat) : Int)), (56, Value.int .i64 x56)] h23 w0 aa ww := S
    have H := HB_2 l5_3 x56 h23 HI
    clear HI
    refine W.seq ?_
    replace S := S.sub [(1, Value.map needs1), (5, Value.slice l5_3.a l5_3.n l5_3.c), (54, Value.slice x54.a x54.n x54.c), (55, Value.int .i64 ((x54.n : Nat) : Int)), (56, Value.int .i64 x56)] ⟨rfl, rfl, rfl, rfl, rfl, trivial⟩
    refine W.region ?_
    refine OL.pure S (Lf.run_lss (S.ev rfl) (S.ev rfl)) rfl rfl trivial ?_
    clear S; intro aa S
    refine OL.nil ?_
    refine W.seq ?_
    refine W.cond S (b := (decide (x56 < ((x54.n : Nat) : Int)))) rfl (fun hb_4 => ?_) (fun hb_4 => ?_)
    · replace H := H.1 hb_4
      refine W.skip ?_
      refine W.seq ?_
      refine W.block ?_
      refine W.seq ?_
      replace S := S.sub [(1, Value.map needs1), (5, Value.slice l5_3.a l5_3.n l5_3.c), (54, Value.slice x54.a x54.n x54.c), (55, Value.int .i64 ((x54.n : Nat) : Int)), (56, Value.int .i64 x56)] ⟨rfl, rfl, rfl, rfl, rfl, trivial⟩
      refine W.region ?_
      obtain ⟨q58, e_10, e_11, e_12, H⟩ := H
      refine OL.pure S (Lf.run_ixs (S.ev rfl) (S.ev rfl) Try.underlying23 ti25 e_10 e_11 e_12) rfl rfl trivial ?_
      clear S; intro aa S
      obtain ⟨y59, y59_1, y59_2, y59_3, y59_4, y59_5, c_46, c_47, c_48, c_49, c_50, c_51, H⟩ := H
      refine OL.pure S (Lf.run_ldA (cs := [Value.int .i64 y59, Value.string y59_1, Value.bool y59_2, Value.int .i64 y59_3, Value.slice y59_4.a y59_4.n y59_4.c, Value.slice y59_5.a y59_5.n y59_5.c]) (S.ev rfl) ag25 ti25 (by rw [S.heap]; exact RowL.toRow ⟨c_46, c_47, c_48, c_49, c_50, c_51, trivial⟩)) rfl rfl trivial ?_
      clear S; intro aa S
      refine ol_alloc S H ti25 rfl rfl trivial ?_
      clear S H aa; intro p11 aa ww h24 H S
      refine ol_stoA S H rfl rfl ti25 trivial ?_
      clear S H aa; intro aa ww h25 H S
      refine OL.nil ?_
      replace S := S.sub [(1, Value.map needs1), (5, Value.slice l5_3.a l5_3.n l5_3.c), (11, Value.pointer (some p11)), (54, Value.slice x54.a x54.n x54.c), (55, Value.int .i64 ((x54.n : Nat) : Int)), (56, Value.int .i64 x56)] ⟨rfl, rfl, rfl, rfl, rfl, rfl, trivial⟩
      refine W.region ?_
      refine OL.pure S (Lf.run_move (S.ev rfl)) rfl rfl trivial ?_
      clear S; intro aa S
      obtain ⟨y61, y61_1, y61_2, y61_3, y61_4, y61_5, c_40, c_41, c_42, c_43, c_44, c_45, H⟩ := H
      refine OL.pure S (Lf.run_ldA (cs := [Value.int .i64 y61, Value.string y61_1, Value.bool y61_2, Value.int .i64 y61_3, Value.slice y61_4.a y61_4.n y61_4.c, Value.slice y61_5.a y61_5.n y61_5.c]) (S.ev rfl) ag25 ti25 (by rw [S.heap]; exact RowL.toRow ⟨c_40, c_41, c_42, c_43, c_44, c_45, trivial⟩)) rfl rfl trivial ?_
      clear S; intro aa S
      refine OL.pure S (Lf.run_move (S.ev rfl)) rfl rfl trivial ?_
      clear S; intro aa S
      refine ol_cal S H isfn11 rfl rfl trivial ?_
      clear S H aa; intro u_7 aa ww h26 H S
      obtain ⟨x63, rfl, H⟩ := H
      refine ol_appS S H Try.underlying26 ti46 rfl rfl rfl trivial ?_
      clear S H aa; intro s64 aa ww h27 H S
      refine OL.pure S (Lf.run_assign (S.ev rfl)) rfl rfl trivial ?_
      clear S; intro aa S
      refine OL.nil ?_
      replace S := S.sub [(1, Value.map needs1), (5, Value.slice s64.a s64.n s64.c), (54, Value.slice x54.a x54.n x54.c), (55, Value.int .i64 ((x54.n : Nat) : Int)), (56, Value.int .i64 x56)] ⟨rfl, rfl, rfl, rfl, rfl, trivial⟩
      refine W.region ?_
      refine OL.pure S (Lf.run_add (S.ev rfl) (S.ev rfl)) rfl rfl trivial ?_
      clear S; intro aa S
      refine OL.pure S (Lf.run_move (S.ev rfl)) rfl rfl trivial ?_
      clear S; intro aa S
      refine OL.nil ?_
      exact ⟨(s64, (IntKind.i64.wrap (x56 + 1)), h27), ⟨S.sub _ ⟨rfl, rfl, rfl, rfl, rfl, trivial⟩, H.1⟩, H.2⟩
    · replace H := H.2 hb_4
      refine W.exit_ ?_
      refine xhit ?_
      refine W.seq ?_
      replace S := S.sub [(5, Value.slice l5_3.a l5_3.n l5_3.c)] ⟨rfl, trivial⟩
      refine W.region ?_
      refine OL.pure S (Lf.run_move (S.ev rfl)) rfl rfl trivial ?_
      clear S; intro aa S
      refine OL.pure S (Lf.run_assign (S.ev rfl)) rfl rfl trivial ?_
      clear S; intro aa S
      refine OL.nil ?_
      refine W.ret ?_
      exact Ret.one S rfl rfl H

/-- chattel chattelref07.Wf -/
def L12 (x0 : Int) (x0_1 : ByteArray) (x0_2 : Bool) (x0_3 : Int) (x0_4 : Sv) (x0_5 : Sv) (needs1 : Option Nat) (h : Heap) (R : Value → Heap → Prop) : Prop :=
  new 25 #[Value.int .i64 x0, Value.string x0_1, Value.bool x0_2, Value.int .i64 x0_3, Value.slice x0_4.a x0_4.n x0_4.c, Value.slice x0_5.a x0_5.n x0_5.c] h fun p2 h1 =>
  ∃ J : Sv → Heap → Prop, (
    ldI .i64 h1 p2 fun x11 =>
    ifb (x11 == 7) (
      ∃ (I : Sv → Int → Heap → Prop) (m : Sv → Int → Heap → Nat), I (⟨none, 0, 0⟩ : Sv) 0 h1 ∧ ∀ out5 i6 h2, I out5 i6 h2 →
      ldS h2 (p2.add 5) fun x15 =>
      ifb (decide (i6 < ((x15.n : Nat) : Int))) (
        ldS h2 (p2.add 5) fun x22 =>
        ixS x22 i6 fun q24 =>
        ∃ (y25 : Int) (y25_1 : ByteArray) (y25_2 : Bool) (y25_3 : Int) (y25_4 : Sv) (y25_5 : Sv), cl h2 (q24.add ((i6 : Int).toNat * 6)) = some (Value.int .i64 y25) ∧ cl h2 ((q24.add ((i6 : Int).toNat * 6)).add 1) = some (Value.string y25_1) ∧ cl h2 ((q24.add ((i6 : Int).toNat * 6)).add 2) = some (Value.bool y25_2) ∧ cl h2 ((q24.add ((i6 : Int).toNat * 6)).add 3) = some (Value.int .i64 y25_3) ∧ cl h2 ((q24.add ((i6 : Int).toNat * 6)).add 4) = some (Value.slice y25_4.a y25_4.n y25_4.c) ∧ cl h2 ((q24.add ((i6 : Int).toNat * 6)).add 5) = some (Value.slice y25_5.a y25_5.n y25_5.c) ∧
        ∃ T : Heap → Heap → Prop, Pre T ∧
        hlI .i64 (T h2) (p2.add 3) fun x28 =>
        ∃ Fq6 : Sv → Nat → Nat → Heap → Prop, (∀ x26 lo hi h h', T h h' → Fq6 x26 lo hi h → Fq6 x26 lo hi h') ∧
        ∃ Fq9 : Sv → Nat → Nat → Heap → Prop, (∀ s29 lo hi h h', T h h' → Fq9 s29 lo hi h → Fq9 s29 lo hi h') ∧
        (∀ (h3 : Heap), T h2 h3 →
          cal Try.prog 16 #[Value.agg #[Value.int .i64 y25, Value.string y25_1, Value.bool y25_2, Value.int .i64 y25_3, Value.slice y25_4.a y25_4.n y25_4.c, Value.slice y25_5.a y25_5.n y25_5.c]] h3 fun u h4 => asS u fun x26 =>
          T h3 h4 ∧ Fq6 x26 h3.size h4.size h4) ∧
        (∀ (h7 : Heap), T h2 h7 →
          newS 3 #[Value.int .i64 x28] 1 h7 fun s29 h8 =>
          T h7 h8 ∧ Fq9 s29 h7.size h8.size h8) ∧
        (∀ (x26 : Sv) (lo6 hi6 : Nat) (s29 : Sv) (lo9 hi9 : Nat) (h11 : Heap), T h2 h11 → Dis h2.size h11.size [(lo6, hi6), (lo9, hi9)] → Fq6 x26 lo6 hi6 h11 → Fq9 s29 lo9 hi9 h11 →
        cal Try.prog 30 #[Value.slice x26.a x26.n x26.c, Value.slice s29.a s29.n s29.c] h11 fun u_2 h12 => asS u_2 fun x30 =>
        appS 46 (Value.agg #[Value.int .i64 0, Value.int .i64 0]).cells 2 16 h12 out5 x30 fun s31 h13 =>
        I s31 (IntKind.i64.wrap (i6 + 1)) h13 ∧ m s31 (IntKind.i64.wrap (i6 + 1)) h13 < m out5 i6 h2)) (
        J out5 h2)) (
      J (⟨none, 0, 0⟩ : Sv) h1)) ∧ (∀ out5_1 h15, J out5_1 h15 →
  ∃ J_1 : Sv → Heap → Prop, (
    ldI .i64 h15 p2 fun x33 =>
    ifb (x33 == 5) (
      ldT h15 (p2.add 1) fun x37 =>
      lkS h15 (Value.map needs1) x37 (Value.slice (⟨none, 0, 0⟩ : Sv).a (⟨none, 0, 0⟩ : Sv).n (⟨none, 0, 0⟩ : Sv).c) fun u_3 => asS u_3 fun x38 =>
      ∃ (I_1 : Sv → Int → Heap → Prop) (m_1 : Sv → Int → Heap → Nat), I_1 out5_1 0 h15 ∧ ∀ out5_2 i8 h16, I_1 out5_2 i8 h16 →
      ifb (decide (i8 < ((x38.n : Nat) : Int))) (
        ∃ Sq : Heap → Prop, Sq h16 ∧ (
          ∃ (y46 : Int) (y46_1 : ByteArray) (y46_2 : Bool) (y46_3 : Int) (y46_4 : Sv) (y46_5 : Sv), cl h16 p2 = some (Value.int .i64 y46) ∧ cl h16 (p2.add 1) = some (Value.string y46_1) ∧ cl h16 (p2.add 2) = some (Value.bool y46_2) ∧ cl h16 (p2.add 3) = some (Value.int .i64 y46_3) ∧ cl h16 (p2.add 4) = some (Value.slice y46_4.a y46_4.n y46_4.c) ∧ cl h16 (p2.add 5) = some (Value.slice y46_5.a y46_5.n y46_5.c) ∧
          ixS x38 i8 fun q49 =>
          ldI .i64 h16 (q49.add ((i8 : Int).toNat * 2)) fun x51 =>
          ixS x38 i8 fun q56 =>
          ∃ (y53 : Int) (y53_1 : ByteArray) (y53_2 : Bool) (y53_3 : Int) (y53_4 : Sv) (y53_5 : Sv), hld Sq p2 (Value.int .i64 y53) ∧ hld Sq (p2.add 1) (Value.string y53_1) ∧ hld Sq (p2.add 2) (Value.bool y53_2) ∧ hld Sq (p2.add 3) (Value.int .i64 y53_3) ∧ hld Sq (p2.add 4) (Value.slice y53_4.a y53_4.n y53_4.c) ∧ hld Sq (p2.add 5) (Value.slice y53_5.a y53_5.n y53_5.c) ∧
          hlI .i64 Sq ((q56.add ((i8 : Int).toNat * 2)).add 1) fun x58 =>
          cal Try.prog 31 #[Value.agg #[Value.int .i64 y46, Value.string y46_1, Value.bool y46_2, Value.int .i64 y46_3, Value.slice y46_4.a y46_4.n y46_4.c, Value.slice y46_5.a y46_5.n y46_5.c], Value.int .i64 x51] h16 fun u_4 h17 => asS u_4 fun x52 =>
          Sq h17 ∧
          cal Try.prog 31 #[Value.agg #[Value.int .i64 y53, Value.string y53_1, Value.bool y53_2, Value.int .i64 y53_3, Value.slice y53_4.a y53_4.n y53_4.c, Value.slice y53_5.a y53_5.n y53_5.c], Value.int .i64 x58] h17 fun u_5 h18 => asS u_5 fun x59 =>
          cal Try.prog 30 #[Value.slice x52.a x52.n x52.c, Value.slice x59.a x59.n x59.c] h18 fun u_6 h19 => asS u_6 fun x60 =>
          appS 46 (Value.agg #[Value.int .i64 0, Value.int .i64 0]).cells 2 16 h19 out5_2 x60 fun s61 h20 =>
          I_1 s61 (IntKind.i64.wrap (i8 + 1)) h20 ∧ m_1 s61 (IntKind.i64.wrap (i8 + 1)) h20 < m_1 out5_2 i8 h16)) (
        J_1 out5_2 h16)) (
      J_1 out5_1 h15)) ∧ (∀ out5_3 h21, J_1 out5_3 h21 →
  ∃ (I_2 : Sv → Int → Heap → Prop) (m_2 : Sv → Int → Heap → Nat), I_2 out5_3 0 h21 ∧ ∀ out5_4 i9 h22, I_2 out5_4 i9 h22 →
  ldS h22 (p2.add 5) fun x64 =>
  ifb (decide (i9 < ((x64.n : Nat) : Int))) (
    ldS h22 (p2.add 5) fun x71 =>
    ixS x71 i9 fun q73 =>
    ∃ (y74 : Int) (y74_1 : ByteArray) (y74_2 : Bool) (y74_3 : Int) (y74_4 : Sv) (y74_5 : Sv), cl h22 (q73.add ((i9 : Int).toNat * 6)) = some (Value.int .i64 y74) ∧ cl h22 ((q73.add ((i9 : Int).toNat * 6)).add 1) = some (Value.string y74_1) ∧ cl h22 ((q73.add ((i9 : Int).toNat * 6)).add 2) = some (Value.bool y74_2) ∧ cl h22 ((q73.add ((i9 : Int).toNat * 6)).add 3) = some (Value.int .i64 y74_3) ∧ cl h22 ((q73.add ((i9 : Int).toNat * 6)).add 4) = some (Value.slice y74_4.a y74_4.n y74_4.c) ∧ cl h22 ((q73.add ((i9 : Int).toNat * 6)).add 5) = some (Value.slice y74_5.a y74_5.n y74_5.c) ∧
    cal Try.prog 12 #[Value.agg #[Value.int .i64 y74, Value.string y74_1, Value.bool y74_2, Value.int .i64 y74_3, Value.slice y74_4.a y74_4.n y74_4.c, Value.slice y74_5.a y74_5.n y74_5.c], Value.map needs1] h22 fun u_7 h23 => asS u_7 fun x76 =>
    appS 46 (Value.agg #[Value.int .i64 0, Value.int .i64 0]).cells 2 16 h23 out5_4 x76 fun s77 h24 =>
    I_2 s77 (IntKind.i64.wrap (i9 + 1)) h24 ∧ m_2 s77 (IntKind.i64.wrap (i9 + 1)) h24 < m_2 out5_4 i9 h22) (
    R (Value.slice out5_4.a out5_4.n out5_4.c) h22)))

set_option maxRecDepth 100000 in

theorem F12 {x0 x0_1 x0_2 x0_3 x0_4 x0_5 needs1 h : _} {R : Value → Heap → Prop} (H : L12 x0 x0_1 x0_2 x0_3 x0_4 x0_5 needs1 h R) : CallsH Try.prog 12 #[Value.agg #[Value.int .i64 x0, Value.string x0_1, Value.bool x0_2, Value.int .i64 x0_3, Value.slice x0_4.a x0_4.n x0_4.c, Value.slice x0_5.a x0_5.n x0_5.c], Value.map needs1] h R := by
  refine CallsH.enter (n := 79) Try.func12 rfl rfl rfl rfl ?_
  intro w0 aa ww S
  unfold L12 at H
  refine W.seq ?_
  replace S := S.sub [(0, Value.agg #[Value.int .i64 x0, Value.string x0_1, Value.bool x0_2, Value.int .i64 x0_3, Value.slice x0_4.a x0_4.n x0_4.c, Value.slice x0_5.a x0_5.n x0_5.c]), (1, Value.map needs1)] ⟨rfl, rfl, trivial⟩
  refine W.region ?_
  refine ol_box S H rfl rfl rfl trivial ?_
  clear S H aa; intro p2 aa ww h1 H S
  refine OL.pure S (Lf.run_assign (S.ev rfl)) rfl rfl trivial ?_
  clear S; intro aa S
  refine OL.nil ?_
  refine W.seq ?_
  replace S := S.sub [(1, Value.map needs1), (2, Value.pointer (some p2))] ⟨rfl, rfl, trivial⟩
  refine W.region ?_
  refine OL.pure S (Lf.run_assign (S.ev rfl)) rfl rfl trivial ?_
  clear S; intro aa S
  refine OL.nil ?_
  obtain ⟨J, H, HK⟩ := H
  refine W.seqJ (fun aa ww => ∃ out5_1 h15, St 79 [(1, Value.map needs1), (2, Value.pointer (some p2)), (5, Value.slice out5_1.a out5_1.n out5_1.c)] h15 w0 aa ww ∧ J out5_1 h15) ?_ ?_
  · clear HK
    refine W.seq ?_
    replace S := S.sub [(1, Value.map needs1), (2, Value.pointer (some p2)), (5, Value.slice (⟨none, 0, 0⟩ : Sv).a (⟨none, 0, 0⟩ : Sv).n (⟨none, 0, 0⟩ : Sv).c)] ⟨rfl, rfl, rfl, trivial⟩
    refine W.region ?_
    refine OL.pure S (Lf.run_fa (S.ev rfl) fa25_0) rfl rfl trivial ?_
    clear S; intro aa S
    obtain ⟨x11, c, H⟩ := H
    refine OL.pure S (Lf.run_ld (S.ev rfl) fl3 (S.cl c)) rfl rfl trivial ?_
    clear S; intro aa S
    refine OL.pure S (Lf.run_eql (S.ev rfl) (S.ev rfl)) rfl rfl trivial ?_
    clear S; intro aa S
    refine OL.nil ?_
    refine W.cond S (b := (x11 == 7)) rfl (fun hb => ?_) (fun hb => ?_)
    · replace H := H.1 hb
      refine W.seq ?_
      replace S := S.sub [(1, Value.map needs1), (2, Value.pointer (some p2)), (5, Value.slice (⟨none, 0, 0⟩ : Sv).a (⟨none, 0, 0⟩ : Sv).n (⟨none, 0, 0⟩ : Sv).c)] ⟨rfl, rfl, rfl, trivial⟩
      refine W.region ?_
      refine OL.pure S (Lf.run_assign (S.ev rfl)) rfl rfl trivial ?_
      clear S; intro aa S
      refine OL.nil ?_
      refine W.block ?_
      obtain ⟨I, m, H, HB⟩ := H
      refine W.loopS (σ := Sv × Int × Heap) (fun s aa ww => St 79 [(1, Value.map needs1), (2, Value.pointer (some p2)), (5, Value.slice s.1.a s.1.n s.1.c), (6, Value.int .i64 s.2.1)] s.2.2 w0 aa ww ∧ I s.1 s.2.1 s.2.2) (fun s => m s.1 s.2.1 s.2.2) ((⟨none, 0, 0⟩ : Sv), 0, h1) ⟨S.sub _ ⟨rfl, rfl, rfl, rfl, trivial⟩, H⟩ ?_
      clear H S aa
      rintro ⟨out5, i6, h2⟩ aa ww ⟨S, HI⟩
      replace S : St 79 [(1, Value.map needs1), (2, Value.pointer (some p2)), (5, Value.slice out5.a out5.n out5.c), (6, Value.int .i64 i6)] h2 w0 aa ww := S
      have H := HB out5 i6 h2 HI
      clear HI
      refine W.seq ?_
      refine W.seq ?_
      replace S := S.sub [(1, Value.map needs1), (2, Value.pointer (some p2)), (5, Value.slice out5.a out5.n out5.c), (6, Value.int .i64 i6)] ⟨rfl, rfl, rfl, rfl, trivial⟩
      refine W.region ?_
      refine OL.pure S (Lf.run_move (S.ev rfl)) rfl rfl trivial ?_
      clear S; intro aa S
      refine OL.pure S (Lf.run_fa (S.ev rfl) fa25_5) rfl rfl trivial ?_
      clear S; intro aa S
      obtain ⟨x15, c_1, H⟩ := H
      refine OL.pure S (Lf.run_ld (S.ev rfl) fl23 (S.cl c_1)) rfl rfl trivial ?_
      clear S; intro aa S
      refine OL.pure S (Lf.run_lens (S.ev rfl) rfl Try.underlying23) rfl rfl trivial ?_
      clear S; intro aa S
      refine OL.pure S (Lf.run_lss (S.ev rfl) (S.ev rfl)) rfl rfl trivial ?_
      clear S; intro aa S
      refine OL.nil ?_
      refine W.cond S (b := (decide (i6 < ((x15.n : Nat) : Int)))) rfl (fun hb_1 => ?_) (fun hb_1 => ?_)
      · replace H := H.1 hb_1
        refine W.skip ?_
        refine W.seq ?_
        refine W.block ?_
        replace S := S.sub [(1, Value.map needs1), (2, Value.pointer (some p2)), (5, Value.slice out5.a out5.n out5.c), (6, Value.int .i64 i6)] ⟨rfl, rfl, rfl, rfl, trivial⟩
        refine W.regionD S (by kernel_rfl) ?_
        clear S; intro ww S
        refine AN.pure 0 S rfl (by kernel_rfl) (fun _ => Lf.run_move (S.ev rfl)) rfl rfl trivial ?_
        clear S; intro aa S
        refine AN.pure 1 S rfl (by kernel_rfl) (fun _ => Lf.run_fa (S.ev rfl) fa25_5) rfl rfl trivial ?_
        clear S; intro aa S
        obtain ⟨x22, c_2, H⟩ := H
        refine AN.load 2 S rfl (by kernel_rfl) (fun _ hx => Lf.run_ld (S.ev rfl) fl23 (hx.cell _ _ (S.cl c_2))) rfl rfl trivial ?_
        clear S; intro aa S
        refine AN.pure 3 S rfl (by kernel_rfl) (fun _ => Lf.run_move (S.ev rfl)) rfl rfl trivial ?_
        clear S; intro aa S
        obtain ⟨q24, e, e_1, e_2, H⟩ := H
        refine AN.pure 4 S rfl (by kernel_rfl) (fun _ => Lf.run_ixs (S.ev rfl) (S.ev rfl) Try.underlying23 ti25 e e_1 e_2) rfl rfl trivial ?_
        clear S; intro aa S
        obtain ⟨y25, y25_1, y25_2, y25_3, y25_4, y25_5, c_5, c_6, c_7, c_8, c_9, c_10, H⟩ := H
        refine AN.load 5 S rfl (by kernel_rfl) (fun _ hx => Lf.run_ldA (cs := [Value.int .i64 y25, Value.string y25_1, Value.bool y25_2, Value.int .i64 y25_3, Value.slice y25_4.a y25_4.n y25_4.c, Value.slice y25_5.a y25_5.n y25_5.c]) (S.ev rfl) ag25 ti25 (hx.row (S.row ⟨c_5, c_6, c_7, c_8, c_9, c_10, trivial⟩))) rfl rfl trivial ?_
        clear S; intro aa S
        refine AN.pure 7 S rfl (by kernel_rfl) (fun _ => Lf.run_fa (S.ev rfl) fa25_3) rfl rfl trivial ?_
        clear S; intro aa S
        obtain ⟨T, hT, H⟩ := H
        obtain ⟨x28, c_4, H⟩ := H
        obtain ⟨Fq6, sq, H⟩ := H
        obtain ⟨Fq9, sq_1, H⟩ := H
        obtain ⟨Oq, Oq_1, H⟩ := H
        let gq6 : GOp := ⟨6, 26, true, [6], fun lq => Value.slice (pS (nth lq 0)).a (pS (nth lq 0)).n (pS (nth lq 0)).c, fun lq lo hi h => Fq6 (pS (nth lq 0)) lo hi h⟩
        let gq8 : GOp := ⟨8, 28, false, [8], fun lq => Value.int .i64 x28, fun _ _ _ _ => True⟩
        let gq9 : GOp := ⟨9, 29, true, [9], fun lq => Value.slice (pS (nth lq 0)).a (pS (nth lq 0)).n (pS (nth lq 0)).c, fun lq lo hi h => Fq9 (pS (nth lq 0)) lo hi h⟩
        replace S := S.sub [(1, Value.map needs1), (2, Value.pointer (some p2)), (5, Value.slice out5.a out5.n out5.c), (6, Value.int .i64 i6), (20, Value.slice out5.a out5.n out5.c), (21, Value.pointer (some (p2.add 5))), (22, Value.slice x22.a x22.n x22.c), (23, Value.int .i64 i6), (24, Value.pointer (some (q24.add ((i6 : Int).toNat * 6)))), (25, Value.agg #[Value.int .i64 y25, Value.string y25_1, Value.bool y25_2, Value.int .i64 y25_3, Value.slice y25_4.a y25_4.n y25_4.c, Value.slice y25_5.a y25_5.n y25_5.c]), (27, Value.pointer (some (p2.add 3)))] ⟨rfl, rfl, rfl, rfl, rfl, rfl, rfl, rfl, rfl, rfl, rfl, trivial⟩
        refine AN.group (fuel := 3) T hT [(gq6, []), (gq8, []), (gq9, [gq8])] [(6, 26, [6], []), (8, 28, [8], []), (9, 29, [9], [8])] [1, 2, 5, 6, 20, 21, 22, 23, 24, 25, 27] S rfl rfl (by kernel_rfl) (by simp) ⟨?_, ?_, ?_, trivial⟩ ?_
        · refine ⟨_, rfl, rfl, fun _ _ _ _ _ ht hf => sq _ _ _ _ _ ht hf, ?_⟩
          intro Xg Bg aa ww h5 Ef S hTg hok
          replace S : St 79 ((1, Value.map needs1) :: (2, Value.pointer (some p2)) :: (5, Value.slice out5.a out5.n out5.c) :: (6, Value.int .i64 i6) :: (20, Value.slice out5.a out5.n out5.c) :: (21, Value.pointer (some (p2.add 5))) :: (22, Value.slice x22.a x22.n x22.c) :: (23, Value.int .i64 i6) :: (24, Value.pointer (some (q24.add ((i6 : Int).toNat * 6)))) :: (25, Value.agg #[Value.int .i64 y25, Value.string y25_1, Value.bool y25_2, Value.int .i64 y25_3, Value.slice y25_4.a y25_4.n y25_4.c, Value.slice y25_5.a y25_5.n y25_5.c]) :: (27, Value.pointer (some (p2.add 3))) :: Ef) h5 w0 aa ww := S
          have H := Oq h5 hTg
          refine ol_cal S H isfn16 rfl rfl trivial ?_
          clear S H aa; intro u_1 aa ww h6 H S
          obtain ⟨x26_1, rfl, H⟩ := H
          refine OL.nil ?_
          exact ⟨Value.slice x26_1.a x26_1.n x26_1.c, _, S, H.1, H.2⟩
        · refine ⟨_, rfl, rfl, fun _ _ _ _ _ _ _ => trivial, ?_⟩
          intro Xg Bg aa ww h14 Ef S hTg hok
          replace S : St 79 ((1, Value.map needs1) :: (2, Value.pointer (some p2)) :: (5, Value.slice out5.a out5.n out5.c) :: (6, Value.int .i64 i6) :: (20, Value.slice out5.a out5.n out5.c) :: (21, Value.pointer (some (p2.add 5))) :: (22, Value.slice x22.a x22.n x22.c) :: (23, Value.int .i64 i6) :: (24, Value.pointer (some (q24.add ((i6 : Int).toNat * 6)))) :: (25, Value.agg #[Value.int .i64 y25, Value.string y25_1, Value.bool y25_2, Value.int .i64 y25_3, Value.slice y25_4.a y25_4.n y25_4.c, Value.slice y25_5.a y25_5.n y25_5.c]) :: (27, Value.pointer (some (p2.add 3))) :: Ef) h14 w0 aa ww := S
          refine OL.pure S (Lf.run_ld (S.ev rfl) fl3 (S.cl (c_4 _ hTg))) rfl rfl trivial ?_
          clear S; intro aa S
          refine OL.nil ?_
          exact ⟨undef, _, S, hT.refl _, trivial⟩
        · refine ⟨_, rfl, rfl, fun _ _ _ _ _ ht hf => sq_1 _ _ _ _ _ ht hf, ?_⟩
          intro Xg Bg aa ww h9 Ef S hTg hok
          obtain ⟨kq8, -⟩ := hok
          replace S : St 79 ((28, Value.int .i64 x28) :: (1, Value.map needs1) :: (2, Value.pointer (some p2)) :: (5, Value.slice out5.a out5.n out5.c) :: (6, Value.int .i64 i6) :: (20, Value.slice out5.a out5.n out5.c) :: (21, Value.pointer (some (p2.add 5))) :: (22, Value.slice x22.a x22.n x22.c) :: (23, Value.int .i64 i6) :: (24, Value.pointer (some (q24.add ((i6 : Int).toNat * 6)))) :: (25, Value.agg #[Value.int .i64 y25, Value.string y25_1, Value.bool y25_2, Value.int .i64 y25_3, Value.slice y25_4.a y25_4.n y25_4.c, Value.slice y25_5.a y25_5.n y25_5.c]) :: (27, Value.pointer (some (p2.add 3))) :: Ef) h9 w0 aa ww := S
          have H := Oq_1 h9 hTg
          refine ol_newS S H Try.underlying22 ti3 (by decide) (parts_map S rfl) (by kernel_rfl) (by decide) rfl trivial ?_
          clear S H aa; intro s29_1 aa ww h10 H S
          refine OL.nil ?_
          exact ⟨Value.slice s29_1.a s29_1.n s29_1.c, _, S, H.1, H.2⟩
        clear S aa ww
        intro Xg Bg aa ww h11 S hTg hok hdis
        obtain ⟨kq6, kq8, kq9, -⟩ := hok
        replace H := H (pS (Xg 6)) (Bg 6).1 (Bg 6).2 (pS (Xg 9)) (Bg 9).1 (Bg 9).2 h11 hTg hdis kq6 kq9
        replace S := S.sub [(1, Value.map needs1), (2, Value.pointer (some p2)), (5, Value.slice out5.a out5.n out5.c), (6, Value.int .i64 i6), (20, Value.slice out5.a out5.n out5.c), (21, Value.pointer (some (p2.add 5))), (22, Value.slice x22.a x22.n x22.c), (23, Value.int .i64 i6), (24, Value.pointer (some (q24.add ((i6 : Int).toNat * 6)))), (25, Value.agg #[Value.int .i64 y25, Value.string y25_1, Value.bool y25_2, Value.int .i64 y25_3, Value.slice y25_4.a y25_4.n y25_4.c, Value.slice y25_5.a y25_5.n y25_5.c]), (26, Value.slice (pS (Xg 6)).a (pS (Xg 6)).n (pS (Xg 6)).c), (27, Value.pointer (some (p2.add 3))), (28, Value.int .i64 x28), (29, Value.slice (pS (Xg 9)).a (pS (Xg 9)).n (pS (Xg 9)).c)] ⟨rfl, rfl, rfl, rfl, rfl, rfl, rfl, rfl, rfl, rfl, rfl, rfl, rfl, rfl, trivial⟩
        generalize (pS (Xg 6)) = x26 at H S
        generalize (pS (Xg 9)) = s29 at H S
        generalize Bg 6 = bq6 at H
        generalize Bg 9 = bq9 at H
        clear hTg hdis kq9 kq8 kq6 gq9 gq8 gq6 Oq Oq_1 sq sq_1
        refine AN.eff 10 rfl (by kernel_rfl) ?_
        refine ol_cal S H isfn30 rfl rfl trivial ?_
        clear S H aa; intro u_2 aa ww h12 H S
        obtain ⟨x30, rfl, H⟩ := H
        refine OL.nil ?_
        refine AN.eff 11 rfl (by kernel_rfl) ?_
        refine ol_appS S H Try.underlying26 ti46 rfl rfl rfl trivial ?_
        clear S H aa; intro s31 aa ww h13 H S
        refine OL.nil ?_
        refine AN.pure 12 S rfl (by kernel_rfl) (fun _ => Lf.run_assign (S.ev rfl)) rfl rfl trivial ?_
        clear S; intro aa S
        refine AN.done (by kernel_rfl) ?_
        replace S := S.sub [(1, Value.map needs1), (2, Value.pointer (some p2)), (5, Value.slice s31.a s31.n s31.c), (6, Value.int .i64 i6)] ⟨rfl, rfl, rfl, rfl, trivial⟩
        refine W.region ?_
        refine OL.pure S (Lf.run_move (S.ev rfl)) rfl rfl trivial ?_
        clear S; intro aa S
        refine OL.pure S (Lf.run_add (S.ev rfl) (S.ev rfl)) rfl rfl trivial ?_
        clear S; intro aa S
        refine OL.pure S (Lf.run_assign (S.ev rfl)) rfl rfl trivial ?_
        clear S; intro aa S
        refine OL.nil ?_
        exact ⟨(s31, (IntKind.i64.wrap (i6 + 1)), h13), ⟨S.sub _ ⟨rfl, rfl, rfl, rfl, trivial⟩, H.1⟩, H.2⟩
      · replace H := H.2 hb_1
        refine W.exit_ ?_
        refine xhit ?_
        exact ⟨out5, h2, S.sub _ ⟨rfl, rfl, rfl, trivial⟩, H⟩
    · replace H := H.2 hb
      refine W.skip ?_
      exact ⟨(⟨none, 0, 0⟩ : Sv), h1, S.sub _ ⟨rfl, rfl, rfl, trivial⟩, H⟩
  · clear H S aa
    rintro aa ww ⟨out5_1, h15, S, HJ⟩
    have H := HK _ _ HJ
    clear HK HJ
    obtain ⟨J_1, H, HK_1⟩ := H
    refine W.seqJ (fun aa ww => ∃ out5_3 h21, St 79 [(1, Value.map needs1), (2, Value.pointer (some p2)), (5, Value.slice out5_3.a out5_3.n out5_3.c)] h21 w0 aa ww ∧ J_1 out5_3 h21) ?_ ?_
    · clear HK_1
      refine W.seq ?_
      replace S := S.sub [(1, Value.map needs1), (2, Value.pointer (some p2)), (5, Value.slice out5_1.a out5_1.n out5_1.c)] ⟨rfl, rfl, rfl, trivial⟩
      refine W.region ?_
      refine OL.pure S (Lf.run_fa (S.ev rfl) fa25_0) rfl rfl trivial ?_
      clear S; intro aa S
      obtain ⟨x33, c_11, H⟩ := H
      refine OL.pure S (Lf.run_ld (S.ev rfl) fl3 (S.cl c_11)) rfl rfl trivial ?_
      clear S; intro aa S
      refine OL.pure S (Lf.run_eql (S.ev rfl) (S.ev rfl)) rfl rfl trivial ?_
      clear S; intro aa S
      refine OL.nil ?_
      refine W.cond S (b := (x33 == 5)) rfl (fun hb_2 => ?_) (fun hb_2 => ?_)
      · replace H := H.1 hb_2
        refine W.seq ?_
        replace S := S.sub [(1, Value.map needs1), (2, Value.pointer (some p2)), (5, Value.slice out5_1.a out5_1.n out5_1.c)] ⟨rfl, rfl, rfl, trivial⟩
        refine W.region ?_
        refine OL.pure S (Lf.run_move (S.ev rfl)) rfl rfl trivial ?_
        clear S; intro aa S
        refine OL.pure S (Lf.run_fa (S.ev rfl) fa25_1) rfl rfl trivial ?_
        clear S; intro aa S
        obtain ⟨x37, c_12, H⟩ := H
        refine OL.pure S (Lf.run_ld (S.ev rfl) fl9 (S.cl c_12)) rfl rfl trivial ?_
        clear S; intro aa S
        refine ol_lkS S H Try.underlying30 Try.underlying9 ti26 rfl rfl rfl trivial ?_
        clear S H aa; intro u_3 aa H S
        obtain ⟨x38, rfl, H⟩ := H
        refine OL.pure S (Lf.run_assign (S.ev rfl)) rfl rfl trivial ?_
        clear S; intro aa S
        refine OL.nil ?_
        refine W.seq ?_
        replace S := S.sub [(1, Value.map needs1), (2, Value.pointer (some p2)), (5, Value.slice out5_1.a out5_1.n out5_1.c), (7, Value.slice x38.a x38.n x38.c)] ⟨rfl, rfl, rfl, rfl, trivial⟩
        refine W.region ?_
        refine OL.pure S (Lf.run_assign (S.ev rfl)) rfl rfl trivial ?_
        clear S; intro aa S
        refine OL.nil ?_
        refine W.block ?_
        obtain ⟨I_1, m_1, H, HB_1⟩ := H
        refine W.loopS (σ := Sv × Int × Heap) (fun s aa ww => St 79 [(1, Value.map needs1), (2, Value.pointer (some p2)), (5, Value.slice s.1.a s.1.n s.1.c), (7, Value.slice x38.a x38.n x38.c), (8, Value.int .i64 s.2.1)] s.2.2 w0 aa ww ∧ I_1 s.1 s.2.1 s.2.2) (fun s => m_1 s.1 s.2.1 s.2.2) (out5_1, 0, h15) ⟨S.sub _ ⟨rfl, rfl, rfl, rfl, rfl, trivial⟩, H⟩ ?_
        clear H S aa
        rintro ⟨out5_2, i8, h16⟩ aa ww ⟨S, HI⟩
        replace S : St 79 [(1, Value.map needs1), (2, Value.pointer (some p2)), (5, Value.slice out5_2.a out5_2.n out5_2.c), (7, Value.slice x38.a x38.n x38.c), (8, Value.int .i64 i8)] h16 w0 aa ww := S
        have H := HB_1 out5_2 i8 h16 HI
        clear HI
        refine W.seq ?_
        refine W.seq ?_
        replace S := S.sub [(1, Value.map needs1), (2, Value.pointer (some p2)), (5, Value.slice out5_2.a out5_2.n out5_2.c), (7, Value.slice x38.a x38.n x38.c), (8, Value.int .i64 i8)] ⟨rfl, rfl, rfl, rfl, rfl, trivial⟩
        refine W.region ?_
        refine OL.pure S (Lf.run_move (S.ev rfl)) rfl rfl trivial ?_
        clear S; intro aa S
        refine OL.pure S (Lf.run_move (S.ev rfl)) rfl rfl trivial ?_
        clear S; intro aa S
        refine OL.pure S (Lf.run_lens (S.ev rfl) rfl Try.underlying26) rfl rfl trivial ?_
        clear S; intro aa S
        refine OL.pure S (Lf.run_lss (S.ev rfl) (S.ev rfl)) rfl rfl trivial ?_
        clear S; intro aa S
        refine OL.nil ?_
        refine W.cond S (b := (decide (i8 < ((x38.n : Nat) : Int)))) rfl (fun hb_3 => ?_) (fun hb_3 => ?_)
        · replace H := H.1 hb_3
          refine W.skip ?_
          refine W.seq ?_
          refine W.block ?_
          replace S := S.sub [(1, Value.map needs1), (2, Value.pointer (some p2)), (5, Value.slice out5_2.a out5_2.n out5_2.c), (7, Value.slice x38.a x38.n x38.c), (8, Value.int .i64 i8)] ⟨rfl, rfl, rfl, rfl, rfl, trivial⟩
          obtain ⟨Sq, HS, H⟩ := H
          refine W.regionN [8, 13] [7, 14, 15, 16] Sq S (by kernel_rfl) ?_
          clear S; intro ww S
          refine BN.pure 0 S (fun _ => HS) rfl (by kernel_rfl) (by kernel_rfl) (fun _ => Lf.run_move (S.ev rfl)) rfl rfl trivial ?_
          clear S; intro aa S
          obtain ⟨y46, y46_1, y46_2, y46_3, y46_4, y46_5, c_23, c_24, c_25, c_26, c_27, c_28, H⟩ := H
          refine BN.load 1 S (fun _ => HS) rfl (by kernel_rfl) (by kernel_rfl) (fun _ hx => Lf.run_ldA (cs := [Value.int .i64 y46, Value.string y46_1, Value.bool y46_2, Value.int .i64 y46_3, Value.slice y46_4.a y46_4.n y46_4.c, Value.slice y46_5.a y46_5.n y46_5.c]) (S.ev rfl) ag25 ti25 (hx.row (S.row ⟨c_23, c_24, c_25, c_26, c_27, c_28, trivial⟩))) rfl rfl trivial ?_
          clear S; intro aa S
          refine BN.pure 2 S (fun _ => HS) rfl (by kernel_rfl) (by kernel_rfl) (fun _ => Lf.run_move (S.ev rfl)) rfl rfl trivial ?_
          clear S; intro aa S
          refine BN.pure 3 S (fun _ => HS) rfl (by kernel_rfl) (by kernel_rfl) (fun _ => Lf.run_move (S.ev rfl)) rfl rfl trivial ?_
          clear S; intro aa S
          obtain ⟨q49, e_3, e_4, e_5, H⟩ := H
          refine BN.pure 4 S (fun _ => HS) rfl (by kernel_rfl) (by kernel_rfl) (fun _ => Lf.run_ixs (S.ev rfl) (S.ev rfl) Try.underlying26 ti46 e_3 e_4 e_5) rfl rfl trivial ?_
          clear S; intro aa S
          refine BN.pure 5 S (fun _ => HS) rfl (by kernel_rfl) (by kernel_rfl) (fun _ => Lf.run_ixa (S.ev rfl) (S.ev rfl) Try.underlying46 ti3 (by decide) (by decide)) rfl rfl trivial ?_
          clear S; intro aa S
          obtain ⟨x51, c_14, H⟩ := H
          refine BN.load 6 S (fun _ => HS) rfl (by kernel_rfl) (by kernel_rfl) (fun _ hx => Lf.run_ld (S.ev rfl) fl3 (hx.cell _ _ (S.cl c_14))) rfl rfl trivial ?_
          clear S; intro aa S
          refine BN.pure 9 S (fun _ => HS) rfl (by kernel_rfl) (by kernel_rfl) (fun _ => Lf.run_move (S.ev rfl)) rfl rfl trivial ?_
          clear S; intro aa S
          refine BN.pure 10 S (fun _ => HS) rfl (by kernel_rfl) (by kernel_rfl) (fun _ => Lf.run_move (S.ev rfl)) rfl rfl trivial ?_
          clear S; intro aa S
          obtain ⟨q56, e_8, e_9, e_10, H⟩ := H
          refine BN.pure 11 S (fun _ => HS) rfl (by kernel_rfl) (by kernel_rfl) (fun _ => Lf.run_ixs (S.ev rfl) (S.ev rfl) Try.underlying26 ti46 e_8 e_9 e_10) rfl rfl trivial ?_
          clear S; intro aa S
          refine BN.pure 12 S (fun _ => HS) rfl (by kernel_rfl) (by kernel_rfl) (fun _ => Lf.run_ixa (S.ev rfl) (S.ev rfl) Try.underlying46 ti3 (by decide) (by decide)) rfl rfl trivial ?_
          clear S; intro aa S
          obtain ⟨y53, y53_1, y53_2, y53_3, y53_4, y53_5, c_17, c_18, c_19, c_20, c_21, c_22, H⟩ := H
          refine BN.held 8 S HS rfl (by kernel_rfl) (fun _ hq => Lf.run_ldA (cs := [Value.int .i64 y53, Value.string y53_1, Value.bool y53_2, Value.int .i64 y53_3, Value.slice y53_4.a y53_4.n y53_4.c, Value.slice y53_5.a y53_5.n y53_5.c]) (S.ev rfl) ag25 ti25 (hlRow hq fun h_ hs_ => ⟨c_17 h_ hs_, c_18 h_ hs_, c_19 h_ hs_, c_20 h_ hs_, c_21 h_ hs_, c_22 h_ hs_, trivial⟩)) rfl rfl trivial ?_
          clear S; intro aa S
          obtain ⟨x58, c_16, H⟩ := H
          refine BN.held 13 S HS rfl (by kernel_rfl) (fun _ hq => Lf.run_ld (S.ev rfl) fl3 (c_16 _ hq)) rfl rfl trivial ?_
          clear S; intro aa S
          refine BN.eff 7 rfl (by kernel_rfl) ?_
          refine ol_cal S H isfn31 rfl rfl trivial ?_
          clear S H aa; intro u_4 aa ww h17 H S
          obtain ⟨x52, rfl, H⟩ := H
          refine OL.nil ?_
          clear HS; obtain ⟨HS, H⟩ := H
          refine ⟨fun _ => by rw [S.heap]; exact HS, ?_⟩
          refine BN.eff 14 rfl (by kernel_rfl) ?_
          refine ol_cal S H isfn31 rfl rfl trivial ?_
          clear S H aa; intro u_5 aa ww h18 H S
          obtain ⟨x59, rfl, H⟩ := H
          refine OL.nil ?_
          refine ⟨noNeed (by kernel_rfl), ?_⟩
          refine BN.eff 15 rfl (by kernel_rfl) ?_
          refine ol_cal S H isfn30 rfl rfl trivial ?_
          clear S H aa; intro u_6 aa ww h19 H S
          obtain ⟨x60, rfl, H⟩ := H
          refine OL.nil ?_
          refine ⟨noNeed (by kernel_rfl), ?_⟩
          refine BN.eff 16 rfl (by kernel_rfl) ?_
          refine ol_appS S H Try.underlying26 ti46 rfl rfl rfl trivial ?_
          clear S H aa; intro s61 aa ww h20 H S
          refine OL.nil ?_
          refine ⟨noNeed (by kernel_rfl), ?_⟩
          refine BN.pure 17 S (noNeed (by kernel_rfl)) rfl (by kernel_rfl) (by kernel_rfl) (fun _ => Lf.run_assign (S.ev rfl)) rfl rfl trivial ?_
          clear S; intro aa S
          refine BN.done (by kernel_rfl) ?_
          replace S := S.sub [(1, Value.map needs1), (2, Value.pointer (some p2)), (5, Value.slice s61.a s61.n s61.c), (7, Value.slice x38.a x38.n x38.c), (8, Value.int .i64 i8)] ⟨rfl, rfl, rfl, rfl, rfl, trivial⟩
          refine W.region ?_
          refine OL.pure S (Lf.run_move (S.ev rfl)) rfl rfl trivial ?_
          clear S; intro aa S
          refine OL.pure S (Lf.run_add (S.ev rfl) (S.ev rfl)) rfl rfl trivial ?_
          clear S; intro aa S
          refine OL.pure S (Lf.run_assign (S.ev rfl)) rfl rfl trivial ?_
          clear S; intro aa S
          refine OL.nil ?_
          exact ⟨(s61, (IntKind.i64.wrap (i8 + 1)), h20), ⟨S.sub _ ⟨rfl, rfl, rfl, rfl, rfl, trivial⟩, H.1⟩, H.2⟩
        · replace H := H.2 hb_3
          refine W.exit_ ?_
          refine xhit ?_
          exact ⟨out5_2, h16, S.sub _ ⟨rfl, rfl, rfl, trivial⟩, H⟩
      · replace H := H.2 hb_2
        refine W.skip ?_
        exact ⟨out5_1, h15, S.sub _ ⟨rfl, rfl, rfl, trivial⟩, H⟩
    · clear H S aa
      rintro aa ww ⟨out5_3, h21, S, HJ⟩
      have H := HK_1 _ _ HJ
      clear HK_1 HJ
      refine W.seq ?_
      refine W.seq ?_
      replace S := S.sub [(1, Value.map needs1), (2, Value.pointer (some p2)), (5, Value.slice out5_3.a out5_3.n out5_3.c)] ⟨rfl, rfl, rfl, trivial⟩
      refine W.region ?_
      refine OL.pure S (Lf.run_assign (S.ev rfl)) rfl rfl trivial ?_
      clear S; intro aa S
      refine OL.nil ?_
      refine W.block ?_
      obtain ⟨I_2, m_2, H, HB_2⟩ := H
      refine W.loopS (σ := Sv × Int × Heap) (fun s aa ww => St 79 [(1, Value.map needs1), (2, Value.pointer (some p2)), (5, Value.slice s.1.a s.1.n s.1.c), (9, Value.int .i64 s.2.1)] s.2.2 w0 aa ww ∧ I_2 s.1 s.2.1 s.2.2) (fun s => m_2 s.1 s.2.1 s.2.2) (out5_3, 0, h21) ⟨S.sub _ ⟨rfl, rfl, rfl, rfl, trivial⟩, H⟩ ?_
      clear H S aa
      rintro ⟨out5_4, i9, h22⟩ aa ww ⟨S, HI⟩
      replace S : St 79 [(1, Value.map needs1), (2, Value.pointer (some p2)), (5, Value.slice out5_4.a out5_4.n out5_4.c), (9, Value.int .i64 i9)] h22 w0 aa ww := S
      have H := HB_2 out5_4 i9 h22 HI
      clear HI
      refine W.seq ?_
      refine W.seq ?_
      replace S := S.sub [(1, Value.map needs1), (2, Value.pointer (some p2)), (5, Value.slice out5_4.a out5_4.n out5_4.c), (9, Value.int .i64 i9)] ⟨rfl, rfl, rfl, rfl, trivial⟩
      refine W.region ?_
      refine OL.pure S (Lf.run_move (S.ev rfl)) rfl rfl trivial ?_
      clear S; intro aa S
      refine OL.pure S (Lf.run_fa (S.ev rfl) fa25_5) rfl rfl trivial ?_
      clear S; intro aa S
      obtain ⟨x64, c_29, H⟩ := H
      refine OL.pure S (Lf.run_ld (S.ev rfl) fl23 (S.cl c_29)) rfl rfl trivial ?_
      clear S; intro aa S
      refine OL.pure S (Lf.run_lens (S.ev rfl) rfl Try.underlying23) rfl rfl trivial ?_
      clear S; intro aa S
      refine OL.pure S (Lf.run_lss (S.ev rfl) (S.ev rfl)) rfl rfl trivial ?_
      clear S; intro aa S
      refine OL.nil ?_
      refine W.cond S (b := (decide (i9 < ((x64.n : Nat) : Int)))) rfl (fun hb_4 => ?_) (fun hb_4 => ?_)
      · replace H := H.1 hb_4
        refine W.skip ?_
        refine W.seq ?_
        refine W.block ?_
        replace S := S.sub [(1, Value.map needs1), (2, Value.pointer (some p2)), (5, Value.slice out5_4.a out5_4.n out5_4.c), (9, Value.int .i64 i9)] ⟨rfl, rfl, rfl, rfl, trivial⟩
        refine W.region ?_
        refine OL.pure S (Lf.run_move (S.ev rfl)) rfl rfl trivial ?_
        clear S; intro aa S
        refine OL.pure S (Lf.run_fa (S.ev rfl) fa25_5) rfl rfl trivial ?_
        clear S; intro aa S
        obtain ⟨x71, c_30, H⟩ := H
        refine OL.pure S (Lf.run_ld (S.ev rfl) fl23 (S.cl c_30)) rfl rfl trivial ?_
        clear S; intro aa S
        refine OL.pure S (Lf.run_move (S.ev rfl)) rfl rfl trivial ?_
        clear S; intro aa S
        obtain ⟨q73, e_13, e_14, e_15, H⟩ := H
        refine OL.pure S (Lf.run_ixs (S.ev rfl) (S.ev rfl) Try.underlying23 ti25 e_13 e_14 e_15) rfl rfl trivial ?_
        clear S; intro aa S
        obtain ⟨y74, y74_1, y74_2, y74_3, y74_4, y74_5, c_32, c_33, c_34, c_35, c_36, c_37, H⟩ := H
        refine OL.pure S (Lf.run_ldA (cs := [Value.int .i64 y74, Value.string y74_1, Value.bool y74_2, Value.int .i64 y74_3, Value.slice y74_4.a y74_4.n y74_4.c, Value.slice y74_5.a y74_5.n y74_5.c]) (S.ev rfl) ag25 ti25 (by rw [S.heap]; exact RowL.toRow ⟨c_32, c_33, c_34, c_35, c_36, c_37, trivial⟩)) rfl rfl trivial ?_
        clear S; intro aa S
        refine OL.pure S (Lf.run_move (S.ev rfl)) rfl rfl trivial ?_
        clear S; intro aa S
        refine ol_cal S H isfn12 rfl rfl trivial ?_
        clear S H aa; intro u_7 aa ww h23 H S
        obtain ⟨x76, rfl, H⟩ := H
        refine ol_appS S H Try.underlying26 ti46 rfl rfl rfl trivial ?_
        clear S H aa; intro s77 aa ww h24 H S
        refine OL.pure S (Lf.run_assign (S.ev rfl)) rfl rfl trivial ?_
        clear S; intro aa S
        refine OL.nil ?_
        replace S := S.sub [(1, Value.map needs1), (2, Value.pointer (some p2)), (5, Value.slice s77.a s77.n s77.c), (9, Value.int .i64 i9)] ⟨rfl, rfl, rfl, rfl, trivial⟩
        refine W.region ?_
        refine OL.pure S (Lf.run_move (S.ev rfl)) rfl rfl trivial ?_
        clear S; intro aa S
        refine OL.pure S (Lf.run_add (S.ev rfl) (S.ev rfl)) rfl rfl trivial ?_
        clear S; intro aa S
        refine OL.pure S (Lf.run_assign (S.ev rfl)) rfl rfl trivial ?_
        clear S; intro aa S
        refine OL.nil ?_
        exact ⟨(s77, (IntKind.i64.wrap (i9 + 1)), h24), ⟨S.sub _ ⟨rfl, rfl, rfl, rfl, trivial⟩, H.1⟩, H.2⟩
      · replace H := H.2 hb_4
        refine W.exit_ ?_
        refine xhit ?_
        refine W.seq ?_
        replace S := S.sub [(5, Value.slice out5_4.a out5_4.n out5_4.c)] ⟨rfl, trivial⟩
        refine W.region ?_
        refine OL.pure S (Lf.run_move (S.ev rfl)) rfl rfl trivial ?_
        clear S; intro aa S
        refine OL.pure S (Lf.run_assign (S.ev rfl)) rfl rfl trivial ?_
        clear S; intro aa S
        refine OL.nil ?_
        refine W.ret ?_
        exact Ret.one S rfl rfl H

/-- chattel chattelref07.Text -/
def L13 (x0 : Int) (x0_1 : ByteArray) (x0_2 : Bool) (x0_3 : Int) (x0_4 : Sv) (x0_5 : Sv) (h : Heap) (R : Value → Heap → Prop) : Prop :=
  new 25 #[Value.int .i64 x0, Value.string x0_1, Value.bool x0_2, Value.int .i64 x0_3, Value.slice x0_4.a x0_4.n x0_4.c, Value.slice x0_5.a x0_5.n x0_5.c] h fun p1 h1 =>
  ∃ J : ByteArray → Heap → Prop, (
    ldI .i64 h1 p1 fun x7 =>
    ifb (x7 == 1) (
      J (⟨#[105, 110, 116]⟩ : ByteArray) h1) (
      ifb (x7 == 2) (
        J (⟨#[98, 111, 111, 108]⟩ : ByteArray) h1) (
        ifb (x7 == 3) (
          J (⟨#[102, 54, 52]⟩ : ByteArray) h1) (
          ifb (x7 == 4) (
            J (⟨#[40, 41]⟩ : ByteArray) h1) (
            ifb (x7 == 5) (
              ldT h1 (p1.add 1) fun x19 =>
              ∃ (I : ByteArray → Int → Heap → Prop) (m : ByteArray → Int → Heap → Nat), I x19 0 h1 ∧ ∀ s3 i4 h2, I s3 i4 h2 →
              ldS h2 (p1.add 4) fun x22 =>
              ifb (decide (i4 < ((x22.n : Nat) : Int))) (
                ((s3.size : Nat) : Int) + (((⟨#[39]⟩ : ByteArray).size : Nat) : Int) ≤ 9223372036854775807 ∧
                ldS h2 (p1.add 4) fun x30 =>
                ixS x30 i4 fun q32 =>
                ldI .i64 h2 (q32.add ((i4 : Int).toNat * 1)) fun x33 =>
                cal Try.prog 32 #[Value.int .i64 x33] h2 fun u h3 => asT u fun x34 =>
                (((s3 ++ (⟨#[39]⟩ : ByteArray)).size : Nat) : Int) + ((x34.size : Nat) : Int) ≤ 9223372036854775807 ∧
                I ((s3 ++ (⟨#[39]⟩ : ByteArray)) ++ x34) (IntKind.i64.wrap (i4 + 1)) h3 ∧ m ((s3 ++ (⟨#[39]⟩ : ByteArray)) ++ x34) (IntKind.i64.wrap (i4 + 1)) h3 < m s3 i4 h2) (
                J s3 h2)) (
              ifb (x7 == 6) (
                J (⟨#[66, 111, 120]⟩ : ByteArray) h1) (
                ifb (x7 == 7) (
                  ldI .i64 h1 (p1.add 3) fun x41 =>
                  cal Try.prog 32 #[Value.int .i64 x41] h1 fun u_1 h4 => asT u_1 fun x42 =>
                  (((⟨#[38]⟩ : ByteArray).size : Nat) : Int) + ((x42.size : Nat) : Int) ≤ 9223372036854775807 ∧
                  ldB h4 (p1.add 2) fun x45 =>
                  ifb x45 (
                    ((((⟨#[38]⟩ : ByteArray) ++ x42).size : Nat) : Int) + (((⟨#[109, 117, 116]⟩ : ByteArray).size : Nat) : Int) ≤ 9223372036854775807 ∧
                    J (((⟨#[38]⟩ : ByteArray) ++ x42) ++ (⟨#[109, 117, 116]⟩ : ByteArray)) h4) (
                    J ((⟨#[38]⟩ : ByteArray) ++ x42) h4)) (
                  ifb (x7 == 8) (
                    ∃ Sq : Heap → Prop, Sq h1 ∧ (
                      hlT Sq (p1.add 1) fun x51 =>
                      (((⟨#[100, 121, 110, 32]⟩ : ByteArray).size : Nat) : Int) + ((x51.size : Nat) : Int) ≤ 9223372036854775807 ∧
                      ((((⟨#[100, 121, 110, 32]⟩ : ByteArray) ++ x51).size : Nat) : Int) + (((⟨#[43]⟩ : ByteArray).size : Nat) : Int) ≤ 9223372036854775807 ∧
                      ldI .i64 h1 (p1.add 3) fun x55 =>
                      cal Try.prog 32 #[Value.int .i64 x55] h1 fun u_2 h5 => asT u_2 fun x56 =>
                      Sq h5 ∧
                      (((((⟨#[100, 121, 110, 32]⟩ : ByteArray) ++ x51) ++ (⟨#[43]⟩ : ByteArray)).size : Nat) : Int) + ((x56.size : Nat) : Int) ≤ 9223372036854775807 ∧
                      J ((((⟨#[100, 121, 110, 32]⟩ : ByteArray) ++ x51) ++ (⟨#[43]⟩ : ByteArray)) ++ x56) h5)) (
                    ifb (x7 == 9) (
                      ∃ Sq_1 : Heap → Prop, Sq_1 h1 ∧ (
                        hlT Sq_1 (p1.add 1) fun x61 =>
                        ((x61.size : Nat) : Int) + (((⟨#[63]⟩ : ByteArray).size : Nat) : Int) ≤ 9223372036854775807 ∧
                        ldI .i64 h1 (p1.add 3) fun x64 =>
                        cal Try.prog 32 #[Value.int .i64 x64] h1 fun u_3 h6 => asT u_3 fun x65 =>
                        Sq_1 h6 ∧
                        (((x61 ++ (⟨#[63]⟩ : ByteArray)).size : Nat) : Int) + ((x65.size : Nat) : Int) ≤ 9223372036854775807 ∧
                        J ((x61 ++ (⟨#[63]⟩ : ByteArray)) ++ x65) h6)) (
                      J (⟨#[]⟩ : ByteArray) h1)))))))))) ∧ (∀ s3_1 h7, J s3_1 h7 →
  ∃ (I_1 : ByteArray → Int → Heap → Prop) (m_1 : ByteArray → Int → Heap → Nat), I_1 s3_1 0 h7 ∧ ∀ s3_2 i5 h8, I_1 s3_2 i5 h8 →
  ldS h8 (p1.add 5) fun x69 =>
  ifb (decide (i5 < ((x69.n : Nat) : Int))) (
    ((s3_2.size : Nat) : Int) + (((⟨#[60]⟩ : ByteArray).size : Nat) : Int) ≤ 9223372036854775807 ∧
    ldS h8 (p1.add 5) fun x77 =>
    ixS x77 i5 fun q79 =>
    ∃ (y80 : Int) (y80_1 : ByteArray) (y80_2 : Bool) (y80_3 : Int) (y80_4 : Sv) (y80_5 : Sv), cl h8 (q79.add ((i5 : Int).toNat * 6)) = some (Value.int .i64 y80) ∧ cl h8 ((q79.add ((i5 : Int).toNat * 6)).add 1) = some (Value.string y80_1) ∧ cl h8 ((q79.add ((i5 : Int).toNat * 6)).add 2) = some (Value.bool y80_2) ∧ cl h8 ((q79.add ((i5 : Int).toNat * 6)).add 3) = some (Value.int .i64 y80_3) ∧ cl h8 ((q79.add ((i5 : Int).toNat * 6)).add 4) = some (Value.slice y80_4.a y80_4.n y80_4.c) ∧ cl h8 ((q79.add ((i5 : Int).toNat * 6)).add 5) = some (Value.slice y80_5.a y80_5.n y80_5.c) ∧
    cal Try.prog 13 #[Value.agg #[Value.int .i64 y80, Value.string y80_1, Value.bool y80_2, Value.int .i64 y80_3, Value.slice y80_4.a y80_4.n y80_4.c, Value.slice y80_5.a y80_5.n y80_5.c]] h8 fun u_4 h9 => asT u_4 fun x81 =>
    (((s3_2 ++ (⟨#[60]⟩ : ByteArray)).size : Nat) : Int) + ((x81.size : Nat) : Int) ≤ 9223372036854775807 ∧
    ((((s3_2 ++ (⟨#[60]⟩ : ByteArray)) ++ x81).size : Nat) : Int) + (((⟨#[62]⟩ : ByteArray).size : Nat) : Int) ≤ 9223372036854775807 ∧
    I_1 (((s3_2 ++ (⟨#[60]⟩ : ByteArray)) ++ x81) ++ (⟨#[62]⟩ : ByteArray)) (IntKind.i64.wrap (i5 + 1)) h9 ∧ m_1 (((s3_2 ++ (⟨#[60]⟩ : ByteArray)) ++ x81) ++ (⟨#[62]⟩ : ByteArray)) (IntKind.i64.wrap (i5 + 1)) h9 < m_1 s3_2 i5 h8) (
    R (Value.string s3_2) h8))

set_option maxRecDepth 100000 in

theorem F13 {x0 x0_1 x0_2 x0_3 x0_4 x0_5 h : _} {R : Value → Heap → Prop} (H : L13 x0 x0_1 x0_2 x0_3 x0_4 x0_5 h R) : CallsH Try.prog 13 #[Value.agg #[Value.int .i64 x0, Value.string x0_1, Value.bool x0_2, Value.int .i64 x0_3, Value.slice x0_4.a x0_4.n x0_4.c, Value.slice x0_5.a x0_5.n x0_5.c]] h R := by
  refine CallsH.enter (n := 85) Try.func13 rfl rfl rfl rfl ?_
  intro w0 aa ww S
  unfold L13 at H
  refine W.seq ?_
  replace S := S.sub [(0, Value.agg #[Value.int .i64 x0, Value.string x0_1, Value.bool x0_2, Value.int .i64 x0_3, Value.slice x0_4.a x0_4.n x0_4.c, Value.slice x0_5.a x0_5.n x0_5.c])] ⟨rfl, trivial⟩
  refine W.region ?_
  refine ol_box S H rfl rfl rfl trivial ?_
  clear S H aa; intro p1 aa ww h1 H S
  refine OL.pure S (Lf.run_assign (S.ev rfl)) rfl rfl trivial ?_
  clear S; intro aa S
  refine OL.nil ?_
  refine W.seq ?_
  replace S := S.sub [(1, Value.pointer (some p1))] ⟨rfl, trivial⟩
  refine W.region ?_
  refine OL.pure S (Lf.run_assign (S.ev rfl)) rfl rfl trivial ?_
  clear S; intro aa S
  refine OL.nil ?_
  obtain ⟨J, H, HK⟩ := H
  refine W.seqJ (fun aa ww => ∃ s3_1 h7, St 85 [(1, Value.pointer (some p1)), (3, Value.string s3_1)] h7 w0 aa ww ∧ J s3_1 h7) ?_ ?_
  · clear HK
    refine W.seq ?_
    replace S := S.sub [(1, Value.pointer (some p1)), (3, Value.string (⟨#[]⟩ : ByteArray))] ⟨rfl, rfl, trivial⟩
    refine W.region ?_
    refine OL.pure S (Lf.run_fa (S.ev rfl) fa25_0) rfl rfl trivial ?_
    clear S; intro aa S
    obtain ⟨x7, c, H⟩ := H
    refine OL.pure S (Lf.run_ld (S.ev rfl) fl3 (S.cl c)) rfl rfl trivial ?_
    clear S; intro aa S
    refine OL.nil ?_
    refine W.block ?_
    refine W.seq ?_
    replace S := S.sub [(1, Value.pointer (some p1)), (3, Value.string (⟨#[]⟩ : ByteArray)), (7, Value.int .i64 x7)] ⟨rfl, rfl, rfl, trivial⟩
    refine W.region ?_
    refine OL.pure S (Lf.run_eql (S.ev rfl) (S.ev rfl)) rfl rfl trivial ?_
    clear S; intro aa S
    refine OL.pure S (Lf.run_assign (S.ev rfl)) rfl rfl trivial ?_
    clear S; intro aa S
    refine OL.nil ?_
    refine W.cond S (b := (x7 == 1)) rfl (fun hb => ?_) (fun hb => ?_)
    · replace H := H.1 hb
      replace S := S.sub [(1, Value.pointer (some p1))] ⟨rfl, trivial⟩
      refine W.region ?_
      refine OL.pure S (Lf.run_assign (S.ev rfl)) rfl rfl trivial ?_
      clear S; intro aa S
      refine OL.nil ?_
      exact ⟨(⟨#[105, 110, 116]⟩ : ByteArray), h1, S.sub _ ⟨rfl, rfl, trivial⟩, H⟩
    · replace H := H.2 hb
      refine W.seq ?_
      replace S := S.sub [(1, Value.pointer (some p1)), (3, Value.string (⟨#[]⟩ : ByteArray)), (7, Value.int .i64 x7)] ⟨rfl, rfl, rfl, trivial⟩
      refine W.region ?_
      refine OL.pure S (Lf.run_eql (S.ev rfl) (S.ev rfl)) rfl rfl trivial ?_
      clear S; intro aa S
      refine OL.pure S (Lf.run_assign (S.ev rfl)) rfl rfl trivial ?_
      clear S; intro aa S
      refine OL.nil ?_
      refine W.cond S (b := (x7 == 2)) rfl (fun hb_1 => ?_) (fun hb_1 => ?_)
      · replace H := H.1 hb_1
        replace S := S.sub [(1, Value.pointer (some p1))] ⟨rfl, trivial⟩
        refine W.region ?_
        refine OL.pure S (Lf.run_assign (S.ev rfl)) rfl rfl trivial ?_
        clear S; intro aa S
        refine OL.nil ?_
        exact ⟨(⟨#[98, 111, 111, 108]⟩ : ByteArray), h1, S.sub _ ⟨rfl, rfl, trivial⟩, H⟩
      · replace H := H.2 hb_1
        refine W.seq ?_
        replace S := S.sub [(1, Value.pointer (some p1)), (3, Value.string (⟨#[]⟩ : ByteArray)), (7, Value.int .i64 x7)] ⟨rfl, rfl, rfl, trivial⟩
        refine W.region ?_
        refine OL.pure S (Lf.run_eql (S.ev rfl) (S.ev rfl)) rfl rfl trivial ?_
        clear S; intro aa S
        refine OL.pure S (Lf.run_assign (S.ev rfl)) rfl rfl trivial ?_
        clear S; intro aa S
        refine OL.nil ?_
        refine W.cond S (b := (x7 == 3)) rfl (fun hb_2 => ?_) (fun hb_2 => ?_)
        · replace H := H.1 hb_2
          replace S := S.sub [(1, Value.pointer (some p1))] ⟨rfl, trivial⟩
          refine W.region ?_
          refine OL.pure S (Lf.run_assign (S.ev rfl)) rfl rfl trivial ?_
          clear S; intro aa S
          refine OL.nil ?_
          exact ⟨(⟨#[102, 54, 52]⟩ : ByteArray), h1, S.sub _ ⟨rfl, rfl, trivial⟩, H⟩
        · replace H := H.2 hb_2
          refine W.seq ?_
          replace S := S.sub [(1, Value.pointer (some p1)), (3, Value.string (⟨#[]⟩ : ByteArray)), (7, Value.int .i64 x7)] ⟨rfl, rfl, rfl, trivial⟩
          refine W.region ?_
          refine OL.pure S (Lf.run_eql (S.ev rfl) (S.ev rfl)) rfl rfl trivial ?_
          clear S; intro aa S
          refine OL.pure S (Lf.run_assign (S.ev rfl)) rfl rfl trivial ?_
          clear S; intro aa S
          refine OL.nil ?_
          refine W.cond S (b := (x7 == 4)) rfl (fun hb_3 => ?_) (fun hb_3 => ?_)
          · replace H := H.1 hb_3
            replace S := S.sub [(1, Value.pointer (some p1))] ⟨rfl, trivial⟩
            refine W.region ?_
            refine OL.pure S (Lf.run_assign (S.ev rfl)) rfl rfl trivial ?_
            clear S; intro aa S
            refine OL.nil ?_
            exact ⟨(⟨#[40, 41]⟩ : ByteArray), h1, S.sub _ ⟨rfl, rfl, trivial⟩, H⟩
          · replace H := H.2 hb_3
            refine W.seq ?_
            replace S := S.sub [(1, Value.pointer (some p1)), (3, Value.string (⟨#[]⟩ : ByteArray)), (7, Value.int .i64 x7)] ⟨rfl, rfl, rfl, trivial⟩
            refine W.region ?_
            refine OL.pure S (Lf.run_eql (S.ev rfl) (S.ev rfl)) rfl rfl trivial ?_
            clear S; intro aa S
            refine OL.pure S (Lf.run_assign (S.ev rfl)) rfl rfl trivial ?_
            clear S; intro aa S
            refine OL.nil ?_
            refine W.cond S (b := (x7 == 5)) rfl (fun hb_4 => ?_) (fun hb_4 => ?_)
            · replace H := H.1 hb_4
              refine W.seq ?_
              replace S := S.sub [(1, Value.pointer (some p1))] ⟨rfl, trivial⟩
              refine W.region ?_
              refine OL.pure S (Lf.run_fa (S.ev rfl) fa25_1) rfl rfl trivial ?_
              clear S; intro aa S
              obtain ⟨x19, c_1, H⟩ := H
              refine OL.pure S (Lf.run_ld (S.ev rfl) fl9 (S.cl c_1)) rfl rfl trivial ?_
              clear S; intro aa S
              refine OL.pure S (Lf.run_assign (S.ev rfl)) rfl rfl trivial ?_
              clear S; intro aa S
              refine OL.nil ?_
              refine W.seq ?_
              replace S := S.sub [(1, Value.pointer (some p1)), (3, Value.string x19)] ⟨rfl, rfl, trivial⟩
              refine W.region ?_
              refine OL.pure S (Lf.run_assign (S.ev rfl)) rfl rfl trivial ?_
              clear S; intro aa S
              refine OL.nil ?_
              refine W.block ?_
              obtain ⟨I, m, H, HB⟩ := H
              refine W.loopS (σ := ByteArray × Int × Heap) (fun s aa ww => St 85 [(1, Value.pointer (some p1)), (3, Value.string s.1), (4, Value.int .i64 s.2.1)] s.2.2 w0 aa ww ∧ I s.1 s.2.1 s.2.2) (fun s => m s.1 s.2.1 s.2.2) (x19, 0, h1) ⟨S.sub _ ⟨rfl, rfl, rfl, trivial⟩, H⟩ ?_
              clear H S aa
              rintro ⟨s3, i4, h2⟩ aa ww ⟨S, HI⟩
              replace S : St 85 [(1, Value.pointer (some p1)), (3, Value.string s3), (4, Value.int .i64 i4)] h2 w0 aa ww := S
              have H := HB s3 i4 h2 HI
              clear HI
              refine W.seq ?_
              refine W.seq ?_
              replace S := S.sub [(1, Value.pointer (some p1)), (3, Value.string s3), (4, Value.int .i64 i4)] ⟨rfl, rfl, rfl, trivial⟩
              refine W.region ?_
              refine OL.pure S (Lf.run_move (S.ev rfl)) rfl rfl trivial ?_
              clear S; intro aa S
              refine OL.pure S (Lf.run_fa (S.ev rfl) fa25_4) rfl rfl trivial ?_
              clear S; intro aa S
              obtain ⟨x22, c_2, H⟩ := H
              refine OL.pure S (Lf.run_ld (S.ev rfl) fl22 (S.cl c_2)) rfl rfl trivial ?_
              clear S; intro aa S
              refine OL.pure S (Lf.run_lens (S.ev rfl) rfl Try.underlying22) rfl rfl trivial ?_
              clear S; intro aa S
              refine OL.pure S (Lf.run_lss (S.ev rfl) (S.ev rfl)) rfl rfl trivial ?_
              clear S; intro aa S
              refine OL.nil ?_
              refine W.cond S (b := (decide (i4 < ((x22.n : Nat) : Int)))) rfl (fun hb_5 => ?_) (fun hb_5 => ?_)
              · replace H := H.1 hb_5
                refine W.skip ?_
                refine W.seq ?_
                refine W.block ?_
                replace S := S.sub [(1, Value.pointer (some p1)), (3, Value.string s3), (4, Value.int .i64 i4)] ⟨rfl, rfl, rfl, trivial⟩
                refine W.region ?_
                refine OL.pure S (Lf.run_move (S.ev rfl)) rfl rfl trivial ?_
                clear S; intro aa S
                obtain ⟨c_3, H⟩ := H
                refine OL.pure S (Lf.run_addt (S.ev rfl) (S.ev rfl) c_3) rfl rfl trivial ?_
                clear S; intro aa S
                refine OL.pure S (Lf.run_fa (S.ev rfl) fa25_4) rfl rfl trivial ?_
                clear S; intro aa S
                obtain ⟨x30, c_4, H⟩ := H
                refine OL.pure S (Lf.run_ld (S.ev rfl) fl22 (S.cl c_4)) rfl rfl trivial ?_
                clear S; intro aa S
                refine OL.pure S (Lf.run_move (S.ev rfl)) rfl rfl trivial ?_
                clear S; intro aa S
                obtain ⟨q32, e, e_1, e_2, H⟩ := H
                refine OL.pure S (Lf.run_ixs (S.ev rfl) (S.ev rfl) Try.underlying22 ti3 e e_1 e_2) rfl rfl trivial ?_
                clear S; intro aa S
                obtain ⟨x33, c_5, H⟩ := H
                refine OL.pure S (Lf.run_ld (S.ev rfl) fl3 (S.cl c_5)) rfl rfl trivial ?_
                clear S; intro aa S
                refine ol_cal S H isfn32 rfl rfl trivial ?_
                clear S H aa; intro u aa ww h3 H S
                obtain ⟨x34, rfl, H⟩ := H
                obtain ⟨c_6, H⟩ := H
                refine OL.pure S (Lf.run_addt (S.ev rfl) (S.ev rfl) c_6) rfl rfl trivial ?_
                clear S; intro aa S
                refine OL.pure S (Lf.run_assign (S.ev rfl)) rfl rfl trivial ?_
                clear S; intro aa S
                refine OL.nil ?_
                replace S := S.sub [(1, Value.pointer (some p1)), (3, Value.string ((s3 ++ (⟨#[39]⟩ : ByteArray)) ++ x34)), (4, Value.int .i64 i4)] ⟨rfl, rfl, rfl, trivial⟩
                refine W.region ?_
                refine OL.pure S (Lf.run_move (S.ev rfl)) rfl rfl trivial ?_
                clear S; intro aa S
                refine OL.pure S (Lf.run_add (S.ev rfl) (S.ev rfl)) rfl rfl trivial ?_
                clear S; intro aa S
                refine OL.pure S (Lf.run_assign (S.ev rfl)) rfl rfl trivial ?_
                clear S; intro aa S
                refine OL.nil ?_
                exact ⟨(((s3 ++ (⟨#[39]⟩ : ByteArray)) ++ x34), (IntKind.i64.wrap (i4 + 1)), h3), ⟨S.sub _ ⟨rfl, rfl, rfl, trivial⟩, H.1⟩, H.2⟩
              · replace H := H.2 hb_5
                refine W.exit_ ?_
                refine xhit ?_
                exact ⟨s3, h2, S.sub _ ⟨rfl, rfl, trivial⟩, H⟩
            · replace H := H.2 hb_4
              refine W.seq ?_
              replace S := S.sub [(1, Value.pointer (some p1)), (3, Value.string (⟨#[]⟩ : ByteArray)), (7, Value.int .i64 x7)] ⟨rfl, rfl, rfl, trivial⟩
              refine W.region ?_
              refine OL.pure S (Lf.run_eql (S.ev rfl) (S.ev rfl)) rfl rfl trivial ?_
              clear S; intro aa S
              refine OL.pure S (Lf.run_assign (S.ev rfl)) rfl rfl trivial ?_
              clear S; intro aa S
              refine OL.nil ?_
              refine W.cond S (b := (x7 == 6)) rfl (fun hb_6 => ?_) (fun hb_6 => ?_)
              · replace H := H.1 hb_6
                replace S := S.sub [(1, Value.pointer (some p1))] ⟨rfl, trivial⟩
                refine W.region ?_
                refine OL.pure S (Lf.run_assign (S.ev rfl)) rfl rfl trivial ?_
                clear S; intro aa S
                refine OL.nil ?_
                exact ⟨(⟨#[66, 111, 120]⟩ : ByteArray), h1, S.sub _ ⟨rfl, rfl, trivial⟩, H⟩
              · replace H := H.2 hb_6
                refine W.seq ?_
                replace S := S.sub [(1, Value.pointer (some p1)), (3, Value.string (⟨#[]⟩ : ByteArray)), (7, Value.int .i64 x7)] ⟨rfl, rfl, rfl, trivial⟩
                refine W.region ?_
                refine OL.pure S (Lf.run_eql (S.ev rfl) (S.ev rfl)) rfl rfl trivial ?_
                clear S; intro aa S
                refine OL.pure S (Lf.run_assign (S.ev rfl)) rfl rfl trivial ?_
                clear S; intro aa S
                refine OL.nil ?_
                refine W.cond S (b := (x7 == 7)) rfl (fun hb_7 => ?_) (fun hb_7 => ?_)
                · replace H := H.1 hb_7
                  refine W.seq ?_
                  replace S := S.sub [(1, Value.pointer (some p1))] ⟨rfl, trivial⟩
                  refine W.region ?_
                  refine OL.pure S (Lf.run_fa (S.ev rfl) fa25_3) rfl rfl trivial ?_
                  clear S; intro aa S
                  obtain ⟨x41, c_7, H⟩ := H
                  refine OL.pure S (Lf.run_ld (S.ev rfl) fl3 (S.cl c_7)) rfl rfl trivial ?_
                  clear S; intro aa S
                  refine ol_cal S H isfn32 rfl rfl trivial ?_
                  clear S H aa; intro u_1 aa ww h4 H S
                  obtain ⟨x42, rfl, H⟩ := H
                  obtain ⟨c_8, H⟩ := H
                  refine OL.pure S (Lf.run_addt (S.ev rfl) (S.ev rfl) c_8) rfl rfl trivial ?_
                  clear S; intro aa S
                  refine OL.pure S (Lf.run_assign (S.ev rfl)) rfl rfl trivial ?_
                  clear S; intro aa S
                  refine OL.nil ?_
                  refine W.seq ?_
                  replace S := S.sub [(1, Value.pointer (some p1)), (3, Value.string ((⟨#[38]⟩ : ByteArray) ++ x42))] ⟨rfl, rfl, trivial⟩
                  refine W.region ?_
                  refine OL.pure S (Lf.run_fa (S.ev rfl) fa25_2) rfl rfl trivial ?_
                  clear S; intro aa S
                  obtain ⟨x45, c_9, H⟩ := H
                  refine OL.pure S (Lf.run_ld (S.ev rfl) fl4 (S.cl c_9)) rfl rfl trivial ?_
                  clear S; intro aa S
                  refine OL.nil ?_
                  refine W.cond S (b := x45) rfl (fun hb_8 => ?_) (fun hb_8 => ?_)
                  · replace H := H.1 hb_8
                    replace S := S.sub [(1, Value.pointer (some p1)), (3, Value.string ((⟨#[38]⟩ : ByteArray) ++ x42))] ⟨rfl, rfl, trivial⟩
                    refine W.region ?_
                    refine OL.pure S (Lf.run_move (S.ev rfl)) rfl rfl trivial ?_
                    clear S; intro aa S
                    obtain ⟨c_10, H⟩ := H
                    refine OL.pure S (Lf.run_addt (S.ev rfl) (S.ev rfl) c_10) rfl rfl trivial ?_
                    clear S; intro aa S
                    refine OL.pure S (Lf.run_assign (S.ev rfl)) rfl rfl trivial ?_
                    clear S; intro aa S
                    refine OL.nil ?_
                    exact ⟨(((⟨#[38]⟩ : ByteArray) ++ x42) ++ (⟨#[109, 117, 116]⟩ : ByteArray)), h4, S.sub _ ⟨rfl, rfl, trivial⟩, H⟩
                  · replace H := H.2 hb_8
                    refine W.skip ?_
                    exact ⟨((⟨#[38]⟩ : ByteArray) ++ x42), h4, S.sub _ ⟨rfl, rfl, trivial⟩, H⟩
                · replace H := H.2 hb_7
                  refine W.seq ?_
                  replace S := S.sub [(1, Value.pointer (some p1)), (3, Value.string (⟨#[]⟩ : ByteArray)), (7, Value.int .i64 x7)] ⟨rfl, rfl, rfl, trivial⟩
                  refine W.region ?_
                  refine OL.pure S (Lf.run_eql (S.ev rfl) (S.ev rfl)) rfl rfl trivial ?_
                  clear S; intro aa S
                  refine OL.pure S (Lf.run_assign (S.ev rfl)) rfl rfl trivial ?_
                  clear S; intro aa S
                  refine OL.nil ?_
                  refine W.cond S (b := (x7 == 8)) rfl (fun hb_9 => ?_) (fun hb_9 => ?_)
                  · replace H := H.1 hb_9
                    replace S := S.sub [(1, Value.pointer (some p1))] ⟨rfl, trivial⟩
                    obtain ⟨Sq, HS, H⟩ := H
                    refine W.regionN [1] [6] Sq S (by kernel_rfl) ?_
                    clear S; intro ww S
                    refine BN.pure 0 S (fun _ => HS) rfl (by kernel_rfl) (by kernel_rfl) (fun _ => Lf.run_fa (S.ev rfl) fa25_1) rfl rfl trivial ?_
                    clear S; intro aa S
                    refine BN.pure 4 S (fun _ => HS) rfl (by kernel_rfl) (by kernel_rfl) (fun _ => Lf.run_fa (S.ev rfl) fa25_3) rfl rfl trivial ?_
                    clear S; intro aa S
                    obtain ⟨x51, c_11, H⟩ := H
                    refine BN.held 1 S HS rfl (by kernel_rfl) (fun _ hq => Lf.run_ld (S.ev rfl) fl9 (c_11 _ hq)) rfl rfl trivial ?_
                    clear S; intro aa S
                    obtain ⟨c_12, H⟩ := H
                    refine BN.pure 2 S (fun _ => HS) rfl (by kernel_rfl) (by kernel_rfl) (fun _ => Lf.run_addt (S.ev rfl) (S.ev rfl) c_12) rfl rfl trivial ?_
                    clear S; intro aa S
                    obtain ⟨c_13, H⟩ := H
                    refine BN.pure 3 S (fun _ => HS) rfl (by kernel_rfl) (by kernel_rfl) (fun _ => Lf.run_addt (S.ev rfl) (S.ev rfl) c_13) rfl rfl trivial ?_
                    clear S; intro aa S
                    obtain ⟨x55, c_14, H⟩ := H
                    refine BN.load 5 S (fun _ => HS) rfl (by kernel_rfl) (by kernel_rfl) (fun _ hx => Lf.run_ld (S.ev rfl) fl3 (hx.cell _ _ (S.cl c_14))) rfl rfl trivial ?_
                    clear S; intro aa S
                    refine BN.eff 6 rfl (by kernel_rfl) ?_
                    refine ol_cal S H isfn32 rfl rfl trivial ?_
                    clear S H aa; intro u_2 aa ww h5 H S
                    obtain ⟨x56, rfl, H⟩ := H
                    refine OL.nil ?_
                    clear HS; obtain ⟨HS, H⟩ := H
                    refine ⟨fun _ => by rw [S.heap]; exact HS, ?_⟩
                    obtain ⟨c_15, H⟩ := H
                    refine BN.pure 7 S (fun _ => HS) rfl (by kernel_rfl) (by kernel_rfl) (fun _ => Lf.run_addt (S.ev rfl) (S.ev rfl) c_15) rfl rfl trivial ?_
                    clear S; intro aa S
                    refine BN.pure 8 S (fun _ => HS) rfl (by kernel_rfl) (by kernel_rfl) (fun _ => Lf.run_assign (S.ev rfl)) rfl rfl trivial ?_
                    clear S; intro aa S
                    refine BN.done (by kernel_rfl) ?_
                    exact ⟨((((⟨#[100, 121, 110, 32]⟩ : ByteArray) ++ x51) ++ (⟨#[43]⟩ : ByteArray)) ++ x56), h5, S.sub _ ⟨rfl, rfl, trivial⟩, H⟩
                  · replace H := H.2 hb_9
                    refine W.seq ?_
                    replace S := S.sub [(1, Value.pointer (some p1)), (3, Value.string (⟨#[]⟩ : ByteArray)), (7, Value.int .i64 x7)] ⟨rfl, rfl, rfl, trivial⟩
                    refine W.region ?_
                    refine OL.pure S (Lf.run_eql (S.ev rfl) (S.ev rfl)) rfl rfl trivial ?_
                    clear S; intro aa S
                    refine OL.pure S (Lf.run_assign (S.ev rfl)) rfl rfl trivial ?_
                    clear S; intro aa S
                    refine OL.nil ?_
                    refine W.cond S (b := (x7 == 9)) rfl (fun hb_10 => ?_) (fun hb_10 => ?_)
                    · replace H := H.1 hb_10
                      replace S := S.sub [(1, Value.pointer (some p1))] ⟨rfl, trivial⟩
                      obtain ⟨Sq_1, HS_1, H⟩ := H
                      refine W.regionN [1] [5] Sq_1 S (by kernel_rfl) ?_
                      clear S; intro ww S
                      refine BN.pure 0 S (fun _ => HS_1) rfl (by kernel_rfl) (by kernel_rfl) (fun _ => Lf.run_fa (S.ev rfl) fa25_1) rfl rfl trivial ?_
                      clear S; intro aa S
                      refine BN.pure 3 S (fun _ => HS_1) rfl (by kernel_rfl) (by kernel_rfl) (fun _ => Lf.run_fa (S.ev rfl) fa25_3) rfl rfl trivial ?_
                      clear S; intro aa S
                      obtain ⟨x61, c_16, H⟩ := H
                      refine BN.held 1 S HS_1 rfl (by kernel_rfl) (fun _ hq => Lf.run_ld (S.ev rfl) fl9 (c_16 _ hq)) rfl rfl trivial ?_
                      clear S; intro aa S
                      obtain ⟨c_17, H⟩ := H
                      refine BN.pure 2 S (fun _ => HS_1) rfl (by kernel_rfl) (by kernel_rfl) (fun _ => Lf.run_addt (S.ev rfl) (S.ev rfl) c_17) rfl rfl trivial ?_
                      clear S; intro aa S
                      obtain ⟨x64, c_18, H⟩ := H
                      refine BN.load 4 S (fun _ => HS_1) rfl (by kernel_rfl) (by kernel_rfl) (fun _ hx => Lf.run_ld (S.ev rfl) fl3 (hx.cell _ _ (S.cl c_18))) rfl rfl trivial ?_
                      clear S; intro aa S
                      refine BN.eff 5 rfl (by kernel_rfl) ?_
                      refine ol_cal S H isfn32 rfl rfl trivial ?_
                      clear S H aa; intro u_3 aa ww h6 H S
                      obtain ⟨x65, rfl, H⟩ := H
                      refine OL.nil ?_
                      clear HS_1; obtain ⟨HS_1, H⟩ := H
                      refine ⟨fun _ => by rw [S.heap]; exact HS_1, ?_⟩
                      obtain ⟨c_19, H⟩ := H
                      refine BN.pure 6 S (fun _ => HS_1) rfl (by kernel_rfl) (by kernel_rfl) (fun _ => Lf.run_addt (S.ev rfl) (S.ev rfl) c_19) rfl rfl trivial ?_
                      clear S; intro aa S
                      refine BN.pure 7 S (fun _ => HS_1) rfl (by kernel_rfl) (by kernel_rfl) (fun _ => Lf.run_assign (S.ev rfl)) rfl rfl trivial ?_
                      clear S; intro aa S
                      refine BN.done (by kernel_rfl) ?_
                      exact ⟨((x61 ++ (⟨#[63]⟩ : ByteArray)) ++ x65), h6, S.sub _ ⟨rfl, rfl, trivial⟩, H⟩
                    · replace H := H.2 hb_10
                      refine W.skip ?_
                      exact ⟨(⟨#[]⟩ : ByteArray), h1, S.sub _ ⟨rfl, rfl, trivial⟩, H⟩
  · clear H S aa
    rintro aa ww ⟨s3_1, h7, S, HJ⟩
    have H := HK _ _ HJ
    clear HK HJ
    refine W.seq ?_
    refine W.seq ?_
    replace S := S.sub [(1, Value.pointer (some p1)), (3, Value.string s3_1)] ⟨rfl, rfl, trivial⟩
    refine W.region ?_
    refine OL.pure S (Lf.run_assign (S.ev rfl)) rfl rfl trivial ?_
    clear S; intro aa S
    refine OL.nil ?_
    refine W.block ?_
    obtain ⟨I_1, m_1, H, HB_1⟩ := H
    refine W.loopS (σ := ByteArray × Int × Heap) (fun s aa ww => St 85 [(1, Value.pointer (some p1)), (3, Value.string s.1), (5, Value.int .i64 s.2.1)] s.2.2 w0 aa ww ∧ I_1 s.1 s.2.1 s.2.2) (fun s => m_1 s.1 s.2.1 s.2.2) (s3_1, 0, h7) ⟨S.sub _ ⟨rfl, rfl, rfl, trivial⟩, H⟩ ?_
    clear H S aa
    rintro ⟨s3_2, i5, h8⟩ aa ww ⟨S, HI⟩
    replace S : St 85 [(1, Value.pointer (some p1)), (3, Value.string s3_2), (5, Value.int .i64 i5)] h8 w0 aa ww := S
    have H := HB_1 s3_2 i5 h8 HI
    clear HI
    refine W.seq ?_
    refine W.seq ?_
    replace S := S.sub [(1, Value.pointer (some p1)), (3, Value.string s3_2), (5, Value.int .i64 i5)] ⟨rfl, rfl, rfl, trivial⟩
    refine W.region ?_
    refine OL.pure S (Lf.run_move (S.ev rfl)) rfl rfl trivial ?_
    clear S; intro aa S
    refine OL.pure S (Lf.run_fa (S.ev rfl) fa25_5) rfl rfl trivial ?_
    clear S; intro aa S
    obtain ⟨x69, c_20, H⟩ := H
    refine OL.pure S (Lf.run_ld (S.ev rfl) fl23 (S.cl c_20)) rfl rfl trivial ?_
    clear S; intro aa S
    refine OL.pure S (Lf.run_lens (S.ev rfl) rfl Try.underlying23) rfl rfl trivial ?_
    clear S; intro aa S
    refine OL.pure S (Lf.run_lss (S.ev rfl) (S.ev rfl)) rfl rfl trivial ?_
    clear S; intro aa S
    refine OL.nil ?_
    refine W.cond S (b := (decide (i5 < ((x69.n : Nat) : Int)))) rfl (fun hb_11 => ?_) (fun hb_11 => ?_)
    · replace H := H.1 hb_11
      refine W.skip ?_
      refine W.seq ?_
      refine W.block ?_
      replace S := S.sub [(1, Value.pointer (some p1)), (3, Value.string s3_2), (5, Value.int .i64 i5)] ⟨rfl, rfl, rfl, trivial⟩
      refine W.region ?_
      refine OL.pure S (Lf.run_move (S.ev rfl)) rfl rfl trivial ?_
      clear S; intro aa S
      obtain ⟨c_21, H⟩ := H
      refine OL.pure S (Lf.run_addt (S.ev rfl) (S.ev rfl) c_21) rfl rfl trivial ?_
      clear S; intro aa S
      refine OL.pure S (Lf.run_fa (S.ev rfl) fa25_5) rfl rfl trivial ?_
      clear S; intro aa S
      obtain ⟨x77, c_22, H⟩ := H
      refine OL.pure S (Lf.run_ld (S.ev rfl) fl23 (S.cl c_22)) rfl rfl trivial ?_
      clear S; intro aa S
      refine OL.pure S (Lf.run_move (S.ev rfl)) rfl rfl trivial ?_
      clear S; intro aa S
      obtain ⟨q79, e_3, e_4, e_5, H⟩ := H
      refine OL.pure S (Lf.run_ixs (S.ev rfl) (S.ev rfl) Try.underlying23 ti25 e_3 e_4 e_5) rfl rfl trivial ?_
      clear S; intro aa S
      obtain ⟨y80, y80_1, y80_2, y80_3, y80_4, y80_5, c_26, c_27, c_28, c_29, c_30, c_31, H⟩ := H
      refine OL.pure S (Lf.run_ldA (cs := [Value.int .i64 y80, Value.string y80_1, Value.bool y80_2, Value.int .i64 y80_3, Value.slice y80_4.a y80_4.n y80_4.c, Value.slice y80_5.a y80_5.n y80_5.c]) (S.ev rfl) ag25 ti25 (by rw [S.heap]; exact RowL.toRow ⟨c_26, c_27, c_28, c_29, c_30, c_31, trivial⟩)) rfl rfl trivial ?_
      clear S; intro aa S
      refine ol_cal S H isfn13 rfl rfl trivial ?_
      clear S H aa; intro u_4 aa ww h9 H S
      obtain ⟨x81, rfl, H⟩ := H
      obtain ⟨c_24, H⟩ := H
      refine OL.pure S (Lf.run_addt (S.ev rfl) (S.ev rfl) c_24) rfl rfl trivial ?_
      clear S; intro aa S
      obtain ⟨c_25, H⟩ := H
      refine OL.pure S (Lf.run_addt (S.ev rfl) (S.ev rfl) c_25) rfl rfl trivial ?_
      clear S; intro aa S
      refine OL.pure S (Lf.run_assign (S.ev rfl)) rfl rfl trivial ?_
      clear S; intro aa S
      refine OL.nil ?_
      replace S := S.sub [(1, Value.pointer (some p1)), (3, Value.string (((s3_2 ++ (⟨#[60]⟩ : ByteArray)) ++ x81) ++ (⟨#[62]⟩ : ByteArray))), (5, Value.int .i64 i5)] ⟨rfl, rfl, rfl, trivial⟩
      refine W.region ?_
      refine OL.pure S (Lf.run_move (S.ev rfl)) rfl rfl trivial ?_
      clear S; intro aa S
      refine OL.pure S (Lf.run_add (S.ev rfl) (S.ev rfl)) rfl rfl trivial ?_
      clear S; intro aa S
      refine OL.pure S (Lf.run_assign (S.ev rfl)) rfl rfl trivial ?_
      clear S; intro aa S
      refine OL.nil ?_
      exact ⟨((((s3_2 ++ (⟨#[60]⟩ : ByteArray)) ++ x81) ++ (⟨#[62]⟩ : ByteArray)), (IntKind.i64.wrap (i5 + 1)), h9), ⟨S.sub _ ⟨rfl, rfl, rfl, trivial⟩, H.1⟩, H.2⟩
    · replace H := H.2 hb_11
      refine W.exit_ ?_
      refine xhit ?_
      refine W.seq ?_
      replace S := S.sub [(3, Value.string s3_2)] ⟨rfl, trivial⟩
      refine W.region ?_
      refine OL.pure S (Lf.run_move (S.ev rfl)) rfl rfl trivial ?_
      clear S; intro aa S
      refine OL.pure S (Lf.run_assign (S.ev rfl)) rfl rfl trivial ?_
      clear S; intro aa S
      refine OL.nil ?_
      refine W.ret ?_
      exact Ret.one S rfl rfl H

/-- chattel types.Map -/
def L14 (x0 : Int) (x0_1 : ByteArray) (x0_2 : Bool) (x0_3 : Int) (x0_4 : Sv) (x0_5 : Sv) (f1 : Value) (h : Heap) (R : Value → Heap → Prop) : Prop :=
  new 25 #[Value.int .i64 x0, Value.string x0_1, Value.bool x0_2, Value.int .i64 x0_3, Value.slice x0_4.a x0_4.n x0_4.c, Value.slice x0_5.a x0_5.n x0_5.c] h fun p2 h1 =>
  new 25 #[Value.int .i64 0, Value.string (⟨#[]⟩ : ByteArray), Value.bool false, Value.int .i64 0, Value.slice (⟨none, 0, 0⟩ : Sv).a (⟨none, 0, 0⟩ : Sv).n (⟨none, 0, 0⟩ : Sv).c, Value.slice (⟨none, 0, 0⟩ : Sv).a (⟨none, 0, 0⟩ : Sv).n (⟨none, 0, 0⟩ : Sv).c] h1 fun p4 h2 =>
  askF (isNilF f1) fun b10 =>
  ifb b10 (
    ∃ (y11 : Int) (y11_1 : ByteArray) (y11_2 : Bool) (y11_3 : Int) (y11_4 : Sv) (y11_5 : Sv), cl h2 p2 = some (Value.int .i64 y11) ∧ cl h2 (p2.add 1) = some (Value.string y11_1) ∧ cl h2 (p2.add 2) = some (Value.bool y11_2) ∧ cl h2 (p2.add 3) = some (Value.int .i64 y11_3) ∧ cl h2 (p2.add 4) = some (Value.slice y11_4.a y11_4.n y11_4.c) ∧ cl h2 (p2.add 5) = some (Value.slice y11_5.a y11_5.n y11_5.c) ∧
    stoA h2 p4 [Value.int .i64 y11, Value.string y11_1, Value.bool y11_2, Value.int .i64 y11_3, Value.slice y11_4.a y11_4.n y11_4.c, Value.slice y11_5.a y11_5.n y11_5.c] fun h3 =>
    ∃ (y : Int) (y_1 : ByteArray) (y_2 : Bool) (y_3 : Int) (y_4 : Sv) (y_5 : Sv), cl h3 p4 = some (Value.int .i64 y) ∧ cl h3 (p4.add 1) = some (Value.string y_1) ∧ cl h3 (p4.add 2) = some (Value.bool y_2) ∧ cl h3 (p4.add 3) = some (Value.int .i64 y_3) ∧ cl h3 (p4.add 4) = some (Value.slice y_4.a y_4.n y_4.c) ∧ cl h3 (p4.add 5) = some (Value.slice y_5.a y_5.n y_5.c) ∧
    R (Value.agg #[Value.int .i64 y, Value.string y_1, Value.bool y_2, Value.int .i64 y_3, Value.slice y_4.a y_4.n y_4.c, Value.slice y_5.a y_5.n y_5.c]) h3) (
    ∃ J : Heap → Prop, (
      ∃ (y12 : Int) (y12_1 : ByteArray) (y12_2 : Bool) (y12_3 : Int) (y12_4 : Sv) (y12_5 : Sv), cl h2 p2 = some (Value.int .i64 y12) ∧ cl h2 (p2.add 1) = some (Value.string y12_1) ∧ cl h2 (p2.add 2) = some (Value.bool y12_2) ∧ cl h2 (p2.add 3) = some (Value.int .i64 y12_3) ∧ cl h2 (p2.add 4) = some (Value.slice y12_4.a y12_4.n y12_4.c) ∧ cl h2 (p2.add 5) = some (Value.slice y12_5.a y12_5.n y12_5.c) ∧
      cal Try.prog 33 #[Value.agg #[Value.int .i64 y12, Value.string y12_1, Value.bool y12_2, Value.int .i64 y12_3, Value.slice y12_4.a y12_4.n y12_4.c, Value.slice y12_5.a y12_5.n y12_5.c]] h2 fun u h4 => asB u fun x13 =>
      ifb x13 (
        ldI .i64 h4 (p2.add 3) fun x16 =>
        calV Try.prog f1 #[Value.int .i64 x16] h4 fun u_1 h5 => asI .i64 u_1 fun x17 =>
        sto h5 (p2.add 3) (Value.int .i64 x17) fun h6 =>
        J h6) (
        J h4)) ∧ (∀ h7, J h7 →
    ∃ J_1 : Heap → Prop, (
      ldI .i64 h7 p2 fun x20 =>
      ifb (x20 == 5) (
        ldS h7 (p2.add 4) fun x23 =>
        cal Try.prog 34 #[Value.slice x23.a x23.n x23.c] h7 fun u_2 h8 => asS u_2 fun x24 =>
        sto h8 (p2.add 4) (Value.slice x24.a x24.n x24.c) fun h9 =>
        ldS h9 (p2.add 4) fun x27 =>
        ∃ (I : Int → Heap → Prop) (m : Int → Heap → Nat), I 0 h9 ∧ ∀ x29 h10, I x29 h10 →
        ifb (decide (x29 < ((x27.n : Nat) : Int))) (
          ixS x27 x29 fun q32 =>
          ldI .i64 h10 (q32.add ((x29 : Int).toNat * 1)) fun x33 =>
          ∃ Sq : Heap → Prop, Sq h10 ∧ (
            hlS Sq (p2.add 4) fun x35 =>
            calV Try.prog f1 #[Value.int .i64 x33] h10 fun u_3 h11 => asI .i64 u_3 fun x39 =>
            Sq h11 ∧
            ixS x35 x29 fun q40 =>
            sto h11 (q40.add ((x29 : Int).toNat * 1)) (Value.int .i64 x39) fun h12 =>
            I (IntKind.i64.wrap (x29 + 1)) h12 ∧ m (IntKind.i64.wrap (x29 + 1)) h12 < m x29 h10)) (
          J_1 h10)) (
        J_1 h7)) ∧ (∀ h13, J_1 h13 →
    ldS h13 (p2.add 5) fun x43 =>
    cal Try.prog 35 #[Value.slice x43.a x43.n x43.c] h13 fun u_4 h14 => asS u_4 fun x44 =>
    sto h14 (p2.add 5) (Value.slice x44.a x44.n x44.c) fun h15 =>
    ldS h15 (p2.add 5) fun x47 =>
    ∃ (I_1 : Int → Heap → Prop) (m_1 : Int → Heap → Nat), I_1 0 h15 ∧ ∀ x49 h16, I_1 x49 h16 →
    ifb (decide (x49 < ((x47.n : Nat) : Int))) (
      ixS x47 x49 fun q52 =>
      ∃ (y53 : Int) (y53_1 : ByteArray) (y53_2 : Bool) (y53_3 : Int) (y53_4 : Sv) (y53_5 : Sv), cl h16 (q52.add ((x49 : Int).toNat * 6)) = some (Value.int .i64 y53) ∧ cl h16 ((q52.add ((x49 : Int).toNat * 6)).add 1) = some (Value.string y53_1) ∧ cl h16 ((q52.add ((x49 : Int).toNat * 6)).add 2) = some (Value.bool y53_2) ∧ cl h16 ((q52.add ((x49 : Int).toNat * 6)).add 3) = some (Value.int .i64 y53_3) ∧ cl h16 ((q52.add ((x49 : Int).toNat * 6)).add 4) = some (Value.slice y53_4.a y53_4.n y53_4.c) ∧ cl h16 ((q52.add ((x49 : Int).toNat * 6)).add 5) = some (Value.slice y53_5.a y53_5.n y53_5.c) ∧
      new 25 #[Value.int .i64 0, Value.string (⟨#[]⟩ : ByteArray), Value.bool false, Value.int .i64 0, Value.slice (⟨none, 0, 0⟩ : Sv).a (⟨none, 0, 0⟩ : Sv).n (⟨none, 0, 0⟩ : Sv).c, Value.slice (⟨none, 0, 0⟩ : Sv).a (⟨none, 0, 0⟩ : Sv).n (⟨none, 0, 0⟩ : Sv).c] h16 fun p8 h17 =>
      stoA h17 p8 [Value.int .i64 y53, Value.string y53_1, Value.bool y53_2, Value.int .i64 y53_3, Value.slice y53_4.a y53_4.n y53_4.c, Value.slice y53_5.a y53_5.n y53_5.c] fun h18 =>
      ∃ Sq_1 : Heap → Prop, Sq_1 h18 ∧ (
        ∃ (y57 : Int) (y57_1 : ByteArray) (y57_2 : Bool) (y57_3 : Int) (y57_4 : Sv) (y57_5 : Sv), cl h18 p8 = some (Value.int .i64 y57) ∧ cl h18 (p8.add 1) = some (Value.string y57_1) ∧ cl h18 (p8.add 2) = some (Value.bool y57_2) ∧ cl h18 (p8.add 3) = some (Value.int .i64 y57_3) ∧ cl h18 (p8.add 4) = some (Value.slice y57_4.a y57_4.n y57_4.c) ∧ cl h18 (p8.add 5) = some (Value.slice y57_5.a y57_5.n y57_5.c) ∧
        hlS Sq_1 (p2.add 5) fun x55 =>
        cal Try.prog 14 #[Value.agg #[Value.int .i64 y57, Value.string y57_1, Value.bool y57_2, Value.int .i64 y57_3, Value.slice y57_4.a y57_4.n y57_4.c, Value.slice y57_5.a y57_5.n y57_5.c], f1] h18 fun u_5 h19 => ∃ (y59 : Int) (y59_1 : ByteArray) (y59_2 : Bool) (y59_3 : Int) (y59_4 : Sv) (y59_5 : Sv), u_5 = Value.agg #[Value.int .i64 y59, Value.string y59_1, Value.bool y59_2, Value.int .i64 y59_3, Value.slice y59_4.a y59_4.n y59_4.c, Value.slice y59_5.a y59_5.n y59_5.c] ∧
        Sq_1 h19 ∧
        ixS x55 x49 fun q60 =>
        stoA h19 (q60.add ((x49 : Int).toNat * 6)) [Value.int .i64 y59, Value.string y59_1, Value.bool y59_2, Value.int .i64 y59_3, Value.slice y59_4.a y59_4.n y59_4.c, Value.slice y59_5.a y59_5.n y59_5.c] fun h20 =>
        I_1 (IntKind.i64.wrap (x49 + 1)) h20 ∧ m_1 (IntKind.i64.wrap (x49 + 1)) h20 < m_1 x49 h16)) (
      ∃ (y62 : Int) (y62_1 : ByteArray) (y62_2 : Bool) (y62_3 : Int) (y62_4 : Sv) (y62_5 : Sv), cl h16 p2 = some (Value.int .i64 y62) ∧ cl h16 (p2.add 1) = some (Value.string y62_1) ∧ cl h16 (p2.add 2) = some (Value.bool y62_2) ∧ cl h16 (p2.add 3) = some (Value.int .i64 y62_3) ∧ cl h16 (p2.add 4) = some (Value.slice y62_4.a y62_4.n y62_4.c) ∧ cl h16 (p2.add 5) = some (Value.slice y62_5.a y62_5.n y62_5.c) ∧
      stoA h16 p4 [Value.int .i64 y62, Value.string y62_1, Value.bool y62_2, Value.int .i64 y62_3, Value.slice y62_4.a y62_4.n y62_4.c, Value.slice y62_5.a y62_5.n y62_5.c] fun h21 =>
      ∃ (y_6 : Int) (y_7 : ByteArray) (y_8 : Bool) (y_9 : Int) (y_10 : Sv) (y_11 : Sv), cl h21 p4 = some (Value.int .i64 y_6) ∧ cl h21 (p4.add 1) = some (Value.string y_7) ∧ cl h21 (p4.add 2) = some (Value.bool y_8) ∧ cl h21 (p4.add 3) = some (Value.int .i64 y_9) ∧ cl h21 (p4.add 4) = some (Value.slice y_10.a y_10.n y_10.c) ∧ cl h21 (p4.add 5) = some (Value.slice y_11.a y_11.n y_11.c) ∧
      R (Value.agg #[Value.int .i64 y_6, Value.string y_7, Value.bool y_8, Value.int .i64 y_9, Value.slice y_10.a y_10.n y_10.c, Value.slice y_11.a y_11.n y_11.c]) h21))))

set_option maxRecDepth 100000 in

theorem F14 {x0 x0_1 x0_2 x0_3 x0_4 x0_5 f1 h : _} {R : Value → Heap → Prop} (H : L14 x0 x0_1 x0_2 x0_3 x0_4 x0_5 f1 h R) : CallsH Try.prog 14 #[Value.agg #[Value.int .i64 x0, Value.string x0_1, Value.bool x0_2, Value.int .i64 x0_3, Value.slice x0_4.a x0_4.n x0_4.c, Value.slice x0_5.a x0_5.n x0_5.c], f1] h R := by
  refine CallsH.enter (n := 63) Try.func14 rfl rfl rfl rfl ?_
  intro w0 aa ww S
  unfold L14 at H
  refine W.seq ?_
  replace S := S.sub [(0, Value.agg #[Value.int .i64 x0, Value.string x0_1, Value.bool x0_2, Value.int .i64 x0_3, Value.slice x0_4.a x0_4.n x0_4.c, Value.slice x0_5.a x0_5.n x0_5.c]), (1, f1)] ⟨rfl, rfl, trivial⟩
  refine W.region ?_
  refine ol_box S H rfl rfl rfl trivial ?_
  clear S H aa; intro p2 aa ww h1 H S
  refine ol_alloc S H ti25 rfl rfl trivial ?_
  clear S H aa; intro p4 aa ww h2 H S
  refine OL.nil ?_
  refine W.seq ?_
  refine W.seq ?_
  replace S := S.sub [(1, f1), (2, Value.pointer (some p2)), (4, Value.pointer (some p4))] ⟨rfl, rfl, rfl, trivial⟩
  refine W.region ?_
  refine OL.pure S (Lf.run_move (S.ev rfl)) rfl rfl trivial ?_
  clear S; intro aa S
  obtain ⟨b10, e, H⟩ := H
  refine OL.pure S (Lf.run_eqlfn Try.underlying36 (S.ev rfl) (S.ev rfl) e) rfl rfl trivial ?_
  clear S; intro aa S
  refine OL.nil ?_
  refine W.cond S (b := b10) rfl (fun hb => ?_) (fun hb => ?_)
  · replace H := H.1 hb
    refine W.seq ?_
    replace S := S.sub [(2, Value.pointer (some p2)), (4, Value.pointer (some p4))] ⟨rfl, rfl, trivial⟩
    refine W.region ?_
    obtain ⟨y11, y11_1, y11_2, y11_3, y11_4, y11_5, c_7, c_8, c_9, c_10, c_11, c_12, H⟩ := H
    refine OL.pure S (Lf.run_ldA (cs := [Value.int .i64 y11, Value.string y11_1, Value.bool y11_2, Value.int .i64 y11_3, Value.slice y11_4.a y11_4.n y11_4.c, Value.slice y11_5.a y11_5.n y11_5.c]) (S.ev rfl) ag25 ti25 (by rw [S.heap]; exact RowL.toRow ⟨c_7, c_8, c_9, c_10, c_11, c_12, trivial⟩)) rfl rfl trivial ?_
    clear S; intro aa S
    refine ol_stoA S H rfl rfl ti25 trivial ?_
    clear S H aa; intro aa ww h3 H S
    refine OL.nil ?_
    refine W.ret ?_
    obtain ⟨y, y_1, y_2, y_3, y_4, y_5, c_1, c_2, c_3, c_4, c_5, c_6, H⟩ := H
    exact Ret.gen S rfl (RV.cellA (cs := [Value.int .i64 y, Value.string y_1, Value.bool y_2, Value.int .i64 y_3, Value.slice y_4.a y_4.n y_4.c, Value.slice y_5.a y_5.n y_5.c]) rfl ag25 ti25 ⟨c_1, c_2, c_3, c_4, c_5, c_6, trivial⟩ RV.nil) rfl H
  · replace H := H.2 hb
    refine W.skip ?_
    obtain ⟨J, H, HK⟩ := H
    refine W.seqJ (fun aa ww => ∃ h7, St 63 [(1, f1), (2, Value.pointer (some p2)), (4, Value.pointer (some p4))] h7 w0 aa ww ∧ J h7) ?_ ?_
    · clear HK
      refine W.seq ?_
      replace S := S.sub [(1, f1), (2, Value.pointer (some p2)), (4, Value.pointer (some p4))] ⟨rfl, rfl, rfl, trivial⟩
      refine W.region ?_
      obtain ⟨y12, y12_1, y12_2, y12_3, y12_4, y12_5, c_15, c_16, c_17, c_18, c_19, c_20, H⟩ := H
      refine OL.pure S (Lf.run_ldA (cs := [Value.int .i64 y12, Value.string y12_1, Value.bool y12_2, Value.int .i64 y12_3, Value.slice y12_4.a y12_4.n y12_4.c, Value.slice y12_5.a y12_5.n y12_5.c]) (S.ev rfl) ag25 ti25 (by rw [S.heap]; exact RowL.toRow ⟨c_15, c_16, c_17, c_18, c_19, c_20, trivial⟩)) rfl rfl trivial ?_
      clear S; intro aa S
      refine ol_cal S H isfn33 rfl rfl trivial ?_
      clear S H aa; intro u aa ww h4 H S
      obtain ⟨x13, rfl, H⟩ := H
      refine OL.nil ?_
      refine W.cond S (b := x13) rfl (fun hb_1 => ?_) (fun hb_1 => ?_)
      · replace H := H.1 hb_1
        replace S := S.sub [(1, f1), (2, Value.pointer (some p2)), (4, Value.pointer (some p4))] ⟨rfl, rfl, rfl, trivial⟩
        refine W.region ?_
        refine OL.pure S (Lf.run_move (S.ev rfl)) rfl rfl trivial ?_
        clear S; intro aa S
        refine OL.pure S (Lf.run_fa (S.ev rfl) fa25_3) rfl rfl trivial ?_
        clear S; intro aa S
        obtain ⟨x16, c_14, H⟩ := H
        refine OL.pure S (Lf.run_ld (S.ev rfl) fl3 (S.cl c_14)) rfl rfl trivial ?_
        clear S; intro aa S
        refine ol_calV S H rfl rfl rfl trivial ?_
        clear S H aa; intro u_1 aa ww h5 H S
        obtain ⟨x17, rfl, H⟩ := H
        refine OL.pure S (Lf.run_fa (S.ev rfl) fa25_3) rfl rfl trivial ?_
        clear S; intro aa S
        refine ol_sto S H rfl rfl rfl ti3 trivial ?_
        clear S H aa; intro aa ww h6 H S
        refine OL.nil ?_
        exact ⟨h6, S.sub _ ⟨rfl, rfl, rfl, trivial⟩, H⟩
      · replace H := H.2 hb_1
        refine W.skip ?_
        exact ⟨h4, S.sub _ ⟨rfl, rfl, rfl, trivial⟩, H⟩
    · clear H S aa
      rintro aa ww ⟨h7, S, HJ⟩
      have H := HK _ HJ
      clear HK HJ
      obtain ⟨J_1, H, HK_1⟩ := H
      refine W.seqJ (fun aa ww => ∃ h13, St 63 [(1, f1), (2, Value.pointer (some p2)), (4, Value.pointer (some p4))] h13 w0 aa ww ∧ J_1 h13) ?_ ?_
      · clear HK_1
        refine W.seq ?_
        replace S := S.sub [(1, f1), (2, Value.pointer (some p2)), (4, Value.pointer (some p4))] ⟨rfl, rfl, rfl, trivial⟩
        refine W.region ?_
        refine OL.pure S (Lf.run_fa (S.ev rfl) fa25_0) rfl rfl trivial ?_
        clear S; intro aa S
        obtain ⟨x20, c_21, H⟩ := H
        refine OL.pure S (Lf.run_ld (S.ev rfl) fl3 (S.cl c_21)) rfl rfl trivial ?_
        clear S; intro aa S
        refine OL.pure S (Lf.run_eql (S.ev rfl) (S.ev rfl)) rfl rfl trivial ?_
        clear S; intro aa S
        refine OL.nil ?_
        refine W.cond S (b := (x20 == 5)) rfl (fun hb_2 => ?_) (fun hb_2 => ?_)
        · replace H := H.1 hb_2
          refine W.seq ?_
          replace S := S.sub [(1, f1), (2, Value.pointer (some p2)), (4, Value.pointer (some p4))] ⟨rfl, rfl, rfl, trivial⟩
          refine W.region ?_
          refine OL.pure S (Lf.run_fa (S.ev rfl) fa25_4) rfl rfl trivial ?_
          clear S; intro aa S
          obtain ⟨x23, c_22, H⟩ := H
          refine OL.pure S (Lf.run_ld (S.ev rfl) fl22 (S.cl c_22)) rfl rfl trivial ?_
          clear S; intro aa S
          refine ol_cal S H isfn34 rfl rfl trivial ?_
          clear S H aa; intro u_2 aa ww h8 H S
          obtain ⟨x24, rfl, H⟩ := H
          refine OL.pure S (Lf.run_fa (S.ev rfl) fa25_4) rfl rfl trivial ?_
          clear S; intro aa S
          refine ol_sto S H rfl rfl rfl ti22 trivial ?_
          clear S H aa; intro aa ww h9 H S
          refine OL.nil ?_
          refine W.seq ?_
          replace S := S.sub [(1, f1), (2, Value.pointer (some p2)), (4, Value.pointer (some p4))] ⟨rfl, rfl, rfl, trivial⟩
          refine W.region ?_
          refine OL.pure S (Lf.run_fa (S.ev rfl) fa25_4) rfl rfl trivial ?_
          clear S; intro aa S
          obtain ⟨x27, c_23, H⟩ := H
          refine OL.pure S (Lf.run_ld (S.ev rfl) fl22 (S.cl c_23)) rfl rfl trivial ?_
          clear S; intro aa S
          refine OL.pure S (Lf.run_lens (S.ev rfl) rfl Try.underlying22) rfl rfl trivial ?_
          clear S; intro aa S
          refine OL.pure S (Lf.run_move (S.ev rfl)) rfl rfl trivial ?_
          clear S; intro aa S
          refine OL.nil ?_
          refine W.block ?_
          obtain ⟨I, m, H, HB⟩ := H
          refine W.loopS (σ := Int × Heap) (fun s aa ww => St 63 [(1, f1), (2, Value.pointer (some p2)), (4, Value.pointer (some p4)), (27, Value.slice x27.a x27.n x27.c), (28, Value.int .i64 ((x27.n : Nat) : Int)), (29, Value.int .i64 s.1)] s.2 w0 aa ww ∧ I s.1 s.2) (fun s => m s.1 s.2) (0, h9) ⟨S.sub _ ⟨rfl, rfl, rfl, rfl, rfl, rfl, trivial⟩, H⟩ ?_
          clear H S aa
          rintro ⟨x29, h10⟩ aa ww ⟨S, HI⟩
          replace S : St 63 [(1, f1), (2, Value.pointer (some p2)), (4, Value.pointer (some p4)), (27, Value.slice x27.a x27.n x27.c), (28, Value.int .i64 ((x27.n : Nat) : Int)), (29, Value.int .i64 x29)] h10 w0 aa ww := S
          have H := HB x29 h10 HI
          clear HI
          refine W.seq ?_
          replace S := S.sub [(1, f1), (2, Value.pointer (some p2)), (4, Value.pointer (some p4)), (27, Value.slice x27.a x27.n x27.c), (28, Value.int .i64 ((x27.n : Nat) : Int)), (29, Value.int .i64 x29)] ⟨rfl, rfl, rfl, rfl, rfl, rfl, trivial⟩
          refine W.region ?_
          refine OL.pure S (Lf.run_lss (S.ev rfl) (S.ev rfl)) rfl rfl trivial ?_
          clear S; intro aa S
          refine OL.nil ?_
          refine W.seq ?_
          refine W.cond S (b := (decide (x29 < ((x27.n : Nat) : Int)))) rfl (fun hb_3 => ?_) (fun hb_3 => ?_)
          · replace H := H.1 hb_3
            refine W.skip ?_
            refine W.seq ?_
            refine W.block ?_
            refine W.seq ?_
            replace S := S.sub [(1, f1), (2, Value.pointer (some p2)), (4, Value.pointer (some p4)), (27, Value.slice x27.a x27.n x27.c), (28, Value.int .i64 ((x27.n : Nat) : Int)), (29, Value.int .i64 x29)] ⟨rfl, rfl, rfl, rfl, rfl, rfl, trivial⟩
            refine W.region ?_
            refine OL.pure S (Lf.run_move (S.ev rfl)) rfl rfl trivial ?_
            clear S; intro aa S
            obtain ⟨q32, e_1, e_2, e_3, H⟩ := H
            refine OL.pure S (Lf.run_ixs (S.ev rfl) (S.ev rfl) Try.underlying22 ti3 e_1 e_2 e_3) rfl rfl trivial ?_
            clear S; intro aa S
            obtain ⟨x33, c_24, H⟩ := H
            refine OL.pure S (Lf.run_ld (S.ev rfl) fl3 (S.cl c_24)) rfl rfl trivial ?_
            clear S; intro aa S
            refine OL.pure S (Lf.run_assign (S.ev rfl)) rfl rfl trivial ?_
            clear S; intro aa S
            refine OL.pure S (Lf.run_assign (S.ev rfl)) rfl rfl trivial ?_
            clear S; intro aa S
            refine OL.nil ?_
            replace S := S.sub [(1, f1), (2, Value.pointer (some p2)), (4, Value.pointer (some p4)), (5, Value.int .i64 x29), (6, Value.int .i64 x33), (27, Value.slice x27.a x27.n x27.c), (28, Value.int .i64 ((x27.n : Nat) : Int)), (29, Value.int .i64 x29)] ⟨rfl, rfl, rfl, rfl, rfl, rfl, rfl, rfl, trivial⟩
            obtain ⟨Sq, HS, H⟩ := H
            refine W.regionN [1] [5, 7] Sq S (by kernel_rfl) ?_
            clear S; intro ww S
            refine BN.pure 0 S (fun _ => HS) rfl (by kernel_rfl) (by kernel_rfl) (fun _ => Lf.run_fa (S.ev rfl) fa25_4) rfl rfl trivial ?_
            clear S; intro aa S
            refine BN.pure 2 S (fun _ => HS) rfl (by kernel_rfl) (by kernel_rfl) (fun _ => Lf.run_move (S.ev rfl)) rfl rfl trivial ?_
            clear S; intro aa S
            refine BN.pure 3 S (fun _ => HS) rfl (by kernel_rfl) (by kernel_rfl) (fun _ => Lf.run_move (S.ev rfl)) rfl rfl trivial ?_
            clear S; intro aa S
            refine BN.pure 4 S (fun _ => HS) rfl (by kernel_rfl) (by kernel_rfl) (fun _ => Lf.run_move (S.ev rfl)) rfl rfl trivial ?_
            clear S; intro aa S
            obtain ⟨x35, c_25, H⟩ := H
            refine BN.held 1 S HS rfl (by kernel_rfl) (fun _ hq => Lf.run_ld (S.ev rfl) fl22 (c_25 _ hq)) rfl rfl trivial ?_
            clear S; intro aa S
            refine BN.eff 5 rfl (by kernel_rfl) ?_
            refine ol_calV S H rfl rfl rfl trivial ?_
            clear S H aa; intro u_3 aa ww h11 H S
            obtain ⟨x39, rfl, H⟩ := H
            refine OL.nil ?_
            clear HS; obtain ⟨HS, H⟩ := H
            refine ⟨fun _ => by rw [S.heap]; exact HS, ?_⟩
            obtain ⟨q40, e_4, e_5, e_6, H⟩ := H
            refine BN.pure 6 S (fun _ => HS) rfl (by kernel_rfl) (by kernel_rfl) (fun _ => Lf.run_ixs (S.ev rfl) (S.ev rfl) Try.underlying22 ti3 e_4 e_5 e_6) rfl rfl trivial ?_
            clear S; intro aa S
            refine BN.eff 7 rfl (by kernel_rfl) ?_
            refine ol_sto S H rfl rfl rfl ti3 trivial ?_
            clear S H aa; intro aa ww h12 H S
            refine OL.nil ?_
            refine ⟨noNeed (by kernel_rfl), ?_⟩
            refine BN.done (by kernel_rfl) ?_
            replace S := S.sub [(1, f1), (2, Value.pointer (some p2)), (4, Value.pointer (some p4)), (27, Value.slice x27.a x27.n x27.c), (28, Value.int .i64 ((x27.n : Nat) : Int)), (29, Value.int .i64 x29)] ⟨rfl, rfl, rfl, rfl, rfl, rfl, trivial⟩
            refine W.region ?_
            refine OL.pure S (Lf.run_add (S.ev rfl) (S.ev rfl)) rfl rfl trivial ?_
            clear S; intro aa S
            refine OL.pure S (Lf.run_move (S.ev rfl)) rfl rfl trivial ?_
            clear S; intro aa S
            refine OL.nil ?_
            exact ⟨((IntKind.i64.wrap (x29 + 1)), h12), ⟨S.sub _ ⟨rfl, rfl, rfl, rfl, rfl, rfl, trivial⟩, H.1⟩, H.2⟩
          · replace H := H.2 hb_3
            refine W.exit_ ?_
            refine xhit ?_
            exact ⟨h10, S.sub _ ⟨rfl, rfl, rfl, trivial⟩, H⟩
        · replace H := H.2 hb_2
          refine W.skip ?_
          exact ⟨h7, S.sub _ ⟨rfl, rfl, rfl, trivial⟩, H⟩
      · clear H S aa
        rintro aa ww ⟨h13, S, HJ⟩
        have H := HK_1 _ HJ
        clear HK_1 HJ
        refine W.seq ?_
        replace S := S.sub [(1, f1), (2, Value.pointer (some p2)), (4, Value.pointer (some p4))] ⟨rfl, rfl, rfl, trivial⟩
        refine W.region ?_
        refine OL.pure S (Lf.run_fa (S.ev rfl) fa25_5) rfl rfl trivial ?_
        clear S; intro aa S
        obtain ⟨x43, c_26, H⟩ := H
        refine OL.pure S (Lf.run_ld (S.ev rfl) fl23 (S.cl c_26)) rfl rfl trivial ?_
        clear S; intro aa S
        refine ol_cal S H isfn35 rfl rfl trivial ?_
        clear S H aa; intro u_4 aa ww h14 H S
        obtain ⟨x44, rfl, H⟩ := H
        refine OL.pure S (Lf.run_fa (S.ev rfl) fa25_5) rfl rfl trivial ?_
        clear S; intro aa S
        refine ol_sto S H rfl rfl rfl ti23 trivial ?_
        clear S H aa; intro aa ww h15 H S
        refine OL.nil ?_
        refine W.seq ?_
        refine W.seq ?_
        replace S := S.sub [(1, f1), (2, Value.pointer (some p2)), (4, Value.pointer (some p4))] ⟨rfl, rfl, rfl, trivial⟩
        refine W.region ?_
        refine OL.pure S (Lf.run_fa (S.ev rfl) fa25_5) rfl rfl trivial ?_
        clear S; intro aa S
        obtain ⟨x47, c_27, H⟩ := H
        refine OL.pure S (Lf.run_ld (S.ev rfl) fl23 (S.cl c_27)) rfl rfl trivial ?_
        clear S; intro aa S
        refine OL.pure S (Lf.run_lens (S.ev rfl) rfl Try.underlying23) rfl rfl trivial ?_
        clear S; intro aa S
        refine OL.pure S (Lf.run_move (S.ev rfl)) rfl rfl trivial ?_
        clear S; intro aa S
        refine OL.nil ?_
        refine W.block ?_
        obtain ⟨I_1, m_1, H, HB_1⟩ := H
        refine W.loopS (σ := Int × Heap) (fun s aa ww => St 63 [(1, f1), (2, Value.pointer (some p2)), (4, Value.pointer (some p4)), (47, Value.slice x47.a x47.n x47.c), (48, Value.int .i64 ((x47.n : Nat) : Int)), (49, Value.int .i64 s.1)] s.2 w0 aa ww ∧ I_1 s.1 s.2) (fun s => m_1 s.1 s.2) (0, h15) ⟨S.sub _ ⟨rfl, rfl, rfl, rfl, rfl, rfl, trivial⟩, H⟩ ?_
        clear H S aa
        rintro ⟨x49, h16⟩ aa ww ⟨S, HI⟩
        replace S : St 63 [(1, f1), (2, Value.pointer (some p2)), (4, Value.pointer (some p4)), (47, Value.slice x47.a x47.n x47.c), (48, Value.int .i64 ((x47.n : Nat) : Int)), (49, Value.int .i64 x49)] h16 w0 aa ww := S
        have H := HB_1 x49 h16 HI
        clear HI
        refine W.seq ?_
        replace S := S.sub [(1, f1), (2, Value.pointer (some p2)), (4, Value.pointer (some p4)), (47, Value.slice x47.a x47.n x47.c), (48, Value.int .i64 ((x47.n : Nat) : Int)), (49, Value.int .i64 x49)] ⟨rfl, rfl, rfl, rfl, rfl, rfl, trivial⟩
        refine W.region ?_
        refine OL.pure S (Lf.run_lss (S.ev rfl) (S.ev rfl)) rfl rfl trivial ?_
        clear S; intro aa S
        refine OL.nil ?_
        refine W.seq ?_
        refine W.cond S (b := (decide (x49 < ((x47.n : Nat) : Int)))) rfl (fun hb_4 => ?_) (fun hb_4 => ?_)
        · replace H := H.1 hb_4
          refine W.skip ?_
          refine W.seq ?_
          refine W.block ?_
          refine W.seq ?_
          replace S := S.sub [(1, f1), (2, Value.pointer (some p2)), (4, Value.pointer (some p4)), (47, Value.slice x47.a x47.n x47.c), (48, Value.int .i64 ((x47.n : Nat) : Int)), (49, Value.int .i64 x49)] ⟨rfl, rfl, rfl, rfl, rfl, rfl, trivial⟩
          refine W.region ?_
          refine OL.pure S (Lf.run_move (S.ev rfl)) rfl rfl trivial ?_
          clear S; intro aa S
          obtain ⟨q52, e_7, e_8, e_9, H⟩ := H
          refine OL.pure S (Lf.run_ixs (S.ev rfl) (S.ev rfl) Try.underlying23 ti25 e_7 e_8 e_9) rfl rfl trivial ?_
          clear S; intro aa S
          obtain ⟨y53, y53_1, y53_2, y53_3, y53_4, y53_5, c_37, c_38, c_39, c_40, c_41, c_42, H⟩ := H
          refine OL.pure S (Lf.run_ldA (cs := [Value.int .i64 y53, Value.string y53_1, Value.bool y53_2, Value.int .i64 y53_3, Value.slice y53_4.a y53_4.n y53_4.c, Value.slice y53_5.a y53_5.n y53_5.c]) (S.ev rfl) ag25 ti25 (by rw [S.heap]; exact RowL.toRow ⟨c_37, c_38, c_39, c_40, c_41, c_42, trivial⟩)) rfl rfl trivial ?_
          clear S; intro aa S
          refine ol_alloc S H ti25 rfl rfl trivial ?_
          clear S H aa; intro p8 aa ww h17 H S
          refine OL.pure S (Lf.run_assign (S.ev rfl)) rfl rfl trivial ?_
          clear S; intro aa S
          refine ol_stoA S H rfl rfl ti25 trivial ?_
          clear S H aa; intro aa ww h18 H S
          refine OL.nil ?_
          replace S := S.sub [(1, f1), (2, Value.pointer (some p2)), (4, Value.pointer (some p4)), (7, Value.int .i64 x49), (8, Value.pointer (some p8)), (47, Value.slice x47.a x47.n x47.c), (48, Value.int .i64 ((x47.n : Nat) : Int)), (49, Value.int .i64 x49)] ⟨rfl, rfl, rfl, rfl, rfl, rfl, rfl, rfl, trivial⟩
          obtain ⟨Sq_1, HS_1, H⟩ := H
          refine W.regionN [1] [5, 7] Sq_1 S (by kernel_rfl) ?_
          clear S; intro ww S
          refine BN.pure 0 S (fun _ => HS_1) rfl (by kernel_rfl) (by kernel_rfl) (fun _ => Lf.run_fa (S.ev rfl) fa25_5) rfl rfl trivial ?_
          clear S; intro aa S
          refine BN.pure 2 S (fun _ => HS_1) rfl (by kernel_rfl) (by kernel_rfl) (fun _ => Lf.run_move (S.ev rfl)) rfl rfl trivial ?_
          clear S; intro aa S
          obtain ⟨y57, y57_1, y57_2, y57_3, y57_4, y57_5, c_31, c_32, c_33, c_34, c_35, c_36, H⟩ := H
          refine BN.load 3 S (fun _ => HS_1) rfl (by kernel_rfl) (by kernel_rfl) (fun _ hx => Lf.run_ldA (cs := [Value.int .i64 y57, Value.string y57_1, Value.bool y57_2, Value.int .i64 y57_3, Value.slice y57_4.a y57_4.n y57_4.c, Value.slice y57_5.a y57_5.n y57_5.c]) (S.ev rfl) ag25 ti25 (hx.row (S.row ⟨c_31, c_32, c_33, c_34, c_35, c_36, trivial⟩))) rfl rfl trivial ?_
          clear S; intro aa S
          refine BN.pure 4 S (fun _ => HS_1) rfl (by kernel_rfl) (by kernel_rfl) (fun _ => Lf.run_move (S.ev rfl)) rfl rfl trivial ?_
          clear S; intro aa S
          obtain ⟨x55, c_30, H⟩ := H
          refine BN.held 1 S HS_1 rfl (by kernel_rfl) (fun _ hq => Lf.run_ld (S.ev rfl) fl23 (c_30 _ hq)) rfl rfl trivial ?_
          clear S; intro aa S
          refine BN.eff 5 rfl (by kernel_rfl) ?_
          refine ol_cal S H isfn14 rfl rfl trivial ?_
          clear S H aa; intro u_5 aa ww h19 H S
          obtain ⟨y59, y59_1, y59_2, y59_3, y59_4, y59_5, rfl, H⟩ := H
          refine OL.nil ?_
          clear HS_1; obtain ⟨HS_1, H⟩ := H
          refine ⟨fun _ => by rw [S.heap]; exact HS_1, ?_⟩
          obtain ⟨q60, e_10, e_11, e_12, H⟩ := H
          refine BN.pure 6 S (fun _ => HS_1) rfl (by kernel_rfl) (by kernel_rfl) (fun _ => Lf.run_ixs (S.ev rfl) (S.ev rfl) Try.underlying23 ti25 e_10 e_11 e_12) rfl rfl trivial ?_
          clear S; intro aa S
          refine BN.eff 7 rfl (by kernel_rfl) ?_
          refine ol_stoA S H rfl rfl ti25 trivial ?_
          clear S H aa; intro aa ww h20 H S
          refine OL.nil ?_
          refine ⟨noNeed (by kernel_rfl), ?_⟩
          refine BN.done (by kernel_rfl) ?_
          replace S := S.sub [(1, f1), (2, Value.pointer (some p2)), (4, Value.pointer (some p4)), (47, Value.slice x47.a x47.n x47.c), (48, Value.int .i64 ((x47.n : Nat) : Int)), (49, Value.int .i64 x49)] ⟨rfl, rfl, rfl, rfl, rfl, rfl, trivial⟩
          refine W.region ?_
          refine OL.pure S (Lf.run_add (S.ev rfl) (S.ev rfl)) rfl rfl trivial ?_
          clear S; intro aa S
          refine OL.pure S (Lf.run_move (S.ev rfl)) rfl rfl trivial ?_
          clear S; intro aa S
          refine OL.nil ?_
          exact ⟨((IntKind.i64.wrap (x49 + 1)), h20), ⟨S.sub _ ⟨rfl, rfl, rfl, rfl, rfl, rfl, trivial⟩, H.1⟩, H.2⟩
        · replace H := H.2 hb_4
          refine W.exit_ ?_
          refine xhit ?_
          refine W.seq ?_
          replace S := S.sub [(2, Value.pointer (some p2)), (4, Value.pointer (some p4))] ⟨rfl, rfl, trivial⟩
          refine W.region ?_
          obtain ⟨y62, y62_1, y62_2, y62_3, y62_4, y62_5, c_50, c_51, c_52, c_53, c_54, c_55, H⟩ := H
          refine OL.pure S (Lf.run_ldA (cs := [Value.int .i64 y62, Value.string y62_1, Value.bool y62_2, Value.int .i64 y62_3, Value.slice y62_4.a y62_4.n y62_4.c, Value.slice y62_5.a y62_5.n y62_5.c]) (S.ev rfl) ag25 ti25 (by rw [S.heap]; exact RowL.toRow ⟨c_50, c_51, c_52, c_53, c_54, c_55, trivial⟩)) rfl rfl trivial ?_
          clear S; intro aa S
          refine ol_stoA S H rfl rfl ti25 trivial ?_
          clear S H aa; intro aa ww h21 H S
          refine OL.nil ?_
          refine W.ret ?_
          obtain ⟨y_6, y_7, y_8, y_9, y_10, y_11, c_44, c_45, c_46, c_47, c_48, c_49, H⟩ := H
          exact Ret.gen S rfl (RV.cellA (cs := [Value.int .i64 y_6, Value.string y_7, Value.bool y_8, Value.int .i64 y_9, Value.slice y_10.a y_10.n y_10.c, Value.slice y_11.a y_11.n y_11.c]) rfl ag25 ti25 ⟨c_44, c_45, c_46, c_47, c_48, c_49, trivial⟩ RV.nil) rfl H

/-- chattel chattellaw07.TypesMaps$1 -/
def L15 (r0 : Int) (x1 : Addr) (x2 : Addr) (h : Heap) (R : Value → Heap → Prop) : Prop :=
  ldI .i64 h x1 fun x5 =>
  sto h x1 (Value.int .i64 (IntKind.i64.wrap (x5 + 1))) fun h1 =>
  ldI .i64 h1 x1 fun x7 =>
  ldI .i64 h1 x2 fun x8 =>
  R (Value.int .i64 (bitsI .xor .i64 x7 x8)) h1

set_option maxRecDepth 100000 in

theorem F15 {r0 x1 x2 h : _} {R : Value → Heap → Prop} (H : L15 r0 x1 x2 h R) : CallsH Try.prog 15 #[Value.int .i64 r0, Value.pointer (some x1), Value.pointer (some x2)] h R := by
  refine CallsH.enter (n := 10) Try.func15 rfl rfl rfl rfl ?_
  intro w0 aa ww S
  unfold L15 at H
  refine W.seq ?_
  replace S := S.sub [(1, Value.pointer (some x1)), (2, Value.pointer (some x2))] ⟨rfl, rfl, trivial⟩
  refine W.region ?_
  refine OL.pure S (Lf.run_assign (S.ev rfl)) rfl rfl trivial ?_
  clear S; intro aa S
  refine OL.nil ?_
  refine W.seq ?_
  replace S := S.sub [(1, Value.pointer (some x1)), (2, Value.pointer (some x2))] ⟨rfl, rfl, trivial⟩
  refine W.region ?_
  obtain ⟨x5, c, H⟩ := H
  refine OL.pure S (Lf.run_ld (S.ev rfl) fl3 (S.cl c)) rfl rfl trivial ?_
  clear S; intro aa S
  refine OL.pure S (Lf.run_add (S.ev rfl) (S.ev rfl)) rfl rfl trivial ?_
  clear S; intro aa S
  refine ol_sto S H rfl rfl rfl ti3 trivial ?_
  clear S H aa; intro aa ww h1 H S
  refine OL.nil ?_
  refine W.seq ?_
  replace S := S.sub [(1, Value.pointer (some x1)), (2, Value.pointer (some x2))] ⟨rfl, rfl, trivial⟩
  refine W.region ?_
  obtain ⟨x7, c_1, H⟩ := H
  refine OL.pure S (Lf.run_ld (S.ev rfl) fl3 (S.cl c_1)) rfl rfl trivial ?_
  clear S; intro aa S
  obtain ⟨x8, c_2, H⟩ := H
  refine OL.pure S (Lf.run_ld (S.ev rfl) fl3 (S.cl c_2)) rfl rfl trivial ?_
  clear S; intro aa S
  refine OL.pure S (Lf.run_bits (op := .xor) (by simp) (S.ev rfl) (S.ev rfl)) rfl rfl trivial ?_
  clear S; intro aa S
  refine OL.pure S (Lf.run_assign (S.ev rfl)) rfl rfl trivial ?_
  clear S; intro aa S
  refine OL.nil ?_
  refine W.ret ?_
  exact Ret.one S rfl rfl H

/-- chattel chattelref07.All -/
def L16 (x0 : Int) (x0_1 : ByteArray) (x0_2 : Bool) (x0_3 : Int) (x0_4 : Sv) (x0_5 : Sv) (h : Heap) (R : Value → Heap → Prop) : Prop :=
  new 25 #[Value.int .i64 x0, Value.string x0_1, Value.bool x0_2, Value.int .i64 x0_3, Value.slice x0_4.a x0_4.n x0_4.c, Value.slice x0_5.a x0_5.n x0_5.c] h fun p1 h1 =>
  newS 3 #[] 0 h1 fun s5 h2 =>
  ∃ (y6 : Int) (y6_1 : ByteArray) (y6_2 : Bool) (y6_3 : Int) (y6_4 : Sv) (y6_5 : Sv), cl h2 p1 = some (Value.int .i64 y6) ∧ cl h2 (p1.add 1) = some (Value.string y6_1) ∧ cl h2 (p1.add 2) = some (Value.bool y6_2) ∧ cl h2 (p1.add 3) = some (Value.int .i64 y6_3) ∧ cl h2 (p1.add 4) = some (Value.slice y6_4.a y6_4.n y6_4.c) ∧ cl h2 (p1.add 5) = some (Value.slice y6_5.a y6_5.n y6_5.c) ∧
  cal Try.prog 36 #[Value.agg #[Value.int .i64 y6, Value.string y6_1, Value.bool y6_2, Value.int .i64 y6_3, Value.slice y6_4.a y6_4.n y6_4.c, Value.slice y6_5.a y6_5.n y6_5.c]] h2 fun u h3 => asS u fun x7 =>
  appS 3 (Value.int .i64 0).cells 1 8 h3 s5 x7 fun s8 h4 =>
  ∃ (I : Sv → Int → Heap → Prop) (m : Sv → Int → Heap → Nat), I s8 0 h4 ∧ ∀ out3 i4 h5, I out3 i4 h5 →
  ldS h5 (p1.add 5) fun x11 =>
  ifb (decide (i4 < ((x11.n : Nat) : Int))) (
    ldS h5 (p1.add 5) fun x18 =>
    ixS x18 i4 fun q20 =>
    ∃ (y21 : Int) (y21_1 : ByteArray) (y21_2 : Bool) (y21_3 : Int) (y21_4 : Sv) (y21_5 : Sv), cl h5 (q20.add ((i4 : Int).toNat * 6)) = some (Value.int .i64 y21) ∧ cl h5 ((q20.add ((i4 : Int).toNat * 6)).add 1) = some (Value.string y21_1) ∧ cl h5 ((q20.add ((i4 : Int).toNat * 6)).add 2) = some (Value.bool y21_2) ∧ cl h5 ((q20.add ((i4 : Int).toNat * 6)).add 3) = some (Value.int .i64 y21_3) ∧ cl h5 ((q20.add ((i4 : Int).toNat * 6)).add 4) = some (Value.slice y21_4.a y21_4.n y21_4.c) ∧ cl h5 ((q20.add ((i4 : Int).toNat * 6)).add 5) = some (Value.slice y21_5.a y21_5.n y21_5.c) ∧
    cal Try.prog 16 #[Value.agg #[Value.int .i64 y21, Value.string y21_1, Value.bool y21_2, Value.int .i64 y21_3, Value.slice y21_4.a y21_4.n y21_4.c, Value.slice y21_5.a y21_5.n y21_5.c]] h5 fun u_1 h6 => asS u_1 fun x22 =>
    appS 3 (Value.int .i64 0).cells 1 8 h6 out3 x22 fun s23 h7 =>
    I s23 (IntKind.i64.wrap (i4 + 1)) h7 ∧ m s23 (IntKind.i64.wrap (i4 + 1)) h7 < m out3 i4 h5) (
    R (Value.slice out3.a out3.n out3.c) h5)

set_option maxRecDepth 100000 in

theorem F16 {x0 x0_1 x0_2 x0_3 x0_4 x0_5 h : _} {R : Value → Heap → Prop} (H : L16 x0 x0_1 x0_2 x0_3 x0_4 x0_5 h R) : CallsH Try.prog 16 #[Value.agg #[Value.int .i64 x0, Value.string x0_1, Value.bool x0_2, Value.int .i64 x0_3, Value.slice x0_4.a x0_4.n x0_4.c, Value.slice x0_5.a x0_5.n x0_5.c]] h R := by
  refine CallsH.enter (n := 25) Try.func16 rfl rfl rfl rfl ?_
  intro w0 aa ww S
  unfold L16 at H
  refine W.seq ?_
  replace S := S.sub [(0, Value.agg #[Value.int .i64 x0, Value.string x0_1, Value.bool x0_2, Value.int .i64 x0_3, Value.slice x0_4.a x0_4.n x0_4.c, Value.slice x0_5.a x0_5.n x0_5.c])] ⟨rfl, trivial⟩
  refine W.region ?_
  refine ol_box S H rfl rfl rfl trivial ?_
  clear S H aa; intro p1 aa ww h1 H S
  refine OL.pure S (Lf.run_assign (S.ev rfl)) rfl rfl trivial ?_
  clear S; intro aa S
  refine OL.nil ?_
  refine W.seq ?_
  replace S := S.sub [(1, Value.pointer (some p1))] ⟨rfl, trivial⟩
  refine W.region ?_
  refine ol_newS0 S H Try.underlying22 ti3 rfl rfl trivial ?_
  clear S H aa; intro s5 aa ww h2 H S
  obtain ⟨y6, y6_1, y6_2, y6_3, y6_4, y6_5, c_10, c_11, c_12, c_13, c_14, c_15, H⟩ := H
  refine OL.pure S (Lf.run_ldA (cs := [Value.int .i64 y6, Value.string y6_1, Value.bool y6_2, Value.int .i64 y6_3, Value.slice y6_4.a y6_4.n y6_4.c, Value.slice y6_5.a y6_5.n y6_5.c]) (S.ev rfl) ag25 ti25 (by rw [S.heap]; exact RowL.toRow ⟨c_10, c_11, c_12, c_13, c_14, c_15, trivial⟩)) rfl rfl trivial ?_
  clear S; intro aa S
  refine ol_cal S H isfn36 rfl rfl trivial ?_
  clear S H aa; intro u aa ww h3 H S
  obtain ⟨x7, rfl, H⟩ := H
  refine ol_appS S H Try.underlying22 ti3 rfl rfl rfl trivial ?_
  clear S H aa; intro s8 aa ww h4 H S
  refine OL.pure S (Lf.run_assign (S.ev rfl)) rfl rfl trivial ?_
  clear S; intro aa S
  refine OL.nil ?_
  refine W.seq ?_
  refine W.seq ?_
  replace S := S.sub [(1, Value.pointer (some p1)), (3, Value.slice s8.a s8.n s8.c)] ⟨rfl, rfl, trivial⟩
  refine W.region ?_
  refine OL.pure S (Lf.run_assign (S.ev rfl)) rfl rfl trivial ?_
  clear S; intro aa S
  refine OL.nil ?_
  refine W.block ?_
  obtain ⟨I, m, H, HB⟩ := H
  refine W.loopS (σ := Sv × Int × Heap) (fun s aa ww => St 25 [(1, Value.pointer (some p1)), (3, Value.slice s.1.a s.1.n s.1.c), (4, Value.int .i64 s.2.1)] s.2.2 w0 aa ww ∧ I s.1 s.2.1 s.2.2) (fun s => m s.1 s.2.1 s.2.2) (s8, 0, h4) ⟨S.sub _ ⟨rfl, rfl, rfl, trivial⟩, H⟩ ?_
  clear H S aa
  rintro ⟨out3, i4, h5⟩ aa ww ⟨S, HI⟩
  replace S : St 25 [(1, Value.pointer (some p1)), (3, Value.slice out3.a out3.n out3.c), (4, Value.int .i64 i4)] h5 w0 aa ww := S
  have H := HB out3 i4 h5 HI
  clear HI
  refine W.seq ?_
  refine W.seq ?_
  replace S := S.sub [(1, Value.pointer (some p1)), (3, Value.slice out3.a out3.n out3.c), (4, Value.int .i64 i4)] ⟨rfl, rfl, rfl, trivial⟩
  refine W.region ?_
  refine OL.pure S (Lf.run_move (S.ev rfl)) rfl rfl trivial ?_
  clear S; intro aa S
  refine OL.pure S (Lf.run_fa (S.ev rfl) fa25_5) rfl rfl trivial ?_
  clear S; intro aa S
  obtain ⟨x11, c_1, H⟩ := H
  refine OL.pure S (Lf.run_ld (S.ev rfl) fl23 (S.cl c_1)) rfl rfl trivial ?_
  clear S; intro aa S
  refine OL.pure S (Lf.run_lens (S.ev rfl) rfl Try.underlying23) rfl rfl trivial ?_
  clear S; intro aa S
  refine OL.pure S (Lf.run_lss (S.ev rfl) (S.ev rfl)) rfl rfl trivial ?_
  clear S; intro aa S
  refine OL.nil ?_
  refine W.cond S (b := (decide (i4 < ((x11.n : Nat) : Int)))) rfl (fun hb => ?_) (fun hb => ?_)
  · replace H := H.1 hb
    refine W.skip ?_
    refine W.seq ?_
    refine W.block ?_
    replace S := S.sub [(1, Value.pointer (some p1)), (3, Value.slice out3.a out3.n out3.c), (4, Value.int .i64 i4)] ⟨rfl, rfl, rfl, trivial⟩
    refine W.region ?_
    refine OL.pure S (Lf.run_move (S.ev rfl)) rfl rfl trivial ?_
    clear S; intro aa S
    refine OL.pure S (Lf.run_fa (S.ev rfl) fa25_5) rfl rfl trivial ?_
    clear S; intro aa S
    obtain ⟨x18, c_2, H⟩ := H
    refine OL.pure S (Lf.run_ld (S.ev rfl) fl23 (S.cl c_2)) rfl rfl trivial ?_
    clear S; intro aa S
    refine OL.pure S (Lf.run_move (S.ev rfl)) rfl rfl trivial ?_
    clear S; intro aa S
    obtain ⟨q20, e, e_1, e_2, H⟩ := H
    refine OL.pure S (Lf.run_ixs (S.ev rfl) (S.ev rfl) Try.underlying23 ti25 e e_1 e_2) rfl rfl trivial ?_
    clear S; intro aa S
    obtain ⟨y21, y21_1, y21_2, y21_3, y21_4, y21_5, c_4, c_5, c_6, c_7, c_8, c_9, H⟩ := H
    refine OL.pure S (Lf.run_ldA (cs := [Value.int .i64 y21, Value.string y21_1, Value.bool y21_2, Value.int .i64 y21_3, Value.slice y21_4.a y21_4.n y21_4.c, Value.slice y21_5.a y21_5.n y21_5.c]) (S.ev rfl) ag25 ti25 (by rw [S.heap]; exact RowL.toRow ⟨c_4, c_5, c_6, c_7, c_8, c_9, trivial⟩)) rfl rfl trivial ?_
    clear S; intro aa S
    refine ol_cal S H isfn16 rfl rfl trivial ?_
    clear S H aa; intro u_1 aa ww h6 H S
    obtain ⟨x22, rfl, H⟩ := H
    refine ol_appS S H Try.underlying22 ti3 rfl rfl rfl trivial ?_
    clear S H aa; intro s23 aa ww h7 H S
    refine OL.pure S (Lf.run_assign (S.ev rfl)) rfl rfl trivial ?_
    clear S; intro aa S
    refine OL.nil ?_
    replace S := S.sub [(1, Value.pointer (some p1)), (3, Value.slice s23.a s23.n s23.c), (4, Value.int .i64 i4)] ⟨rfl, rfl, rfl, trivial⟩
    refine W.region ?_
    refine OL.pure S (Lf.run_move (S.ev rfl)) rfl rfl trivial ?_
    clear S; intro aa S
    refine OL.pure S (Lf.run_add (S.ev rfl) (S.ev rfl)) rfl rfl trivial ?_
    clear S; intro aa S
    refine OL.pure S (Lf.run_assign (S.ev rfl)) rfl rfl trivial ?_
    clear S; intro aa S
    refine OL.nil ?_
    exact ⟨(s23, (IntKind.i64.wrap (i4 + 1)), h7), ⟨S.sub _ ⟨rfl, rfl, rfl, trivial⟩, H.1⟩, H.2⟩
  · replace H := H.2 hb
    refine W.exit_ ?_
    refine xhit ?_
    refine W.seq ?_
    replace S := S.sub [(3, Value.slice out3.a out3.n out3.c)] ⟨rfl, trivial⟩
    refine W.region ?_
    refine OL.pure S (Lf.run_move (S.ev rfl)) rfl rfl trivial ?_
    clear S; intro aa S
    refine OL.pure S (Lf.run_assign (S.ev rfl)) rfl rfl trivial ?_
    clear S; intro aa S
    refine OL.nil ?_
    refine W.ret ?_
    exact Ret.one S rfl rfl H

/-- chattel chattelref07.Same -/
def L17 (a0 : Int) (a0_1 : ByteArray) (a0_2 : Bool) (a0_3 : Int) (a0_4 : Sv) (a0_5 : Sv) (b1 : Int) (b1_1 : ByteArray) (b1_2 : Bool) (b1_3 : Int) (b1_4 : Sv) (b1_5 : Sv) (h : Heap) (R : Value → Heap → Prop) : Prop :=
  new 25 #[Value.int .i64 a0, Value.string a0_1, Value.bool a0_2, Value.int .i64 a0_3, Value.slice a0_4.a a0_4.n a0_4.c, Value.slice a0_5.a a0_5.n a0_5.c] h fun p2 h1 =>
  new 25 #[Value.int .i64 b1, Value.string b1_1, Value.bool b1_2, Value.int .i64 b1_3, Value.slice b1_4.a b1_4.n b1_4.c, Value.slice b1_5.a b1_5.n b1_5.c] h1 fun p3 h2 =>
  ∃ J : Bool → Heap → Prop, (
    ∃ Sq : Heap → Prop, Sq h2 ∧ (
      ldI .i64 h2 p2 fun x7 =>
      ldI .i64 h2 p3 fun x9 =>
      ifb (x7 != x9) (
        J true h2) (
        ldT h2 (p2.add 1) fun x13 =>
        ldT h2 (p3.add 1) fun x15 =>
        ifb (x13.toList != x15.toList) (
          J true h2) (
          ldB h2 (p2.add 2) fun x20 =>
          ldB h2 (p3.add 2) fun x22 =>
          ifb (x20 != x22) (
            J true h2) (
            hlS Sq (p2.add 5) fun x27 =>
            ldS h2 (p3.add 5) fun x30 =>
            ifb (((x27.n : Nat) : Int) != ((x30.n : Nat) : Int)) (
              J true h2) (
              ∃ (y35 : Int) (y35_1 : ByteArray) (y35_2 : Bool) (y35_3 : Int) (y35_4 : Sv) (y35_5 : Sv), cl h2 p2 = some (Value.int .i64 y35) ∧ cl h2 (p2.add 1) = some (Value.string y35_1) ∧ cl h2 (p2.add 2) = some (Value.bool y35_2) ∧ cl h2 (p2.add 3) = some (Value.int .i64 y35_3) ∧ cl h2 (p2.add 4) = some (Value.slice y35_4.a y35_4.n y35_4.c) ∧ cl h2 (p2.add 5) = some (Value.slice y35_5.a y35_5.n y35_5.c) ∧
              ∃ (y38 : Int) (y38_1 : ByteArray) (y38_2 : Bool) (y38_3 : Int) (y38_4 : Sv) (y38_5 : Sv), hld Sq p3 (Value.int .i64 y38) ∧ hld Sq (p3.add 1) (Value.string y38_1) ∧ hld Sq (p3.add 2) (Value.bool y38_2) ∧ hld Sq (p3.add 3) (Value.int .i64 y38_3) ∧ hld Sq (p3.add 4) (Value.slice y38_4.a y38_4.n y38_4.c) ∧ hld Sq (p3.add 5) (Value.slice y38_5.a y38_5.n y38_5.c) ∧
              cal Try.prog 36 #[Value.agg #[Value.int .i64 y35, Value.string y35_1, Value.bool y35_2, Value.int .i64 y35_3, Value.slice y35_4.a y35_4.n y35_4.c, Value.slice y35_5.a y35_5.n y35_5.c]] h2 fun u h3 => asS u fun x36 =>
              Sq h3 ∧
              cal Try.prog 36 #[Value.agg #[Value.int .i64 y38, Value.string y38_1, Value.bool y38_2, Value.int .i64 y38_3, Value.slice y38_4.a y38_4.n y38_4.c, Value.slice y38_5.a y38_5.n y38_5.c]] h3 fun u_1 h4 => asS u_1 fun x39 =>
              J (((x36.n : Nat) : Int) != ((x39.n : Nat) : Int)) h4)))))) ∧ (∀ x42 h5, J x42 h5 →
  ifb x42 (
    R (Value.bool false) h5) (
    ∃ (I : Int → Heap → Prop) (m : Int → Heap → Nat), I 0 h5 ∧ ∀ i5 h6, I i5 h6 →
    ldS h6 (p2.add 5) fun x45 =>
    ifb (decide (i5 < ((x45.n : Nat) : Int))) (
      ldS h6 (p2.add 5) fun x51 =>
      ixS x51 i5 fun q53 =>
      ∃ (y54 : Int) (y54_1 : ByteArray) (y54_2 : Bool) (y54_3 : Int) (y54_4 : Sv) (y54_5 : Sv), cl h6 (q53.add ((i5 : Int).toNat * 6)) = some (Value.int .i64 y54) ∧ cl h6 ((q53.add ((i5 : Int).toNat * 6)).add 1) = some (Value.string y54_1) ∧ cl h6 ((q53.add ((i5 : Int).toNat * 6)).add 2) = some (Value.bool y54_2) ∧ cl h6 ((q53.add ((i5 : Int).toNat * 6)).add 3) = some (Value.int .i64 y54_3) ∧ cl h6 ((q53.add ((i5 : Int).toNat * 6)).add 4) = some (Value.slice y54_4.a y54_4.n y54_4.c) ∧ cl h6 ((q53.add ((i5 : Int).toNat * 6)).add 5) = some (Value.slice y54_5.a y54_5.n y54_5.c) ∧
      ldS h6 (p3.add 5) fun x56 =>
      ixS x56 i5 fun q58 =>
      ∃ (y59 : Int) (y59_1 : ByteArray) (y59_2 : Bool) (y59_3 : Int) (y59_4 : Sv) (y59_5 : Sv), cl h6 (q58.add ((i5 : Int).toNat * 6)) = some (Value.int .i64 y59) ∧ cl h6 ((q58.add ((i5 : Int).toNat * 6)).add 1) = some (Value.string y59_1) ∧ cl h6 ((q58.add ((i5 : Int).toNat * 6)).add 2) = some (Value.bool y59_2) ∧ cl h6 ((q58.add ((i5 : Int).toNat * 6)).add 3) = some (Value.int .i64 y59_3) ∧ cl h6 ((q58.add ((i5 : Int).toNat * 6)).add 4) = some (Value.slice y59_4.a y59_4.n y59_4.c) ∧ cl h6 ((q58.add ((i5 : Int).toNat * 6)).add 5) = some (Value.slice y59_5.a y59_5.n y59_5.c) ∧
      cal Try.prog 17 #[Value.agg #[Value.int .i64 y54, Value.string y54_1, Value.bool y54_2, Value.int .i64 y54_3, Value.slice y54_4.a y54_4.n y54_4.c, Value.slice y54_5.a y54_5.n y54_5.c], Value.agg #[Value.int .i64 y59, Value.string y59_1, Value.bool y59_2, Value.int .i64 y59_3, Value.slice y59_4.a y59_4.n y59_4.c, Value.slice y59_5.a y59_5.n y59_5.c]] h6 fun u_2 h7 => asB u_2 fun x60 =>
      ifb (!x60) (
        R (Value.bool false) h7) (
        I (IntKind.i64.wrap (i5 + 1)) h7 ∧ m (IntKind.i64.wrap (i5 + 1)) h7 < m i5 h6)) (
      R (Value.bool true) h6)))

set_option maxRecDepth 100000 in

theorem F17 {a0 a0_1 a0_2 a0_3 a0_4 a0_5 b1 b1_1 b1_2 b1_3 b1_4 b1_5 h : _} {R : Value → Heap → Prop} (H : L17 a0 a0_1 a0_2 a0_3 a0_4 a0_5 b1 b1_1 b1_2 b1_3 b1_4 b1_5 h R) : CallsH Try.prog 17 #[Value.agg #[Value.int .i64 a0, Value.string a0_1, Value.bool a0_2, Value.int .i64 a0_3, Value.slice a0_4.a a0_4.n a0_4.c, Value.slice a0_5.a a0_5.n a0_5.c], Value.agg #[Value.int .i64 b1, Value.string b1_1, Value.bool b1_2, Value.int .i64 b1_3, Value.slice b1_4.a b1_4.n b1_4.c, Value.slice b1_5.a b1_5.n b1_5.c]] h R := by
  refine CallsH.enter (n := 62) Try.func17 rfl rfl rfl rfl ?_
  intro w0 aa ww S
  unfold L17 at H
  refine W.seq ?_
  replace S := S.sub [(0, Value.agg #[Value.int .i64 a0, Value.string a0_1, Value.bool a0_2, Value.int .i64 a0_3, Value.slice a0_4.a a0_4.n a0_4.c, Value.slice a0_5.a a0_5.n a0_5.c]), (1, Value.agg #[Value.int .i64 b1, Value.string b1_1, Value.bool b1_2, Value.int .i64 b1_3, Value.slice b1_4.a b1_4.n b1_4.c, Value.slice b1_5.a b1_5.n b1_5.c])] ⟨rfl, rfl, trivial⟩
  refine W.region ?_
  refine ol_box S H rfl rfl rfl trivial ?_
  clear S H aa; intro p2 aa ww h1 H S
  refine ol_box S H rfl rfl rfl trivial ?_
  clear S H aa; intro p3 aa ww h2 H S
  refine OL.pure S (Lf.run_assign (S.ev rfl)) rfl rfl trivial ?_
  clear S; intro aa S
  refine OL.nil ?_
  refine W.seq ?_
  refine W.seq ?_
  replace S := S.sub [(2, Value.pointer (some p2)), (3, Value.pointer (some p3))] ⟨rfl, rfl, trivial⟩
  obtain ⟨J, H, HK⟩ := H
  refine W.mono (N' := fun aa ww => ∃ x42 h5, St 62 [(2, Value.pointer (some p2)), (3, Value.pointer (some p3)), (42, Value.bool x42)] h5 w0 aa ww ∧ J x42 h5) ?_ ?_
  · obtain ⟨Sq, HS, H⟩ := H
    refine W.regionN [21, 32] [30, 33] Sq S (by kernel_rfl) ?_
    clear S; intro ww S
    refine BN.pure 0 S (fun _ => HS) rfl (by kernel_rfl) (by kernel_rfl) (fun _ => Lf.run_fa (S.ev rfl) fa25_0) rfl rfl trivial ?_
    clear S; intro aa S
    obtain ⟨x7, c, H⟩ := H
    refine BN.load 1 S (fun _ => HS) rfl (by kernel_rfl) (by kernel_rfl) (fun _ hx => Lf.run_ld (S.ev rfl) fl3 (hx.cell _ _ (S.cl c))) rfl rfl trivial ?_
    clear S; intro aa S
    refine BN.pure 2 S (fun _ => HS) rfl (by kernel_rfl) (by kernel_rfl) (fun _ => Lf.run_fa (S.ev rfl) fa25_0) rfl rfl trivial ?_
    clear S; intro aa S
    obtain ⟨x9, c_1, H⟩ := H
    refine BN.load 3 S (fun _ => HS) rfl (by kernel_rfl) (by kernel_rfl) (fun _ hx => Lf.run_ld (S.ev rfl) fl3 (hx.cell _ _ (S.cl c_1))) rfl rfl trivial ?_
    clear S; intro aa S
    refine BN.pure 4 S (fun _ => HS) rfl (by kernel_rfl) (by kernel_rfl) (fun _ => Lf.run_neq (S.ev rfl) (S.ev rfl)) rfl rfl trivial ?_
    clear S; intro aa S
    refine BN.pure 5 S (fun _ => HS) rfl (by kernel_rfl) (by kernel_rfl) (fun _ => Lf.run_move (S.ev rfl)) rfl rfl trivial ?_
    clear S; intro aa S
    rcases Bool.eq_false_or_eq_true (x7 != x9) with hb | hb
    · replace H := H.1 hb
      refine BN.not 6 S (fun _ => HS) rfl (by kernel_rfl) (by kernel_rfl) rfl rfl (GNo.mk rfl rfl hb) ?_
      clear S; intro aa S
      refine BN.not 7 S (fun _ => HS) rfl (by kernel_rfl) (by kernel_rfl) rfl rfl (GNo.mk rfl rfl hb) ?_
      clear S; intro aa S
      refine BN.not 8 S (fun _ => HS) rfl (by kernel_rfl) (by kernel_rfl) rfl rfl (GNo.mk rfl rfl hb) ?_
      clear S; intro aa S
      refine BN.not 9 S (fun _ => HS) rfl (by kernel_rfl) (by kernel_rfl) rfl rfl (GNo.mk rfl rfl hb) ?_
      clear S; intro aa S
      refine BN.not 10 S (fun _ => HS) rfl (by kernel_rfl) (by kernel_rfl) rfl rfl (GNo.mk rfl rfl hb) ?_
      clear S; intro aa S
      refine BN.pure 11 S (fun _ => HS) rfl (by kernel_rfl) (by kernel_rfl) (fun _ => run_pickT (S.ev rfl) hb (S.ev rfl)) rfl rfl trivial ?_
      clear S; intro aa S
      refine BN.pure 12 S (fun _ => HS) rfl (by kernel_rfl) (by kernel_rfl) (fun _ => Lf.run_move (S.ev rfl)) rfl rfl trivial ?_
      clear S; intro aa S
      have hb_7 : (true : Bool) = true := rfl
      refine BN.not 13 S (fun _ => HS) rfl (by kernel_rfl) (by kernel_rfl) rfl rfl (GNo.mk rfl rfl hb_7) ?_
      clear S; intro aa S
      refine BN.not 14 S (fun _ => HS) rfl (by kernel_rfl) (by kernel_rfl) rfl rfl (GNo.mk rfl rfl hb_7) ?_
      clear S; intro aa S
      refine BN.not 15 S (fun _ => HS) rfl (by kernel_rfl) (by kernel_rfl) rfl rfl (GNo.mk rfl rfl hb_7) ?_
      clear S; intro aa S
      refine BN.not 16 S (fun _ => HS) rfl (by kernel_rfl) (by kernel_rfl) rfl rfl (GNo.mk rfl rfl hb_7) ?_
      clear S; intro aa S
      refine BN.not 17 S (fun _ => HS) rfl (by kernel_rfl) (by kernel_rfl) rfl rfl (GNo.mk rfl rfl hb_7) ?_
      clear S; intro aa S
      refine BN.pure 18 S (fun _ => HS) rfl (by kernel_rfl) (by kernel_rfl) (fun _ => run_pickT (S.ev rfl) hb_7 (S.ev rfl)) rfl rfl trivial ?_
      clear S; intro aa S
      refine BN.pure 19 S (fun _ => HS) rfl (by kernel_rfl) (by kernel_rfl) (fun _ => Lf.run_move (S.ev rfl)) rfl rfl trivial ?_
      clear S; intro aa S
      have hb_8 : (true : Bool) = true := rfl
      refine BN.not 20 S (fun _ => HS) rfl (by kernel_rfl) (by kernel_rfl) rfl rfl (GNo.mk rfl rfl hb_8) ?_
      clear S; intro aa S
      refine BN.not 21 S (fun _ => HS) rfl (by kernel_rfl) (by kernel_rfl) rfl rfl (GNo.mk rfl rfl hb_8) ?_
      clear S; intro aa S
      refine BN.not 22 S (fun _ => HS) rfl (by kernel_rfl) (by kernel_rfl) rfl rfl (GNo.mk rfl rfl hb_8) ?_
      clear S; intro aa S
      refine BN.not 23 S (fun _ => HS) rfl (by kernel_rfl) (by kernel_rfl) rfl rfl (GNo.mk rfl rfl hb_8) ?_
      clear S; intro aa S
      refine BN.not 24 S (fun _ => HS) rfl (by kernel_rfl) (by kernel_rfl) rfl rfl (GNo.mk rfl rfl hb_8) ?_
      clear S; intro aa S
      refine BN.not 25 S (fun _ => HS) rfl (by kernel_rfl) (by kernel_rfl) rfl rfl (GNo.mk rfl rfl hb_8) ?_
      clear S; intro aa S
      refine BN.not 26 S (fun _ => HS) rfl (by kernel_rfl) (by kernel_rfl) rfl rfl (GNo.mk rfl rfl hb_8) ?_
      clear S; intro aa S
      refine BN.pure 27 S (fun _ => HS) rfl (by kernel_rfl) (by kernel_rfl) (fun _ => run_pickT (S.ev rfl) hb_8 (S.ev rfl)) rfl rfl trivial ?_
      clear S; intro aa S
      refine BN.pure 28 S (fun _ => HS) rfl (by kernel_rfl) (by kernel_rfl) (fun _ => Lf.run_move (S.ev rfl)) rfl rfl trivial ?_
      clear S; intro aa S
      have hb_9 : (true : Bool) = true := rfl
      refine BN.not 29 S (fun _ => HS) rfl (by kernel_rfl) (by kernel_rfl) rfl rfl (GNo.mk rfl rfl hb_9) ?_
      clear S; intro aa S
      refine BN.not 32 S (fun _ => HS) rfl (by kernel_rfl) (by kernel_rfl) rfl rfl (GNo.mk rfl rfl hb_9) ?_
      clear S; intro aa S
      refine BN.eff 30 rfl (by kernel_rfl) ?_
      refine OL.not S rfl rfl (GNo.mk rfl rfl hb_9) ?_
      clear S; intro aa S
      refine OL.nil ?_
      refine ⟨fun _ => by rw [S.heap]; exact HS, ?_⟩
      refine BN.not 31 S (fun _ => HS) rfl (by kernel_rfl) (by kernel_rfl) rfl rfl (GNo.mk rfl rfl hb_9) ?_
      clear S; intro aa S
      refine BN.eff 33 rfl (by kernel_rfl) ?_
      refine OL.not S rfl rfl (GNo.mk rfl rfl hb_9) ?_
      clear S; intro aa S
      refine OL.nil ?_
      refine ⟨noNeed (by kernel_rfl), ?_⟩
      refine BN.not 34 S (noNeed (by kernel_rfl)) rfl (by kernel_rfl) (by kernel_rfl) rfl rfl (GNo.mk rfl rfl hb_9) ?_
      clear S; intro aa S
      refine BN.not 35 S (noNeed (by kernel_rfl)) rfl (by kernel_rfl) (by kernel_rfl) rfl rfl (GNo.mk rfl rfl hb_9) ?_
      clear S; intro aa S
      refine BN.pure 36 S (noNeed (by kernel_rfl)) rfl (by kernel_rfl) (by kernel_rfl) (fun _ => run_pickT (S.ev rfl) hb_9 (S.ev rfl)) rfl rfl trivial ?_
      clear S; intro aa S
      refine BN.done (by kernel_rfl) ?_
      exact ⟨true, h2, S.sub _ ⟨rfl, rfl, rfl, trivial⟩, H⟩
    · replace H := H.2 hb
      refine BN.pure 6 S (fun _ => HS) rfl (by kernel_rfl) (by kernel_rfl) (fun _ => Lf.run_fa (S.ev rfl) fa25_1) rfl rfl (GOk.mk rfl rfl hb) ?_
      clear S; intro aa S
      obtain ⟨x13, c_2, H⟩ := H
      refine BN.load 7 S (fun _ => HS) rfl (by kernel_rfl) (by kernel_rfl) (fun _ hx => Lf.run_ld (S.ev rfl) fl9 (hx.cell _ _ (S.cl c_2))) rfl rfl (GOk.mk rfl rfl hb) ?_
      clear S; intro aa S
      refine BN.pure 8 S (fun _ => HS) rfl (by kernel_rfl) (by kernel_rfl) (fun _ => Lf.run_fa (S.ev rfl) fa25_1) rfl rfl (GOk.mk rfl rfl hb) ?_
      clear S; intro aa S
      obtain ⟨x15, c_3, H⟩ := H
      refine BN.load 9 S (fun _ => HS) rfl (by kernel_rfl) (by kernel_rfl) (fun _ hx => Lf.run_ld (S.ev rfl) fl9 (hx.cell _ _ (S.cl c_3))) rfl rfl (GOk.mk rfl rfl hb) ?_
      clear S; intro aa S
      refine BN.pure 10 S (fun _ => HS) rfl (by kernel_rfl) (by kernel_rfl) (fun _ => Lf.run_neqt (S.ev rfl) (S.ev rfl)) rfl rfl (GOk.mk rfl rfl hb) ?_
      clear S; intro aa S
      refine BN.pure 11 S (fun _ => HS) rfl (by kernel_rfl) (by kernel_rfl) (fun _ => run_pickF (S.ev rfl) hb (S.ev rfl)) rfl rfl trivial ?_
      clear S; intro aa S
      refine BN.pure 12 S (fun _ => HS) rfl (by kernel_rfl) (by kernel_rfl) (fun _ => Lf.run_move (S.ev rfl)) rfl rfl trivial ?_
      clear S; intro aa S
      rcases Bool.eq_false_or_eq_true (x13.toList != x15.toList) with hb_1 | hb_1
      · replace H := H.1 hb_1
        refine BN.not 13 S (fun _ => HS) rfl (by kernel_rfl) (by kernel_rfl) rfl rfl (GNo.mk rfl rfl hb_1) ?_
        clear S; intro aa S
        refine BN.not 14 S (fun _ => HS) rfl (by kernel_rfl) (by kernel_rfl) rfl rfl (GNo.mk rfl rfl hb_1) ?_
        clear S; intro aa S
        refine BN.not 15 S (fun _ => HS) rfl (by kernel_rfl) (by kernel_rfl) rfl rfl (GNo.mk rfl rfl hb_1) ?_
        clear S; intro aa S
        refine BN.not 16 S (fun _ => HS) rfl (by kernel_rfl) (by kernel_rfl) rfl rfl (GNo.mk rfl rfl hb_1) ?_
        clear S; intro aa S
        refine BN.not 17 S (fun _ => HS) rfl (by kernel_rfl) (by kernel_rfl) rfl rfl (GNo.mk rfl rfl hb_1) ?_
        clear S; intro aa S
        refine BN.pure 18 S (fun _ => HS) rfl (by kernel_rfl) (by kernel_rfl) (fun _ => run_pickT (S.ev rfl) hb_1 (S.ev rfl)) rfl rfl trivial ?_
        clear S; intro aa S
        refine BN.pure 19 S (fun _ => HS) rfl (by kernel_rfl) (by kernel_rfl) (fun _ => Lf.run_move (S.ev rfl)) rfl rfl trivial ?_
        clear S; intro aa S
        have hb_5 : (true : Bool) = true := rfl
        refine BN.not 20 S (fun _ => HS) rfl (by kernel_rfl) (by kernel_rfl) rfl rfl (GNo.mk rfl rfl hb_5) ?_
        clear S; intro aa S
        refine BN.not 21 S (fun _ => HS) rfl (by kernel_rfl) (by kernel_rfl) rfl rfl (GNo.mk rfl rfl hb_5) ?_
        clear S; intro aa S
        refine BN.not 22 S (fun _ => HS) rfl (by kernel_rfl) (by kernel_rfl) rfl rfl (GNo.mk rfl rfl hb_5) ?_
        clear S; intro aa S
        refine BN.not 23 S (fun _ => HS) rfl (by kernel_rfl) (by kernel_rfl) rfl rfl (GNo.mk rfl rfl hb_5) ?_
        clear S; intro aa S
        refine BN.not 24 S (fun _ => HS) rfl (by kernel_rfl) (by kernel_rfl) rfl rfl (GNo.mk rfl rfl hb_5) ?_
        clear S; intro aa S
        refine BN.not 25 S (fun _ => HS) rfl (by kernel_rfl) (by kernel_rfl) rfl rfl (GNo.mk rfl rfl hb_5) ?_
        clear S; intro aa S
        refine BN.not 26 S (fun _ => HS) rfl (by kernel_rfl) (by kernel_rfl) rfl rfl (GNo.mk rfl rfl hb_5) ?_
        clear S; intro aa S
        refine BN.pure 27 S (fun _ => HS) rfl (by kernel_rfl) (by kernel_rfl) (fun _ => run_pickT (S.ev rfl) hb_5 (S.ev rfl)) rfl rfl trivial ?_
        clear S; intro aa S
        refine BN.pure 28 S (fun _ => HS) rfl (by kernel_rfl) (by kernel_rfl) (fun _ => Lf.run_move (S.ev rfl)) rfl rfl trivial ?_
        clear S; intro aa S
        have hb_6 : (true : Bool) = true := rfl
        refine BN.not 29 S (fun _ => HS) rfl (by kernel_rfl) (by kernel_rfl) rfl rfl (GNo.mk rfl rfl hb_6) ?_
        clear S; intro aa S
        refine BN.not 32 S (fun _ => HS) rfl (by kernel_rfl) (by kernel_rfl) rfl rfl (GNo.mk rfl rfl hb_6) ?_
        clear S; intro aa S
        refine BN.eff 30 rfl (by kernel_rfl) ?_
        refine OL.not S rfl rfl (GNo.mk rfl rfl hb_6) ?_
        clear S; intro aa S
        refine OL.nil ?_
        refine ⟨fun _ => by rw [S.heap]; exact HS, ?_⟩
        refine BN.not 31 S (fun _ => HS) rfl (by kernel_rfl) (by kernel_rfl) rfl rfl (GNo.mk rfl rfl hb_6) ?_
        clear S; intro aa S
        refine BN.eff 33 rfl (by kernel_rfl) ?_
        refine OL.not S rfl rfl (GNo.mk rfl rfl hb_6) ?_
        clear S; intro aa S
        refine OL.nil ?_
        refine ⟨noNeed (by kernel_rfl), ?_⟩
        refine BN.not 34 S (noNeed (by kernel_rfl)) rfl (by kernel_rfl) (by kernel_rfl) rfl rfl (GNo.mk rfl rfl hb_6) ?_
        clear S; intro aa S
        refine BN.not 35 S (noNeed (by kernel_rfl)) rfl (by kernel_rfl) (by kernel_rfl) rfl rfl (GNo.mk rfl rfl hb_6) ?_
        clear S; intro aa S
        refine BN.pure 36 S (noNeed (by kernel_rfl)) rfl (by kernel_rfl) (by kernel_rfl) (fun _ => run_pickT (S.ev rfl) hb_6 (S.ev rfl)) rfl rfl trivial ?_
        clear S; intro aa S
        refine BN.done (by kernel_rfl) ?_
        exact ⟨true, h2, S.sub _ ⟨rfl, rfl, rfl, trivial⟩, H⟩
      · replace H := H.2 hb_1
        refine BN.pure 13 S (fun _ => HS) rfl (by kernel_rfl) (by kernel_rfl) (fun _ => Lf.run_fa (S.ev rfl) fa25_2) rfl rfl (GOk.mk rfl rfl hb_1) ?_
        clear S; intro aa S
        obtain ⟨x20, c_4, H⟩ := H
        refine BN.load 14 S (fun _ => HS) rfl (by kernel_rfl) (by kernel_rfl) (fun _ hx => Lf.run_ld (S.ev rfl) fl4 (hx.cell _ _ (S.cl c_4))) rfl rfl (GOk.mk rfl rfl hb_1) ?_
        clear S; intro aa S
        refine BN.pure 15 S (fun _ => HS) rfl (by kernel_rfl) (by kernel_rfl) (fun _ => Lf.run_fa (S.ev rfl) fa25_2) rfl rfl (GOk.mk rfl rfl hb_1) ?_
        clear S; intro aa S
        obtain ⟨x22, c_5, H⟩ := H
        refine BN.load 16 S (fun _ => HS) rfl (by kernel_rfl) (by kernel_rfl) (fun _ hx => Lf.run_ld (S.ev rfl) fl4 (hx.cell _ _ (S.cl c_5))) rfl rfl (GOk.mk rfl rfl hb_1) ?_
        clear S; intro aa S
        refine BN.pure 17 S (fun _ => HS) rfl (by kernel_rfl) (by kernel_rfl) (fun _ => Lf.run_neqb Try.underlying4 (S.ev rfl) (S.ev rfl)) rfl rfl (GOk.mk rfl rfl hb_1) ?_
        clear S; intro aa S
        refine BN.pure 18 S (fun _ => HS) rfl (by kernel_rfl) (by kernel_rfl) (fun _ => run_pickF (S.ev rfl) hb_1 (S.ev rfl)) rfl rfl trivial ?_
        clear S; intro aa S
        refine BN.pure 19 S (fun _ => HS) rfl (by kernel_rfl) (by kernel_rfl) (fun _ => Lf.run_move (S.ev rfl)) rfl rfl trivial ?_
        clear S; intro aa S
        rcases Bool.eq_false_or_eq_true (x20 != x22) with hb_2 | hb_2
        · replace H := H.1 hb_2
          refine BN.not 20 S (fun _ => HS) rfl (by kernel_rfl) (by kernel_rfl) rfl rfl (GNo.mk rfl rfl hb_2) ?_
          clear S; intro aa S
          refine BN.not 21 S (fun _ => HS) rfl (by kernel_rfl) (by kernel_rfl) rfl rfl (GNo.mk rfl rfl hb_2) ?_
          clear S; intro aa S
          refine BN.not 22 S (fun _ => HS) rfl (by kernel_rfl) (by kernel_rfl) rfl rfl (GNo.mk rfl rfl hb_2) ?_
          clear S; intro aa S
          refine BN.not 23 S (fun _ => HS) rfl (by kernel_rfl) (by kernel_rfl) rfl rfl (GNo.mk rfl rfl hb_2) ?_
          clear S; intro aa S
          refine BN.not 24 S (fun _ => HS) rfl (by kernel_rfl) (by kernel_rfl) rfl rfl (GNo.mk rfl rfl hb_2) ?_
          clear S; intro aa S
          refine BN.not 25 S (fun _ => HS) rfl (by kernel_rfl) (by kernel_rfl) rfl rfl (GNo.mk rfl rfl hb_2) ?_
          clear S; intro aa S
          refine BN.not 26 S (fun _ => HS) rfl (by kernel_rfl) (by kernel_rfl) rfl rfl (GNo.mk rfl rfl hb_2) ?_
          clear S; intro aa S
          refine BN.pure 27 S (fun _ => HS) rfl (by kernel_rfl) (by kernel_rfl) (fun _ => run_pickT (S.ev rfl) hb_2 (S.ev rfl)) rfl rfl trivial ?_
          clear S; intro aa S
          refine BN.pure 28 S (fun _ => HS) rfl (by kernel_rfl) (by kernel_rfl) (fun _ => Lf.run_move (S.ev rfl)) rfl rfl trivial ?_
          clear S; intro aa S
          have hb_4 : (true : Bool) = true := rfl
          refine BN.not 29 S (fun _ => HS) rfl (by kernel_rfl) (by kernel_rfl) rfl rfl (GNo.mk rfl rfl hb_4) ?_
          clear S; intro aa S
          refine BN.not 32 S (fun _ => HS) rfl (by kernel_rfl) (by kernel_rfl) rfl rfl (GNo.mk rfl rfl hb_4) ?_
          clear S; intro aa S
          refine BN.eff 30 rfl (by kernel_rfl) ?_
          refine OL.not S rfl rfl (GNo.mk rfl rfl hb_4) ?_
          clear S; intro aa S
          refine OL.nil ?_
          refine ⟨fun _ => by rw [S.heap]; exact HS, ?_⟩
          refine BN.not 31 S (fun _ => HS) rfl (by kernel_rfl) (by kernel_rfl) rfl rfl (GNo.mk rfl rfl hb_4) ?_
          clear S; intro aa S
          refine BN.eff 33 rfl (by kernel_rfl) ?_
          refine OL.not S rfl rfl (GNo.mk rfl rfl hb_4) ?_
          clear S; intro aa S
          refine OL.nil ?_
          refine ⟨noNeed (by kernel_rfl), ?_⟩
          refine BN.not 34 S (noNeed (by kernel_rfl)) rfl (by kernel_rfl) (by kernel_rfl) rfl rfl (GNo.mk rfl rfl hb_4) ?_
          clear S; intro aa S
          refine BN.not 35 S (noNeed (by kernel_rfl)) rfl (by kernel_rfl) (by kernel_rfl) rfl rfl (GNo.mk rfl rfl hb_4) ?_
          clear S; intro aa S
          refine BN.pure 36 S (noNeed (by kernel_rfl)) rfl (by kernel_rfl) (by kernel_rfl) (fun _ => run_pickT (S.ev rfl) hb_4 (S.ev rfl)) rfl rfl trivial ?_
          clear S; intro aa S
          refine BN.done (by kernel_rfl) ?_
          exact ⟨true, h2, S.sub _ ⟨rfl, rfl, rfl, trivial⟩, H⟩
        · replace H := H.2 hb_2
          refine BN.pure 20 S (fun _ => HS) rfl (by kernel_rfl) (by kernel_rfl) (fun _ => Lf.run_fa (S.ev rfl) fa25_5) rfl rfl (GOk.mk rfl rfl hb_2) ?_
          clear S; intro aa S
          refine BN.pure 23 S (fun _ => HS) rfl (by kernel_rfl) (by kernel_rfl) (fun _ => Lf.run_fa (S.ev rfl) fa25_5) rfl rfl (GOk.mk rfl rfl hb_2) ?_
          clear S; intro aa S
          obtain ⟨x27, c_6, H⟩ := H
          refine BN.held 21 S HS rfl (by kernel_rfl) (fun _ hq => Lf.run_ld (S.ev rfl) fl23 (c_6 _ hq)) rfl rfl (GOk.mk rfl rfl hb_2) ?_
          clear S; intro aa S
          refine BN.pure 22 S (fun _ => HS) rfl (by kernel_rfl) (by kernel_rfl) (fun _ => Lf.run_lens (S.ev rfl) rfl Try.underlying23) rfl rfl (GOk.mk rfl rfl hb_2) ?_
          clear S; intro aa S
          obtain ⟨x30, c_7, H⟩ := H
          refine BN.load 24 S (fun _ => HS) rfl (by kernel_rfl) (by kernel_rfl) (fun _ hx => Lf.run_ld (S.ev rfl) fl23 (hx.cell _ _ (S.cl c_7))) rfl rfl (GOk.mk rfl rfl hb_2) ?_
          clear S; intro aa S
          refine BN.pure 25 S (fun _ => HS) rfl (by kernel_rfl) (by kernel_rfl) (fun _ => Lf.run_lens (S.ev rfl) rfl Try.underlying23) rfl rfl (GOk.mk rfl rfl hb_2) ?_
          clear S; intro aa S
          refine BN.pure 26 S (fun _ => HS) rfl (by kernel_rfl) (by kernel_rfl) (fun _ => Lf.run_neq (S.ev rfl) (S.ev rfl)) rfl rfl (GOk.mk rfl rfl hb_2) ?_
          clear S; intro aa S
          refine BN.pure 27 S (fun _ => HS) rfl (by kernel_rfl) (by kernel_rfl) (fun _ => run_pickF (S.ev rfl) hb_2 (S.ev rfl)) rfl rfl trivial ?_
          clear S; intro aa S
          refine BN.pure 28 S (fun _ => HS) rfl (by kernel_rfl) (by kernel_rfl) (fun _ => Lf.run_move (S.ev rfl)) rfl rfl trivial ?_
          clear S; intro aa S
          rcases Bool.eq_false_or_eq_true (((x27.n : Nat) : Int) != ((x30.n : Nat) : Int)) with hb_3 | hb_3
          · replace H := H.1 hb_3
            refine BN.not 29 S (fun _ => HS) rfl (by kernel_rfl) (by kernel_rfl) rfl rfl (GNo.mk rfl rfl hb_3) ?_
            clear S; intro aa S
            refine BN.not 32 S (fun _ => HS) rfl (by kernel_rfl) (by kernel_rfl) rfl rfl (GNo.mk rfl rfl hb_3) ?_
            clear S; intro aa S
            refine BN.eff 30 rfl (by kernel_rfl) ?_
            refine OL.not S rfl rfl (GNo.mk rfl rfl hb_3) ?_
            clear S; intro aa S
            refine OL.nil ?_
            refine ⟨fun _ => by rw [S.heap]; exact HS, ?_⟩
            refine BN.not 31 S (fun _ => HS) rfl (by kernel_rfl) (by kernel_rfl) rfl rfl (GNo.mk rfl rfl hb_3) ?_
            clear S; intro aa S
            refine BN.eff 33 rfl (by kernel_rfl) ?_
            refine OL.not S rfl rfl (GNo.mk rfl rfl hb_3) ?_
            clear S; intro aa S
            refine OL.nil ?_
            refine ⟨noNeed (by kernel_rfl), ?_⟩
            refine BN.not 34 S (noNeed (by kernel_rfl)) rfl (by kernel_rfl) (by kernel_rfl) rfl rfl (GNo.mk rfl rfl hb_3) ?_
            clear S; intro aa S
            refine BN.not 35 S (noNeed (by kernel_rfl)) rfl (by kernel_rfl) (by kernel_rfl) rfl rfl (GNo.mk rfl rfl hb_3) ?_
            clear S; intro aa S
            refine BN.pure 36 S (noNeed (by kernel_rfl)) rfl (by kernel_rfl) (by kernel_rfl) (fun _ => run_pickT (S.ev rfl) hb_3 (S.ev rfl)) rfl rfl trivial ?_
            clear S; intro aa S
            refine BN.done (by kernel_rfl) ?_
            exact ⟨true, h2, S.sub _ ⟨rfl, rfl, rfl, trivial⟩, H⟩
          · replace H := H.2 hb_3
            obtain ⟨y35, y35_1, y35_2, y35_3, y35_4, y35_5, c_16, c_17, c_18, c_19, c_20, c_21, H⟩ := H
            refine BN.load 29 S (fun _ => HS) rfl (by kernel_rfl) (by kernel_rfl) (fun _ hx => Lf.run_ldA (cs := [Value.int .i64 y35, Value.string y35_1, Value.bool y35_2, Value.int .i64 y35_3, Value.slice y35_4.a y35_4.n y35_4.c, Value.slice y35_5.a y35_5.n y35_5.c]) (S.ev rfl) ag25 ti25 (hx.row (S.row ⟨c_16, c_17, c_18, c_19, c_20, c_21, trivial⟩))) rfl rfl (GOk.mk rfl rfl hb_3) ?_
            clear S; intro aa S
            obtain ⟨y38, y38_1, y38_2, y38_3, y38_4, y38_5, c_10, c_11, c_12, c_13, c_14, c_15, H⟩ := H
            refine BN.held 32 S HS rfl (by kernel_rfl) (fun _ hq => Lf.run_ldA (cs := [Value.int .i64 y38, Value.string y38_1, Value.bool y38_2, Value.int .i64 y38_3, Value.slice y38_4.a y38_4.n y38_4.c, Value.slice y38_5.a y38_5.n y38_5.c]) (S.ev rfl) ag25 ti25 (hlRow hq fun h_ hs_ => ⟨c_10 h_ hs_, c_11 h_ hs_, c_12 h_ hs_, c_13 h_ hs_, c_14 h_ hs_, c_15 h_ hs_, trivial⟩)) rfl rfl (GOk.mk rfl rfl hb_3) ?_
            clear S; intro aa S
            refine BN.eff 30 rfl (by kernel_rfl) ?_
            refine ol_cal S H isfn36 rfl rfl (GOk.mk rfl rfl hb_3) ?_
            clear S H aa; intro u aa ww h3 H S
            obtain ⟨x36, rfl, H⟩ := H
            refine OL.nil ?_
            clear HS; obtain ⟨HS, H⟩ := H
            refine ⟨fun _ => by rw [S.heap]; exact HS, ?_⟩
            refine BN.pure 31 S (fun _ => HS) rfl (by kernel_rfl) (by kernel_rfl) (fun _ => Lf.run_lens (S.ev rfl) rfl Try.underlying22) rfl rfl (GOk.mk rfl rfl hb_3) ?_
            clear S; intro aa S
            refine BN.eff 33 rfl (by kernel_rfl) ?_
            refine ol_cal S H isfn36 rfl rfl (GOk.mk rfl rfl hb_3) ?_
            clear S H aa; intro u_1 aa ww h4 H S
            obtain ⟨x39, rfl, H⟩ := H
            refine OL.nil ?_
            refine ⟨noNeed (by kernel_rfl), ?_⟩
            refine BN.pure 34 S (noNeed (by kernel_rfl)) rfl (by kernel_rfl) (by kernel_rfl) (fun _ => Lf.run_lens (S.ev rfl) rfl Try.underlying22) rfl rfl (GOk.mk rfl rfl hb_3) ?_
            clear S; intro aa S
            refine BN.pure 35 S (noNeed (by kernel_rfl)) rfl (by kernel_rfl) (by kernel_rfl) (fun _ => Lf.run_neq (S.ev rfl) (S.ev rfl)) rfl rfl (GOk.mk rfl rfl hb_3) ?_
            clear S; intro aa S
            refine BN.pure 36 S (noNeed (by kernel_rfl)) rfl (by kernel_rfl) (by kernel_rfl) (fun _ => run_pickF (S.ev rfl) hb_3 (S.ev rfl)) rfl rfl trivial ?_
            clear S; intro aa S
            refine BN.done (by kernel_rfl) ?_
            exact ⟨(((x36.n : Nat) : Int) != ((x39.n : Nat) : Int)), h4, S.sub _ ⟨rfl, rfl, rfl, trivial⟩, H⟩
  · clear H S aa
    rintro aa ww ⟨x42, h5, S, HJ⟩
    have H := HK _ _ HJ
    clear HK HJ
    refine W.cond S (b := x42) rfl (fun hb_10 => ?_) (fun hb_10 => ?_)
    · replace H := H.1 hb_10
      refine W.seq ?_
      replace S := S.sub [] trivial
      refine W.region ?_
      refine OL.pure S (Lf.run_assign (S.ev rfl)) rfl rfl trivial ?_
      clear S; intro aa S
      refine OL.nil ?_
      refine W.ret ?_
      exact Ret.one S rfl rfl H
    · replace H := H.2 hb_10
      refine W.skip ?_
      refine W.seq ?_
      refine W.seq ?_
      replace S := S.sub [(2, Value.pointer (some p2)), (3, Value.pointer (some p3))] ⟨rfl, rfl, trivial⟩
      refine W.region ?_
      refine OL.pure S (Lf.run_assign (S.ev rfl)) rfl rfl trivial ?_
      clear S; intro aa S
      refine OL.nil ?_
      refine W.block ?_
      obtain ⟨I, m, H, HB⟩ := H
      refine W.loopS (σ := Int × Heap) (fun s aa ww => St 62 [(2, Value.pointer (some p2)), (3, Value.pointer (some p3)), (5, Value.int .i64 s.1)] s.2 w0 aa ww ∧ I s.1 s.2) (fun s => m s.1 s.2) (0, h5) ⟨S.sub _ ⟨rfl, rfl, rfl, trivial⟩, H⟩ ?_
      clear H S aa
      rintro ⟨i5, h6⟩ aa ww ⟨S, HI⟩
      replace S : St 62 [(2, Value.pointer (some p2)), (3, Value.pointer (some p3)), (5, Value.int .i64 i5)] h6 w0 aa ww := S
      have H := HB i5 h6 HI
      clear HI
      refine W.seq ?_
      refine W.seq ?_
      replace S := S.sub [(2, Value.pointer (some p2)), (3, Value.pointer (some p3)), (5, Value.int .i64 i5)] ⟨rfl, rfl, rfl, trivial⟩
      refine W.region ?_
      refine OL.pure S (Lf.run_move (S.ev rfl)) rfl rfl trivial ?_
      clear S; intro aa S
      refine OL.pure S (Lf.run_fa (S.ev rfl) fa25_5) rfl rfl trivial ?_
      clear S; intro aa S
      obtain ⟨x45, c_22, H⟩ := H
      refine OL.pure S (Lf.run_ld (S.ev rfl) fl23 (S.cl c_22)) rfl rfl trivial ?_
      clear S; intro aa S
      refine OL.pure S (Lf.run_lens (S.ev rfl) rfl Try.underlying23) rfl rfl trivial ?_
      clear S; intro aa S
      refine OL.pure S (Lf.run_lss (S.ev rfl) (S.ev rfl)) rfl rfl trivial ?_
      clear S; intro aa S
      refine OL.nil ?_
      refine W.cond S (b := (decide (i5 < ((x45.n : Nat) : Int)))) rfl (fun hb_11 => ?_) (fun hb_11 => ?_)
      · replace H := H.1 hb_11
        refine W.skip ?_
        refine W.seq ?_
        refine W.block ?_
        refine W.seq ?_
        replace S := S.sub [(2, Value.pointer (some p2)), (3, Value.pointer (some p3)), (5, Value.int .i64 i5)] ⟨rfl, rfl, rfl, trivial⟩
        refine W.regionD S (by kernel_rfl) ?_
        clear S; intro ww S
        refine AN.pure 0 S rfl (by kernel_rfl) (fun _ => Lf.run_fa (S.ev rfl) fa25_5) rfl rfl trivial ?_
        clear S; intro aa S
        obtain ⟨x51, c_23, H⟩ := H
        refine AN.load 1 S rfl (by kernel_rfl) (fun _ hx => Lf.run_ld (S.ev rfl) fl23 (hx.cell _ _ (S.cl c_23))) rfl rfl trivial ?_
        clear S; intro aa S
        refine AN.pure 2 S rfl (by kernel_rfl) (fun _ => Lf.run_move (S.ev rfl)) rfl rfl trivial ?_
        clear S; intro aa S
        obtain ⟨q53, e, e_1, e_2, H⟩ := H
        refine AN.pure 3 S rfl (by kernel_rfl) (fun _ => Lf.run_ixs (S.ev rfl) (S.ev rfl) Try.underlying23 ti25 e e_1 e_2) rfl rfl trivial ?_
        clear S; intro aa S
        obtain ⟨y54, y54_1, y54_2, y54_3, y54_4, y54_5, c_33, c_34, c_35, c_36, c_37, c_38, H⟩ := H
        refine AN.load 4 S rfl (by kernel_rfl) (fun _ hx => Lf.run_ldA (cs := [Value.int .i64 y54, Value.string y54_1, Value.bool y54_2, Value.int .i64 y54_3, Value.slice y54_4.a y54_4.n y54_4.c, Value.slice y54_5.a y54_5.n y54_5.c]) (S.ev rfl) ag25 ti25 (hx.row (S.row ⟨c_33, c_34, c_35, c_36, c_37, c_38, trivial⟩))) rfl rfl trivial ?_
        clear S; intro aa S
        refine AN.pure 5 S rfl (by kernel_rfl) (fun _ => Lf.run_fa (S.ev rfl) fa25_5) rfl rfl trivial ?_
        clear S; intro aa S
        obtain ⟨x56, c_25, H⟩ := H
        refine AN.load 6 S rfl (by kernel_rfl) (fun _ hx => Lf.run_ld (S.ev rfl) fl23 (hx.cell _ _ (S.cl c_25))) rfl rfl trivial ?_
        clear S; intro aa S
        refine AN.pure 7 S rfl (by kernel_rfl) (fun _ => Lf.run_move (S.ev rfl)) rfl rfl trivial ?_
        clear S; intro aa S
        obtain ⟨q58, e_3, e_4, e_5, H⟩ := H
        refine AN.pure 8 S rfl (by kernel_rfl) (fun _ => Lf.run_ixs (S.ev rfl) (S.ev rfl) Try.underlying23 ti25 e_3 e_4 e_5) rfl rfl trivial ?_
        clear S; intro aa S
        obtain ⟨y59, y59_1, y59_2, y59_3, y59_4, y59_5, c_27, c_28, c_29, c_30, c_31, c_32, H⟩ := H
        refine AN.load 9 S rfl (by kernel_rfl) (fun _ hx => Lf.run_ldA (cs := [Value.int .i64 y59, Value.string y59_1, Value.bool y59_2, Value.int .i64 y59_3, Value.slice y59_4.a y59_4.n y59_4.c, Value.slice y59_5.a y59_5.n y59_5.c]) (S.ev rfl) ag25 ti25 (hx.row (S.row ⟨c_27, c_28, c_29, c_30, c_31, c_32, trivial⟩))) rfl rfl trivial ?_
        clear S; intro aa S
        refine AN.eff 10 rfl (by kernel_rfl) ?_
        refine ol_cal S H isfn17 rfl rfl trivial ?_
        clear S H aa; intro u_2 aa ww h7 H S
        obtain ⟨x60, rfl, H⟩ := H
        refine OL.nil ?_
        refine AN.pure 11 S rfl (by kernel_rfl) (fun _ => Lf.run_not (S.ev rfl)) rfl rfl trivial ?_
        clear S; intro aa S
        refine AN.done (by kernel_rfl) ?_
        refine W.cond S (b := (!x60)) rfl (fun hb_12 => ?_) (fun hb_12 => ?_)
        · replace H := H.1 hb_12
          refine W.seq ?_
          replace S := S.sub [] trivial
          refine W.region ?_
          refine OL.pure S (Lf.run_assign (S.ev rfl)) rfl rfl trivial ?_
          clear S; intro aa S
          refine OL.nil ?_
          refine W.ret ?_
          exact Ret.one S rfl rfl H
        · replace H := H.2 hb_12
          refine W.skip ?_
          replace S := S.sub [(2, Value.pointer (some p2)), (3, Value.pointer (some p3)), (5, Value.int .i64 i5)] ⟨rfl, rfl, rfl, trivial⟩
          refine W.region ?_
          refine OL.pure S (Lf.run_move (S.ev rfl)) rfl rfl trivial ?_
          clear S; intro aa S
          refine OL.pure S (Lf.run_add (S.ev rfl) (S.ev rfl)) rfl rfl trivial ?_
          clear S; intro aa S
          refine OL.pure S (Lf.run_assign (S.ev rfl)) rfl rfl trivial ?_
          clear S; intro aa S
          refine OL.nil ?_
          exact ⟨((IntKind.i64.wrap (i5 + 1)), h7), ⟨S.sub _ ⟨rfl, rfl, rfl, trivial⟩, H.1⟩, H.2⟩
      · replace H := H.2 hb_11
        refine W.exit_ ?_
        refine xhit ?_
        refine W.seq ?_
        replace S := S.sub [] trivial
        refine W.region ?_
        refine OL.pure S (Lf.run_assign (S.ev rfl)) rfl rfl trivial ?_
        clear S; intro aa S
        refine OL.nil ?_
        refine W.ret ?_
        exact Ret.one S rfl rfl H

/-- chattel chattelref01.Ints -/
def L18 (a0 : Sv) (b1 : Sv) (h : Heap) (R : Value → Heap → Prop) : Prop :=
  ifb (((a0.n : Nat) : Int) != ((b1.n : Nat) : Int)) (
    R (Value.bool false) h) (
    ∃ (I : Int → Prop) (m : Int → Nat), I 0 ∧ ∀ i5, I i5 →
    ifb (decide (i5 < ((a0.n : Nat) : Int))) (
      ixS a0 i5 fun q19 =>
      ldI .i64 h (q19.add ((i5 : Int).toNat * 1)) fun x20 =>
      ixS b1 i5 fun q23 =>
      ldI .i64 h (q23.add ((i5 : Int).toNat * 1)) fun x24 =>
      ifb (x20 != x24) (
        R (Value.bool false) h) (
        I (IntKind.i64.wrap (i5 + 1)) ∧ m (IntKind.i64.wrap (i5 + 1)) < m i5)) (
      R (Value.bool true) h))

set_option maxRecDepth 100000 in

theorem F18 {a0 b1 h : _} {R : Value → Heap → Prop} (H : L18 a0 b1 h R) : CallsH Try.prog 18 #[Value.slice a0.a a0.n a0.c, Value.slice b1.a b1.n b1.c] h R := by
  refine CallsH.enter (n := 26) Try.func18 rfl rfl rfl rfl ?_
  intro w0 aa ww S
  unfold L18 at H
  refine W.seq ?_
  replace S := S.sub [(0, Value.slice a0.a a0.n a0.c), (1, Value.slice b1.a b1.n b1.c)] ⟨rfl, rfl, trivial⟩
  refine W.region ?_
  refine OL.pure S (Lf.run_assign (S.ev rfl)) rfl rfl trivial ?_
  clear S; intro aa S
  refine OL.nil ?_
  refine W.seq ?_
  refine W.seq ?_
  replace S := S.sub [(0, Value.slice a0.a a0.n a0.c), (1, Value.slice b1.a b1.n b1.c)] ⟨rfl, rfl, trivial⟩
  refine W.region ?_
  refine OL.pure S (Lf.run_move (S.ev rfl)) rfl rfl trivial ?_
  clear S; intro aa S
  refine OL.pure S (Lf.run_lens (S.ev rfl) rfl Try.underlying22) rfl rfl trivial ?_
  clear S; intro aa S
  refine OL.pure S (Lf.run_move (S.ev rfl)) rfl rfl trivial ?_
  clear S; intro aa S
  refine OL.pure S (Lf.run_lens (S.ev rfl) rfl Try.underlying22) rfl rfl trivial ?_
  clear S; intro aa S
  refine OL.pure S (Lf.run_neq (S.ev rfl) (S.ev rfl)) rfl rfl trivial ?_
  clear S; intro aa S
  refine OL.nil ?_
  refine W.cond S (b := (((a0.n : Nat) : Int) != ((b1.n : Nat) : Int))) rfl (fun hb => ?_) (fun hb => ?_)
  · replace H := H.1 hb
    refine W.seq ?_
    replace S := S.sub [] trivial
    refine W.region ?_
    refine OL.pure S (Lf.run_assign (S.ev rfl)) rfl rfl trivial ?_
    clear S; intro aa S
    refine OL.nil ?_
    refine W.ret ?_
    exact Ret.one S rfl rfl H
  · replace H := H.2 hb
    refine W.skip ?_
    refine W.seq ?_
    refine W.seq ?_
    replace S := S.sub [(0, Value.slice a0.a a0.n a0.c), (1, Value.slice b1.a b1.n b1.c)] ⟨rfl, rfl, trivial⟩
    refine W.region ?_
    refine OL.pure S (Lf.run_assign (S.ev rfl)) rfl rfl trivial ?_
    clear S; intro aa S
    refine OL.nil ?_
    refine W.block ?_
    obtain ⟨I, m, H, HB⟩ := H
    refine W.loopS (σ := Int) (fun s aa ww => St 26 [(0, Value.slice a0.a a0.n a0.c), (1, Value.slice b1.a b1.n b1.c), (5, Value.int .i64 s)] h w0 aa ww ∧ I s) (fun s => m s) (0) ⟨S.sub _ ⟨rfl, rfl, rfl, trivial⟩, H⟩ ?_
    clear H S aa
    rintro i5 aa ww ⟨S, HI⟩
    replace S : St 26 [(0, Value.slice a0.a a0.n a0.c), (1, Value.slice b1.a b1.n b1.c), (5, Value.int .i64 i5)] h w0 aa ww := S
    have H := HB i5 HI
    clear HI
    refine W.seq ?_
    refine W.seq ?_
    replace S := S.sub [(0, Value.slice a0.a a0.n a0.c), (1, Value.slice b1.a b1.n b1.c), (5, Value.int .i64 i5)] ⟨rfl, rfl, rfl, trivial⟩
    refine W.region ?_
    refine OL.pure S (Lf.run_move (S.ev rfl)) rfl rfl trivial ?_
    clear S; intro aa S
    refine OL.pure S (Lf.run_move (S.ev rfl)) rfl rfl trivial ?_
    clear S; intro aa S
    refine OL.pure S (Lf.run_lens (S.ev rfl) rfl Try.underlying22) rfl rfl trivial ?_
    clear S; intro aa S
    refine OL.pure S (Lf.run_lss (S.ev rfl) (S.ev rfl)) rfl rfl trivial ?_
    clear S; intro aa S
    refine OL.nil ?_
    refine W.cond S (b := (decide (i5 < ((a0.n : Nat) : Int)))) rfl (fun hb_1 => ?_) (fun hb_1 => ?_)
    · replace H := H.1 hb_1
      refine W.skip ?_
      refine W.seq ?_
      refine W.block ?_
      refine W.seq ?_
      replace S := S.sub [(0, Value.slice a0.a a0.n a0.c), (1, Value.slice b1.a b1.n b1.c), (5, Value.int .i64 i5)] ⟨rfl, rfl, rfl, trivial⟩
      refine W.regionD S (by kernel_rfl) ?_
      clear S; intro ww S
      refine AN.pure 0 S rfl (by kernel_rfl) (fun _ => Lf.run_move (S.ev rfl)) rfl rfl trivial ?_
      clear S; intro aa S
      refine AN.pure 1 S rfl (by kernel_rfl) (fun _ => Lf.run_move (S.ev rfl)) rfl rfl trivial ?_
      clear S; intro aa S
      obtain ⟨q19, e, e_1, e_2, H⟩ := H
      refine AN.pure 2 S rfl (by kernel_rfl) (fun _ => Lf.run_ixs (S.ev rfl) (S.ev rfl) Try.underlying22 ti3 e e_1 e_2) rfl rfl trivial ?_
      clear S; intro aa S
      obtain ⟨x20, c, H⟩ := H
      refine AN.load 3 S rfl (by kernel_rfl) (fun _ hx => Lf.run_ld (S.ev rfl) fl3 (hx.cell _ _ (S.cl c))) rfl rfl trivial ?_
      clear S; intro aa S
      refine AN.pure 4 S rfl (by kernel_rfl) (fun _ => Lf.run_move (S.ev rfl)) rfl rfl trivial ?_
      clear S; intro aa S
      refine AN.pure 5 S rfl (by kernel_rfl) (fun _ => Lf.run_move (S.ev rfl)) rfl rfl trivial ?_
      clear S; intro aa S
      obtain ⟨q23, e_3, e_4, e_5, H⟩ := H
      refine AN.pure 6 S rfl (by kernel_rfl) (fun _ => Lf.run_ixs (S.ev rfl) (S.ev rfl) Try.underlying22 ti3 e_3 e_4 e_5) rfl rfl trivial ?_
      clear S; intro aa S
      obtain ⟨x24, c_1, H⟩ := H
      refine AN.load 7 S rfl (by kernel_rfl) (fun _ hx => Lf.run_ld (S.ev rfl) fl3 (hx.cell _ _ (S.cl c_1))) rfl rfl trivial ?_
      clear S; intro aa S
      refine AN.pure 8 S rfl (by kernel_rfl) (fun _ => Lf.run_neq (S.ev rfl) (S.ev rfl)) rfl rfl trivial ?_
      clear S; intro aa S
      refine AN.done (by kernel_rfl) ?_
      refine W.cond S (b := (x20 != x24)) rfl (fun hb_2 => ?_) (fun hb_2 => ?_)
      · replace H := H.1 hb_2
        refine W.seq ?_
        replace S := S.sub [] trivial
        refine W.region ?_
        refine OL.pure S (Lf.run_assign (S.ev rfl)) rfl rfl trivial ?_
        clear S; intro aa S
        refine OL.nil ?_
        refine W.ret ?_
        exact Ret.one S rfl rfl H
      · replace H := H.2 hb_2
        refine W.skip ?_
        replace S := S.sub [(0, Value.slice a0.a a0.n a0.c), (1, Value.slice b1.a b1.n b1.c), (5, Value.int .i64 i5)] ⟨rfl, rfl, rfl, trivial⟩
        refine W.region ?_
        refine OL.pure S (Lf.run_move (S.ev rfl)) rfl rfl trivial ?_
        clear S; intro aa S
        refine OL.pure S (Lf.run_add (S.ev rfl) (S.ev rfl)) rfl rfl trivial ?_
        clear S; intro aa S
        refine OL.pure S (Lf.run_assign (S.ev rfl)) rfl rfl trivial ?_
        clear S; intro aa S
        refine OL.nil ?_
        exact ⟨((IntKind.i64.wrap (i5 + 1))), ⟨S.sub _ ⟨rfl, rfl, rfl, trivial⟩, H.1⟩, H.2⟩
    · replace H := H.2 hb_1
      refine W.exit_ ?_
      refine xhit ?_
      refine W.seq ?_
      replace S := S.sub [] trivial
      refine W.region ?_
      refine OL.pure S (Lf.run_assign (S.ev rfl)) rfl rfl trivial ?_
      clear S; intro aa S
      refine OL.nil ?_
      refine W.ret ?_
      exact Ret.one S rfl rfl H

/-- chattel types.Erase -/
def L19 (x0 : Int) (x0_1 : ByteArray) (x0_2 : Bool) (x0_3 : Int) (x0_4 : Sv) (x0_5 : Sv) (h : Heap) (R : Value → Heap → Prop) : Prop :=
  new 25 #[Value.int .i64 x0, Value.string x0_1, Value.bool x0_2, Value.int .i64 x0_3, Value.slice x0_4.a x0_4.n x0_4.c, Value.slice x0_5.a x0_5.n x0_5.c] h fun p1 h1 =>
  new 25 #[Value.int .i64 0, Value.string (⟨#[]⟩ : ByteArray), Value.bool false, Value.int .i64 0, Value.slice (⟨none, 0, 0⟩ : Sv).a (⟨none, 0, 0⟩ : Sv).n (⟨none, 0, 0⟩ : Sv).c, Value.slice (⟨none, 0, 0⟩ : Sv).a (⟨none, 0, 0⟩ : Sv).n (⟨none, 0, 0⟩ : Sv).c] h1 fun p2 h2 =>
  ∃ (y3 : Int) (y3_1 : ByteArray) (y3_2 : Bool) (y3_3 : Int) (y3_4 : Sv) (y3_5 : Sv), cl h2 p1 = some (Value.int .i64 y3) ∧ cl h2 (p1.add 1) = some (Value.string y3_1) ∧ cl h2 (p1.add 2) = some (Value.bool y3_2) ∧ cl h2 (p1.add 3) = some (Value.int .i64 y3_3) ∧ cl h2 (p1.add 4) = some (Value.slice y3_4.a y3_4.n y3_4.c) ∧ cl h2 (p1.add 5) = some (Value.slice y3_5.a y3_5.n y3_5.c) ∧
  cal Try.prog 14 #[Value.agg #[Value.int .i64 y3, Value.string y3_1, Value.bool y3_2, Value.int .i64 y3_3, Value.slice y3_4.a y3_4.n y3_4.c, Value.slice y3_5.a y3_5.n y3_5.c], (Value.func (.func 37) #[] #[])] h2 fun u h3 => ∃ (y4 : Int) (y4_1 : ByteArray) (y4_2 : Bool) (y4_3 : Int) (y4_4 : Sv) (y4_5 : Sv), u = Value.agg #[Value.int .i64 y4, Value.string y4_1, Value.bool y4_2, Value.int .i64 y4_3, Value.slice y4_4.a y4_4.n y4_4.c, Value.slice y4_5.a y4_5.n y4_5.c] ∧
  stoA h3 p2 [Value.int .i64 y4, Value.string y4_1, Value.bool y4_2, Value.int .i64 y4_3, Value.slice y4_4.a y4_4.n y4_4.c, Value.slice y4_5.a y4_5.n y4_5.c] fun h4 =>
  ∃ (y : Int) (y_1 : ByteArray) (y_2 : Bool) (y_3 : Int) (y_4 : Sv) (y_5 : Sv), cl h4 p2 = some (Value.int .i64 y) ∧ cl h4 (p2.add 1) = some (Value.string y_1) ∧ cl h4 (p2.add 2) = some (Value.bool y_2) ∧ cl h4 (p2.add 3) = some (Value.int .i64 y_3) ∧ cl h4 (p2.add 4) = some (Value.slice y_4.a y_4.n y_4.c) ∧ cl h4 (p2.add 5) = some (Value.slice y_5.a y_5.n y_5.c) ∧
  R (Value.agg #[Value.int .i64 y, Value.string y_1, Value.bool y_2, Value.int .i64 y_3, Value.slice y_4.a y_4.n y_4.c, Value.slice y_5.a y_5.n y_5.c]) h4

set_option maxRecDepth 100000 in

theorem F19 {x0 x0_1 x0_2 x0_3 x0_4 x0_5 h : _} {R : Value → Heap → Prop} (H : L19 x0 x0_1 x0_2 x0_3 x0_4 x0_5 h R) : CallsH Try.prog 19 #[Value.agg #[Value.int .i64 x0, Value.string x0_1, Value.bool x0_2, Value.int .i64 x0_3, Value.slice x0_4.a x0_4.n x0_4.c, Value.slice x0_5.a x0_5.n x0_5.c]] h R := by
  refine CallsH.enter (n := 5) Try.func19 rfl rfl rfl rfl ?_
  intro w0 aa ww S
  unfold L19 at H
  refine W.seq ?_
  replace S := S.sub [(0, Value.agg #[Value.int .i64 x0, Value.string x0_1, Value.bool x0_2, Value.int .i64 x0_3, Value.slice x0_4.a x0_4.n x0_4.c, Value.slice x0_5.a x0_5.n x0_5.c])] ⟨rfl, trivial⟩
  refine W.region ?_
  refine ol_box S H rfl rfl rfl trivial ?_
  clear S H aa; intro p1 aa ww h1 H S
  refine ol_alloc S H ti25 rfl rfl trivial ?_
  clear S H aa; intro p2 aa ww h2 H S
  refine OL.nil ?_
  refine W.seq ?_
  replace S := S.sub [(1, Value.pointer (some p1)), (2, Value.pointer (some p2))] ⟨rfl, rfl, trivial⟩
  refine W.region ?_
  obtain ⟨y3, y3_1, y3_2, y3_3, y3_4, y3_5, c_7, c_8, c_9, c_10, c_11, c_12, H⟩ := H
  refine OL.pure S (Lf.run_ldA (cs := [Value.int .i64 y3, Value.string y3_1, Value.bool y3_2, Value.int .i64 y3_3, Value.slice y3_4.a y3_4.n y3_4.c, Value.slice y3_5.a y3_5.n y3_5.c]) (S.ev rfl) ag25 ti25 (by rw [S.heap]; exact RowL.toRow ⟨c_7, c_8, c_9, c_10, c_11, c_12, trivial⟩)) rfl rfl trivial ?_
  clear S; intro aa S
  refine ol_cal S H isfn14 rfl rfl trivial ?_
  clear S H aa; intro u aa ww h3 H S
  obtain ⟨y4, y4_1, y4_2, y4_3, y4_4, y4_5, rfl, H⟩ := H
  refine ol_stoA S H rfl rfl ti25 trivial ?_
  clear S H aa; intro aa ww h4 H S
  refine OL.nil ?_
  refine W.ret ?_
  obtain ⟨y, y_1, y_2, y_3, y_4, y_5, c_1, c_2, c_3, c_4, c_5, c_6, H⟩ := H
  exact Ret.gen S rfl (RV.cellA (cs := [Value.int .i64 y, Value.string y_1, Value.bool y_2, Value.int .i64 y_3, Value.slice y_4.a y_4.n y_4.c, Value.slice y_5.a y_5.n y_5.c]) rfl ag25 ti25 ⟨c_1, c_2, c_3, c_4, c_5, c_6, trivial⟩ RV.nil) rfl H

/-- chattel chattelref07.Equal -/
def L20 (a0 : Int) (a0_1 : ByteArray) (a0_2 : Bool) (a0_3 : Int) (a0_4 : Sv) (a0_5 : Sv) (b1 : Int) (b1_1 : ByteArray) (b1_2 : Bool) (b1_3 : Int) (b1_4 : Sv) (b1_5 : Sv) (h : Heap) (R : Value → Heap → Prop) : Prop :=
  new 25 #[Value.int .i64 a0, Value.string a0_1, Value.bool a0_2, Value.int .i64 a0_3, Value.slice a0_4.a a0_4.n a0_4.c, Value.slice a0_5.a a0_5.n a0_5.c] h fun p2 h1 =>
  new 25 #[Value.int .i64 b1, Value.string b1_1, Value.bool b1_2, Value.int .i64 b1_3, Value.slice b1_4.a b1_4.n b1_4.c, Value.slice b1_5.a b1_5.n b1_5.c] h1 fun p3 h2 =>
  ∃ J : Bool → Heap → Prop, (
    ∃ Sq : Heap → Prop, Sq h2 ∧ (
      ∃ (y5 : Int) (y5_1 : ByteArray) (y5_2 : Bool) (y5_3 : Int) (y5_4 : Sv) (y5_5 : Sv), cl h2 p2 = some (Value.int .i64 y5) ∧ cl h2 (p2.add 1) = some (Value.string y5_1) ∧ cl h2 (p2.add 2) = some (Value.bool y5_2) ∧ cl h2 (p2.add 3) = some (Value.int .i64 y5_3) ∧ cl h2 (p2.add 4) = some (Value.slice y5_4.a y5_4.n y5_4.c) ∧ cl h2 (p2.add 5) = some (Value.slice y5_5.a y5_5.n y5_5.c) ∧
      ∃ (y6 : Int) (y6_1 : ByteArray) (y6_2 : Bool) (y6_3 : Int) (y6_4 : Sv) (y6_5 : Sv), cl h2 p3 = some (Value.int .i64 y6) ∧ cl h2 (p3.add 1) = some (Value.string y6_1) ∧ cl h2 (p3.add 2) = some (Value.bool y6_2) ∧ cl h2 (p3.add 3) = some (Value.int .i64 y6_3) ∧ cl h2 (p3.add 4) = some (Value.slice y6_4.a y6_4.n y6_4.c) ∧ cl h2 (p3.add 5) = some (Value.slice y6_5.a y6_5.n y6_5.c) ∧
      cal Try.prog 17 #[Value.agg #[Value.int .i64 y5, Value.string y5_1, Value.bool y5_2, Value.int .i64 y5_3, Value.slice y5_4.a y5_4.n y5_4.c, Value.slice y5_5.a y5_5.n y5_5.c], Value.agg #[Value.int .i64 y6, Value.string y6_1, Value.bool y6_2, Value.int .i64 y6_3, Value.slice y6_4.a y6_4.n y6_4.c, Value.slice y6_5.a y6_5.n y6_5.c]] h2 fun u h3 => asB u fun x7 =>
      Sq h3 ∧
      ifb x7 (
        ∃ (y9 : Int) (y9_1 : ByteArray) (y9_2 : Bool) (y9_3 : Int) (y9_4 : Sv) (y9_5 : Sv), cl h3 p2 = some (Value.int .i64 y9) ∧ cl h3 (p2.add 1) = some (Value.string y9_1) ∧ cl h3 (p2.add 2) = some (Value.bool y9_2) ∧ cl h3 (p2.add 3) = some (Value.int .i64 y9_3) ∧ cl h3 (p2.add 4) = some (Value.slice y9_4.a y9_4.n y9_4.c) ∧ cl h3 (p2.add 5) = some (Value.slice y9_5.a y9_5.n y9_5.c) ∧
        ∃ Sq_1 : Heap → Prop, (∀ h, Sq_1 h → Sq h) ∧ Sq_1 h3 ∧
        ∃ (y11 : Int) (y11_1 : ByteArray) (y11_2 : Bool) (y11_3 : Int) (y11_4 : Sv) (y11_5 : Sv), hld Sq_1 p3 (Value.int .i64 y11) ∧ hld Sq_1 (p3.add 1) (Value.string y11_1) ∧ hld Sq_1 (p3.add 2) (Value.bool y11_2) ∧ hld Sq_1 (p3.add 3) (Value.int .i64 y11_3) ∧ hld Sq_1 (p3.add 4) (Value.slice y11_4.a y11_4.n y11_4.c) ∧ hld Sq_1 (p3.add 5) (Value.slice y11_5.a y11_5.n y11_5.c) ∧
        cal Try.prog 16 #[Value.agg #[Value.int .i64 y9, Value.string y9_1, Value.bool y9_2, Value.int .i64 y9_3, Value.slice y9_4.a y9_4.n y9_4.c, Value.slice y9_5.a y9_5.n y9_5.c]] h3 fun u_1 h4 => asS u_1 fun x10 =>
        Sq_1 h4 ∧
        cal Try.prog 16 #[Value.agg #[Value.int .i64 y11, Value.string y11_1, Value.bool y11_2, Value.int .i64 y11_3, Value.slice y11_4.a y11_4.n y11_4.c, Value.slice y11_5.a y11_5.n y11_5.c]] h4 fun u_2 h5 => asS u_2 fun x12 =>
        cal Try.prog 18 #[Value.slice x10.a x10.n x10.c, Value.slice x12.a x12.n x12.c] h5 fun u_3 h6 => asB u_3 fun x13 =>
        J x13 h6) (
        J false h3))) ∧ (∀ x4 h7, J x4 h7 →
  R (Value.bool x4) h7)

set_option maxRecDepth 100000 in

theorem F20 {a0 a0_1 a0_2 a0_3 a0_4 a0_5 b1 b1_1 b1_2 b1_3 b1_4 b1_5 h : _} {R : Value → Heap → Prop} (H : L20 a0 a0_1 a0_2 a0_3 a0_4 a0_5 b1 b1_1 b1_2 b1_3 b1_4 b1_5 h R) : CallsH Try.prog 20 #[Value.agg #[Value.int .i64 a0, Value.string a0_1, Value.bool a0_2, Value.int .i64 a0_3, Value.slice a0_4.a a0_4.n a0_4.c, Value.slice a0_5.a a0_5.n a0_5.c], Value.agg #[Value.int .i64 b1, Value.string b1_1, Value.bool b1_2, Value.int .i64 b1_3, Value.slice b1_4.a b1_4.n b1_4.c, Value.slice b1_5.a b1_5.n b1_5.c]] h R := by
  refine CallsH.enter (n := 15) Try.func20 rfl rfl rfl rfl ?_
  intro w0 aa ww S
  unfold L20 at H
  refine W.seq ?_
  replace S := S.sub [(0, Value.agg #[Value.int .i64 a0, Value.string a0_1, Value.bool a0_2, Value.int .i64 a0_3, Value.slice a0_4.a a0_4.n a0_4.c, Value.slice a0_5.a a0_5.n a0_5.c]), (1, Value.agg #[Value.int .i64 b1, Value.string b1_1, Value.bool b1_2, Value.int .i64 b1_3, Value.slice b1_4.a b1_4.n b1_4.c, Value.slice b1_5.a b1_5.n b1_5.c])] ⟨rfl, rfl, trivial⟩
  refine W.region ?_
  refine ol_box S H rfl rfl rfl trivial ?_
  clear S H aa; intro p2 aa ww h1 H S
  refine ol_box S H rfl rfl rfl trivial ?_
  clear S H aa; intro p3 aa ww h2 H S
  refine OL.pure S (Lf.run_assign (S.ev rfl)) rfl rfl trivial ?_
  clear S; intro aa S
  refine OL.nil ?_
  refine W.seq ?_
  replace S := S.sub [(2, Value.pointer (some p2)), (3, Value.pointer (some p3))] ⟨rfl, rfl, trivial⟩
  obtain ⟨J, H, HK⟩ := H
  refine W.mono (N' := fun aa ww => ∃ x4 h7, St 15 [(4, Value.bool x4)] h7 w0 aa ww ∧ J x4 h7) ?_ ?_
  · obtain ⟨Sq, HS, H⟩ := H
    refine W.regionN [6] [2, 5, 7, 8] Sq S (by kernel_rfl) ?_
    clear S; intro ww S
    obtain ⟨y5, y5_1, y5_2, y5_3, y5_4, y5_5, c_22, c_23, c_24, c_25, c_26, c_27, H⟩ := H
    refine BN.load 0 S (fun _ => HS) rfl (by kernel_rfl) (by kernel_rfl) (fun _ hx => Lf.run_ldA (cs := [Value.int .i64 y5, Value.string y5_1, Value.bool y5_2, Value.int .i64 y5_3, Value.slice y5_4.a y5_4.n y5_4.c, Value.slice y5_5.a y5_5.n y5_5.c]) (S.ev rfl) ag25 ti25 (hx.row (S.row ⟨c_22, c_23, c_24, c_25, c_26, c_27, trivial⟩))) rfl rfl trivial ?_
    clear S; intro aa S
    obtain ⟨y6, y6_1, y6_2, y6_3, y6_4, y6_5, c_16, c_17, c_18, c_19, c_20, c_21, H⟩ := H
    refine BN.load 1 S (fun _ => HS) rfl (by kernel_rfl) (by kernel_rfl) (fun _ hx => Lf.run_ldA (cs := [Value.int .i64 y6, Value.string y6_1, Value.bool y6_2, Value.int .i64 y6_3, Value.slice y6_4.a y6_4.n y6_4.c, Value.slice y6_5.a y6_5.n y6_5.c]) (S.ev rfl) ag25 ti25 (hx.row (S.row ⟨c_16, c_17, c_18, c_19, c_20, c_21, trivial⟩))) rfl rfl trivial ?_
    clear S; intro aa S
    refine BN.eff 2 rfl (by kernel_rfl) ?_
    refine ol_cal S H isfn17 rfl rfl trivial ?_
    clear S H aa; intro u aa ww h3 H S
    obtain ⟨x7, rfl, H⟩ := H
    refine OL.nil ?_
    clear HS; obtain ⟨HS, H⟩ := H
    refine ⟨fun _ => by rw [S.heap]; exact HS, ?_⟩
    refine BN.pure 3 S (fun _ => HS) rfl (by kernel_rfl) (by kernel_rfl) (fun _ => Lf.run_move (S.ev rfl)) rfl rfl trivial ?_
    clear S; intro aa S
    rcases Bool.eq_false_or_eq_true x7 with hb | hb
    · replace H := H.1 hb
      obtain ⟨y9, y9_1, y9_2, y9_3, y9_4, y9_5, c_10, c_11, c_12, c_13, c_14, c_15, H⟩ := H
      refine BN.load 4 S (fun _ => HS) rfl (by kernel_rfl) (by kernel_rfl) (fun _ hx => Lf.run_ldA (cs := [Value.int .i64 y9, Value.string y9_1, Value.bool y9_2, Value.int .i64 y9_3, Value.slice y9_4.a y9_4.n y9_4.c, Value.slice y9_5.a y9_5.n y9_5.c]) (S.ev rfl) ag25 ti25 (hx.row (S.row ⟨c_10, c_11, c_12, c_13, c_14, c_15, trivial⟩))) rfl rfl (GOk.mk rfl rfl hb) ?_
      clear S; intro aa S
      clear HS; obtain ⟨Sq_1, HI, HS, H⟩ := H
      refine BN.stronger HI ?_
      obtain ⟨y11, y11_1, y11_2, y11_3, y11_4, y11_5, c_4, c_5, c_6, c_7, c_8, c_9, H⟩ := H
      refine BN.held 6 S HS rfl (by kernel_rfl) (fun _ hq => Lf.run_ldA (cs := [Value.int .i64 y11, Value.string y11_1, Value.bool y11_2, Value.int .i64 y11_3, Value.slice y11_4.a y11_4.n y11_4.c, Value.slice y11_5.a y11_5.n y11_5.c]) (S.ev rfl) ag25 ti25 (hlRow hq fun h_ hs_ => ⟨c_4 h_ hs_, c_5 h_ hs_, c_6 h_ hs_, c_7 h_ hs_, c_8 h_ hs_, c_9 h_ hs_, trivial⟩)) rfl rfl (GOk.mk rfl rfl hb) ?_
      clear S; intro aa S
      refine BN.eff 5 rfl (by kernel_rfl) ?_
      refine ol_cal S H isfn16 rfl rfl (GOk.mk rfl rfl hb) ?_
      clear S H aa; intro u_1 aa ww h4 H S
      obtain ⟨x10, rfl, H⟩ := H
      refine OL.nil ?_
      clear HS; obtain ⟨HS, H⟩ := H
      refine ⟨fun _ => by rw [S.heap]; exact HS, ?_⟩
      refine BN.eff 7 rfl (by kernel_rfl) ?_
      refine ol_cal S H isfn16 rfl rfl (GOk.mk rfl rfl hb) ?_
      clear S H aa; intro u_2 aa ww h5 H S
      obtain ⟨x12, rfl, H⟩ := H
      refine OL.nil ?_
      refine ⟨noNeed (by kernel_rfl), ?_⟩
      refine BN.eff 8 rfl (by kernel_rfl) ?_
      refine ol_cal S H isfn18 rfl rfl (GOk.mk rfl rfl hb) ?_
      clear S H aa; intro u_3 aa ww h6 H S
      obtain ⟨x13, rfl, H⟩ := H
      refine OL.nil ?_
      refine ⟨noNeed (by kernel_rfl), ?_⟩
      refine BN.pure 9 S (noNeed (by kernel_rfl)) rfl (by kernel_rfl) (by kernel_rfl) (fun _ => run_pickT (S.ev rfl) hb (S.ev rfl)) rfl rfl trivial ?_
      clear S; intro aa S
      refine BN.pure 10 S (noNeed (by kernel_rfl)) rfl (by kernel_rfl) (by kernel_rfl) (fun _ => Lf.run_assign (S.ev rfl)) rfl rfl trivial ?_
      clear S; intro aa S
      refine BN.done (by kernel_rfl) ?_
      exact ⟨x13, h6, S.sub _ ⟨rfl, trivial⟩, H⟩
    · replace H := H.2 hb
      refine BN.not 4 S (fun _ => HS) rfl (by kernel_rfl) (by kernel_rfl) rfl rfl (GNo.mk rfl rfl hb) ?_
      clear S; intro aa S
      refine BN.not 6 S (fun _ => HS) rfl (by kernel_rfl) (by kernel_rfl) rfl rfl (GNo.mk rfl rfl hb) ?_
      clear S; intro aa S
      refine BN.eff 5 rfl (by kernel_rfl) ?_
      refine OL.not S rfl rfl (GNo.mk rfl rfl hb) ?_
      clear S; intro aa S
      refine OL.nil ?_
      refine ⟨fun _ => by rw [S.heap]; exact HS, ?_⟩
      refine BN.eff 7 rfl (by kernel_rfl) ?_
      refine OL.not S rfl rfl (GNo.mk rfl rfl hb) ?_
      clear S; intro aa S
      refine OL.nil ?_
      refine ⟨noNeed (by kernel_rfl), ?_⟩
      refine BN.eff 8 rfl (by kernel_rfl) ?_
      refine OL.not S rfl rfl (GNo.mk rfl rfl hb) ?_
      clear S; intro aa S
      refine OL.nil ?_
      refine ⟨noNeed (by kernel_rfl), ?_⟩
      refine BN.pure 9 S (noNeed (by kernel_rfl)) rfl (by kernel_rfl) (by kernel_rfl) (fun _ => run_pickF (S.ev rfl) hb (S.ev rfl)) rfl rfl trivial ?_
      clear S; intro aa S
      refine BN.pure 10 S (noNeed (by kernel_rfl)) rfl (by kernel_rfl) (by kernel_rfl) (fun _ => Lf.run_assign (S.ev rfl)) rfl rfl trivial ?_
      clear S; intro aa S
      refine BN.done (by kernel_rfl) ?_
      exact ⟨false, h3, S.sub _ ⟨rfl, trivial⟩, H⟩
  · clear H S aa
    rintro aa ww ⟨x4, h7, S, HJ⟩
    have H := HK _ _ HJ
    clear HK HJ
    refine W.ret ?_
    exact Ret.one S rfl rfl H

end Go.Proofs.Ytohlfkomjmjheaa

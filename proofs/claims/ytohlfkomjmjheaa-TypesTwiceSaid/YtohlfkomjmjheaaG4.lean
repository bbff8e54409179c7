/- Lifted by program off the elaborated code: each Go function, read as a proposition over typed variables and the heap. -/
import Derived.Test.YtohlfkomjmjheaaG0
namespace Go.Proofs.Ytohlfkomjmjheaa
open Go Go.Lf
set_option linter.unusedVariables false
set_option maxRecDepth 100000

/-- chattel types.own -/
def L33 (x0 : Int) (x0_1 : ByteArray) (x0_2 : Bool) (x0_3 : Int) (x0_4 : Sv) (x0_5 : Sv) (h : Heap) (R : Value → Heap → Prop) : Prop :=
  new 25 #[Value.int .i64 x0, Value.string x0_1, Value.bool x0_2, Value.int .i64 x0_3, Value.slice x0_4.a x0_4.n x0_4.c, Value.slice x0_5.a x0_5.n x0_5.c] h fun p1 h1 =>
  ldI .i64 h1 p1 fun x4 =>
  ∃ J : Bool → Prop, (orr (x4 == 7) (fun k =>
    ldI .i64 h1 p1 fun x8 =>
    k (x8 == 8)) J) ∧ ∀ x10, J x10 →
  ∃ J_1 : Bool → Prop, (orr x10 (fun k_1 =>
    ldI .i64 h1 p1 fun x13 =>
    k_1 (x13 == 9)) J_1) ∧ ∀ x15, J_1 x15 →
  R (Value.bool x15) h1

set_option maxRecDepth 100000 in

theorem F33 {x0 x0_1 x0_2 x0_3 x0_4 x0_5 h : _} {R : Value → Heap → Prop} (H : L33 x0 x0_1 x0_2 x0_3 x0_4 x0_5 h R) : CallsH Try.prog 33 #[Value.agg #[Value.int .i64 x0, Value.string x0_1, Value.bool x0_2, Value.int .i64 x0_3, Value.slice x0_4.a x0_4.n x0_4.c, Value.slice x0_5.a x0_5.n x0_5.c]] h R := by
  refine CallsH.enter (n := 16) Try.func33 rfl rfl rfl rfl ?_
  intro w0 aa ww S
  unfold L33 at H
  refine W.seq ?_
  replace S := S.sub [(0, Value.agg #[Value.int .i64 x0, Value.string x0_1, Value.bool x0_2, Value.int .i64 x0_3, Value.slice x0_4.a x0_4.n x0_4.c, Value.slice x0_5.a x0_5.n x0_5.c])] ⟨rfl, trivial⟩
  refine W.region ?_
  refine ol_box S H rfl rfl rfl trivial ?_
  clear S H aa; intro p1 aa ww h1 H S
  refine OL.pure S (Lf.run_assign (S.ev rfl)) rfl rfl trivial ?_
  clear S; intro aa S
  refine OL.nil ?_
  refine W.seq ?_
  replace S := S.sub [(1, Value.pointer (some p1))] ⟨rfl, trivial⟩
  refine W.region ?_
  refine OL.pure S (Lf.run_fa (S.ev rfl) fa25_0) rfl rfl trivial ?_
  clear S; intro aa S
  obtain ⟨x4, c, H⟩ := H
  refine OL.pure S (Lf.run_ld (S.ev rfl) fl3 (S.cl c)) rfl rfl trivial ?_
  clear S; intro aa S
  refine OL.pure S (Lf.run_eql (S.ev rfl) (S.ev rfl)) rfl rfl trivial ?_
  clear S; intro aa S
  refine OL.pure S (Lf.run_move (S.ev rfl)) rfl rfl trivial ?_
  clear S; intro aa S
  obtain ⟨J, H, HK⟩ := H
  refine OL.cutN 4 (fun aa ww => ∃ x10, St 16 ((10, Value.bool x10) :: [(1, Value.pointer (some p1)), (3, Value.pointer (some p1)), (4, Value.int .i64 x4), (5, Value.bool (x4 == 7)), (6, Value.bool (x4 == 7))]) h1 w0 aa ww ∧ J x10) ?_ ?_
  · rcases Bool.eq_false_or_eq_true (x4 == 7) with hb | hb
    · replace H := H.1 hb
      refine OL.not S rfl rfl (GNo.mk rfl rfl hb) ?_
      clear S; intro aa S
      refine OL.not S rfl rfl (GNo.mk rfl rfl hb) ?_
      clear S; intro aa S
      refine OL.not S rfl rfl (GNo.mk rfl rfl hb) ?_
      clear S; intro aa S
      refine OL.pure S (Lf.run_pickT (S.ev rfl) hb (S.ev rfl)) rfl rfl trivial ?_
      clear S; intro aa S
      refine OL.nil ?_
      exact ⟨_, S.sub _ ⟨rfl, rfl, rfl, rfl, rfl, rfl, trivial⟩, H⟩
    · replace H := H.2 hb
      refine OL.pure S (Lf.run_fa (S.ev rfl) fa25_0) rfl rfl (GOk.mk rfl rfl hb) ?_
      clear S; intro aa S
      obtain ⟨x8, c_1, H⟩ := H
      refine OL.pure S (Lf.run_ld (S.ev rfl) fl3 (S.cl c_1)) rfl rfl (GOk.mk rfl rfl hb) ?_
      clear S; intro aa S
      refine OL.pure S (Lf.run_eql (S.ev rfl) (S.ev rfl)) rfl rfl (GOk.mk rfl rfl hb) ?_
      clear S; intro aa S
      refine OL.pure S (Lf.run_pickF (S.ev rfl) hb (S.ev rfl)) rfl rfl trivial ?_
      clear S; intro aa S
      refine OL.nil ?_
      exact ⟨_, S.sub _ ⟨rfl, rfl, rfl, rfl, rfl, rfl, trivial⟩, H⟩
  · clear S aa
    rintro aa ww ⟨x10, S, HJ⟩
    replace H := HK _ HJ
    clear HK HJ
    refine OL.pure S (Lf.run_move (S.ev rfl)) rfl rfl trivial ?_
    clear S; intro aa S
    obtain ⟨J_1, H, HK_1⟩ := H
    refine OL.cutN 4 (fun aa ww => ∃ x15, St 16 ((15, Value.bool x15) :: [(1, Value.pointer (some p1)), (3, Value.pointer (some p1)), (4, Value.int .i64 x4), (5, Value.bool (x4 == 7)), (6, Value.bool (x4 == 7)), (10, Value.bool x10), (11, Value.bool x10)]) h1 w0 aa ww ∧ J_1 x15) ?_ ?_
    · rcases Bool.eq_false_or_eq_true x10 with hb_1 | hb_1
      · replace H := H.1 hb_1
        refine OL.not S rfl rfl (GNo.mk rfl rfl hb_1) ?_
        clear S; intro aa S
        refine OL.not S rfl rfl (GNo.mk rfl rfl hb_1) ?_
        clear S; intro aa S
        refine OL.not S rfl rfl (GNo.mk rfl rfl hb_1) ?_
        clear S; intro aa S
        refine OL.pure S (Lf.run_pickT (S.ev rfl) hb_1 (S.ev rfl)) rfl rfl trivial ?_
        clear S; intro aa S
        refine OL.nil ?_
        exact ⟨_, S.sub _ ⟨rfl, rfl, rfl, rfl, rfl, rfl, rfl, rfl, trivial⟩, H⟩
      · replace H := H.2 hb_1
        refine OL.pure S (Lf.run_fa (S.ev rfl) fa25_0) rfl rfl (GOk.mk rfl rfl hb_1) ?_
        clear S; intro aa S
        obtain ⟨x13, c_2, H⟩ := H
        refine OL.pure S (Lf.run_ld (S.ev rfl) fl3 (S.cl c_2)) rfl rfl (GOk.mk rfl rfl hb_1) ?_
        clear S; intro aa S
        refine OL.pure S (Lf.run_eql (S.ev rfl) (S.ev rfl)) rfl rfl (GOk.mk rfl rfl hb_1) ?_
        clear S; intro aa S
        refine OL.pure S (Lf.run_pickF (S.ev rfl) hb_1 (S.ev rfl)) rfl rfl trivial ?_
        clear S; intro aa S
        refine OL.nil ?_
        exact ⟨_, S.sub _ ⟨rfl, rfl, rfl, rfl, rfl, rfl, rfl, rfl, trivial⟩, H⟩
    · clear S aa
      rintro aa ww ⟨x15, S, HJ⟩
      replace H := HK_1 _ HJ
      clear HK_1 HJ
      refine OL.pure S (Lf.run_assign (S.ev rfl)) rfl rfl trivial ?_
      clear S; intro aa S
      refine OL.nil ?_
      refine W.ret ?_
      exact Ret.one S rfl rfl H

/-- slices.Clone[[]int,int] -/
def L34 (s0 : Sv) (h : Heap) (R : Value → Heap → Prop) : Prop :=
  ifb (Option.isNone s0.a) (
    R (Value.slice (⟨none, 0, 0⟩ : Sv).a (⟨none, 0, 0⟩ : Sv).n (⟨none, 0, 0⟩ : Sv).c) h) (
    newS 3 #[] 0 h fun s5 h1 =>
    appS 3 (Value.int .i64 0).cells 1 8 h1 s5 s0 fun s7 h2 =>
    R (Value.slice s7.a s7.n s7.c) h2)

set_option maxRecDepth 100000 in

theorem F34 {s0 h : _} {R : Value → Heap → Prop} (H : L34 s0 h R) : CallsH Try.prog 34 #[Value.slice s0.a s0.n s0.c] h R := by
  refine CallsH.enter (n := 8) Try.func34 rfl rfl rfl rfl ?_
  intro w0 aa ww S
  unfold L34 at H
  refine W.seq ?_
  replace S := S.sub [(0, Value.slice s0.a s0.n s0.c)] ⟨rfl, trivial⟩
  refine W.region ?_
  refine OL.pure S (Lf.run_assign (S.ev rfl)) rfl rfl trivial ?_
  clear S; intro aa S
  refine OL.nil ?_
  refine W.seq ?_
  refine W.seq ?_
  replace S := S.sub [(0, Value.slice s0.a s0.n s0.c)] ⟨rfl, trivial⟩
  refine W.region ?_
  refine OL.pure S (Lf.run_move (S.ev rfl)) rfl rfl trivial ?_
  clear S; intro aa S
  refine OL.pure S (Lf.run_eqlsn Try.underlying22 (S.ev rfl) (S.ev rfl)) rfl rfl trivial ?_
  clear S; intro aa S
  refine OL.nil ?_
  refine W.cond S (b := (Option.isNone s0.a)) rfl (fun hb => ?_) (fun hb => ?_)
  · replace H := H.1 hb
    refine W.seq ?_
    replace S := S.sub [] trivial
    refine W.region ?_
    refine OL.pure S (Lf.run_assign (S.ev rfl)) rfl rfl trivial ?_
    clear S; intro aa S
    refine OL.nil ?_
    refine W.ret ?_
    exact Ret.one S rfl rfl H
  · replace H := H.2 hb
    refine W.skip ?_
    refine W.seq ?_
    replace S := S.sub [(0, Value.slice s0.a s0.n s0.c)] ⟨rfl, trivial⟩
    refine W.region ?_
    refine ol_newS0 S H Try.underlying22 ti3 rfl rfl trivial ?_
    clear S H aa; intro s5 aa ww h1 H S
    refine OL.pure S (Lf.run_move (S.ev rfl)) rfl rfl trivial ?_
    clear S; intro aa S
    refine ol_appS S H Try.underlying22 ti3 rfl rfl rfl trivial ?_
    clear S H aa; intro s7 aa ww h2 H S
    refine OL.pure S (Lf.run_assign (S.ev rfl)) rfl rfl trivial ?_
    clear S; intro aa S
    refine OL.nil ?_
    refine W.ret ?_
    exact Ret.one S rfl rfl H

/-- slices.Clone[[]chattel api.Type,chattel api.Type] -/
def L35 (s0 : Sv) (h : Heap) (R : Value → Heap → Prop) : Prop :=
  ifb (Option.isNone s0.a) (
    R (Value.slice (⟨none, 0, 0⟩ : Sv).a (⟨none, 0, 0⟩ : Sv).n (⟨none, 0, 0⟩ : Sv).c) h) (
    newS 25 #[] 0 h fun s5 h1 =>
    appS 25 (Value.agg #[Value.int .i64 0, Value.string (⟨#[]⟩ : ByteArray), Value.bool false, Value.int .i64 0, Value.slice (⟨none, 0, 0⟩ : Sv).a (⟨none, 0, 0⟩ : Sv).n (⟨none, 0, 0⟩ : Sv).c, Value.slice (⟨none, 0, 0⟩ : Sv).a (⟨none, 0, 0⟩ : Sv).n (⟨none, 0, 0⟩ : Sv).c]).cells 6 88 h1 s5 s0 fun s7 h2 =>
    R (Value.slice s7.a s7.n s7.c) h2)

set_option maxRecDepth 100000 in

theorem F35 {s0 h : _} {R : Value → Heap → Prop} (H : L35 s0 h R) : CallsH Try.prog 35 #[Value.slice s0.a s0.n s0.c] h R := by
  refine CallsH.enter (n := 8) Try.func35 rfl rfl rfl rfl ?_
  intro w0 aa ww S
  unfold L35 at H
  refine W.seq ?_
  replace S := S.sub [(0, Value.slice s0.a s0.n s0.c)] ⟨rfl, trivial⟩
  refine W.region ?_
  refine OL.pure S (Lf.run_assign (S.ev rfl)) rfl rfl trivial ?_
  clear S; intro aa S
  refine OL.nil ?_
  refine W.seq ?_
  refine W.seq ?_
  replace S := S.sub [(0, Value.slice s0.a s0.n s0.c)] ⟨rfl, trivial⟩
  refine W.region ?_
  refine OL.pure S (Lf.run_move (S.ev rfl)) rfl rfl trivial ?_
  clear S; intro aa S
  refine OL.pure S (Lf.run_eqlsn Try.underlying23 (S.ev rfl) (S.ev rfl)) rfl rfl trivial ?_
  clear S; intro aa S
  refine OL.nil ?_
  refine W.cond S (b := (Option.isNone s0.a)) rfl (fun hb => ?_) (fun hb => ?_)
  · replace H := H.1 hb
    refine W.seq ?_
    replace S := S.sub [] trivial
    refine W.region ?_
    refine OL.pure S (Lf.run_assign (S.ev rfl)) rfl rfl trivial ?_
    clear S; intro aa S
    refine OL.nil ?_
    refine W.ret ?_
    exact Ret.one S rfl rfl H
  · replace H := H.2 hb
    refine W.skip ?_
    refine W.seq ?_
    replace S := S.sub [(0, Value.slice s0.a s0.n s0.c)] ⟨rfl, trivial⟩
    refine W.region ?_
    refine ol_newS0 S H Try.underlying23 ti25 rfl rfl trivial ?_
    clear S H aa; intro s5 aa ww h1 H S
    refine OL.pure S (Lf.run_move (S.ev rfl)) rfl rfl trivial ?_
    clear S; intro aa S
    refine ol_appS S H Try.underlying23 ti25 rfl rfl rfl trivial ?_
    clear S H aa; intro s7 aa ww h2 H S
    refine OL.pure S (Lf.run_assign (S.ev rfl)) rfl rfl trivial ?_
    clear S; intro aa S
    refine OL.nil ?_
    refine W.ret ?_
    exact Ret.one S rfl rfl H

/-- chattel chattelref07.own -/
def L36 (x0 : Int) (x0_1 : ByteArray) (x0_2 : Bool) (x0_3 : Int) (x0_4 : Sv) (x0_5 : Sv) (h : Heap) (R : Value → Heap → Prop) : Prop :=
  new 25 #[Value.int .i64 x0, Value.string x0_1, Value.bool x0_2, Value.int .i64 x0_3, Value.slice x0_4.a x0_4.n x0_4.c, Value.slice x0_5.a x0_5.n x0_5.c] h fun p1 h1 =>
  ldI .i64 h1 p1 fun x4 =>
  ∃ J : Bool → Prop, (andr (decide (7 ≤ x4)) (fun k =>
    ldI .i64 h1 p1 fun x8 =>
    k (decide (x8 ≤ 9))) J) ∧ ∀ x10, J x10 →
  ifb x10 (
    ldI .i64 h1 (p1.add 3) fun x12 =>
    newS 3 #[Value.int .i64 x12] 1 h1 fun s13 h2 =>
    R (Value.slice s13.a s13.n s13.c) h2) (
    ldI .i64 h1 p1 fun x15 =>
    ifb (x15 == 5) (
      ldS h1 (p1.add 4) fun x18 =>
      R (Value.slice x18.a x18.n x18.c) h1) (
      R (Value.slice (⟨none, 0, 0⟩ : Sv).a (⟨none, 0, 0⟩ : Sv).n (⟨none, 0, 0⟩ : Sv).c) h1))

set_option maxRecDepth 100000 in

theorem F36 {x0 x0_1 x0_2 x0_3 x0_4 x0_5 h : _} {R : Value → Heap → Prop} (H : L36 x0 x0_1 x0_2 x0_3 x0_4 x0_5 h R) : CallsH Try.prog 36 #[Value.agg #[Value.int .i64 x0, Value.string x0_1, Value.bool x0_2, Value.int .i64 x0_3, Value.slice x0_4.a x0_4.n x0_4.c, Value.slice x0_5.a x0_5.n x0_5.c]] h R := by
  refine CallsH.enter (n := 19) Try.func36 rfl rfl rfl rfl ?_
  intro w0 aa ww S
  unfold L36 at H
  refine W.seq ?_
  replace S := S.sub [(0, Value.agg #[Value.int .i64 x0, Value.string x0_1, Value.bool x0_2, Value.int .i64 x0_3, Value.slice x0_4.a x0_4.n x0_4.c, Value.slice x0_5.a x0_5.n x0_5.c])] ⟨rfl, trivial⟩
  refine W.region ?_
  refine ol_box S H rfl rfl rfl trivial ?_
  clear S H aa; intro p1 aa ww h1 H S
  refine OL.pure S (Lf.run_assign (S.ev rfl)) rfl rfl trivial ?_
  clear S; intro aa S
  refine OL.nil ?_
  refine W.seq ?_
  refine W.seq ?_
  replace S := S.sub [(1, Value.pointer (some p1))] ⟨rfl, trivial⟩
  refine W.region ?_
  refine OL.pure S (Lf.run_fa (S.ev rfl) fa25_0) rfl rfl trivial ?_
  clear S; intro aa S
  obtain ⟨x4, c, H⟩ := H
  refine OL.pure S (Lf.run_ld (S.ev rfl) fl3 (S.cl c)) rfl rfl trivial ?_
  clear S; intro aa S
  refine OL.pure S (Lf.run_geq (S.ev rfl) (S.ev rfl)) rfl rfl trivial ?_
  clear S; intro aa S
  refine OL.pure S (Lf.run_move (S.ev rfl)) rfl rfl trivial ?_
  clear S; intro aa S
  obtain ⟨J, H, HK⟩ := H
  refine OL.cutN 4 (fun aa ww => ∃ x10, St 19 ((10, Value.bool x10) :: [(1, Value.pointer (some p1)), (3, Value.pointer (some p1)), (4, Value.int .i64 x4), (5, Value.bool (decide (7 ≤ x4))), (6, Value.bool (decide (7 ≤ x4)))]) h1 w0 aa ww ∧ J x10) ?_ ?_
  · rcases Bool.eq_false_or_eq_true (decide (7 ≤ x4)) with hb | hb
    · replace H := H.1 hb
      refine OL.pure S (Lf.run_fa (S.ev rfl) fa25_0) rfl rfl (GOk.mk rfl rfl hb) ?_
      clear S; intro aa S
      obtain ⟨x8, c_1, H⟩ := H
      refine OL.pure S (Lf.run_ld (S.ev rfl) fl3 (S.cl c_1)) rfl rfl (GOk.mk rfl rfl hb) ?_
      clear S; intro aa S
      refine OL.pure S (Lf.run_leq (S.ev rfl) (S.ev rfl)) rfl rfl (GOk.mk rfl rfl hb) ?_
      clear S; intro aa S
      refine OL.pure S (Lf.run_pickT (S.ev rfl) hb (S.ev rfl)) rfl rfl trivial ?_
      clear S; intro aa S
      refine OL.nil ?_
      exact ⟨_, S.sub _ ⟨rfl, rfl, rfl, rfl, rfl, rfl, trivial⟩, H⟩
    · replace H := H.2 hb
      refine OL.not S rfl rfl (GNo.mk rfl rfl hb) ?_
      clear S; intro aa S
      refine OL.not S rfl rfl (GNo.mk rfl rfl hb) ?_
      clear S; intro aa S
      refine OL.not S rfl rfl (GNo.mk rfl rfl hb) ?_
      clear S; intro aa S
      refine OL.pure S (Lf.run_pickF (S.ev rfl) hb (S.ev rfl)) rfl rfl trivial ?_
      clear S; intro aa S
      refine OL.nil ?_
      exact ⟨_, S.sub _ ⟨rfl, rfl, rfl, rfl, rfl, rfl, trivial⟩, H⟩
  · clear S aa
    rintro aa ww ⟨x10, S, HJ⟩
    replace H := HK _ HJ
    clear HK HJ
    refine OL.nil ?_
    refine W.cond S (b := x10) rfl (fun hb_1 => ?_) (fun hb_1 => ?_)
    · replace H := H.1 hb_1
      refine W.seq ?_
      replace S := S.sub [(1, Value.pointer (some p1))] ⟨rfl, trivial⟩
      refine W.region ?_
      refine OL.pure S (Lf.run_fa (S.ev rfl) fa25_3) rfl rfl trivial ?_
      clear S; intro aa S
      obtain ⟨x12, c_2, H⟩ := H
      refine OL.pure S (Lf.run_ld (S.ev rfl) fl3 (S.cl c_2)) rfl rfl trivial ?_
      clear S; intro aa S
      refine ol_newS S H Try.underlying22 ti3 (by decide) (parts_map S rfl) (by kernel_rfl) (by decide) rfl trivial ?_
      clear S H aa; intro s13 aa ww h2 H S
      refine OL.pure S (Lf.run_assign (S.ev rfl)) rfl rfl trivial ?_
      clear S; intro aa S
      refine OL.nil ?_
      refine W.ret ?_
      exact Ret.one S rfl rfl H
    · replace H := H.2 hb_1
      refine W.skip ?_
      refine W.seq ?_
      refine W.seq ?_
      replace S := S.sub [(1, Value.pointer (some p1))] ⟨rfl, trivial⟩
      refine W.region ?_
      refine OL.pure S (Lf.run_fa (S.ev rfl) fa25_0) rfl rfl trivial ?_
      clear S; intro aa S
      obtain ⟨x15, c_3, H⟩ := H
      refine OL.pure S (Lf.run_ld (S.ev rfl) fl3 (S.cl c_3)) rfl rfl trivial ?_
      clear S; intro aa S
      refine OL.pure S (Lf.run_eql (S.ev rfl) (S.ev rfl)) rfl rfl trivial ?_
      clear S; intro aa S
      refine OL.nil ?_
      refine W.cond S (b := (x15 == 5)) rfl (fun hb_2 => ?_) (fun hb_2 => ?_)
      · replace H := H.1 hb_2
        refine W.seq ?_
        replace S := S.sub [(1, Value.pointer (some p1))] ⟨rfl, trivial⟩
        refine W.region ?_
        refine OL.pure S (Lf.run_fa (S.ev rfl) fa25_4) rfl rfl trivial ?_
        clear S; intro aa S
        obtain ⟨x18, c_4, H⟩ := H
        refine OL.pure S (Lf.run_ld (S.ev rfl) fl22 (S.cl c_4)) rfl rfl trivial ?_
        clear S; intro aa S
        refine OL.pure S (Lf.run_assign (S.ev rfl)) rfl rfl trivial ?_
        clear S; intro aa S
        refine OL.nil ?_
        refine W.ret ?_
        exact Ret.one S rfl rfl H
      · replace H := H.2 hb_2
        refine W.skip ?_
        refine W.seq ?_
        replace S := S.sub [] trivial
        refine W.region ?_
        refine OL.pure S (Lf.run_assign (S.ev rfl)) rfl rfl trivial ?_
        clear S; intro aa S
        refine OL.nil ?_
        refine W.ret ?_
        exact Ret.one S rfl rfl H

/-- chattel types.Erase$1 -/
def L37 (x0 : Int) (h : Heap) (R : Value → Heap → Prop) : Prop :=
  R (Value.int .i64 0) h

set_option maxRecDepth 100000 in

theorem F37 {x0 h : _} {R : Value → Heap → Prop} (H : L37 x0 h R) : CallsH Try.prog 37 #[Value.int .i64 x0] h R := by
  refine CallsH.enter (n := 3) Try.func37 rfl rfl rfl rfl ?_
  intro w0 aa ww S
  unfold L37 at H
  refine W.seq ?_
  replace S := S.sub [] trivial
  refine W.region ?_
  refine OL.pure S (Lf.run_assign (S.ev rfl)) rfl rfl trivial ?_
  clear S; intro aa S
  refine OL.nil ?_
  refine W.seq ?_
  replace S := S.sub [] trivial
  refine W.region ?_
  refine OL.pure S (Lf.run_assign (S.ev rfl)) rfl rfl trivial ?_
  clear S; intro aa S
  refine OL.nil ?_
  refine W.ret ?_
  exact Ret.one S rfl rfl H

/-- slices.Index[[]string,string] -/
def L38 (s0 : Sv) (v1 : ByteArray) (h : Heap) (R : Value → Heap → Prop) : Prop :=
  ∃ (I : Int → Prop) (m : Int → Nat), I 0 ∧ ∀ x8, I x8 →
  ifb (decide (x8 < ((s0.n : Nat) : Int))) (
    ixS s0 x8 fun q14 =>
    ldT h (q14.add ((x8 : Int).toNat * 1)) fun x15 =>
    ifb (v1.toList == x15.toList) (
      R (Value.int .i64 x8) h) (
      I (IntKind.i64.wrap (x8 + 1)) ∧ m (IntKind.i64.wrap (x8 + 1)) < m x8)) (
    R (Value.int .i64 (-1)) h)

set_option maxRecDepth 100000 in

theorem F38 {s0 v1 h : _} {R : Value → Heap → Prop} (H : L38 s0 v1 h R) : CallsH Try.prog 38 #[Value.slice s0.a s0.n s0.c, Value.string v1] h R := by
  refine CallsH.enter (n := 19) Try.func38 rfl rfl rfl rfl ?_
  intro w0 aa ww S
  unfold L38 at H
  refine W.seq ?_
  replace S := S.sub [(0, Value.slice s0.a s0.n s0.c), (1, Value.string v1)] ⟨rfl, rfl, trivial⟩
  refine W.region ?_
  refine OL.pure S (Lf.run_assign (S.ev rfl)) rfl rfl trivial ?_
  clear S; intro aa S
  refine OL.nil ?_
  refine W.seq ?_
  refine W.seq ?_
  replace S := S.sub [(0, Value.slice s0.a s0.n s0.c), (1, Value.string v1)] ⟨rfl, rfl, trivial⟩
  refine W.region ?_
  refine OL.pure S (Lf.run_move (S.ev rfl)) rfl rfl trivial ?_
  clear S; intro aa S
  refine OL.pure S (Lf.run_lens (S.ev rfl) rfl Try.underlying41) rfl rfl trivial ?_
  clear S; intro aa S
  refine OL.pure S (Lf.run_move (S.ev rfl)) rfl rfl trivial ?_
  clear S; intro aa S
  refine OL.nil ?_
  refine W.block ?_
  obtain ⟨I, m, H, HB⟩ := H
  refine W.loopS (σ := Int) (fun s aa ww => St 19 [(0, Value.slice s0.a s0.n s0.c), (1, Value.string v1), (7, Value.int .i64 ((s0.n : Nat) : Int)), (8, Value.int .i64 s)] h w0 aa ww ∧ I s) (fun s => m s) (0) ⟨S.sub _ ⟨rfl, rfl, rfl, rfl, trivial⟩, H⟩ ?_
  clear H S aa
  rintro x8 aa ww ⟨S, HI⟩
  replace S : St 19 [(0, Value.slice s0.a s0.n s0.c), (1, Value.string v1), (7, Value.int .i64 ((s0.n : Nat) : Int)), (8, Value.int .i64 x8)] h w0 aa ww := S
  have H := HB x8 HI
  clear HI
  refine W.seq ?_
  replace S := S.sub [(0, Value.slice s0.a s0.n s0.c), (1, Value.string v1), (7, Value.int .i64 ((s0.n : Nat) : Int)), (8, Value.int .i64 x8)] ⟨rfl, rfl, rfl, rfl, trivial⟩
  refine W.region ?_
  refine OL.pure S (Lf.run_lss (S.ev rfl) (S.ev rfl)) rfl rfl trivial ?_
  clear S; intro aa S
  refine OL.nil ?_
  refine W.seq ?_
  refine W.cond S (b := (decide (x8 < ((s0.n : Nat) : Int)))) rfl (fun hb => ?_) (fun hb => ?_)
  · replace H := H.1 hb
    refine W.skip ?_
    refine W.seq ?_
    refine W.block ?_
    refine W.seq ?_
    replace S := S.sub [(0, Value.slice s0.a s0.n s0.c), (1, Value.string v1), (7, Value.int .i64 ((s0.n : Nat) : Int)), (8, Value.int .i64 x8)] ⟨rfl, rfl, rfl, rfl, trivial⟩
    refine W.region ?_
    refine OL.pure S (Lf.run_move (S.ev rfl)) rfl rfl trivial ?_
    clear S; intro aa S
    refine OL.pure S (Lf.run_assign (S.ev rfl)) rfl rfl trivial ?_
    clear S; intro aa S
    refine OL.nil ?_
    refine W.seq ?_
    replace S := S.sub [(0, Value.slice s0.a s0.n s0.c), (1, Value.string v1), (5, Value.int .i64 x8), (7, Value.int .i64 ((s0.n : Nat) : Int)), (8, Value.int .i64 x8)] ⟨rfl, rfl, rfl, rfl, rfl, trivial⟩
    refine W.region ?_
    refine OL.pure S (Lf.run_move (S.ev rfl)) rfl rfl trivial ?_
    clear S; intro aa S
    refine OL.pure S (Lf.run_move (S.ev rfl)) rfl rfl trivial ?_
    clear S; intro aa S
    refine OL.pure S (Lf.run_move (S.ev rfl)) rfl rfl trivial ?_
    clear S; intro aa S
    obtain ⟨q14, e, e_1, e_2, H⟩ := H
    refine OL.pure S (Lf.run_ixs (S.ev rfl) (S.ev rfl) Try.underlying41 ti9 e e_1 e_2) rfl rfl trivial ?_
    clear S; intro aa S
    obtain ⟨x15, c, H⟩ := H
    refine OL.pure S (Lf.run_ld (S.ev rfl) fl9 (S.cl c)) rfl rfl trivial ?_
    clear S; intro aa S
    refine OL.pure S (Lf.run_eqlt (S.ev rfl) (S.ev rfl)) rfl rfl trivial ?_
    clear S; intro aa S
    refine OL.nil ?_
    refine W.cond S (b := (v1.toList == x15.toList)) rfl (fun hb_1 => ?_) (fun hb_1 => ?_)
    · replace H := H.1 hb_1
      refine W.seq ?_
      replace S := S.sub [(5, Value.int .i64 x8)] ⟨rfl, trivial⟩
      refine W.region ?_
      refine OL.pure S (Lf.run_move (S.ev rfl)) rfl rfl trivial ?_
      clear S; intro aa S
      refine OL.pure S (Lf.run_assign (S.ev rfl)) rfl rfl trivial ?_
      clear S; intro aa S
      refine OL.nil ?_
      refine W.ret ?_
      exact Ret.one S rfl rfl H
    · replace H := H.2 hb_1
      refine W.skip ?_
      replace S := S.sub [(0, Value.slice s0.a s0.n s0.c), (1, Value.string v1), (7, Value.int .i64 ((s0.n : Nat) : Int)), (8, Value.int .i64 x8)] ⟨rfl, rfl, rfl, rfl, trivial⟩
      refine W.region ?_
      refine OL.pure S (Lf.run_add (S.ev rfl) (S.ev rfl)) rfl rfl trivial ?_
      clear S; intro aa S
      refine OL.pure S (Lf.run_move (S.ev rfl)) rfl rfl trivial ?_
      clear S; intro aa S
      refine OL.nil ?_
      exact ⟨((IntKind.i64.wrap (x8 + 1))), ⟨S.sub _ ⟨rfl, rfl, rfl, rfl, trivial⟩, H.1⟩, H.2⟩
  · replace H := H.2 hb
    refine W.exit_ ?_
    refine xhit ?_
    refine W.seq ?_
    replace S := S.sub [] trivial
    refine W.region ?_
    refine OL.pure S (Lf.run_assign (S.ev rfl)) rfl rfl trivial ?_
    clear S; intro aa S
    refine OL.nil ?_
    refine W.ret ?_
    exact Ret.one S rfl rfl H

/-- chattel types.Inst$1 -/
def L39 (r0 : Int) (x1 : Addr) (h : Heap) (R : Value → Heap → Prop) : Prop :=
  ∃ J : Bool → Prop, (andr (decide (1 ≤ r0)) (fun k =>
    ldS h x1 fun x8 =>
    k (decide (r0 ≤ ((x8.n : Nat) : Int)))) J) ∧ ∀ x11, J x11 →
  ifb x11 (
    ldS h x1 fun x12 =>
    ixS x12 (IntKind.i64.wrap (r0 - 1)) fun q15 =>
    ldI .i64 h (q15.add (((IntKind.i64.wrap (r0 - 1)) : Int).toNat * 1)) fun x16 =>
    R (Value.int .i64 x16) h) (
    R (Value.int .i64 r0) h)

set_option maxRecDepth 100000 in

theorem F39 {r0 x1 h : _} {R : Value → Heap → Prop} (H : L39 r0 x1 h R) : CallsH Try.prog 39 #[Value.int .i64 r0, Value.pointer (some x1)] h R := by
  refine CallsH.enter (n := 18) Try.func39 rfl rfl rfl rfl ?_
  intro w0 aa ww S
  unfold L39 at H
  refine W.seq ?_
  replace S := S.sub [(0, Value.int .i64 r0), (1, Value.pointer (some x1))] ⟨rfl, rfl, trivial⟩
  refine W.region ?_
  refine OL.pure S (Lf.run_assign (S.ev rfl)) rfl rfl trivial ?_
  clear S; intro aa S
  refine OL.nil ?_
  refine W.seq ?_
  refine W.seq ?_
  replace S := S.sub [(0, Value.int .i64 r0), (1, Value.pointer (some x1))] ⟨rfl, rfl, trivial⟩
  refine W.region ?_
  refine OL.pure S (Lf.run_move (S.ev rfl)) rfl rfl trivial ?_
  clear S; intro aa S
  refine OL.pure S (Lf.run_geq (S.ev rfl) (S.ev rfl)) rfl rfl trivial ?_
  clear S; intro aa S
  refine OL.pure S (Lf.run_move (S.ev rfl)) rfl rfl trivial ?_
  clear S; intro aa S
  obtain ⟨J, H, HK⟩ := H
  refine OL.cutN 5 (fun aa ww => ∃ x11, St 18 ((11, Value.bool x11) :: [(0, Value.int .i64 r0), (1, Value.pointer (some x1)), (4, Value.int .i64 r0), (5, Value.bool (decide (1 ≤ r0))), (6, Value.bool (decide (1 ≤ r0)))]) h w0 aa ww ∧ J x11) ?_ ?_
  · rcases Bool.eq_false_or_eq_true (decide (1 ≤ r0)) with hb | hb
    · replace H := H.1 hb
      refine OL.pure S (Lf.run_move (S.ev rfl)) rfl rfl (GOk.mk rfl rfl hb) ?_
      clear S; intro aa S
      obtain ⟨x8, c, H⟩ := H
      refine OL.pure S (Lf.run_ld (S.ev rfl) fl22 (S.cl c)) rfl rfl (GOk.mk rfl rfl hb) ?_
      clear S; intro aa S
      refine OL.pure S (Lf.run_lens (S.ev rfl) rfl Try.underlying22) rfl rfl (GOk.mk rfl rfl hb) ?_
      clear S; intro aa S
      refine OL.pure S (Lf.run_leq (S.ev rfl) (S.ev rfl)) rfl rfl (GOk.mk rfl rfl hb) ?_
      clear S; intro aa S
      refine OL.pure S (Lf.run_pickT (S.ev rfl) hb (S.ev rfl)) rfl rfl trivial ?_
      clear S; intro aa S
      refine OL.nil ?_
      exact ⟨_, S.sub _ ⟨rfl, rfl, rfl, rfl, rfl, rfl, trivial⟩, H⟩
    · replace H := H.2 hb
      refine OL.not S rfl rfl (GNo.mk rfl rfl hb) ?_
      clear S; intro aa S
      refine OL.not S rfl rfl (GNo.mk rfl rfl hb) ?_
      clear S; intro aa S
      refine OL.not S rfl rfl (GNo.mk rfl rfl hb) ?_
      clear S; intro aa S
      refine OL.not S rfl rfl (GNo.mk rfl rfl hb) ?_
      clear S; intro aa S
      refine OL.pure S (Lf.run_pickF (S.ev rfl) hb (S.ev rfl)) rfl rfl trivial ?_
      clear S; intro aa S
      refine OL.nil ?_
      exact ⟨_, S.sub _ ⟨rfl, rfl, rfl, rfl, rfl, rfl, trivial⟩, H⟩
  · clear S aa
    rintro aa ww ⟨x11, S, HJ⟩
    replace H := HK _ HJ
    clear HK HJ
    refine OL.nil ?_
    refine W.cond S (b := x11) rfl (fun hb_1 => ?_) (fun hb_1 => ?_)
    · replace H := H.1 hb_1
      refine W.seq ?_
      replace S := S.sub [(0, Value.int .i64 r0), (1, Value.pointer (some x1))] ⟨rfl, rfl, trivial⟩
      refine W.region ?_
      obtain ⟨x12, c_1, H⟩ := H
      refine OL.pure S (Lf.run_ld (S.ev rfl) fl22 (S.cl c_1)) rfl rfl trivial ?_
      clear S; intro aa S
      refine OL.pure S (Lf.run_move (S.ev rfl)) rfl rfl trivial ?_
      clear S; intro aa S
      refine OL.pure S (Lf.run_sub (S.ev rfl) (S.ev rfl)) rfl rfl trivial ?_
      clear S; intro aa S
      obtain ⟨q15, e, e_1, e_2, H⟩ := H
      refine OL.pure S (Lf.run_ixs (S.ev rfl) (S.ev rfl) Try.underlying22 ti3 e e_1 e_2) rfl rfl trivial ?_
      clear S; intro aa S
      obtain ⟨x16, c_2, H⟩ := H
      refine OL.pure S (Lf.run_ld (S.ev rfl) fl3 (S.cl c_2)) rfl rfl trivial ?_
      clear S; intro aa S
      refine OL.pure S (Lf.run_assign (S.ev rfl)) rfl rfl trivial ?_
      clear S; intro aa S
      refine OL.nil ?_
      refine W.ret ?_
      exact Ret.one S rfl rfl H
    · replace H := H.2 hb_1
      refine W.skip ?_
      refine W.seq ?_
      replace S := S.sub [(0, Value.int .i64 r0)] ⟨rfl, trivial⟩
      refine W.region ?_
      refine OL.pure S (Lf.run_move (S.ev rfl)) rfl rfl trivial ?_
      clear S; intro aa S
      refine OL.pure S (Lf.run_assign (S.ev rfl)) rfl rfl trivial ?_
      clear S; intro aa S
      refine OL.nil ?_
      refine W.ret ?_
      exact Ret.one S rfl rfl H

/-- chattel chattelref07.With -/
def L40 (x0 : Int) (x0_1 : ByteArray) (x0_2 : Bool) (x0_3 : Int) (x0_4 : Sv) (x0_5 : Sv) (l1 : Sv) (h : Heap) (R : Value → Heap → Prop) : Prop :=
  new 25 #[Value.int .i64 x0, Value.string x0_1, Value.bool x0_2, Value.int .i64 x0_3, Value.slice x0_4.a x0_4.n x0_4.c, Value.slice x0_5.a x0_5.n x0_5.c] h fun p2 h1 =>
  new 25 #[Value.int .i64 0, Value.string (⟨#[]⟩ : ByteArray), Value.bool false, Value.int .i64 0, Value.slice (⟨none, 0, 0⟩ : Sv).a (⟨none, 0, 0⟩ : Sv).n (⟨none, 0, 0⟩ : Sv).c, Value.slice (⟨none, 0, 0⟩ : Sv).a (⟨none, 0, 0⟩ : Sv).n (⟨none, 0, 0⟩ : Sv).c] h1 fun p4 h2 =>
  ldI .i64 h2 p2 fun x12 =>
  ldT h2 (p2.add 1) fun x14 =>
  ldB h2 (p2.add 2) fun x16 =>
  ldI .i64 h2 (p2.add 3) fun x18 =>
  ldS h2 (p2.add 4) fun x20 =>
  new 25 #[Value.int .i64 0, Value.string (⟨#[]⟩ : ByteArray), Value.bool false, Value.int .i64 0, Value.slice (⟨none, 0, 0⟩ : Sv).a (⟨none, 0, 0⟩ : Sv).n (⟨none, 0, 0⟩ : Sv).c, Value.slice (⟨none, 0, 0⟩ : Sv).a (⟨none, 0, 0⟩ : Sv).n (⟨none, 0, 0⟩ : Sv).c] h2 fun p6 h3 =>
  stoA h3 p6 [Value.int .i64 x12, Value.string x14, Value.bool x16, Value.int .i64 x18, Value.slice x20.a x20.n x20.c, Value.slice (⟨none, 0, 0⟩ : Sv).a (⟨none, 0, 0⟩ : Sv).n (⟨none, 0, 0⟩ : Sv).c] fun h4 =>
  ∃ (y22 : Int) (y22_1 : ByteArray) (y22_2 : Bool) (y22_3 : Int) (y22_4 : Sv) (y22_5 : Sv), cl h4 p2 = some (Value.int .i64 y22) ∧ cl h4 (p2.add 1) = some (Value.string y22_1) ∧ cl h4 (p2.add 2) = some (Value.bool y22_2) ∧ cl h4 (p2.add 3) = some (Value.int .i64 y22_3) ∧ cl h4 (p2.add 4) = some (Value.slice y22_4.a y22_4.n y22_4.c) ∧ cl h4 (p2.add 5) = some (Value.slice y22_5.a y22_5.n y22_5.c) ∧
  cal Try.prog 36 #[Value.agg #[Value.int .i64 y22, Value.string y22_1, Value.bool y22_2, Value.int .i64 y22_3, Value.slice y22_4.a y22_4.n y22_4.c, Value.slice y22_5.a y22_5.n y22_5.c]] h4 fun u h5 => asS u fun x23 =>
  ifb (decide (((l1.n : Nat) : Int) < ((x23.n : Nat) : Int))) (
    ∃ (y29 : Int) (y29_1 : ByteArray) (y29_2 : Bool) (y29_3 : Int) (y29_4 : Sv) (y29_5 : Sv), cl h5 p6 = some (Value.int .i64 y29) ∧ cl h5 (p6.add 1) = some (Value.string y29_1) ∧ cl h5 (p6.add 2) = some (Value.bool y29_2) ∧ cl h5 (p6.add 3) = some (Value.int .i64 y29_3) ∧ cl h5 (p6.add 4) = some (Value.slice y29_4.a y29_4.n y29_4.c) ∧ cl h5 (p6.add 5) = some (Value.slice y29_5.a y29_5.n y29_5.c) ∧
    stoA h5 p4 [Value.int .i64 y29, Value.string y29_1, Value.bool y29_2, Value.int .i64 y29_3, Value.slice y29_4.a y29_4.n y29_4.c, Value.slice y29_5.a y29_5.n y29_5.c] fun h6 =>
    ∃ (y : Int) (y_1 : ByteArray) (y_2 : Bool) (y_3 : Int) (y_4 : Sv) (y_5 : Sv), cl h6 p4 = some (Value.int .i64 y) ∧ cl h6 (p4.add 1) = some (Value.string y_1) ∧ cl h6 (p4.add 2) = some (Value.bool y_2) ∧ cl h6 (p4.add 3) = some (Value.int .i64 y_3) ∧ cl h6 (p4.add 4) = some (Value.slice y_4.a y_4.n y_4.c) ∧ cl h6 (p4.add 5) = some (Value.slice y_5.a y_5.n y_5.c) ∧
    R (.tuple #[Value.agg #[Value.int .i64 y, Value.string y_1, Value.bool y_2, Value.int .i64 y_3, Value.slice y_4.a y_4.n y_4.c, Value.slice y_5.a y_5.n y_5.c], Value.slice (⟨none, 0, 0⟩ : Sv).a (⟨none, 0, 0⟩ : Sv).n (⟨none, 0, 0⟩ : Sv).c]) h6) (
    ∃ J : Heap → Prop, (
      ldI .i64 h5 p2 fun x31 =>
      ifb (x31 == 5) (
        newS 3 #[] 0 h5 fun s33 h7 =>
        slS l1 1 0 ((x23.n : Nat) : Int) fun s36 =>
        appS 3 (Value.int .i64 0).cells 1 8 h7 s33 s36 fun s37 h8 =>
        sto h8 (p6.add 4) (Value.slice s37.a s37.n s37.c) fun h9 =>
        J h9) (
        ifb (((x23.n : Nat) : Int) == 1) (
          ixS l1 0 fun q42 =>
          ldI .i64 h5 q42 fun x43 =>
          sto h5 (p6.add 3) (Value.int .i64 x43) fun h10 =>
          J h10) (
          J h5))) ∧ (∀ h11, J h11 →
    slS l1 1 ((x23.n : Nat) : Int) ((l1.n : Nat) : Int) fun s47 =>
    ∃ (I : Sv → Int → Heap → Prop) (m : Sv → Int → Heap → Nat), I s47 0 h11 ∧ ∀ l1_1 i8 h12, I l1_1 i8 h12 →
    ldS h12 (p2.add 5) fun x50 =>
    ifb (decide (i8 < ((x50.n : Nat) : Int))) (
      ldS h12 (p2.add 5) fun x57 =>
      ixS x57 i8 fun q59 =>
      ∃ (y60 : Int) (y60_1 : ByteArray) (y60_2 : Bool) (y60_3 : Int) (y60_4 : Sv) (y60_5 : Sv), cl h12 (q59.add ((i8 : Int).toNat * 6)) = some (Value.int .i64 y60) ∧ cl h12 ((q59.add ((i8 : Int).toNat * 6)).add 1) = some (Value.string y60_1) ∧ cl h12 ((q59.add ((i8 : Int).toNat * 6)).add 2) = some (Value.bool y60_2) ∧ cl h12 ((q59.add ((i8 : Int).toNat * 6)).add 3) = some (Value.int .i64 y60_3) ∧ cl h12 ((q59.add ((i8 : Int).toNat * 6)).add 4) = some (Value.slice y60_4.a y60_4.n y60_4.c) ∧ cl h12 ((q59.add ((i8 : Int).toNat * 6)).add 5) = some (Value.slice y60_5.a y60_5.n y60_5.c) ∧
      cal Try.prog 40 #[Value.agg #[Value.int .i64 y60, Value.string y60_1, Value.bool y60_2, Value.int .i64 y60_3, Value.slice y60_4.a y60_4.n y60_4.c, Value.slice y60_5.a y60_5.n y60_5.c], Value.slice l1_1.a l1_1.n l1_1.c] h12 fun u_1 h13 => asTup u_1 fun r62 =>
      elt r62 0 fun u_2 => ∃ (y63 : Int) (y63_1 : ByteArray) (y63_2 : Bool) (y63_3 : Int) (y63_4 : Sv) (y63_5 : Sv), u_2 = Value.agg #[Value.int .i64 y63, Value.string y63_1, Value.bool y63_2, Value.int .i64 y63_3, Value.slice y63_4.a y63_4.n y63_4.c, Value.slice y63_5.a y63_5.n y63_5.c] ∧
      elt r62 1 fun u_3 => asS u_3 fun x64 =>
      new 25 #[Value.int .i64 0, Value.string (⟨#[]⟩ : ByteArray), Value.bool false, Value.int .i64 0, Value.slice (⟨none, 0, 0⟩ : Sv).a (⟨none, 0, 0⟩ : Sv).n (⟨none, 0, 0⟩ : Sv).c, Value.slice (⟨none, 0, 0⟩ : Sv).a (⟨none, 0, 0⟩ : Sv).n (⟨none, 0, 0⟩ : Sv).c] h13 fun p9 h14 =>
      stoA h14 p9 [Value.int .i64 y63, Value.string y63_1, Value.bool y63_2, Value.int .i64 y63_3, Value.slice y63_4.a y63_4.n y63_4.c, Value.slice y63_5.a y63_5.n y63_5.c] fun h15 =>
      ldS h15 (p6.add 5) fun x66 =>
      ∃ (y67 : Int) (y67_1 : ByteArray) (y67_2 : Bool) (y67_3 : Int) (y67_4 : Sv) (y67_5 : Sv), cl h15 p9 = some (Value.int .i64 y67) ∧ cl h15 (p9.add 1) = some (Value.string y67_1) ∧ cl h15 (p9.add 2) = some (Value.bool y67_2) ∧ cl h15 (p9.add 3) = some (Value.int .i64 y67_3) ∧ cl h15 (p9.add 4) = some (Value.slice y67_4.a y67_4.n y67_4.c) ∧ cl h15 (p9.add 5) = some (Value.slice y67_5.a y67_5.n y67_5.c) ∧
      newS 25 #[Value.int .i64 y67, Value.string y67_1, Value.bool y67_2, Value.int .i64 y67_3, Value.slice y67_4.a y67_4.n y67_4.c, Value.slice y67_5.a y67_5.n y67_5.c] 1 h15 fun s68 h16 =>
      appS 25 (Value.agg #[Value.int .i64 0, Value.string (⟨#[]⟩ : ByteArray), Value.bool false, Value.int .i64 0, Value.slice (⟨none, 0, 0⟩ : Sv).a (⟨none, 0, 0⟩ : Sv).n (⟨none, 0, 0⟩ : Sv).c, Value.slice (⟨none, 0, 0⟩ : Sv).a (⟨none, 0, 0⟩ : Sv).n (⟨none, 0, 0⟩ : Sv).c]).cells 6 88 h16 x66 s68 fun s69 h17 =>
      sto h17 (p6.add 5) (Value.slice s69.a s69.n s69.c) fun h18 =>
      I x64 (IntKind.i64.wrap (i8 + 1)) h18 ∧ m x64 (IntKind.i64.wrap (i8 + 1)) h18 < m l1_1 i8 h12) (
      ∃ (y72 : Int) (y72_1 : ByteArray) (y72_2 : Bool) (y72_3 : Int) (y72_4 : Sv) (y72_5 : Sv), cl h12 p6 = some (Value.int .i64 y72) ∧ cl h12 (p6.add 1) = some (Value.string y72_1) ∧ cl h12 (p6.add 2) = some (Value.bool y72_2) ∧ cl h12 (p6.add 3) = some (Value.int .i64 y72_3) ∧ cl h12 (p6.add 4) = some (Value.slice y72_4.a y72_4.n y72_4.c) ∧ cl h12 (p6.add 5) = some (Value.slice y72_5.a y72_5.n y72_5.c) ∧
      stoA h12 p4 [Value.int .i64 y72, Value.string y72_1, Value.bool y72_2, Value.int .i64 y72_3, Value.slice y72_4.a y72_4.n y72_4.c, Value.slice y72_5.a y72_5.n y72_5.c] fun h19 =>
      ∃ (y_6 : Int) (y_7 : ByteArray) (y_8 : Bool) (y_9 : Int) (y_10 : Sv) (y_11 : Sv), cl h19 p4 = some (Value.int .i64 y_6) ∧ cl h19 (p4.add 1) = some (Value.string y_7) ∧ cl h19 (p4.add 2) = some (Value.bool y_8) ∧ cl h19 (p4.add 3) = some (Value.int .i64 y_9) ∧ cl h19 (p4.add 4) = some (Value.slice y_10.a y_10.n y_10.c) ∧ cl h19 (p4.add 5) = some (Value.slice y_11.a y_11.n y_11.c) ∧
      R (.tuple #[Value.agg #[Value.int .i64 y_6, Value.string y_7, Value.bool y_8, Value.int .i64 y_9, Value.slice y_10.a y_10.n y_10.c, Value.slice y_11.a y_11.n y_11.c], Value.slice l1_1.a l1_1.n l1_1.c]) h19)))

set_option maxRecDepth 100000 in

theorem F40 {x0 x0_1 x0_2 x0_3 x0_4 x0_5 l1 h : _} {R : Value → Heap → Prop} (H : L40 x0 x0_1 x0_2 x0_3 x0_4 x0_5 l1 h R) : CallsH Try.prog 40 #[Value.agg #[Value.int .i64 x0, Value.string x0_1, Value.bool x0_2, Value.int .i64 x0_3, Value.slice x0_4.a x0_4.n x0_4.c, Value.slice x0_5.a x0_5.n x0_5.c], Value.slice l1.a l1.n l1.c] h R := by
  refine CallsH.enter (n := 74) Try.func40 rfl rfl rfl rfl ?_
  intro w0 aa ww S
  unfold L40 at H
  refine W.seq ?_
  replace S := S.sub [(0, Value.agg #[Value.int .i64 x0, Value.string x0_1, Value.bool x0_2, Value.int .i64 x0_3, Value.slice x0_4.a x0_4.n x0_4.c, Value.slice x0_5.a x0_5.n x0_5.c]), (1, Value.slice l1.a l1.n l1.c)] ⟨rfl, rfl, trivial⟩
  refine W.region ?_
  refine ol_box S H rfl rfl rfl trivial ?_
  clear S H aa; intro p2 aa ww h1 H S
  refine ol_alloc S H ti25 rfl rfl trivial ?_
  clear S H aa; intro p4 aa ww h2 H S
  refine OL.pure S (Lf.run_assign (S.ev rfl)) rfl rfl trivial ?_
  clear S; intro aa S
  refine OL.nil ?_
  refine W.seq ?_
  replace S := S.sub [(1, Value.slice l1.a l1.n l1.c), (2, Value.pointer (some p2)), (4, Value.pointer (some p4))] ⟨rfl, rfl, rfl, trivial⟩
  refine W.region ?_
  refine OL.pure S (Lf.run_fa (S.ev rfl) fa25_0) rfl rfl trivial ?_
  clear S; intro aa S
  obtain ⟨x12, c, H⟩ := H
  refine OL.pure S (Lf.run_ld (S.ev rfl) fl3 (S.cl c)) rfl rfl trivial ?_
  clear S; intro aa S
  refine OL.pure S (Lf.run_fa (S.ev rfl) fa25_1) rfl rfl trivial ?_
  clear S; intro aa S
  obtain ⟨x14, c_1, H⟩ := H
  refine OL.pure S (Lf.run_ld (S.ev rfl) fl9 (S.cl c_1)) rfl rfl trivial ?_
  clear S; intro aa S
  refine OL.pure S (Lf.run_fa (S.ev rfl) fa25_2) rfl rfl trivial ?_
  clear S; intro aa S
  obtain ⟨x16, c_2, H⟩ := H
  refine OL.pure S (Lf.run_ld (S.ev rfl) fl4 (S.cl c_2)) rfl rfl trivial ?_
  clear S; intro aa S
  refine OL.pure S (Lf.run_fa (S.ev rfl) fa25_3) rfl rfl trivial ?_
  clear S; intro aa S
  obtain ⟨x18, c_3, H⟩ := H
  refine OL.pure S (Lf.run_ld (S.ev rfl) fl3 (S.cl c_3)) rfl rfl trivial ?_
  clear S; intro aa S
  refine OL.pure S (Lf.run_fa (S.ev rfl) fa25_4) rfl rfl trivial ?_
  clear S; intro aa S
  obtain ⟨x20, c_4, H⟩ := H
  refine OL.pure S (Lf.run_ld (S.ev rfl) fl22 (S.cl c_4)) rfl rfl trivial ?_
  clear S; intro aa S
  refine OL.pure S (Lf.run_build (cs := #[Value.int .i64 x12, Value.string x14, Value.bool x16, Value.int .i64 x18, Value.slice x20.a x20.n x20.c, Value.slice (⟨none, 0, 0⟩ : Sv).a (⟨none, 0, 0⟩ : Sv).n (⟨none, 0, 0⟩ : Sv).c]) pl25 ti25 (parts_map S rfl) (by kernel_rfl)) rfl rfl trivial ?_
  clear S; intro aa S
  refine ol_alloc S H ti25 rfl rfl trivial ?_
  clear S H aa; intro p6 aa ww h3 H S
  refine ol_stoA S H rfl rfl ti25 trivial ?_
  clear S H aa; intro aa ww h4 H S
  refine OL.nil ?_
  refine W.seq ?_
  replace S := S.sub [(1, Value.slice l1.a l1.n l1.c), (2, Value.pointer (some p2)), (4, Value.pointer (some p4)), (6, Value.pointer (some p6))] ⟨rfl, rfl, rfl, rfl, trivial⟩
  refine W.region ?_
  obtain ⟨y22, y22_1, y22_2, y22_3, y22_4, y22_5, c_59, c_60, c_61, c_62, c_63, c_64, H⟩ := H
  refine OL.pure S (Lf.run_ldA (cs := [Value.int .i64 y22, Value.string y22_1, Value.bool y22_2, Value.int .i64 y22_3, Value.slice y22_4.a y22_4.n y22_4.c, Value.slice y22_5.a y22_5.n y22_5.c]) (S.ev rfl) ag25 ti25 (by rw [S.heap]; exact RowL.toRow ⟨c_59, c_60, c_61, c_62, c_63, c_64, trivial⟩)) rfl rfl trivial ?_
  clear S; intro aa S
  refine ol_cal S H isfn36 rfl rfl trivial ?_
  clear S H aa; intro u aa ww h5 H S
  obtain ⟨x23, rfl, H⟩ := H
  refine OL.pure S (Lf.run_lens (S.ev rfl) rfl Try.underlying22) rfl rfl trivial ?_
  clear S; intro aa S
  refine OL.pure S (Lf.run_assign (S.ev rfl)) rfl rfl trivial ?_
  clear S; intro aa S
  refine OL.nil ?_
  refine W.seq ?_
  refine W.seq ?_
  replace S := S.sub [(1, Value.slice l1.a l1.n l1.c), (2, Value.pointer (some p2)), (4, Value.pointer (some p4)), (6, Value.pointer (some p6)), (7, Value.int .i64 ((x23.n : Nat) : Int))] ⟨rfl, rfl, rfl, rfl, rfl, trivial⟩
  refine W.region ?_
  refine OL.pure S (Lf.run_move (S.ev rfl)) rfl rfl trivial ?_
  clear S; intro aa S
  refine OL.pure S (Lf.run_move (S.ev rfl)) rfl rfl trivial ?_
  clear S; intro aa S
  refine OL.pure S (Lf.run_lens (S.ev rfl) rfl Try.underlying22) rfl rfl trivial ?_
  clear S; intro aa S
  refine OL.pure S (Lf.run_gtr (S.ev rfl) (S.ev rfl)) rfl rfl trivial ?_
  clear S; intro aa S
  refine OL.nil ?_
  refine W.cond S (b := (decide (((l1.n : Nat) : Int) < ((x23.n : Nat) : Int)))) rfl (fun hb => ?_) (fun hb => ?_)
  · replace H := H.1 hb
    refine W.seq ?_
    replace S := S.sub [(4, Value.pointer (some p4)), (6, Value.pointer (some p6))] ⟨rfl, rfl, trivial⟩
    refine W.region ?_
    obtain ⟨y29, y29_1, y29_2, y29_3, y29_4, y29_5, c_13, c_14, c_15, c_16, c_17, c_18, H⟩ := H
    refine OL.pure S (Lf.run_ldA (cs := [Value.int .i64 y29, Value.string y29_1, Value.bool y29_2, Value.int .i64 y29_3, Value.slice y29_4.a y29_4.n y29_4.c, Value.slice y29_5.a y29_5.n y29_5.c]) (S.ev rfl) ag25 ti25 (by rw [S.heap]; exact RowL.toRow ⟨c_13, c_14, c_15, c_16, c_17, c_18, trivial⟩)) rfl rfl trivial ?_
    clear S; intro aa S
    refine ol_stoA S H rfl rfl ti25 trivial ?_
    clear S H aa; intro aa ww h6 H S
    refine OL.pure S (Lf.run_assign (S.ev rfl)) rfl rfl trivial ?_
    clear S; intro aa S
    refine OL.nil ?_
    refine W.ret ?_
    obtain ⟨y, y_1, y_2, y_3, y_4, y_5, c_7, c_8, c_9, c_10, c_11, c_12, H⟩ := H
    exact Ret.gen S rfl (RV.cellA (cs := [Value.int .i64 y, Value.string y_1, Value.bool y_2, Value.int .i64 y_3, Value.slice y_4.a y_4.n y_4.c, Value.slice y_5.a y_5.n y_5.c]) rfl ag25 ti25 ⟨c_7, c_8, c_9, c_10, c_11, c_12, trivial⟩ (RV.tmp rfl RV.nil)) rfl H
  · replace H := H.2 hb
    refine W.skip ?_
    obtain ⟨J, H, HK⟩ := H
    refine W.seqJ (fun aa ww => ∃ h11, St 74 [(1, Value.slice l1.a l1.n l1.c), (2, Value.pointer (some p2)), (4, Value.pointer (some p4)), (6, Value.pointer (some p6)), (7, Value.int .i64 ((x23.n : Nat) : Int))] h11 w0 aa ww ∧ J h11) ?_ ?_
    · clear HK
      refine W.seq ?_
      replace S := S.sub [(1, Value.slice l1.a l1.n l1.c), (2, Value.pointer (some p2)), (4, Value.pointer (some p4)), (6, Value.pointer (some p6)), (7, Value.int .i64 ((x23.n : Nat) : Int))] ⟨rfl, rfl, rfl, rfl, rfl, trivial⟩
      refine W.region ?_
      refine OL.pure S (Lf.run_fa (S.ev rfl) fa25_0) rfl rfl trivial ?_
      clear S; intro aa S
      obtain ⟨x31, c_19, H⟩ := H
      refine OL.pure S (Lf.run_ld (S.ev rfl) fl3 (S.cl c_19)) rfl rfl trivial ?_
      clear S; intro aa S
      refine OL.pure S (Lf.run_eql (S.ev rfl) (S.ev rfl)) rfl rfl trivial ?_
      clear S; intro aa S
      refine OL.nil ?_
      refine W.cond S (b := (x31 == 5)) rfl (fun hb_1 => ?_) (fun hb_1 => ?_)
      · replace H := H.1 hb_1
        replace S := S.sub [(1, Value.slice l1.a l1.n l1.c), (2, Value.pointer (some p2)), (4, Value.pointer (some p4)), (6, Value.pointer (some p6)), (7, Value.int .i64 ((x23.n : Nat) : Int))] ⟨rfl, rfl, rfl, rfl, rfl, trivial⟩
        refine W.region ?_
        refine ol_newS0 S H Try.underlying22 ti3 rfl rfl trivial ?_
        clear S H aa; intro s33 aa ww h7 H S
        refine OL.pure S (Lf.run_move (S.ev rfl)) rfl rfl trivial ?_
        clear S; intro aa S
        refine OL.pure S (Lf.run_move (S.ev rfl)) rfl rfl trivial ?_
        clear S; intro aa S
        obtain ⟨s36, c_20, c_21, c_22, c_23, H⟩ := slS_ex H
        refine OL.pure S (Lf.run_slNS Try.underlying22 ti3 (S.ev rfl) (S.ev rfl) c_21 c_22 c_23) rfl rfl trivial ?_
        clear S; intro aa S
        refine ol_appS S H Try.underlying22 ti3 rfl rfl rfl trivial ?_
        clear S H aa; intro s37 aa ww h8 H S
        refine OL.pure S (Lf.run_fa (S.ev rfl) fa25_4) rfl rfl trivial ?_
        clear S; intro aa S
        refine ol_sto S H rfl rfl rfl ti22 trivial ?_
        clear S H aa; intro aa ww h9 H S
        refine OL.nil ?_
        exact ⟨h9, S.sub _ ⟨rfl, rfl, rfl, rfl, rfl, trivial⟩, H⟩
      · replace H := H.2 hb_1
        refine W.seq ?_
        replace S := S.sub [(1, Value.slice l1.a l1.n l1.c), (2, Value.pointer (some p2)), (4, Value.pointer (some p4)), (6, Value.pointer (some p6)), (7, Value.int .i64 ((x23.n : Nat) : Int))] ⟨rfl, rfl, rfl, rfl, rfl, trivial⟩
        refine W.region ?_
        refine OL.pure S (Lf.run_move (S.ev rfl)) rfl rfl trivial ?_
        clear S; intro aa S
        refine OL.pure S (Lf.run_eql (S.ev rfl) (S.ev rfl)) rfl rfl trivial ?_
        clear S; intro aa S
        refine OL.nil ?_
        refine W.cond S (b := (((x23.n : Nat) : Int) == 1)) rfl (fun hb_2 => ?_) (fun hb_2 => ?_)
        · replace H := H.1 hb_2
          replace S := S.sub [(1, Value.slice l1.a l1.n l1.c), (2, Value.pointer (some p2)), (4, Value.pointer (some p4)), (6, Value.pointer (some p6)), (7, Value.int .i64 ((x23.n : Nat) : Int))] ⟨rfl, rfl, rfl, rfl, rfl, trivial⟩
          refine W.region ?_
          refine OL.pure S (Lf.run_move (S.ev rfl)) rfl rfl trivial ?_
          clear S; intro aa S
          obtain ⟨q42, e, e_1, e_2, H⟩ := H
          refine OL.pure S (Lf.run_ixs (S.ev rfl) (S.ev rfl) Try.underlying22 ti3 e e_1 e_2) rfl rfl trivial ?_
          clear S; intro aa S
          obtain ⟨x43, c_24, H⟩ := H
          refine OL.pure S (Lf.run_ld (S.ev rfl) fl3 (S.cl c_24)) rfl rfl trivial ?_
          clear S; intro aa S
          refine OL.pure S (Lf.run_fa (S.ev rfl) fa25_3) rfl rfl trivial ?_
          clear S; intro aa S
          refine ol_sto S H rfl rfl rfl ti3 trivial ?_
          clear S H aa; intro aa ww h10 H S
          refine OL.nil ?_
          exact ⟨h10, S.sub _ ⟨rfl, rfl, rfl, rfl, rfl, trivial⟩, H⟩
        · replace H := H.2 hb_2
          refine W.skip ?_
          exact ⟨h5, S.sub _ ⟨rfl, rfl, rfl, rfl, rfl, trivial⟩, H⟩
    · clear H S aa
      rintro aa ww ⟨h11, S, HJ⟩
      have H := HK _ HJ
      clear HK HJ
      refine W.seq ?_
      replace S := S.sub [(1, Value.slice l1.a l1.n l1.c), (2, Value.pointer (some p2)), (4, Value.pointer (some p4)), (6, Value.pointer (some p6)), (7, Value.int .i64 ((x23.n : Nat) : Int))] ⟨rfl, rfl, rfl, rfl, rfl, trivial⟩
      refine W.region ?_
      refine OL.pure S (Lf.run_move (S.ev rfl)) rfl rfl trivial ?_
      clear S; intro aa S
      refine OL.pure S (Lf.run_move (S.ev rfl)) rfl rfl trivial ?_
      clear S; intro aa S
      obtain ⟨s47, c_25, c_26, c_27, c_28, H⟩ := slS_ex H
      refine OL.pure S (Lf.run_slSN Try.underlying22 ti3 (S.ev rfl) (S.ev rfl) c_25 c_26 c_27 c_28) rfl rfl trivial ?_
      clear S; intro aa S
      refine OL.pure S (Lf.run_assign (S.ev rfl)) rfl rfl trivial ?_
      clear S; intro aa S
      refine OL.nil ?_
      refine W.seq ?_
      refine W.seq ?_
      replace S := S.sub [(1, Value.slice s47.a s47.n s47.c), (2, Value.pointer (some p2)), (4, Value.pointer (some p4)), (6, Value.pointer (some p6))] ⟨rfl, rfl, rfl, rfl, trivial⟩
      refine W.region ?_
      refine OL.pure S (Lf.run_assign (S.ev rfl)) rfl rfl trivial ?_
      clear S; intro aa S
      refine OL.nil ?_
      refine W.block ?_
      obtain ⟨I, m, H, HB⟩ := H
      refine W.loopS (σ := Sv × Int × Heap) (fun s aa ww => St 74 [(1, Value.slice s.1.a s.1.n s.1.c), (2, Value.pointer (some p2)), (4, Value.pointer (some p4)), (6, Value.pointer (some p6)), (8, Value.int .i64 s.2.1)] s.2.2 w0 aa ww ∧ I s.1 s.2.1 s.2.2) (fun s => m s.1 s.2.1 s.2.2) (s47, 0, h11) ⟨S.sub _ ⟨rfl, rfl, rfl, rfl, rfl, trivial⟩, H⟩ ?_
      clear H S aa
      rintro ⟨l1_1, i8, h12⟩ aa ww ⟨S, HI⟩
      replace S : St 74 [(1, Value.slice l1_1.a l1_1.n l1_1.c), (2, Value.pointer (some p2)), (4, Value.pointer (some p4)), (6, Value.pointer (some p6)), (8, Value.int .i64 i8)] h12 w0 aa ww := S
      have H := HB l1_1 i8 h12 HI
      clear HI
      refine W.seq ?_
      refine W.seq ?_
      replace S := S.sub [(1, Value.slice l1_1.a l1_1.n l1_1.c), (2, Value.pointer (some p2)), (4, Value.pointer (some p4)), (6, Value.pointer (some p6)), (8, Value.int .i64 i8)] ⟨rfl, rfl, rfl, rfl, rfl, trivial⟩
      refine W.region ?_
      refine OL.pure S (Lf.run_move (S.ev rfl)) rfl rfl trivial ?_
      clear S; intro aa S
      refine OL.pure S (Lf.run_fa (S.ev rfl) fa25_5) rfl rfl trivial ?_
      clear S; intro aa S
      obtain ⟨x50, c_29, H⟩ := H
      refine OL.pure S (Lf.run_ld (S.ev rfl) fl23 (S.cl c_29)) rfl rfl trivial ?_
      clear S; intro aa S
      refine OL.pure S (Lf.run_lens (S.ev rfl) rfl Try.underlying23) rfl rfl trivial ?_
      clear S; intro aa S
      refine OL.pure S (Lf.run_lss (S.ev rfl) (S.ev rfl)) rfl rfl trivial ?_
      clear S; intro aa S
      refine OL.nil ?_
      refine W.cond S (b := (decide (i8 < ((x50.n : Nat) : Int)))) rfl (fun hb_3 => ?_) (fun hb_3 => ?_)
      · replace H := H.1 hb_3
        refine W.skip ?_
        refine W.seq ?_
        refine W.block ?_
        refine W.seq ?_
        replace S := S.sub [(1, Value.slice l1_1.a l1_1.n l1_1.c), (2, Value.pointer (some p2)), (4, Value.pointer (some p4)), (6, Value.pointer (some p6)), (8, Value.int .i64 i8)] ⟨rfl, rfl, rfl, rfl, rfl, trivial⟩
        refine W.region ?_
        refine OL.pure S (Lf.run_fa (S.ev rfl) fa25_5) rfl rfl trivial ?_
        clear S; intro aa S
        obtain ⟨x57, c_30, H⟩ := H
        refine OL.pure S (Lf.run_ld (S.ev rfl) fl23 (S.cl c_30)) rfl rfl trivial ?_
        clear S; intro aa S
        refine OL.pure S (Lf.run_move (S.ev rfl)) rfl rfl trivial ?_
        clear S; intro aa S
        obtain ⟨q59, e_3, e_4, e_5, H⟩ := H
        refine OL.pure S (Lf.run_ixs (S.ev rfl) (S.ev rfl) Try.underlying23 ti25 e_3 e_4 e_5) rfl rfl trivial ?_
        clear S; intro aa S
        obtain ⟨y60, y60_1, y60_2, y60_3, y60_4, y60_5, c_40, c_41, c_42, c_43, c_44, c_45, H⟩ := H
        refine OL.pure S (Lf.run_ldA (cs := [Value.int .i64 y60, Value.string y60_1, Value.bool y60_2, Value.int .i64 y60_3, Value.slice y60_4.a y60_4.n y60_4.c, Value.slice y60_5.a y60_5.n y60_5.c]) (S.ev rfl) ag25 ti25 (by rw [S.heap]; exact RowL.toRow ⟨c_40, c_41, c_42, c_43, c_44, c_45, trivial⟩)) rfl rfl trivial ?_
        clear S; intro aa S
        refine OL.pure S (Lf.run_move (S.ev rfl)) rfl rfl trivial ?_
        clear S; intro aa S
        refine ol_cal S H isfn40 rfl rfl trivial ?_
        clear S H aa; intro u_1 aa ww h13 H S
        obtain ⟨r62, rfl, H⟩ := H
        refine OL.pure S (Lf.run_move (S.ev rfl)) rfl rfl trivial ?_
        clear S; intro aa S
        obtain ⟨u_2, e_6, y63, y63_1, y63_2, y63_3, y63_4, y63_5, rfl, H⟩ := H
        refine OL.pure S (Lf.run_ex (S.ev rfl) e_6) rfl rfl trivial ?_
        clear S; intro aa S
        obtain ⟨u_3, e_7, x64, rfl, H⟩ := H
        refine OL.pure S (Lf.run_ex (S.ev rfl) e_7) rfl rfl trivial ?_
        clear S; intro aa S
        refine ol_alloc S H ti25 rfl rfl trivial ?_
        clear S H aa; intro p9 aa ww h14 H S
        refine ol_stoA S H rfl rfl ti25 trivial ?_
        clear S H aa; intro aa ww h15 H S
        refine OL.pure S (Lf.run_assign (S.ev rfl)) rfl rfl trivial ?_
        clear S; intro aa S
        refine OL.nil ?_
        refine W.seq ?_
        replace S := S.sub [(2, Value.pointer (some p2)), (4, Value.pointer (some p4)), (6, Value.pointer (some p6)), (8, Value.int .i64 i8), (9, Value.pointer (some p9)), (10, Value.slice x64.a x64.n x64.c)] ⟨rfl, rfl, rfl, rfl, rfl, rfl, trivial⟩
        refine W.region ?_
        refine OL.pure S (Lf.run_fa (S.ev rfl) fa25_5) rfl rfl trivial ?_
        clear S; intro aa S
        obtain ⟨x66, c_32, H⟩ := H
        refine OL.pure S (Lf.run_ld (S.ev rfl) fl23 (S.cl c_32)) rfl rfl trivial ?_
        clear S; intro aa S
        obtain ⟨y67, y67_1, y67_2, y67_3, y67_4, y67_5, c_34, c_35, c_36, c_37, c_38, c_39, H⟩ := H
        refine OL.pure S (Lf.run_ldA (cs := [Value.int .i64 y67, Value.string y67_1, Value.bool y67_2, Value.int .i64 y67_3, Value.slice y67_4.a y67_4.n y67_4.c, Value.slice y67_5.a y67_5.n y67_5.c]) (S.ev rfl) ag25 ti25 (by rw [S.heap]; exact RowL.toRow ⟨c_34, c_35, c_36, c_37, c_38, c_39, trivial⟩)) rfl rfl trivial ?_
        clear S; intro aa S
        refine ol_newS S H Try.underlying23 ti25 (by decide) (parts_map S rfl) (by kernel_rfl) (by decide) rfl trivial ?_
        clear S H aa; intro s68 aa ww h16 H S
        refine ol_appS S H Try.underlying23 ti25 rfl rfl rfl trivial ?_
        clear S H aa; intro s69 aa ww h17 H S
        refine OL.pure S (Lf.run_fa (S.ev rfl) fa25_5) rfl rfl trivial ?_
        clear S; intro aa S
        refine ol_sto S H rfl rfl rfl ti23 trivial ?_
        clear S H aa; intro aa ww h18 H S
        refine OL.nil ?_
        replace S := S.sub [(2, Value.pointer (some p2)), (4, Value.pointer (some p4)), (6, Value.pointer (some p6)), (8, Value.int .i64 i8), (10, Value.slice x64.a x64.n x64.c)] ⟨rfl, rfl, rfl, rfl, rfl, trivial⟩
        refine W.region ?_
        refine OL.pure S (Lf.run_move (S.ev rfl)) rfl rfl trivial ?_
        clear S; intro aa S
        refine OL.pure S (Lf.run_assign (S.ev rfl)) rfl rfl trivial ?_
        clear S; intro aa S
        refine OL.nil ?_
        replace S := S.sub [(1, Value.slice x64.a x64.n x64.c), (2, Value.pointer (some p2)), (4, Value.pointer (some p4)), (6, Value.pointer (some p6)), (8, Value.int .i64 i8)] ⟨rfl, rfl, rfl, rfl, rfl, trivial⟩
        refine W.region ?_
        refine OL.pure S (Lf.run_move (S.ev rfl)) rfl rfl trivial ?_
        clear S; intro aa S
        refine OL.pure S (Lf.run_add (S.ev rfl) (S.ev rfl)) rfl rfl trivial ?_
        clear S; intro aa S
        refine OL.pure S (Lf.run_assign (S.ev rfl)) rfl rfl trivial ?_
        clear S; intro aa S
        refine OL.nil ?_
        exact ⟨(x64, (IntKind.i64.wrap (i8 + 1)), h18), ⟨S.sub _ ⟨rfl, rfl, rfl, rfl, rfl, trivial⟩, H.1⟩, H.2⟩
      · replace H := H.2 hb_3
        refine W.exit_ ?_
        refine xhit ?_
        refine W.seq ?_
        replace S := S.sub [(1, Value.slice l1_1.a l1_1.n l1_1.c), (4, Value.pointer (some p4)), (6, Value.pointer (some p6))] ⟨rfl, rfl, rfl, trivial⟩
        refine W.region ?_
        obtain ⟨y72, y72_1, y72_2, y72_3, y72_4, y72_5, c_53, c_54, c_55, c_56, c_57, c_58, H⟩ := H
        refine OL.pure S (Lf.run_ldA (cs := [Value.int .i64 y72, Value.string y72_1, Value.bool y72_2, Value.int .i64 y72_3, Value.slice y72_4.a y72_4.n y72_4.c, Value.slice y72_5.a y72_5.n y72_5.c]) (S.ev rfl) ag25 ti25 (by rw [S.heap]; exact RowL.toRow ⟨c_53, c_54, c_55, c_56, c_57, c_58, trivial⟩)) rfl rfl trivial ?_
        clear S; intro aa S
        refine OL.pure S (Lf.run_move (S.ev rfl)) rfl rfl trivial ?_
        clear S; intro aa S
        refine ol_stoA S H rfl rfl ti25 trivial ?_
        clear S H aa; intro aa ww h19 H S
        refine OL.pure S (Lf.run_assign (S.ev rfl)) rfl rfl trivial ?_
        clear S; intro aa S
        refine OL.nil ?_
        refine W.ret ?_
        obtain ⟨y_6, y_7, y_8, y_9, y_10, y_11, c_47, c_48, c_49, c_50, c_51, c_52, H⟩ := H
        exact Ret.gen S rfl (RV.cellA (cs := [Value.int .i64 y_6, Value.string y_7, Value.bool y_8, Value.int .i64 y_9, Value.slice y_10.a y_10.n y_10.c, Value.slice y_11.a y_11.n y_11.c]) rfl ag25 ti25 ⟨c_47, c_48, c_49, c_50, c_51, c_52, trivial⟩ (RV.tmp rfl RV.nil)) rfl H

/-- slices.EqualFunc[[]chattel api.Type,[]chattel api.Type,chattel api.Type,chattel api.Type] -/
def L41 (s10 : Sv) (s21 : Sv) (eq2 : Value) (h : Heap) (R : Value → Heap → Prop) : Prop :=
  ifb (((s10.n : Nat) : Int) != ((s21.n : Nat) : Int)) (
    R (Value.bool false) h) (
    ∃ (I : Int → Heap → Prop) (m : Int → Heap → Nat), I 0 h ∧ ∀ x17 h1, I x17 h1 →
    ifb (decide (x17 < ((s10.n : Nat) : Int))) (
      ixS s10 x17 fun q20 =>
      ∃ (y21 : Int) (y21_1 : ByteArray) (y21_2 : Bool) (y21_3 : Int) (y21_4 : Sv) (y21_5 : Sv), cl h1 (q20.add ((x17 : Int).toNat * 6)) = some (Value.int .i64 y21) ∧ cl h1 ((q20.add ((x17 : Int).toNat * 6)).add 1) = some (Value.string y21_1) ∧ cl h1 ((q20.add ((x17 : Int).toNat * 6)).add 2) = some (Value.bool y21_2) ∧ cl h1 ((q20.add ((x17 : Int).toNat * 6)).add 3) = some (Value.int .i64 y21_3) ∧ cl h1 ((q20.add ((x17 : Int).toNat * 6)).add 4) = some (Value.slice y21_4.a y21_4.n y21_4.c) ∧ cl h1 ((q20.add ((x17 : Int).toNat * 6)).add 5) = some (Value.slice y21_5.a y21_5.n y21_5.c) ∧
      new 25 #[Value.int .i64 0, Value.string (⟨#[]⟩ : ByteArray), Value.bool false, Value.int .i64 0, Value.slice (⟨none, 0, 0⟩ : Sv).a (⟨none, 0, 0⟩ : Sv).n (⟨none, 0, 0⟩ : Sv).c, Value.slice (⟨none, 0, 0⟩ : Sv).a (⟨none, 0, 0⟩ : Sv).n (⟨none, 0, 0⟩ : Sv).c] h1 fun p8 h2 =>
      stoA h2 p8 [Value.int .i64 y21, Value.string y21_1, Value.bool y21_2, Value.int .i64 y21_3, Value.slice y21_4.a y21_4.n y21_4.c, Value.slice y21_5.a y21_5.n y21_5.c] fun h3 =>
      ixS s21 x17 fun q24 =>
      ∃ (y25 : Int) (y25_1 : ByteArray) (y25_2 : Bool) (y25_3 : Int) (y25_4 : Sv) (y25_5 : Sv), cl h3 (q24.add ((x17 : Int).toNat * 6)) = some (Value.int .i64 y25) ∧ cl h3 ((q24.add ((x17 : Int).toNat * 6)).add 1) = some (Value.string y25_1) ∧ cl h3 ((q24.add ((x17 : Int).toNat * 6)).add 2) = some (Value.bool y25_2) ∧ cl h3 ((q24.add ((x17 : Int).toNat * 6)).add 3) = some (Value.int .i64 y25_3) ∧ cl h3 ((q24.add ((x17 : Int).toNat * 6)).add 4) = some (Value.slice y25_4.a y25_4.n y25_4.c) ∧ cl h3 ((q24.add ((x17 : Int).toNat * 6)).add 5) = some (Value.slice y25_5.a y25_5.n y25_5.c) ∧
      new 25 #[Value.int .i64 0, Value.string (⟨#[]⟩ : ByteArray), Value.bool false, Value.int .i64 0, Value.slice (⟨none, 0, 0⟩ : Sv).a (⟨none, 0, 0⟩ : Sv).n (⟨none, 0, 0⟩ : Sv).c, Value.slice (⟨none, 0, 0⟩ : Sv).a (⟨none, 0, 0⟩ : Sv).n (⟨none, 0, 0⟩ : Sv).c] h3 fun p9 h4 =>
      stoA h4 p9 [Value.int .i64 y25, Value.string y25_1, Value.bool y25_2, Value.int .i64 y25_3, Value.slice y25_4.a y25_4.n y25_4.c, Value.slice y25_5.a y25_5.n y25_5.c] fun h5 =>
      ∃ (y27 : Int) (y27_1 : ByteArray) (y27_2 : Bool) (y27_3 : Int) (y27_4 : Sv) (y27_5 : Sv), cl h5 p8 = some (Value.int .i64 y27) ∧ cl h5 (p8.add 1) = some (Value.string y27_1) ∧ cl h5 (p8.add 2) = some (Value.bool y27_2) ∧ cl h5 (p8.add 3) = some (Value.int .i64 y27_3) ∧ cl h5 (p8.add 4) = some (Value.slice y27_4.a y27_4.n y27_4.c) ∧ cl h5 (p8.add 5) = some (Value.slice y27_5.a y27_5.n y27_5.c) ∧
      ∃ (y28 : Int) (y28_1 : ByteArray) (y28_2 : Bool) (y28_3 : Int) (y28_4 : Sv) (y28_5 : Sv), cl h5 p9 = some (Value.int .i64 y28) ∧ cl h5 (p9.add 1) = some (Value.string y28_1) ∧ cl h5 (p9.add 2) = some (Value.bool y28_2) ∧ cl h5 (p9.add 3) = some (Value.int .i64 y28_3) ∧ cl h5 (p9.add 4) = some (Value.slice y28_4.a y28_4.n y28_4.c) ∧ cl h5 (p9.add 5) = some (Value.slice y28_5.a y28_5.n y28_5.c) ∧
      calV Try.prog eq2 #[Value.agg #[Value.int .i64 y27, Value.string y27_1, Value.bool y27_2, Value.int .i64 y27_3, Value.slice y27_4.a y27_4.n y27_4.c, Value.slice y27_5.a y27_5.n y27_5.c], Value.agg #[Value.int .i64 y28, Value.string y28_1, Value.bool y28_2, Value.int .i64 y28_3, Value.slice y28_4.a y28_4.n y28_4.c, Value.slice y28_5.a y28_5.n y28_5.c]] h5 fun u h6 => asB u fun x29 =>
      ifb (!x29) (
        R (Value.bool false) h6) (
        I (IntKind.i64.wrap (x17 + 1)) h6 ∧ m (IntKind.i64.wrap (x17 + 1)) h6 < m x17 h1)) (
      R (Value.bool true) h1))

set_option maxRecDepth 100000 in

theorem F41 {s10 s21 eq2 h : _} {R : Value → Heap → Prop} (H : L41 s10 s21 eq2 h R) : CallsH Try.prog 41 #[Value.slice s10.a s10.n s10.c, Value.slice s21.a s21.n s21.c, eq2] h R := by
  refine CallsH.enter (n := 32) Try.func41 rfl rfl rfl rfl ?_
  intro w0 aa ww S
  unfold L41 at H
  refine W.seq ?_
  replace S := S.sub [(0, Value.slice s10.a s10.n s10.c), (1, Value.slice s21.a s21.n s21.c), (2, eq2)] ⟨rfl, rfl, rfl, trivial⟩
  refine W.region ?_
  refine OL.pure S (Lf.run_assign (S.ev rfl)) rfl rfl trivial ?_
  clear S; intro aa S
  refine OL.nil ?_
  refine W.seq ?_
  refine W.seq ?_
  replace S := S.sub [(0, Value.slice s10.a s10.n s10.c), (1, Value.slice s21.a s21.n s21.c), (2, eq2)] ⟨rfl, rfl, rfl, trivial⟩
  refine W.region ?_
  refine OL.pure S (Lf.run_move (S.ev rfl)) rfl rfl trivial ?_
  clear S; intro aa S
  refine OL.pure S (Lf.run_lens (S.ev rfl) rfl Try.underlying23) rfl rfl trivial ?_
  clear S; intro aa S
  refine OL.pure S (Lf.run_move (S.ev rfl)) rfl rfl trivial ?_
  clear S; intro aa S
  refine OL.pure S (Lf.run_lens (S.ev rfl) rfl Try.underlying23) rfl rfl trivial ?_
  clear S; intro aa S
  refine OL.pure S (Lf.run_neq (S.ev rfl) (S.ev rfl)) rfl rfl trivial ?_
  clear S; intro aa S
  refine OL.nil ?_
  refine W.cond S (b := (((s10.n : Nat) : Int) != ((s21.n : Nat) : Int))) rfl (fun hb => ?_) (fun hb => ?_)
  · replace H := H.1 hb
    refine W.seq ?_
    replace S := S.sub [] trivial
    refine W.region ?_
    refine OL.pure S (Lf.run_assign (S.ev rfl)) rfl rfl trivial ?_
    clear S; intro aa S
    refine OL.nil ?_
    refine W.ret ?_
    exact Ret.one S rfl rfl H
  · replace H := H.2 hb
    refine W.skip ?_
    refine W.seq ?_
    refine W.seq ?_
    replace S := S.sub [(0, Value.slice s10.a s10.n s10.c), (1, Value.slice s21.a s21.n s21.c), (2, eq2)] ⟨rfl, rfl, rfl, trivial⟩
    refine W.region ?_
    refine OL.pure S (Lf.run_move (S.ev rfl)) rfl rfl trivial ?_
    clear S; intro aa S
    refine OL.pure S (Lf.run_lens (S.ev rfl) rfl Try.underlying23) rfl rfl trivial ?_
    clear S; intro aa S
    refine OL.pure S (Lf.run_move (S.ev rfl)) rfl rfl trivial ?_
    clear S; intro aa S
    refine OL.nil ?_
    refine W.block ?_
    obtain ⟨I, m, H, HB⟩ := H
    refine W.loopS (σ := Int × Heap) (fun s aa ww => St 32 [(1, Value.slice s21.a s21.n s21.c), (2, eq2), (15, Value.slice s10.a s10.n s10.c), (16, Value.int .i64 ((s10.n : Nat) : Int)), (17, Value.int .i64 s.1)] s.2 w0 aa ww ∧ I s.1 s.2) (fun s => m s.1 s.2) (0, h) ⟨S.sub _ ⟨rfl, rfl, rfl, rfl, rfl, trivial⟩, H⟩ ?_
    clear H S aa
    rintro ⟨x17, h1⟩ aa ww ⟨S, HI⟩
    replace S : St 32 [(1, Value.slice s21.a s21.n s21.c), (2, eq2), (15, Value.slice s10.a s10.n s10.c), (16, Value.int .i64 ((s10.n : Nat) : Int)), (17, Value.int .i64 x17)] h1 w0 aa ww := S
    have H := HB x17 h1 HI
    clear HI
    refine W.seq ?_
    replace S := S.sub [(1, Value.slice s21.a s21.n s21.c), (2, eq2), (15, Value.slice s10.a s10.n s10.c), (16, Value.int .i64 ((s10.n : Nat) : Int)), (17, Value.int .i64 x17)] ⟨rfl, rfl, rfl, rfl, rfl, trivial⟩
    refine W.region ?_
    refine OL.pure S (Lf.run_lss (S.ev rfl) (S.ev rfl)) rfl rfl trivial ?_
    clear S; intro aa S
    refine OL.nil ?_
    refine W.seq ?_
    refine W.cond S (b := (decide (x17 < ((s10.n : Nat) : Int)))) rfl (fun hb_1 => ?_) (fun hb_1 => ?_)
    · replace H := H.1 hb_1
      refine W.skip ?_
      refine W.seq ?_
      refine W.block ?_
      refine W.seq ?_
      replace S := S.sub [(1, Value.slice s21.a s21.n s21.c), (2, eq2), (15, Value.slice s10.a s10.n s10.c), (16, Value.int .i64 ((s10.n : Nat) : Int)), (17, Value.int .i64 x17)] ⟨rfl, rfl, rfl, rfl, rfl, trivial⟩
      refine W.region ?_
      refine OL.pure S (Lf.run_move (S.ev rfl)) rfl rfl trivial ?_
      clear S; intro aa S
      obtain ⟨q20, e, e_1, e_2, H⟩ := H
      refine OL.pure S (Lf.run_ixs (S.ev rfl) (S.ev rfl) Try.underlying23 ti25 e e_1 e_2) rfl rfl trivial ?_
      clear S; intro aa S
      obtain ⟨y21, y21_1, y21_2, y21_3, y21_4, y21_5, c_22, c_23, c_24, c_25, c_26, c_27, H⟩ := H
      refine OL.pure S (Lf.run_ldA (cs := [Value.int .i64 y21, Value.string y21_1, Value.bool y21_2, Value.int .i64 y21_3, Value.slice y21_4.a y21_4.n y21_4.c, Value.slice y21_5.a y21_5.n y21_5.c]) (S.ev rfl) ag25 ti25 (by rw [S.heap]; exact RowL.toRow ⟨c_22, c_23, c_24, c_25, c_26, c_27, trivial⟩)) rfl rfl trivial ?_
      clear S; intro aa S
      refine ol_alloc S H ti25 rfl rfl trivial ?_
      clear S H aa; intro p8 aa ww h2 H S
      refine OL.pure S (Lf.run_assign (S.ev rfl)) rfl rfl trivial ?_
      clear S; intro aa S
      refine ol_stoA S H rfl rfl ti25 trivial ?_
      clear S H aa; intro aa ww h3 H S
      refine OL.nil ?_
      refine W.seq ?_
      replace S := S.sub [(1, Value.slice s21.a s21.n s21.c), (2, eq2), (7, Value.int .i64 x17), (8, Value.pointer (some p8)), (15, Value.slice s10.a s10.n s10.c), (16, Value.int .i64 ((s10.n : Nat) : Int)), (17, Value.int .i64 x17)] ⟨rfl, rfl, rfl, rfl, rfl, rfl, rfl, trivial⟩
      refine W.region ?_
      refine OL.pure S (Lf.run_move (S.ev rfl)) rfl rfl trivial ?_
      clear S; intro aa S
      refine OL.pure S (Lf.run_move (S.ev rfl)) rfl rfl trivial ?_
      clear S; intro aa S
      obtain ⟨q24, e_3, e_4, e_5, H⟩ := H
      refine OL.pure S (Lf.run_ixs (S.ev rfl) (S.ev rfl) Try.underlying23 ti25 e_3 e_4 e_5) rfl rfl trivial ?_
      clear S; intro aa S
      obtain ⟨y25, y25_1, y25_2, y25_3, y25_4, y25_5, c_16, c_17, c_18, c_19, c_20, c_21, H⟩ := H
      refine OL.pure S (Lf.run_ldA (cs := [Value.int .i64 y25, Value.string y25_1, Value.bool y25_2, Value.int .i64 y25_3, Value.slice y25_4.a y25_4.n y25_4.c, Value.slice y25_5.a y25_5.n y25_5.c]) (S.ev rfl) ag25 ti25 (by rw [S.heap]; exact RowL.toRow ⟨c_16, c_17, c_18, c_19, c_20, c_21, trivial⟩)) rfl rfl trivial ?_
      clear S; intro aa S
      refine ol_alloc S H ti25 rfl rfl trivial ?_
      clear S H aa; intro p9 aa ww h4 H S
      refine ol_stoA S H rfl rfl ti25 trivial ?_
      clear S H aa; intro aa ww h5 H S
      refine OL.nil ?_
      refine W.seq ?_
      replace S := S.sub [(1, Value.slice s21.a s21.n s21.c), (2, eq2), (8, Value.pointer (some p8)), (9, Value.pointer (some p9)), (15, Value.slice s10.a s10.n s10.c), (16, Value.int .i64 ((s10.n : Nat) : Int)), (17, Value.int .i64 x17)] ⟨rfl, rfl, rfl, rfl, rfl, rfl, rfl, trivial⟩
      refine W.region ?_
      refine OL.pure S (Lf.run_move (S.ev rfl)) rfl rfl trivial ?_
      clear S; intro aa S
      obtain ⟨y27, y27_1, y27_2, y27_3, y27_4, y27_5, c_10, c_11, c_12, c_13, c_14, c_15, H⟩ := H
      refine OL.pure S (Lf.run_ldA (cs := [Value.int .i64 y27, Value.string y27_1, Value.bool y27_2, Value.int .i64 y27_3, Value.slice y27_4.a y27_4.n y27_4.c, Value.slice y27_5.a y27_5.n y27_5.c]) (S.ev rfl) ag25 ti25 (by rw [S.heap]; exact RowL.toRow ⟨c_10, c_11, c_12, c_13, c_14, c_15, trivial⟩)) rfl rfl trivial ?_
      clear S; intro aa S
      obtain ⟨y28, y28_1, y28_2, y28_3, y28_4, y28_5, c_4, c_5, c_6, c_7, c_8, c_9, H⟩ := H
      refine OL.pure S (Lf.run_ldA (cs := [Value.int .i64 y28, Value.string y28_1, Value.bool y28_2, Value.int .i64 y28_3, Value.slice y28_4.a y28_4.n y28_4.c, Value.slice y28_5.a y28_5.n y28_5.c]) (S.ev rfl) ag25 ti25 (by rw [S.heap]; exact RowL.toRow ⟨c_4, c_5, c_6, c_7, c_8, c_9, trivial⟩)) rfl rfl trivial ?_
      clear S; intro aa S
      refine ol_calV S H rfl rfl rfl trivial ?_
      clear S H aa; intro u aa ww h6 H S
      obtain ⟨x29, rfl, H⟩ := H
      refine OL.pure S (Lf.run_not (S.ev rfl)) rfl rfl trivial ?_
      clear S; intro aa S
      refine OL.nil ?_
      refine W.cond S (b := (!x29)) rfl (fun hb_2 => ?_) (fun hb_2 => ?_)
      · replace H := H.1 hb_2
        refine W.seq ?_
        replace S := S.sub [] trivial
        refine W.region ?_
        refine OL.pure S (Lf.run_assign (S.ev rfl)) rfl rfl trivial ?_
        clear S; intro aa S
        refine OL.nil ?_
        refine W.ret ?_
        exact Ret.one S rfl rfl H
      · replace H := H.2 hb_2
        refine W.skip ?_
        replace S := S.sub [(1, Value.slice s21.a s21.n s21.c), (2, eq2), (15, Value.slice s10.a s10.n s10.c), (16, Value.int .i64 ((s10.n : Nat) : Int)), (17, Value.int .i64 x17)] ⟨rfl, rfl, rfl, rfl, rfl, trivial⟩
        refine W.region ?_
        refine OL.pure S (Lf.run_add (S.ev rfl) (S.ev rfl)) rfl rfl trivial ?_
        clear S; intro aa S
        refine OL.pure S (Lf.run_move (S.ev rfl)) rfl rfl trivial ?_
        clear S; intro aa S
        refine OL.nil ?_
        exact ⟨((IntKind.i64.wrap (x17 + 1)), h6), ⟨S.sub _ ⟨rfl, rfl, rfl, rfl, rfl, trivial⟩, H.1⟩, H.2⟩
    · replace H := H.2 hb_1
      refine W.exit_ ?_
      refine xhit ?_
      refine W.seq ?_
      replace S := S.sub [] trivial
      refine W.region ?_
      refine OL.pure S (Lf.run_assign (S.ev rfl)) rfl rfl trivial ?_
      clear S; intro aa S
      refine OL.nil ?_
      refine W.ret ?_
      exact Ret.one S rfl rfl H

/-- slices.Equal[[]int,int] -/
def L42 (s10 : Sv) (s21 : Sv) (h : Heap) (R : Value → Heap → Prop) : Prop :=
  ifb (((s10.n : Nat) : Int) != ((s21.n : Nat) : Int)) (
    R (Value.bool false) h) (
    ∃ (I : Int → Prop) (m : Int → Nat), I 0 ∧ ∀ x13, I x13 →
    ifb (decide (x13 < ((s10.n : Nat) : Int))) (
      ixS s10 x13 fun q18 =>
      ldI .i64 h (q18.add ((x13 : Int).toNat * 1)) fun x19 =>
      ixS s21 x13 fun q22 =>
      ldI .i64 h (q22.add ((x13 : Int).toNat * 1)) fun x23 =>
      ifb (x19 != x23) (
        R (Value.bool false) h) (
        I (IntKind.i64.wrap (x13 + 1)) ∧ m (IntKind.i64.wrap (x13 + 1)) < m x13)) (
      R (Value.bool true) h))

set_option maxRecDepth 100000 in

theorem F42 {s10 s21 h : _} {R : Value → Heap → Prop} (H : L42 s10 s21 h R) : CallsH Try.prog 42 #[Value.slice s10.a s10.n s10.c, Value.slice s21.a s21.n s21.c] h R := by
  refine CallsH.enter (n := 26) Try.func42 rfl rfl rfl rfl ?_
  intro w0 aa ww S
  unfold L42 at H
  refine W.seq ?_
  replace S := S.sub [(0, Value.slice s10.a s10.n s10.c), (1, Value.slice s21.a s21.n s21.c)] ⟨rfl, rfl, trivial⟩
  refine W.region ?_
  refine OL.pure S (Lf.run_assign (S.ev rfl)) rfl rfl trivial ?_
  clear S; intro aa S
  refine OL.nil ?_
  refine W.seq ?_
  refine W.seq ?_
  replace S := S.sub [(0, Value.slice s10.a s10.n s10.c), (1, Value.slice s21.a s21.n s21.c)] ⟨rfl, rfl, trivial⟩
  refine W.region ?_
  refine OL.pure S (Lf.run_move (S.ev rfl)) rfl rfl trivial ?_
  clear S; intro aa S
  refine OL.pure S (Lf.run_lens (S.ev rfl) rfl Try.underlying22) rfl rfl trivial ?_
  clear S; intro aa S
  refine OL.pure S (Lf.run_move (S.ev rfl)) rfl rfl trivial ?_
  clear S; intro aa S
  refine OL.pure S (Lf.run_lens (S.ev rfl) rfl Try.underlying22) rfl rfl trivial ?_
  clear S; intro aa S
  refine OL.pure S (Lf.run_neq (S.ev rfl) (S.ev rfl)) rfl rfl trivial ?_
  clear S; intro aa S
  refine OL.nil ?_
  refine W.cond S (b := (((s10.n : Nat) : Int) != ((s21.n : Nat) : Int))) rfl (fun hb => ?_) (fun hb => ?_)
  · replace H := H.1 hb
    refine W.seq ?_
    replace S := S.sub [] trivial
    refine W.region ?_
    refine OL.pure S (Lf.run_assign (S.ev rfl)) rfl rfl trivial ?_
    clear S; intro aa S
    refine OL.nil ?_
    refine W.ret ?_
    exact Ret.one S rfl rfl H
  · replace H := H.2 hb
    refine W.skip ?_
    refine W.seq ?_
    refine W.seq ?_
    replace S := S.sub [(0, Value.slice s10.a s10.n s10.c), (1, Value.slice s21.a s21.n s21.c)] ⟨rfl, rfl, trivial⟩
    refine W.region ?_
    refine OL.pure S (Lf.run_move (S.ev rfl)) rfl rfl trivial ?_
    clear S; intro aa S
    refine OL.pure S (Lf.run_lens (S.ev rfl) rfl Try.underlying22) rfl rfl trivial ?_
    clear S; intro aa S
    refine OL.pure S (Lf.run_move (S.ev rfl)) rfl rfl trivial ?_
    clear S; intro aa S
    refine OL.nil ?_
    refine W.block ?_
    obtain ⟨I, m, H, HB⟩ := H
    refine W.loopS (σ := Int) (fun s aa ww => St 26 [(0, Value.slice s10.a s10.n s10.c), (1, Value.slice s21.a s21.n s21.c), (12, Value.int .i64 ((s10.n : Nat) : Int)), (13, Value.int .i64 s)] h w0 aa ww ∧ I s) (fun s => m s) (0) ⟨S.sub _ ⟨rfl, rfl, rfl, rfl, trivial⟩, H⟩ ?_
    clear H S aa
    rintro x13 aa ww ⟨S, HI⟩
    replace S : St 26 [(0, Value.slice s10.a s10.n s10.c), (1, Value.slice s21.a s21.n s21.c), (12, Value.int .i64 ((s10.n : Nat) : Int)), (13, Value.int .i64 x13)] h w0 aa ww := S
    have H := HB x13 HI
    clear HI
    refine W.seq ?_
    replace S := S.sub [(0, Value.slice s10.a s10.n s10.c), (1, Value.slice s21.a s21.n s21.c), (12, Value.int .i64 ((s10.n : Nat) : Int)), (13, Value.int .i64 x13)] ⟨rfl, rfl, rfl, rfl, trivial⟩
    refine W.region ?_
    refine OL.pure S (Lf.run_lss (S.ev rfl) (S.ev rfl)) rfl rfl trivial ?_
    clear S; intro aa S
    refine OL.nil ?_
    refine W.seq ?_
    refine W.cond S (b := (decide (x13 < ((s10.n : Nat) : Int)))) rfl (fun hb_1 => ?_) (fun hb_1 => ?_)
    · replace H := H.1 hb_1
      refine W.skip ?_
      refine W.seq ?_
      refine W.block ?_
      refine W.seq ?_
      replace S := S.sub [(0, Value.slice s10.a s10.n s10.c), (1, Value.slice s21.a s21.n s21.c), (12, Value.int .i64 ((s10.n : Nat) : Int)), (13, Value.int .i64 x13)] ⟨rfl, rfl, rfl, rfl, trivial⟩
      refine W.region ?_
      refine OL.pure S (Lf.run_move (S.ev rfl)) rfl rfl trivial ?_
      clear S; intro aa S
      refine OL.pure S (Lf.run_assign (S.ev rfl)) rfl rfl trivial ?_
      clear S; intro aa S
      refine OL.nil ?_
      refine W.seq ?_
      replace S := S.sub [(0, Value.slice s10.a s10.n s10.c), (1, Value.slice s21.a s21.n s21.c), (5, Value.int .i64 x13), (12, Value.int .i64 ((s10.n : Nat) : Int)), (13, Value.int .i64 x13)] ⟨rfl, rfl, rfl, rfl, rfl, trivial⟩
      refine W.regionD S (by kernel_rfl) ?_
      clear S; intro ww S
      refine AN.pure 0 S rfl (by kernel_rfl) (fun _ => Lf.run_move (S.ev rfl)) rfl rfl trivial ?_
      clear S; intro aa S
      refine AN.pure 1 S rfl (by kernel_rfl) (fun _ => Lf.run_move (S.ev rfl)) rfl rfl trivial ?_
      clear S; intro aa S
      obtain ⟨q18, e, e_1, e_2, H⟩ := H
      refine AN.pure 2 S rfl (by kernel_rfl) (fun _ => Lf.run_ixs (S.ev rfl) (S.ev rfl) Try.underlying22 ti3 e e_1 e_2) rfl rfl trivial ?_
      clear S; intro aa S
      obtain ⟨x19, c, H⟩ := H
      refine AN.load 3 S rfl (by kernel_rfl) (fun _ hx => Lf.run_ld (S.ev rfl) fl3 (hx.cell _ _ (S.cl c))) rfl rfl trivial ?_
      clear S; intro aa S
      refine AN.pure 4 S rfl (by kernel_rfl) (fun _ => Lf.run_move (S.ev rfl)) rfl rfl trivial ?_
      clear S; intro aa S
      refine AN.pure 5 S rfl (by kernel_rfl) (fun _ => Lf.run_move (S.ev rfl)) rfl rfl trivial ?_
      clear S; intro aa S
      obtain ⟨q22, e_3, e_4, e_5, H⟩ := H
      refine AN.pure 6 S rfl (by kernel_rfl) (fun _ => Lf.run_ixs (S.ev rfl) (S.ev rfl) Try.underlying22 ti3 e_3 e_4 e_5) rfl rfl trivial ?_
      clear S; intro aa S
      obtain ⟨x23, c_1, H⟩ := H
      refine AN.load 7 S rfl (by kernel_rfl) (fun _ hx => Lf.run_ld (S.ev rfl) fl3 (hx.cell _ _ (S.cl c_1))) rfl rfl trivial ?_
      clear S; intro aa S
      refine AN.pure 8 S rfl (by kernel_rfl) (fun _ => Lf.run_neq (S.ev rfl) (S.ev rfl)) rfl rfl trivial ?_
      clear S; intro aa S
      refine AN.done (by kernel_rfl) ?_
      refine W.cond S (b := (x19 != x23)) rfl (fun hb_2 => ?_) (fun hb_2 => ?_)
      · replace H := H.1 hb_2
        refine W.seq ?_
        replace S := S.sub [] trivial
        refine W.region ?_
        refine OL.pure S (Lf.run_assign (S.ev rfl)) rfl rfl trivial ?_
        clear S; intro aa S
        refine OL.nil ?_
        refine W.ret ?_
        exact Ret.one S rfl rfl H
      · replace H := H.2 hb_2
        refine W.skip ?_
        replace S := S.sub [(0, Value.slice s10.a s10.n s10.c), (1, Value.slice s21.a s21.n s21.c), (12, Value.int .i64 ((s10.n : Nat) : Int)), (13, Value.int .i64 x13)] ⟨rfl, rfl, rfl, rfl, trivial⟩
        refine W.region ?_
        refine OL.pure S (Lf.run_add (S.ev rfl) (S.ev rfl)) rfl rfl trivial ?_
        clear S; intro aa S
        refine OL.pure S (Lf.run_move (S.ev rfl)) rfl rfl trivial ?_
        clear S; intro aa S
        refine OL.nil ?_
        exact ⟨((IntKind.i64.wrap (x13 + 1))), ⟨S.sub _ ⟨rfl, rfl, rfl, rfl, trivial⟩, H.1⟩, H.2⟩
    · replace H := H.2 hb_1
      refine W.exit_ ?_
      refine xhit ?_
      refine W.seq ?_
      replace S := S.sub [] trivial
      refine W.region ?_
      refine OL.pure S (Lf.run_assign (S.ev rfl)) rfl rfl trivial ?_
      clear S; intro aa S
      refine OL.nil ?_
      refine W.ret ?_
      exact Ret.one S rfl rfl H

/-- chattel num.Dec -/
def L43 (n0 : Int) (h : Heap) (R : Value → Heap → Prop) : Prop :=
  ifb (decide (n0 < 0)) (
    cal Try.prog 45 #[Value.int .u64 (IntKind.u64.wrap (0 - (IntKind.u64.wrap n0)))] h fun u h1 => asT u fun x8 =>
    (((⟨#[45]⟩ : ByteArray).size : Nat) : Int) + ((x8.size : Nat) : Int) ≤ 9223372036854775807 ∧
    R (Value.string ((⟨#[45]⟩ : ByteArray) ++ x8)) h1) (
    cal Try.prog 45 #[Value.int .u64 (IntKind.u64.wrap n0)] h fun u_1 h2 => asT u_1 fun x12 =>
    R (Value.string x12) h2)

set_option maxRecDepth 100000 in

theorem F43 {n0 h : _} {R : Value → Heap → Prop} (H : L43 n0 h R) : CallsH Try.prog 43 #[Value.int .i64 n0] h R := by
  refine CallsH.enter (n := 13) Try.func43 rfl rfl rfl rfl ?_
  intro w0 aa ww S
  unfold L43 at H
  refine W.seq ?_
  replace S := S.sub [(0, Value.int .i64 n0)] ⟨rfl, trivial⟩
  refine W.region ?_
  refine OL.pure S (Lf.run_assign (S.ev rfl)) rfl rfl trivial ?_
  clear S; intro aa S
  refine OL.nil ?_
  refine W.seq ?_
  refine W.seq ?_
  replace S := S.sub [(0, Value.int .i64 n0)] ⟨rfl, trivial⟩
  refine W.region ?_
  refine OL.pure S (Lf.run_move (S.ev rfl)) rfl rfl trivial ?_
  clear S; intro aa S
  refine OL.pure S (Lf.run_lss (S.ev rfl) (S.ev rfl)) rfl rfl trivial ?_
  clear S; intro aa S
  refine OL.nil ?_
  refine W.cond S (b := (decide (n0 < 0))) rfl (fun hb => ?_) (fun hb => ?_)
  · replace H := H.1 hb
    refine W.seq ?_
    replace S := S.sub [(0, Value.int .i64 n0)] ⟨rfl, trivial⟩
    refine W.region ?_
    refine OL.pure S (Lf.run_move (S.ev rfl)) rfl rfl trivial ?_
    clear S; intro aa S
    refine OL.pure S (Lf.run_cvi Try.underlying2 Try.underlying57 (S.ev rfl)) rfl rfl trivial ?_
    clear S; intro aa S
    refine OL.pure S (Lf.run_neg (S.ev rfl)) rfl rfl trivial ?_
    clear S; intro aa S
    refine ol_cal S H isfn45 rfl rfl trivial ?_
    clear S H aa; intro u aa ww h1 H S
    obtain ⟨x8, rfl, H⟩ := H
    obtain ⟨c, H⟩ := H
    refine OL.pure S (Lf.run_addt (S.ev rfl) (S.ev rfl) c) rfl rfl trivial ?_
    clear S; intro aa S
    refine OL.pure S (Lf.run_assign (S.ev rfl)) rfl rfl trivial ?_
    clear S; intro aa S
    refine OL.nil ?_
    refine W.ret ?_
    exact Ret.one S rfl rfl H
  · replace H := H.2 hb
    refine W.skip ?_
    refine W.seq ?_
    replace S := S.sub [(0, Value.int .i64 n0)] ⟨rfl, trivial⟩
    refine W.region ?_
    refine OL.pure S (Lf.run_move (S.ev rfl)) rfl rfl trivial ?_
    clear S; intro aa S
    refine OL.pure S (Lf.run_cvi Try.underlying2 Try.underlying57 (S.ev rfl)) rfl rfl trivial ?_
    clear S; intro aa S
    refine ol_cal S H isfn45 rfl rfl trivial ?_
    clear S H aa; intro u_1 aa ww h2 H S
    obtain ⟨x12, rfl, H⟩ := H
    refine OL.pure S (Lf.run_assign (S.ev rfl)) rfl rfl trivial ?_
    clear S; intro aa S
    refine OL.nil ?_
    refine W.ret ?_
    exact Ret.one S rfl rfl H

/-- chattel chattelref02.half -/
def L44 (n0 : Int) (h : Heap) (R : Value → Heap → Prop) : Prop :=
  ifb (decide (0 ≤ n0)) (
    R (.tuple #[Value.bool false, Value.int .u64 (IntKind.u64.wrap n0)]) h) (
    R (.tuple #[Value.bool true, Value.int .u64 (IntKind.u64.wrap ((IntKind.u64.wrap (IntKind.i64.wrap (0 - (IntKind.i64.wrap (n0 + 1))))) + 1))]) h)

set_option maxRecDepth 100000 in

theorem F44 {n0 h : _} {R : Value → Heap → Prop} (H : L44 n0 h R) : CallsH Try.prog 44 #[Value.int .i64 n0] h R := by
  refine CallsH.enter (n := 13) Try.func44 rfl rfl rfl rfl ?_
  intro w0 aa ww S
  unfold L44 at H
  refine W.seq ?_
  replace S := S.sub [(0, Value.int .i64 n0)] ⟨rfl, trivial⟩
  refine W.region ?_
  refine OL.pure S (Lf.run_assign (S.ev rfl)) rfl rfl trivial ?_
  clear S; intro aa S
  refine OL.pure S (Lf.run_assign (S.ev rfl)) rfl rfl trivial ?_
  clear S; intro aa S
  refine OL.nil ?_
  refine W.seq ?_
  refine W.seq ?_
  replace S := S.sub [(0, Value.int .i64 n0)] ⟨rfl, trivial⟩
  refine W.region ?_
  refine OL.pure S (Lf.run_move (S.ev rfl)) rfl rfl trivial ?_
  clear S; intro aa S
  refine OL.pure S (Lf.run_geq (S.ev rfl) (S.ev rfl)) rfl rfl trivial ?_
  clear S; intro aa S
  refine OL.nil ?_
  refine W.cond S (b := (decide (0 ≤ n0))) rfl (fun hb => ?_) (fun hb => ?_)
  · replace H := H.1 hb
    refine W.seq ?_
    replace S := S.sub [(0, Value.int .i64 n0)] ⟨rfl, trivial⟩
    refine W.region ?_
    refine OL.pure S (Lf.run_move (S.ev rfl)) rfl rfl trivial ?_
    clear S; intro aa S
    refine OL.pure S (Lf.run_cvi Try.underlying2 Try.underlying57 (S.ev rfl)) rfl rfl trivial ?_
    clear S; intro aa S
    refine OL.pure S (Lf.run_assign (S.ev rfl)) rfl rfl trivial ?_
    clear S; intro aa S
    refine OL.pure S (Lf.run_assign (S.ev rfl)) rfl rfl trivial ?_
    clear S; intro aa S
    refine OL.nil ?_
    refine W.ret ?_
    exact Ret.two S rfl rfl rfl H
  · replace H := H.2 hb
    refine W.skip ?_
    refine W.seq ?_
    replace S := S.sub [(0, Value.int .i64 n0)] ⟨rfl, trivial⟩
    refine W.region ?_
    refine OL.pure S (Lf.run_move (S.ev rfl)) rfl rfl trivial ?_
    clear S; intro aa S
    refine OL.pure S (Lf.run_add (S.ev rfl) (S.ev rfl)) rfl rfl trivial ?_
    clear S; intro aa S
    refine OL.pure S (Lf.run_neg (S.ev rfl)) rfl rfl trivial ?_
    clear S; intro aa S
    refine OL.pure S (Lf.run_cvi Try.underlying2 Try.underlying57 (S.ev rfl)) rfl rfl trivial ?_
    clear S; intro aa S
    refine OL.pure S (Lf.run_add (S.ev rfl) (S.ev rfl)) rfl rfl trivial ?_
    clear S; intro aa S
    refine OL.pure S (Lf.run_assign (S.ev rfl)) rfl rfl trivial ?_
    clear S; intro aa S
    refine OL.pure S (Lf.run_assign (S.ev rfl)) rfl rfl trivial ?_
    clear S; intro aa S
    refine OL.nil ?_
    refine W.ret ?_
    exact Ret.two S rfl rfl rfl H

/-- chattel num.dec -/
def L45 (n0 : Int) (h : Heap) (R : Value → Heap → Prop) : Prop :=
  new 62 #[Value.int .u8 0, Value.int .u8 0, Value.int .u8 0, Value.int .u8 0, Value.int .u8 0, Value.int .u8 0, Value.int .u8 0, Value.int .u8 0, Value.int .u8 0, Value.int .u8 0, Value.int .u8 0, Value.int .u8 0, Value.int .u8 0, Value.int .u8 0, Value.int .u8 0, Value.int .u8 0, Value.int .u8 0, Value.int .u8 0, Value.int .u8 0, Value.int .u8 0] h fun p3 h1 =>
  ∃ (I : Int → Int → Heap → Prop) (m : Int → Int → Heap → Nat), I n0 20 h1 ∧ ∀ n0_1 i4 h2, I n0_1 i4 h2 →
  ixA 20 (IntKind.i64.wrap (i4 - 1)) (
  sto h2 (p3.add (((IntKind.i64.wrap (i4 - 1)) : Int).toNat * 1)) (Value.int .u8 (IntKind.u8.wrap (IntKind.u64.wrap (48 + ((n0_1 : Int).tmod 10))))) fun h3 =>
  ifb ((IntKind.u64.wrap ((n0_1 : Int).tdiv 10)) == 0) (
    slA p3 20 1 (IntKind.i64.wrap (i4 - 1)) ((20 : Nat) : Int) fun s18 =>
    cvT h3 s18 fun s19 =>
    R (Value.string s19) h3) (
    I (IntKind.u64.wrap ((n0_1 : Int).tdiv 10)) (IntKind.i64.wrap (i4 - 1)) h3 ∧ m (IntKind.u64.wrap ((n0_1 : Int).tdiv 10)) (IntKind.i64.wrap (i4 - 1)) h3 < m n0_1 i4 h2))

set_option maxRecDepth 100000 in

theorem F45 {n0 h : _} {R : Value → Heap → Prop} (H : L45 n0 h R) : CallsH Try.prog 45 #[Value.int .u64 n0] h R := by
  refine CallsH.enter (n := 20) Try.func45 rfl rfl rfl rfl ?_
  intro w0 aa ww S
  unfold L45 at H
  refine W.seq ?_
  replace S := S.sub [(0, Value.int .u64 n0)] ⟨rfl, trivial⟩
  refine W.region ?_
  refine OL.pure S (Lf.run_assign (S.ev rfl)) rfl rfl trivial ?_
  clear S; intro aa S
  refine OL.nil ?_
  refine W.seq ?_
  replace S := S.sub [(0, Value.int .u64 n0)] ⟨rfl, trivial⟩
  refine W.region ?_
  refine ol_alloc S H ti62 rfl rfl trivial ?_
  clear S H aa; intro p3 aa ww h1 H S
  refine OL.nil ?_
  refine W.seq ?_
  replace S := S.sub [(0, Value.int .u64 n0), (3, Value.pointer (some p3))] ⟨rfl, rfl, trivial⟩
  refine W.region ?_
  refine OL.pure S (Lf.run_assign (S.ev rfl)) rfl rfl trivial ?_
  clear S; intro aa S
  refine OL.nil ?_
  refine W.block ?_
  obtain ⟨I, m, H, HB⟩ := H
  refine W.loopS (σ := Int × Int × Heap) (fun s aa ww => St 20 [(0, Value.int .u64 s.1), (3, Value.pointer (some p3)), (4, Value.int .i64 s.2.1)] s.2.2 w0 aa ww ∧ I s.1 s.2.1 s.2.2) (fun s => m s.1 s.2.1 s.2.2) (n0, 20, h1) ⟨S.sub _ ⟨rfl, rfl, rfl, trivial⟩, H⟩ ?_
  clear H S aa
  rintro ⟨n0_1, i4, h2⟩ aa ww ⟨S, HI⟩
  replace S : St 20 [(0, Value.int .u64 n0_1), (3, Value.pointer (some p3)), (4, Value.int .i64 i4)] h2 w0 aa ww := S
  have H := HB n0_1 i4 h2 HI
  clear HI
  refine W.block ?_
  refine W.seq ?_
  replace S := S.sub [(0, Value.int .u64 n0_1), (3, Value.pointer (some p3)), (4, Value.int .i64 i4)] ⟨rfl, rfl, rfl, trivial⟩
  refine W.region ?_
  refine OL.pure S (Lf.run_move (S.ev rfl)) rfl rfl trivial ?_
  clear S; intro aa S
  refine OL.pure S (Lf.run_sub (S.ev rfl) (S.ev rfl)) rfl rfl trivial ?_
  clear S; intro aa S
  refine OL.pure S (Lf.run_assign (S.ev rfl)) rfl rfl trivial ?_
  clear S; intro aa S
  refine OL.nil ?_
  refine W.seq ?_
  replace S := S.sub [(0, Value.int .u64 n0_1), (3, Value.pointer (some p3)), (4, Value.int .i64 (IntKind.i64.wrap (i4 - 1)))] ⟨rfl, rfl, rfl, trivial⟩
  refine W.region ?_
  refine OL.pure S (Lf.run_move (S.ev rfl)) rfl rfl trivial ?_
  clear S; intro aa S
  refine OL.pure S (Lf.run_move (S.ev rfl)) rfl rfl trivial ?_
  clear S; intro aa S
  refine OL.pure S (Lf.run_rem (S.ev rfl) (S.ev rfl) (by decide)) rfl rfl trivial ?_
  clear S; intro aa S
  refine OL.pure S (Lf.run_add (S.ev rfl) (S.ev rfl)) rfl rfl trivial ?_
  clear S; intro aa S
  refine OL.pure S (Lf.run_cvi Try.underlying57 Try.underlying5 (S.ev rfl)) rfl rfl trivial ?_
  clear S; intro aa S
  obtain ⟨e, e_1, H⟩ := H
  refine OL.pure S (Lf.run_ixa (S.ev rfl) (S.ev rfl) Try.underlying62 ti5 e e_1) rfl rfl trivial ?_
  clear S; intro aa S
  refine ol_sto S H rfl rfl rfl ti5 trivial ?_
  clear S H aa; intro aa ww h3 H S
  refine OL.nil ?_
  refine W.seq ?_
  replace S := S.sub [(0, Value.int .u64 n0_1), (3, Value.pointer (some p3)), (4, Value.int .i64 (IntKind.i64.wrap (i4 - 1)))] ⟨rfl, rfl, rfl, trivial⟩
  refine W.region ?_
  refine OL.pure S (Lf.run_move (S.ev rfl)) rfl rfl trivial ?_
  clear S; intro aa S
  refine OL.pure S (Lf.run_quo (S.ev rfl) (S.ev rfl) (by decide)) rfl rfl trivial ?_
  clear S; intro aa S
  refine OL.pure S (Lf.run_assign (S.ev rfl)) rfl rfl trivial ?_
  clear S; intro aa S
  refine OL.nil ?_
  refine W.seq ?_
  replace S := S.sub [(0, Value.int .u64 (IntKind.u64.wrap ((n0_1 : Int).tdiv 10))), (3, Value.pointer (some p3)), (4, Value.int .i64 (IntKind.i64.wrap (i4 - 1)))] ⟨rfl, rfl, rfl, trivial⟩
  refine W.region ?_
  refine OL.pure S (Lf.run_move (S.ev rfl)) rfl rfl trivial ?_
  clear S; intro aa S
  refine OL.pure S (Lf.run_eql (S.ev rfl) (S.ev rfl)) rfl rfl trivial ?_
  clear S; intro aa S
  refine OL.nil ?_
  refine W.cond S (b := ((IntKind.u64.wrap ((n0_1 : Int).tdiv 10)) == 0)) rfl (fun hb => ?_) (fun hb => ?_)
  · replace H := H.1 hb
    refine W.seq ?_
    replace S := S.sub [(3, Value.pointer (some p3)), (4, Value.int .i64 (IntKind.i64.wrap (i4 - 1)))] ⟨rfl, rfl, trivial⟩
    refine W.region ?_
    refine OL.pure S (Lf.run_move (S.ev rfl)) rfl rfl trivial ?_
    clear S; intro aa S
    obtain ⟨s18, c, c_1, c_2, c_3, H⟩ := slA_ex H
    refine OL.pure S (Lf.run_saSN Try.underlying62 ti5 (S.ev rfl) (S.ev rfl) c c_1 c_3) rfl rfl trivial ?_
    clear S; intro aa S
    obtain ⟨bs, c_4, c_5, H⟩ := H
    refine OL.pure S (Lf.run_cvT Try.underlying60 Try.underlying9 Try.underlying5 (S.ev rfl) c_4 (by rw [S.heap]; exact c_5)) rfl rfl trivial ?_
    clear S; intro aa S
    generalize (⟨bs.toArray⟩ : ByteArray) = s19 at H S
    refine OL.pure S (Lf.run_assign (S.ev rfl)) rfl rfl trivial ?_
    clear S; intro aa S
    refine OL.nil ?_
    refine W.ret ?_
    exact Ret.one S rfl rfl H
  · replace H := H.2 hb
    refine W.skip ?_
    exact ⟨((IntKind.u64.wrap ((n0_1 : Int).tdiv 10)), (IntKind.i64.wrap (i4 - 1)), h3), ⟨S.sub _ ⟨rfl, rfl, rfl, trivial⟩, H.1⟩, H.2⟩

end Go.Proofs.Ytohlfkomjmjheaa

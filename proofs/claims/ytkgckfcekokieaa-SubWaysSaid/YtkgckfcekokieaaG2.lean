/- Lifted by program off the elaborated code: each Go function, read as a proposition over typed variables and the heap. -/
import Derived.Test.YtkgckfcekokieaaG0
namespace Go.Proofs.Ytkgckfcekokieaa
open Go Go.Lf
set_option linter.unusedVariables false
set_option maxRecDepth 100000

/-- chattel chattellaw10.regions -/
def L11 (x0 : Int) (x0_1 : ByteArray) (x0_2 : Bool) (x0_3 : Int) (x0_4 : Sv) (x0_5 : Sv) (l1 : Sv) (h : Heap) (R : Value → Heap → Prop) : Prop :=
  new 25 #[Value.int .i64 x0, Value.string x0_1, Value.bool x0_2, Value.int .i64 x0_3, Value.slice x0_4.a x0_4.n x0_4.c, Value.slice x0_5.a x0_5.n x0_5.c] h fun p2 h1 =>
  new 25 #[Value.int .i64 0, Value.string (⟨#[]⟩ : ByteArray), Value.bool false, Value.int .i64 0, Value.slice (⟨none, 0, 0⟩ : Sv).a (⟨none, 0, 0⟩ : Sv).n (⟨none, 0, 0⟩ : Sv).c, Value.slice (⟨none, 0, 0⟩ : Sv).a (⟨none, 0, 0⟩ : Sv).n (⟨none, 0, 0⟩ : Sv).c] h1 fun p4 h2 =>
  ∃ (y11 : Int) (y11_1 : ByteArray) (y11_2 : Bool) (y11_3 : Int) (y11_4 : Sv) (y11_5 : Sv), cl h2 p2 = some (Value.int .i64 y11) ∧ cl h2 (p2.add 1) = some (Value.string y11_1) ∧ cl h2 (p2.add 2) = some (Value.bool y11_2) ∧ cl h2 (p2.add 3) = some (Value.int .i64 y11_3) ∧ cl h2 (p2.add 4) = some (Value.slice y11_4.a y11_4.n y11_4.c) ∧ cl h2 (p2.add 5) = some (Value.slice y11_5.a y11_5.n y11_5.c) ∧
  cal Try.prog 17 #[Value.agg #[Value.int .i64 y11, Value.string y11_1, Value.bool y11_2, Value.int .i64 y11_3, Value.slice y11_4.a y11_4.n y11_4.c, Value.slice y11_5.a y11_5.n y11_5.c]] h2 fun u h3 => asS u fun x12 =>
  ∃ (I : Sv → Int → Heap → Prop) (m : Sv → Int → Heap → Nat), I (⟨none, 0, 0⟩ : Sv) 0 h3 ∧ ∀ all6 i7 h4, I all6 i7 h4 →
  ifb (decide (i7 < ((x12.n : Nat) : Int))) (
    ∃ J : Int → Heap → Prop, (
      ifb (decide (0 < ((l1.n : Nat) : Int))) (
        (((l1.n : Nat) : Int) ≠ 0) ∧
        ixS l1 ((i7 : Int).tmod ((l1.n : Nat) : Int)) fun q27 =>
        ldI .i64 h4 (q27.add ((((i7 : Int).tmod ((l1.n : Nat) : Int)) : Int).toNat * 1)) fun x28 =>
        J (IntKind.i64.wrap (((IntKind.u64.wrap x28) : Int).tmod 8)) h4) (
        J 0 h4)) ∧ (∀ r8 h5, J r8 h5 →
    newS 3 #[Value.int .i64 r8] 1 h5 fun s34 h6 =>
    appS 3 (Value.int .i64 0).cells 1 8 h6 all6 s34 fun s35 h7 =>
    I s35 (IntKind.i64.wrap (i7 + 1)) h7 ∧ m s35 (IntKind.i64.wrap (i7 + 1)) h7 < m all6 i7 h4)) (
    ∃ (y37 : Int) (y37_1 : ByteArray) (y37_2 : Bool) (y37_3 : Int) (y37_4 : Sv) (y37_5 : Sv), cl h4 p2 = some (Value.int .i64 y37) ∧ cl h4 (p2.add 1) = some (Value.string y37_1) ∧ cl h4 (p2.add 2) = some (Value.bool y37_2) ∧ cl h4 (p2.add 3) = some (Value.int .i64 y37_3) ∧ cl h4 (p2.add 4) = some (Value.slice y37_4.a y37_4.n y37_4.c) ∧ cl h4 (p2.add 5) = some (Value.slice y37_5.a y37_5.n y37_5.c) ∧
    cal Try.prog 18 #[Value.agg #[Value.int .i64 y37, Value.string y37_1, Value.bool y37_2, Value.int .i64 y37_3, Value.slice y37_4.a y37_4.n y37_4.c, Value.slice y37_5.a y37_5.n y37_5.c], Value.slice all6.a all6.n all6.c] h4 fun u_1 h8 => asTup u_1 fun r39 =>
    elt r39 0 fun u_2 => ∃ (y40 : Int) (y40_1 : ByteArray) (y40_2 : Bool) (y40_3 : Int) (y40_4 : Sv) (y40_5 : Sv), u_2 = Value.agg #[Value.int .i64 y40, Value.string y40_1, Value.bool y40_2, Value.int .i64 y40_3, Value.slice y40_4.a y40_4.n y40_4.c, Value.slice y40_5.a y40_5.n y40_5.c] ∧
    elt r39 1 fun u_3 => asS u_3 fun x41 =>
    new 25 #[Value.int .i64 0, Value.string (⟨#[]⟩ : ByteArray), Value.bool false, Value.int .i64 0, Value.slice (⟨none, 0, 0⟩ : Sv).a (⟨none, 0, 0⟩ : Sv).n (⟨none, 0, 0⟩ : Sv).c, Value.slice (⟨none, 0, 0⟩ : Sv).a (⟨none, 0, 0⟩ : Sv).n (⟨none, 0, 0⟩ : Sv).c] h8 fun p9 h9 =>
    stoA h9 p9 [Value.int .i64 y40, Value.string y40_1, Value.bool y40_2, Value.int .i64 y40_3, Value.slice y40_4.a y40_4.n y40_4.c, Value.slice y40_5.a y40_5.n y40_5.c] fun h10 =>
    ∃ (y42 : Int) (y42_1 : ByteArray) (y42_2 : Bool) (y42_3 : Int) (y42_4 : Sv) (y42_5 : Sv), cl h10 p9 = some (Value.int .i64 y42) ∧ cl h10 (p9.add 1) = some (Value.string y42_1) ∧ cl h10 (p9.add 2) = some (Value.bool y42_2) ∧ cl h10 (p9.add 3) = some (Value.int .i64 y42_3) ∧ cl h10 (p9.add 4) = some (Value.slice y42_4.a y42_4.n y42_4.c) ∧ cl h10 (p9.add 5) = some (Value.slice y42_5.a y42_5.n y42_5.c) ∧
    stoA h10 p4 [Value.int .i64 y42, Value.string y42_1, Value.bool y42_2, Value.int .i64 y42_3, Value.slice y42_4.a y42_4.n y42_4.c, Value.slice y42_5.a y42_5.n y42_5.c] fun h11 =>
    ∃ (y : Int) (y_1 : ByteArray) (y_2 : Bool) (y_3 : Int) (y_4 : Sv) (y_5 : Sv), cl h11 p4 = some (Value.int .i64 y) ∧ cl h11 (p4.add 1) = some (Value.string y_1) ∧ cl h11 (p4.add 2) = some (Value.bool y_2) ∧ cl h11 (p4.add 3) = some (Value.int .i64 y_3) ∧ cl h11 (p4.add 4) = some (Value.slice y_4.a y_4.n y_4.c) ∧ cl h11 (p4.add 5) = some (Value.slice y_5.a y_5.n y_5.c) ∧
    R (Value.agg #[Value.int .i64 y, Value.string y_1, Value.bool y_2, Value.int .i64 y_3, Value.slice y_4.a y_4.n y_4.c, Value.slice y_5.a y_5.n y_5.c]) h11)

set_option maxRecDepth 100000 in

theorem F11 {x0 x0_1 x0_2 x0_3 x0_4 x0_5 l1 h : _} {R : Value → Heap → Prop} (H : L11 x0 x0_1 x0_2 x0_3 x0_4 x0_5 l1 h R) : CallsH Try.prog 11 #[Value.agg #[Value.int .i64 x0, Value.string x0_1, Value.bool x0_2, Value.int .i64 x0_3, Value.slice x0_4.a x0_4.n x0_4.c, Value.slice x0_5.a x0_5.n x0_5.c], Value.slice l1.a l1.n l1.c] h R := by
  refine CallsH.enter (n := 43) Try.func11 rfl rfl rfl rfl ?_
  intro w0 aa ww S
  unfold L11 at H
  refine W.seq ?_
  replace S := S.sub [(0, Value.agg #[Value.int .i64 x0, Value.string x0_1, Value.bool x0_2, Value.int .i64 x0_3, Value.slice x0_4.a x0_4.n x0_4.c, Value.slice x0_5.a x0_5.n x0_5.c]), (1, Value.slice l1.a l1.n l1.c)] ⟨rfl, rfl, trivial⟩
  refine W.region ?_
  refine ol_box S H rfl rfl rfl trivial ?_
  clear S H aa; intro p2 aa ww h1 H S
  refine ol_alloc S H ti25 rfl rfl trivial ?_
  clear S H aa; intro p4 aa ww h2 H S
  refine OL.nil ?_
  refine W.seq ?_
  replace S := S.sub [(1, Value.slice l1.a l1.n l1.c), (2, Value.pointer (some p2)), (4, Value.pointer (some p4))] ⟨rfl, rfl, rfl, trivial⟩
  refine W.region ?_
  obtain ⟨y11, y11_1, y11_2, y11_3, y11_4, y11_5, c_24, c_25, c_26, c_27, c_28, c_29, H⟩ := H
  refine OL.pure S (Lf.run_ldA (cs := [Value.int .i64 y11, Value.string y11_1, Value.bool y11_2, Value.int .i64 y11_3, Value.slice y11_4.a y11_4.n y11_4.c, Value.slice y11_5.a y11_5.n y11_5.c]) (S.ev rfl) ag25 ti25 (by rw [S.heap]; exact RowL.toRow ⟨c_24, c_25, c_26, c_27, c_28, c_29, trivial⟩)) rfl rfl trivial ?_
  clear S; intro aa S
  refine ol_cal S H isfn17 rfl rfl trivial ?_
  clear S H aa; intro u aa ww h3 H S
  obtain ⟨x12, rfl, H⟩ := H
  refine OL.pure S (Lf.run_lens (S.ev rfl) rfl Try.underlying22) rfl rfl trivial ?_
  clear S; intro aa S
  refine OL.pure S (Lf.run_assign (S.ev rfl)) rfl rfl trivial ?_
  clear S; intro aa S
  refine OL.nil ?_
  refine W.seq ?_
  replace S := S.sub [(1, Value.slice l1.a l1.n l1.c), (2, Value.pointer (some p2)), (4, Value.pointer (some p4)), (5, Value.int .i64 ((x12.n : Nat) : Int))] ⟨rfl, rfl, rfl, rfl, trivial⟩
  refine W.region ?_
  refine OL.pure S (Lf.run_assign (S.ev rfl)) rfl rfl trivial ?_
  clear S; intro aa S
  refine OL.nil ?_
  refine W.seq ?_
  refine W.seq ?_
  replace S := S.sub [(1, Value.slice l1.a l1.n l1.c), (2, Value.pointer (some p2)), (4, Value.pointer (some p4)), (5, Value.int .i64 ((x12.n : Nat) : Int)), (6, Value.slice (⟨none, 0, 0⟩ : Sv).a (⟨none, 0, 0⟩ : Sv).n (⟨none, 0, 0⟩ : Sv).c)] ⟨rfl, rfl, rfl, rfl, rfl, trivial⟩
  refine W.region ?_
  refine OL.pure S (Lf.run_assign (S.ev rfl)) rfl rfl trivial ?_
  clear S; intro aa S
  refine OL.nil ?_
  refine W.block ?_
  obtain ⟨I, m, H, HB⟩ := H
  refine W.loopS (σ := Sv × Int × Heap) (fun s aa ww => St 43 [(1, Value.slice l1.a l1.n l1.c), (2, Value.pointer (some p2)), (4, Value.pointer (some p4)), (5, Value.int .i64 ((x12.n : Nat) : Int)), (6, Value.slice s.1.a s.1.n s.1.c), (7, Value.int .i64 s.2.1)] s.2.2 w0 aa ww ∧ I s.1 s.2.1 s.2.2) (fun s => m s.1 s.2.1 s.2.2) ((⟨none, 0, 0⟩ : Sv), 0, h3) ⟨S.sub _ ⟨rfl, rfl, rfl, rfl, rfl, rfl, trivial⟩, H⟩ ?_
  clear H S aa
  rintro ⟨all6, i7, h4⟩ aa ww ⟨S, HI⟩
  replace S : St 43 [(1, Value.slice l1.a l1.n l1.c), (2, Value.pointer (some p2)), (4, Value.pointer (some p4)), (5, Value.int .i64 ((x12.n : Nat) : Int)), (6, Value.slice all6.a all6.n all6.c), (7, Value.int .i64 i7)] h4 w0 aa ww := S
  have H := HB all6 i7 h4 HI
  clear HI
  refine W.seq ?_
  refine W.seq ?_
  replace S := S.sub [(1, Value.slice l1.a l1.n l1.c), (2, Value.pointer (some p2)), (4, Value.pointer (some p4)), (5, Value.int .i64 ((x12.n : Nat) : Int)), (6, Value.slice all6.a all6.n all6.c), (7, Value.int .i64 i7)] ⟨rfl, rfl, rfl, rfl, rfl, rfl, trivial⟩
  refine W.region ?_
  refine OL.pure S (Lf.run_move (S.ev rfl)) rfl rfl trivial ?_
  clear S; intro aa S
  refine OL.pure S (Lf.run_move (S.ev rfl)) rfl rfl trivial ?_
  clear S; intro aa S
  refine OL.pure S (Lf.run_lss (S.ev rfl) (S.ev rfl)) rfl rfl trivial ?_
  clear S; intro aa S
  refine OL.nil ?_
  refine W.cond S (b := (decide (i7 < ((x12.n : Nat) : Int)))) rfl (fun hb => ?_) (fun hb => ?_)
  · replace H := H.1 hb
    refine W.skip ?_
    refine W.seq ?_
    refine W.block ?_
    refine W.seq ?_
    replace S := S.sub [(1, Value.slice l1.a l1.n l1.c), (2, Value.pointer (some p2)), (4, Value.pointer (some p4)), (5, Value.int .i64 ((x12.n : Nat) : Int)), (6, Value.slice all6.a all6.n all6.c), (7, Value.int .i64 i7)] ⟨rfl, rfl, rfl, rfl, rfl, rfl, trivial⟩
    refine W.region ?_
    refine OL.pure S (Lf.run_assign (S.ev rfl)) rfl rfl trivial ?_
    clear S; intro aa S
    refine OL.nil ?_
    obtain ⟨J, H, HK⟩ := H
    refine W.seqJ (fun aa ww => ∃ r8 h5, St 43 [(1, Value.slice l1.a l1.n l1.c), (2, Value.pointer (some p2)), (4, Value.pointer (some p4)), (5, Value.int .i64 ((x12.n : Nat) : Int)), (6, Value.slice all6.a all6.n all6.c), (7, Value.int .i64 i7), (8, Value.int .i64 r8)] h5 w0 aa ww ∧ J r8 h5) ?_ ?_
    · clear HK
      refine W.seq ?_
      replace S := S.sub [(1, Value.slice l1.a l1.n l1.c), (2, Value.pointer (some p2)), (4, Value.pointer (some p4)), (5, Value.int .i64 ((x12.n : Nat) : Int)), (6, Value.slice all6.a all6.n all6.c), (7, Value.int .i64 i7), (8, Value.int .i64 0)] ⟨rfl, rfl, rfl, rfl, rfl, rfl, rfl, trivial⟩
      refine W.region ?_
      refine OL.pure S (Lf.run_move (S.ev rfl)) rfl rfl trivial ?_
      clear S; intro aa S
      refine OL.pure S (Lf.run_lens (S.ev rfl) rfl Try.underlying22) rfl rfl trivial ?_
      clear S; intro aa S
      refine OL.pure S (Lf.run_gtr (S.ev rfl) (S.ev rfl)) rfl rfl trivial ?_
      clear S; intro aa S
      refine OL.nil ?_
      refine W.cond S (b := (decide (0 < ((l1.n : Nat) : Int)))) rfl (fun hb_1 => ?_) (fun hb_1 => ?_)
      · replace H := H.1 hb_1
        replace S := S.sub [(1, Value.slice l1.a l1.n l1.c), (2, Value.pointer (some p2)), (4, Value.pointer (some p4)), (5, Value.int .i64 ((x12.n : Nat) : Int)), (6, Value.slice all6.a all6.n all6.c), (7, Value.int .i64 i7)] ⟨rfl, rfl, rfl, rfl, rfl, rfl, trivial⟩
        refine W.region ?_
        refine OL.pure S (Lf.run_move (S.ev rfl)) rfl rfl trivial ?_
        clear S; intro aa S
        refine OL.pure S (Lf.run_move (S.ev rfl)) rfl rfl trivial ?_
        clear S; intro aa S
        refine OL.pure S (Lf.run_move (S.ev rfl)) rfl rfl trivial ?_
        clear S; intro aa S
        refine OL.pure S (Lf.run_lens (S.ev rfl) rfl Try.underlying22) rfl rfl trivial ?_
        clear S; intro aa S
        obtain ⟨c_3, H⟩ := H
        refine OL.pure S (Lf.run_rem (S.ev rfl) (S.ev rfl) c_3) rfl rfl trivial ?_
        clear S; intro aa S
        obtain ⟨q27, e, e_1, e_2, H⟩ := H
        refine OL.pure S (Lf.run_ixs (S.ev rfl) (S.ev rfl) Try.underlying22 ti3 e e_1 e_2) rfl rfl trivial ?_
        clear S; intro aa S
        obtain ⟨x28, c_1, H⟩ := H
        refine OL.pure S (Lf.run_ld (S.ev rfl) fl3 (S.cl c_1)) rfl rfl trivial ?_
        clear S; intro aa S
        refine OL.pure S (Lf.run_cvi Try.underlying3 Try.underlying26 (S.ev rfl)) rfl rfl trivial ?_
        clear S; intro aa S
        refine OL.pure S (Lf.run_rem (S.ev rfl) (S.ev rfl) (by decide)) rfl rfl trivial ?_
        clear S; intro aa S
        refine OL.pure S (Lf.run_cvi Try.underlying26 Try.underlying3 (S.ev rfl)) rfl rfl trivial ?_
        clear S; intro aa S
        refine OL.pure S (Lf.run_assign (S.ev rfl)) rfl rfl trivial ?_
        clear S; intro aa S
        refine OL.nil ?_
        exact ⟨(IntKind.i64.wrap (((IntKind.u64.wrap x28) : Int).tmod 8)), h4, S.sub _ ⟨rfl, rfl, rfl, rfl, rfl, rfl, rfl, trivial⟩, H⟩
      · replace H := H.2 hb_1
        refine W.skip ?_
        exact ⟨0, h4, S.sub _ ⟨rfl, rfl, rfl, rfl, rfl, rfl, rfl, trivial⟩, H⟩
    · clear H S aa
      rintro aa ww ⟨r8, h5, S, HJ⟩
      have H := HK _ _ HJ
      clear HK HJ
      replace S := S.sub [(1, Value.slice l1.a l1.n l1.c), (2, Value.pointer (some p2)), (4, Value.pointer (some p4)), (5, Value.int .i64 ((x12.n : Nat) : Int)), (6, Value.slice all6.a all6.n all6.c), (7, Value.int .i64 i7), (8, Value.int .i64 r8)] ⟨rfl, rfl, rfl, rfl, rfl, rfl, rfl, trivial⟩
      refine W.region ?_
      refine OL.pure S (Lf.run_move (S.ev rfl)) rfl rfl trivial ?_
      clear S; intro aa S
      refine OL.pure S (Lf.run_move (S.ev rfl)) rfl rfl trivial ?_
      clear S; intro aa S
      refine ol_newS S H Try.underlying22 ti3 (by decide) (parts_map S rfl) (by kernel_rfl) (by decide) rfl trivial ?_
      clear S H aa; intro s34 aa ww h6 H S
      refine ol_appS S H Try.underlying22 ti3 rfl rfl rfl trivial ?_
      clear S H aa; intro s35 aa ww h7 H S
      refine OL.pure S (Lf.run_assign (S.ev rfl)) rfl rfl trivial ?_
      clear S; intro aa S
      refine OL.nil ?_
      replace S := S.sub [(1, Value.slice l1.a l1.n l1.c), (2, Value.pointer (some p2)), (4, Value.pointer (some p4)), (5, Value.int .i64 ((x12.n : Nat) : Int)), (6, Value.slice s35.a s35.n s35.c), (7, Value.int .i64 i7)] ⟨rfl, rfl, rfl, rfl, rfl, rfl, trivial⟩
      refine W.region ?_
      refine OL.pure S (Lf.run_move (S.ev rfl)) rfl rfl trivial ?_
      clear S; intro aa S
      refine OL.pure S (Lf.run_add (S.ev rfl) (S.ev rfl)) rfl rfl trivial ?_
      clear S; intro aa S
      refine OL.pure S (Lf.run_assign (S.ev rfl)) rfl rfl trivial ?_
      clear S; intro aa S
      refine OL.nil ?_
      exact ⟨(s35, (IntKind.i64.wrap (i7 + 1)), h7), ⟨S.sub _ ⟨rfl, rfl, rfl, rfl, rfl, rfl, trivial⟩, H.1⟩, H.2⟩
  · replace H := H.2 hb
    refine W.exit_ ?_
    refine xhit ?_
    refine W.seq ?_
    replace S := S.sub [(2, Value.pointer (some p2)), (4, Value.pointer (some p4)), (6, Value.slice all6.a all6.n all6.c)] ⟨rfl, rfl, rfl, trivial⟩
    refine W.region ?_
    obtain ⟨y37, y37_1, y37_2, y37_3, y37_4, y37_5, c_18, c_19, c_20, c_21, c_22, c_23, H⟩ := H
    refine OL.pure S (Lf.run_ldA (cs := [Value.int .i64 y37, Value.string y37_1, Value.bool y37_2, Value.int .i64 y37_3, Value.slice y37_4.a y37_4.n y37_4.c, Value.slice y37_5.a y37_5.n y37_5.c]) (S.ev rfl) ag25 ti25 (by rw [S.heap]; exact RowL.toRow ⟨c_18, c_19, c_20, c_21, c_22, c_23, trivial⟩)) rfl rfl trivial ?_
    clear S; intro aa S
    refine OL.pure S (Lf.run_move (S.ev rfl)) rfl rfl trivial ?_
    clear S; intro aa S
    refine ol_cal S H isfn18 rfl rfl trivial ?_
    clear S H aa; intro u_1 aa ww h8 H S
    obtain ⟨r39, rfl, H⟩ := H
    refine OL.pure S (Lf.run_move (S.ev rfl)) rfl rfl trivial ?_
    clear S; intro aa S
    obtain ⟨u_2, e_3, y40, y40_1, y40_2, y40_3, y40_4, y40_5, rfl, H⟩ := H
    refine OL.pure S (Lf.run_ex (S.ev rfl) e_3) rfl rfl trivial ?_
    clear S; intro aa S
    obtain ⟨u_3, e_4, x41, rfl, H⟩ := H
    refine OL.pure S (Lf.run_ex (S.ev rfl) e_4) rfl rfl trivial ?_
    clear S; intro aa S
    refine ol_alloc S H ti25 rfl rfl trivial ?_
    clear S H aa; intro p9 aa ww h9 H S
    refine ol_stoA S H rfl rfl ti25 trivial ?_
    clear S H aa; intro aa ww h10 H S
    refine OL.pure S (Lf.run_assign (S.ev rfl)) rfl rfl trivial ?_
    clear S; intro aa S
    refine OL.nil ?_
    refine W.seq ?_
    replace S := S.sub [(4, Value.pointer (some p4)), (9, Value.pointer (some p9))] ⟨rfl, rfl, trivial⟩
    refine W.region ?_
    obtain ⟨y42, y42_1, y42_2, y42_3, y42_4, y42_5, c_12, c_13, c_14, c_15, c_16, c_17, H⟩ := H
    refine OL.pure S (Lf.run_ldA (cs := [Value.int .i64 y42, Value.string y42_1, Value.bool y42_2, Value.int .i64 y42_3, Value.slice y42_4.a y42_4.n y42_4.c, Value.slice y42_5.a y42_5.n y42_5.c]) (S.ev rfl) ag25 ti25 (by rw [S.heap]; exact RowL.toRow ⟨c_12, c_13, c_14, c_15, c_16, c_17, trivial⟩)) rfl rfl trivial ?_
    clear S; intro aa S
    refine ol_stoA S H rfl rfl ti25 trivial ?_
    clear S H aa; intro aa ww h11 H S
    refine OL.nil ?_
    refine W.ret ?_
    obtain ⟨y, y_1, y_2, y_3, y_4, y_5, c_6, c_7, c_8, c_9, c_10, c_11, H⟩ := H
    exact Ret.gen S rfl (RV.cellA (cs := [Value.int .i64 y, Value.string y_1, Value.bool y_2, Value.int .i64 y_3, Value.slice y_4.a y_4.n y_4.c, Value.slice y_5.a y_5.n y_5.c]) rfl ag25 ti25 ⟨c_6, c_7, c_8, c_9, c_10, c_11, trivial⟩ RV.nil) rfl H

/-- chattel chattelref10.Outlive -/
def L12 (l0 : Sv) (sets1 : Sv) (h : Heap) (R : Value → Heap → Prop) : Prop :=
  ∃ (I : Int → Prop) (m : Int → Nat), I 0 ∧ ∀ i5, I i5 →
  ifb (decide (i5 < ((l0.n : Nat) : Int))) (
    ixS l0 i5 fun q16 =>
    ldI .i64 h (q16.add ((i5 : Int).toNat * 2)) fun x18 =>
    ixS l0 i5 fun q21 =>
    ldI .i64 h ((q21.add ((i5 : Int).toNat * 2)).add 1) fun x23 =>
    ∃ J : Bool → Prop, (
      ifb (decide (x18 < 0)) (
        ifb true (
          ifb true (
            ifb true (
              J true) (
              ixS sets1 x23 fun q45_7 =>
              ldI .u64 h (q45_7.add ((x23 : Int).toNat * 1)) fun x46_7 =>
              ixS sets1 x18 fun q49_7 =>
              ldI .u64 h (q49_7.add ((x18 : Int).toNat * 1)) fun x50_7 =>
              J ((bitsI .andNot .u64 x46_7 x50_7) != 0))) (
            ifb (decide (((sets1.n : Nat) : Int) ≤ x23)) (
              J true) (
              ixS sets1 x23 fun q45_6 =>
              ldI .u64 h (q45_6.add ((x23 : Int).toNat * 1)) fun x46_6 =>
              ixS sets1 x18 fun q49_6 =>
              ldI .u64 h (q49_6.add ((x18 : Int).toNat * 1)) fun x50_6 =>
              J ((bitsI .andNot .u64 x46_6 x50_6) != 0)))) (
          ifb (decide (((sets1.n : Nat) : Int) ≤ x18)) (
            ifb true (
              J true) (
              ixS sets1 x23 fun q45_5 =>
              ldI .u64 h (q45_5.add ((x23 : Int).toNat * 1)) fun x46_5 =>
              ixS sets1 x18 fun q49_5 =>
              ldI .u64 h (q49_5.add ((x18 : Int).toNat * 1)) fun x50_5 =>
              J ((bitsI .andNot .u64 x46_5 x50_5) != 0))) (
            ifb (decide (((sets1.n : Nat) : Int) ≤ x23)) (
              J true) (
              ixS sets1 x23 fun q45_4 =>
              ldI .u64 h (q45_4.add ((x23 : Int).toNat * 1)) fun x46_4 =>
              ixS sets1 x18 fun q49_4 =>
              ldI .u64 h (q49_4.add ((x18 : Int).toNat * 1)) fun x50_4 =>
              J ((bitsI .andNot .u64 x46_4 x50_4) != 0))))) (
        ifb (decide (x23 < 0)) (
          ifb true (
            ifb true (
              J true) (
              ixS sets1 x23 fun q45_3 =>
              ldI .u64 h (q45_3.add ((x23 : Int).toNat * 1)) fun x46_3 =>
              ixS sets1 x18 fun q49_3 =>
              ldI .u64 h (q49_3.add ((x18 : Int).toNat * 1)) fun x50_3 =>
              J ((bitsI .andNot .u64 x46_3 x50_3) != 0))) (
            ifb (decide (((sets1.n : Nat) : Int) ≤ x23)) (
              J true) (
              ixS sets1 x23 fun q45_2 =>
              ldI .u64 h (q45_2.add ((x23 : Int).toNat * 1)) fun x46_2 =>
              ixS sets1 x18 fun q49_2 =>
              ldI .u64 h (q49_2.add ((x18 : Int).toNat * 1)) fun x50_2 =>
              J ((bitsI .andNot .u64 x46_2 x50_2) != 0)))) (
          ifb (decide (((sets1.n : Nat) : Int) ≤ x18)) (
            ifb true (
              J true) (
              ixS sets1 x23 fun q45_1 =>
              ldI .u64 h (q45_1.add ((x23 : Int).toNat * 1)) fun x46_1 =>
              ixS sets1 x18 fun q49_1 =>
              ldI .u64 h (q49_1.add ((x18 : Int).toNat * 1)) fun x50_1 =>
              J ((bitsI .andNot .u64 x46_1 x50_1) != 0))) (
            ifb (decide (((sets1.n : Nat) : Int) ≤ x23)) (
              J true) (
              ixS sets1 x23 fun q45 =>
              ldI .u64 h (q45.add ((x23 : Int).toNat * 1)) fun x46 =>
              ixS sets1 x18 fun q49 =>
              ldI .u64 h (q49.add ((x18 : Int).toNat * 1)) fun x50 =>
              J ((bitsI .andNot .u64 x46 x50) != 0)))))) ∧ (∀ x53, J x53 →
    ifb x53 (
      R (Value.bool false) h) (
      I (IntKind.i64.wrap (i5 + 1)) ∧ m (IntKind.i64.wrap (i5 + 1)) < m i5))) (
    R (Value.bool true) h)

set_option maxRecDepth 100000 in

theorem F12 {l0 sets1 h : _} {R : Value → Heap → Prop} (H : L12 l0 sets1 h R) : CallsH Try.prog 12 #[Value.slice l0.a l0.n l0.c, Value.slice sets1.a sets1.n sets1.c] h R := by
  refine CallsH.enter (n := 54) Try.func12 rfl rfl rfl rfl ?_
  intro w0 aa ww S
  unfold L12 at H
  refine W.seq ?_
  replace S := S.sub [(0, Value.slice l0.a l0.n l0.c), (1, Value.slice sets1.a sets1.n sets1.c)] ⟨rfl, rfl, trivial⟩
  refine W.region ?_
  refine OL.pure S (Lf.run_assign (S.ev rfl)) rfl rfl trivial ?_
  clear S; intro aa S
  refine OL.nil ?_
  refine W.seq ?_
  refine W.seq ?_
  replace S := S.sub [(0, Value.slice l0.a l0.n l0.c), (1, Value.slice sets1.a sets1.n sets1.c)] ⟨rfl, rfl, trivial⟩
  refine W.region ?_
  refine OL.pure S (Lf.run_assign (S.ev rfl)) rfl rfl trivial ?_
  clear S; intro aa S
  refine OL.nil ?_
  refine W.block ?_
  obtain ⟨I, m, H, HB⟩ := H
  refine W.loopS (σ := Int) (fun s aa ww => St 54 [(0, Value.slice l0.a l0.n l0.c), (1, Value.slice sets1.a sets1.n sets1.c), (5, Value.int .i64 s)] h w0 aa ww ∧ I s) (fun s => m s) (0) ⟨S.sub _ ⟨rfl, rfl, rfl, trivial⟩, H⟩ ?_
  clear H S aa
  rintro i5 aa ww ⟨S, HI⟩
  replace S : St 54 [(0, Value.slice l0.a l0.n l0.c), (1, Value.slice sets1.a sets1.n sets1.c), (5, Value.int .i64 i5)] h w0 aa ww := S
  have H := HB i5 HI
  clear HI
  refine W.seq ?_
  refine W.seq ?_
  replace S := S.sub [(0, Value.slice l0.a l0.n l0.c), (1, Value.slice sets1.a sets1.n sets1.c), (5, Value.int .i64 i5)] ⟨rfl, rfl, rfl, trivial⟩
  refine W.region ?_
  refine OL.pure S (Lf.run_move (S.ev rfl)) rfl rfl trivial ?_
  clear S; intro aa S
  refine OL.pure S (Lf.run_move (S.ev rfl)) rfl rfl trivial ?_
  clear S; intro aa S
  refine OL.pure S (Lf.run_lens (S.ev rfl) rfl Try.underlying29) rfl rfl trivial ?_
  clear S; intro aa S
  refine OL.pure S (Lf.run_lss (S.ev rfl) (S.ev rfl)) rfl rfl trivial ?_
  clear S; intro aa S
  refine OL.nil ?_
  refine W.cond S (b := (decide (i5 < ((l0.n : Nat) : Int)))) rfl (fun hb => ?_) (fun hb => ?_)
  · replace H := H.1 hb
    refine W.skip ?_
    refine W.seq ?_
    refine W.block ?_
    refine W.seq ?_
    replace S := S.sub [(0, Value.slice l0.a l0.n l0.c), (1, Value.slice sets1.a sets1.n sets1.c), (5, Value.int .i64 i5)] ⟨rfl, rfl, rfl, trivial⟩
    refine W.regionD S (by kernel_rfl) ?_
    clear S; intro ww S
    refine AN.pure 0 S rfl (by kernel_rfl) (fun _ => Lf.run_move (S.ev rfl)) rfl rfl trivial ?_
    clear S; intro aa S
    refine AN.pure 1 S rfl (by kernel_rfl) (fun _ => Lf.run_move (S.ev rfl)) rfl rfl trivial ?_
    clear S; intro aa S
    obtain ⟨q16, e, e_1, e_2, H⟩ := H
    refine AN.pure 2 S rfl (by kernel_rfl) (fun _ => Lf.run_ixs (S.ev rfl) (S.ev rfl) Try.underlying29 ti35 e e_1 e_2) rfl rfl trivial ?_
    clear S; intro aa S
    refine AN.pure 3 S rfl (by kernel_rfl) (fun _ => Lf.run_ixa (S.ev rfl) (S.ev rfl) Try.underlying35 ti3 (by decide) (by decide)) rfl rfl trivial ?_
    clear S; intro aa S
    obtain ⟨x18, c, H⟩ := H
    refine AN.load 4 S rfl (by kernel_rfl) (fun _ hx => Lf.run_ld (S.ev rfl) fl3 (hx.cell _ _ (S.cl c))) rfl rfl trivial ?_
    clear S; intro aa S
    refine AN.pure 5 S rfl (by kernel_rfl) (fun _ => Lf.run_move (S.ev rfl)) rfl rfl trivial ?_
    clear S; intro aa S
    refine AN.pure 6 S rfl (by kernel_rfl) (fun _ => Lf.run_move (S.ev rfl)) rfl rfl trivial ?_
    clear S; intro aa S
    obtain ⟨q21, e_5, e_6, e_7, H⟩ := H
    refine AN.pure 7 S rfl (by kernel_rfl) (fun _ => Lf.run_ixs (S.ev rfl) (S.ev rfl) Try.underlying29 ti35 e_5 e_6 e_7) rfl rfl trivial ?_
    clear S; intro aa S
    refine AN.pure 8 S rfl (by kernel_rfl) (fun _ => Lf.run_ixa (S.ev rfl) (S.ev rfl) Try.underlying35 ti3 (by decide) (by decide)) rfl rfl trivial ?_
    clear S; intro aa S
    obtain ⟨x23, c_1, H⟩ := H
    refine AN.load 9 S rfl (by kernel_rfl) (fun _ hx => Lf.run_ld (S.ev rfl) fl3 (hx.cell _ _ (S.cl c_1))) rfl rfl trivial ?_
    clear S; intro aa S
    refine AN.pure 10 S rfl (by kernel_rfl) (fun _ => Lf.run_assign (S.ev rfl)) rfl rfl trivial ?_
    clear S; intro aa S
    refine AN.pure 11 S rfl (by kernel_rfl) (fun _ => Lf.run_assign (S.ev rfl)) rfl rfl trivial ?_
    clear S; intro aa S
    refine AN.done (by kernel_rfl) ?_
    refine W.seq ?_
    replace S := S.sub [(0, Value.slice l0.a l0.n l0.c), (1, Value.slice sets1.a sets1.n sets1.c), (5, Value.int .i64 i5), (6, Value.int .i64 x18), (7, Value.int .i64 x23)] ⟨rfl, rfl, rfl, rfl, rfl, trivial⟩
    obtain ⟨J, H, HK⟩ := H
    refine W.mono (N' := fun aa ww => ∃ x53, St 54 [(0, Value.slice l0.a l0.n l0.c), (1, Value.slice sets1.a sets1.n sets1.c), (5, Value.int .i64 i5), (53, Value.bool x53)] h w0 aa ww ∧ J x53) ?_ ?_
    · refine W.regionD S (by kernel_rfl) ?_
      clear S; intro ww S
      refine AN.pure 0 S rfl (by kernel_rfl) (fun _ => Lf.run_move (S.ev rfl)) rfl rfl trivial ?_
      clear S; intro aa S
      refine AN.pure 1 S rfl (by kernel_rfl) (fun _ => Lf.run_lss (S.ev rfl) (S.ev rfl)) rfl rfl trivial ?_
      clear S; intro aa S
      refine AN.pure 2 S rfl (by kernel_rfl) (fun _ => Lf.run_move (S.ev rfl)) rfl rfl trivial ?_
      clear S; intro aa S
      rcases Bool.eq_false_or_eq_true (decide (x18 < 0)) with hb_1 | hb_1
      · replace H := H.1 hb_1
        refine AN.not 3 S rfl (by kernel_rfl) rfl rfl (GNo.mk rfl rfl hb_1) ?_
        clear S; intro aa S
        refine AN.not 4 S rfl (by kernel_rfl) rfl rfl (GNo.mk rfl rfl hb_1) ?_
        clear S; intro aa S
        refine AN.pure 5 S rfl (by kernel_rfl) (fun _ => run_pickT (S.ev rfl) hb_1 (S.ev rfl)) rfl rfl trivial ?_
        clear S; intro aa S
        refine AN.pure 6 S rfl (by kernel_rfl) (fun _ => Lf.run_move (S.ev rfl)) rfl rfl trivial ?_
        clear S; intro aa S
        rcases Bool.eq_false_or_eq_true true with hb_9 | hb_9
        · replace H := H.1 hb_9
          refine AN.not 7 S rfl (by kernel_rfl) rfl rfl (GNo.mk rfl rfl hb_9) ?_
          clear S; intro aa S
          refine AN.not 8 S rfl (by kernel_rfl) rfl rfl (GNo.mk rfl rfl hb_9) ?_
          clear S; intro aa S
          refine AN.not 9 S rfl (by kernel_rfl) rfl rfl (GNo.mk rfl rfl hb_9) ?_
          clear S; intro aa S
          refine AN.not 10 S rfl (by kernel_rfl) rfl rfl (GNo.mk rfl rfl hb_9) ?_
          clear S; intro aa S
          refine AN.pure 11 S rfl (by kernel_rfl) (fun _ => run_pickT (S.ev rfl) hb_9 (S.ev rfl)) rfl rfl trivial ?_
          clear S; intro aa S
          refine AN.pure 12 S rfl (by kernel_rfl) (fun _ => Lf.run_move (S.ev rfl)) rfl rfl trivial ?_
          clear S; intro aa S
          rcases Bool.eq_false_or_eq_true true with hb_13 | hb_13
          · replace H := H.1 hb_13
            refine AN.not 13 S rfl (by kernel_rfl) rfl rfl (GNo.mk rfl rfl hb_13) ?_
            clear S; intro aa S
            refine AN.not 14 S rfl (by kernel_rfl) rfl rfl (GNo.mk rfl rfl hb_13) ?_
            clear S; intro aa S
            refine AN.not 15 S rfl (by kernel_rfl) rfl rfl (GNo.mk rfl rfl hb_13) ?_
            clear S; intro aa S
            refine AN.not 16 S rfl (by kernel_rfl) rfl rfl (GNo.mk rfl rfl hb_13) ?_
            clear S; intro aa S
            refine AN.pure 17 S rfl (by kernel_rfl) (fun _ => run_pickT (S.ev rfl) hb_13 (S.ev rfl)) rfl rfl trivial ?_
            clear S; intro aa S
            refine AN.pure 18 S rfl (by kernel_rfl) (fun _ => Lf.run_move (S.ev rfl)) rfl rfl trivial ?_
            clear S; intro aa S
            rcases Bool.eq_false_or_eq_true true with hb_15 | hb_15
            · replace H := H.1 hb_15
              refine AN.not 19 S rfl (by kernel_rfl) rfl rfl (GNo.mk rfl rfl hb_15) ?_
              clear S; intro aa S
              refine AN.not 20 S rfl (by kernel_rfl) rfl rfl (GNo.mk rfl rfl hb_15) ?_
              clear S; intro aa S
              refine AN.not 21 S rfl (by kernel_rfl) rfl rfl (GNo.mk rfl rfl hb_15) ?_
              clear S; intro aa S
              refine AN.not 22 S rfl (by kernel_rfl) rfl rfl (GNo.mk rfl rfl hb_15) ?_
              clear S; intro aa S
              refine AN.not 23 S rfl (by kernel_rfl) rfl rfl (GNo.mk rfl rfl hb_15) ?_
              clear S; intro aa S
              refine AN.not 24 S rfl (by kernel_rfl) rfl rfl (GNo.mk rfl rfl hb_15) ?_
              clear S; intro aa S
              refine AN.not 25 S rfl (by kernel_rfl) rfl rfl (GNo.mk rfl rfl hb_15) ?_
              clear S; intro aa S
              refine AN.not 26 S rfl (by kernel_rfl) rfl rfl (GNo.mk rfl rfl hb_15) ?_
              clear S; intro aa S
              refine AN.not 27 S rfl (by kernel_rfl) rfl rfl (GNo.mk rfl rfl hb_15) ?_
              clear S; intro aa S
              refine AN.not 28 S rfl (by kernel_rfl) rfl rfl (GNo.mk rfl rfl hb_15) ?_
              clear S; intro aa S
              refine AN.pure 29 S rfl (by kernel_rfl) (fun _ => run_pickT (S.ev rfl) hb_15 (S.ev rfl)) rfl rfl trivial ?_
              clear S; intro aa S
              refine AN.done (by kernel_rfl) ?_
              exact ⟨true, S.sub _ ⟨rfl, rfl, rfl, rfl, trivial⟩, H⟩
            · replace H := H.2 hb_15
              refine AN.pure 19 S rfl (by kernel_rfl) (fun _ => Lf.run_move (S.ev rfl)) rfl rfl (GOk.mk rfl rfl hb_15) ?_
              clear S; intro aa S
              refine AN.pure 20 S rfl (by kernel_rfl) (fun _ => Lf.run_move (S.ev rfl)) rfl rfl (GOk.mk rfl rfl hb_15) ?_
              clear S; intro aa S
              obtain ⟨q45_7, e_52, e_53, e_54, H⟩ := H
              refine AN.pure 21 S rfl (by kernel_rfl) (fun _ => Lf.run_ixs (S.ev rfl) (S.ev rfl) Try.underlying42 ti26 e_52 e_53 e_54) rfl rfl (GOk.mk rfl rfl hb_15) ?_
              clear S; intro aa S
              obtain ⟨x46_7, c_16, H⟩ := H
              refine AN.load 22 S rfl (by kernel_rfl) (fun _ hx => Lf.run_ld (S.ev rfl) fl26 (hx.cell _ _ (S.cl c_16))) rfl rfl (GOk.mk rfl rfl hb_15) ?_
              clear S; intro aa S
              refine AN.pure 23 S rfl (by kernel_rfl) (fun _ => Lf.run_move (S.ev rfl)) rfl rfl (GOk.mk rfl rfl hb_15) ?_
              clear S; intro aa S
              refine AN.pure 24 S rfl (by kernel_rfl) (fun _ => Lf.run_move (S.ev rfl)) rfl rfl (GOk.mk rfl rfl hb_15) ?_
              clear S; intro aa S
              obtain ⟨q49_7, e_55, e_56, e_57, H⟩ := H
              refine AN.pure 25 S rfl (by kernel_rfl) (fun _ => Lf.run_ixs (S.ev rfl) (S.ev rfl) Try.underlying42 ti26 e_55 e_56 e_57) rfl rfl (GOk.mk rfl rfl hb_15) ?_
              clear S; intro aa S
              obtain ⟨x50_7, c_17, H⟩ := H
              refine AN.load 26 S rfl (by kernel_rfl) (fun _ hx => Lf.run_ld (S.ev rfl) fl26 (hx.cell _ _ (S.cl c_17))) rfl rfl (GOk.mk rfl rfl hb_15) ?_
              clear S; intro aa S
              refine AN.pure 27 S rfl (by kernel_rfl) (fun _ => Lf.run_bits (op := .andNot) (by simp) (S.ev rfl) (S.ev rfl)) rfl rfl (GOk.mk rfl rfl hb_15) ?_
              clear S; intro aa S
              refine AN.pure 28 S rfl (by kernel_rfl) (fun _ => Lf.run_neq (S.ev rfl) (S.ev rfl)) rfl rfl (GOk.mk rfl rfl hb_15) ?_
              clear S; intro aa S
              refine AN.pure 29 S rfl (by kernel_rfl) (fun _ => run_pickF (S.ev rfl) hb_15 (S.ev rfl)) rfl rfl trivial ?_
              clear S; intro aa S
              refine AN.done (by kernel_rfl) ?_
              exact ⟨((bitsI .andNot .u64 x46_7 x50_7) != 0), S.sub _ ⟨rfl, rfl, rfl, rfl, trivial⟩, H⟩
          · replace H := H.2 hb_13
            refine AN.pure 13 S rfl (by kernel_rfl) (fun _ => Lf.run_move (S.ev rfl)) rfl rfl (GOk.mk rfl rfl hb_13) ?_
            clear S; intro aa S
            refine AN.pure 14 S rfl (by kernel_rfl) (fun _ => Lf.run_move (S.ev rfl)) rfl rfl (GOk.mk rfl rfl hb_13) ?_
            clear S; intro aa S
            refine AN.pure 15 S rfl (by kernel_rfl) (fun _ => Lf.run_lens (S.ev rfl) rfl Try.underlying42) rfl rfl (GOk.mk rfl rfl hb_13) ?_
            clear S; intro aa S
            refine AN.pure 16 S rfl (by kernel_rfl) (fun _ => Lf.run_geq (S.ev rfl) (S.ev rfl)) rfl rfl (GOk.mk rfl rfl hb_13) ?_
            clear S; intro aa S
            refine AN.pure 17 S rfl (by kernel_rfl) (fun _ => run_pickF (S.ev rfl) hb_13 (S.ev rfl)) rfl rfl trivial ?_
            clear S; intro aa S
            refine AN.pure 18 S rfl (by kernel_rfl) (fun _ => Lf.run_move (S.ev rfl)) rfl rfl trivial ?_
            clear S; intro aa S
            rcases Bool.eq_false_or_eq_true (decide (((sets1.n : Nat) : Int) ≤ x23)) with hb_14 | hb_14
            · replace H := H.1 hb_14
              refine AN.not 19 S rfl (by kernel_rfl) rfl rfl (GNo.mk rfl rfl hb_14) ?_
              clear S; intro aa S
              refine AN.not 20 S rfl (by kernel_rfl) rfl rfl (GNo.mk rfl rfl hb_14) ?_
              clear S; intro aa S
              refine AN.not 21 S rfl (by kernel_rfl) rfl rfl (GNo.mk rfl rfl hb_14) ?_
              clear S; intro aa S
              refine AN.not 22 S rfl (by kernel_rfl) rfl rfl (GNo.mk rfl rfl hb_14) ?_
              clear S; intro aa S
              refine AN.not 23 S rfl (by kernel_rfl) rfl rfl (GNo.mk rfl rfl hb_14) ?_
              clear S; intro aa S
              refine AN.not 24 S rfl (by kernel_rfl) rfl rfl (GNo.mk rfl rfl hb_14) ?_
              clear S; intro aa S
              refine AN.not 25 S rfl (by kernel_rfl) rfl rfl (GNo.mk rfl rfl hb_14) ?_
              clear S; intro aa S
              refine AN.not 26 S rfl (by kernel_rfl) rfl rfl (GNo.mk rfl rfl hb_14) ?_
              clear S; intro aa S
              refine AN.not 27 S rfl (by kernel_rfl) rfl rfl (GNo.mk rfl rfl hb_14) ?_
              clear S; intro aa S
              refine AN.not 28 S rfl (by kernel_rfl) rfl rfl (GNo.mk rfl rfl hb_14) ?_
              clear S; intro aa S
              refine AN.pure 29 S rfl (by kernel_rfl) (fun _ => run_pickT (S.ev rfl) hb_14 (S.ev rfl)) rfl rfl trivial ?_
              clear S; intro aa S
              refine AN.done (by kernel_rfl) ?_
              exact ⟨true, S.sub _ ⟨rfl, rfl, rfl, rfl, trivial⟩, H⟩
            · replace H := H.2 hb_14
              refine AN.pure 19 S rfl (by kernel_rfl) (fun _ => Lf.run_move (S.ev rfl)) rfl rfl (GOk.mk rfl rfl hb_14) ?_
              clear S; intro aa S
              refine AN.pure 20 S rfl (by kernel_rfl) (fun _ => Lf.run_move (S.ev rfl)) rfl rfl (GOk.mk rfl rfl hb_14) ?_
              clear S; intro aa S
              obtain ⟨q45_6, e_46, e_47, e_48, H⟩ := H
              refine AN.pure 21 S rfl (by kernel_rfl) (fun _ => Lf.run_ixs (S.ev rfl) (S.ev rfl) Try.underlying42 ti26 e_46 e_47 e_48) rfl rfl (GOk.mk rfl rfl hb_14) ?_
              clear S; intro aa S
              obtain ⟨x46_6, c_14, H⟩ := H
              refine AN.load 22 S rfl (by kernel_rfl) (fun _ hx => Lf.run_ld (S.ev rfl) fl26 (hx.cell _ _ (S.cl c_14))) rfl rfl (GOk.mk rfl rfl hb_14) ?_
              clear S; intro aa S
              refine AN.pure 23 S rfl (by kernel_rfl) (fun _ => Lf.run_move (S.ev rfl)) rfl rfl (GOk.mk rfl rfl hb_14) ?_
              clear S; intro aa S
              refine AN.pure 24 S rfl (by kernel_rfl) (fun _ => Lf.run_move (S.ev rfl)) rfl rfl (GOk.mk rfl rfl hb_14) ?_
              clear S; intro aa S
              obtain ⟨q49_6, e_49, e_50, e_51, H⟩ := H
              refine AN.pure 25 S rfl (by kernel_rfl) (fun _ => Lf.run_ixs (S.ev rfl) (S.ev rfl) Try.underlying42 ti26 e_49 e_50 e_51) rfl rfl (GOk.mk rfl rfl hb_14) ?_
              clear S; intro aa S
              obtain ⟨x50_6, c_15, H⟩ := H
              refine AN.load 26 S rfl (by kernel_rfl) (fun _ hx => Lf.run_ld (S.ev rfl) fl26 (hx.cell _ _ (S.cl c_15))) rfl rfl (GOk.mk rfl rfl hb_14) ?_
              clear S; intro aa S
              refine AN.pure 27 S rfl (by kernel_rfl) (fun _ => Lf.run_bits (op := .andNot) (by simp) (S.ev rfl) (S.ev rfl)) rfl rfl (GOk.mk rfl rfl hb_14) ?_
              clear S; intro aa S
              refine AN.pure 28 S rfl (by kernel_rfl) (fun _ => Lf.run_neq (S.ev rfl) (S.ev rfl)) rfl rfl (GOk.mk rfl rfl hb_14) ?_
              clear S; intro aa S
              refine AN.pure 29 S rfl (by kernel_rfl) (fun _ => run_pickF (S.ev rfl) hb_14 (S.ev rfl)) rfl rfl trivial ?_
              clear S; intro aa S
              refine AN.done (by kernel_rfl) ?_
              exact ⟨((bitsI .andNot .u64 x46_6 x50_6) != 0), S.sub _ ⟨rfl, rfl, rfl, rfl, trivial⟩, H⟩
        · replace H := H.2 hb_9
          refine AN.pure 7 S rfl (by kernel_rfl) (fun _ => Lf.run_move (S.ev rfl)) rfl rfl (GOk.mk rfl rfl hb_9) ?_
          clear S; intro aa S
          refine AN.pure 8 S rfl (by kernel_rfl) (fun _ => Lf.run_move (S.ev rfl)) rfl rfl (GOk.mk rfl rfl hb_9) ?_
          clear S; intro aa S
          refine AN.pure 9 S rfl (by kernel_rfl) (fun _ => Lf.run_lens (S.ev rfl) rfl Try.underlying42) rfl rfl (GOk.mk rfl rfl hb_9) ?_
          clear S; intro aa S
          refine AN.pure 10 S rfl (by kernel_rfl) (fun _ => Lf.run_geq (S.ev rfl) (S.ev rfl)) rfl rfl (GOk.mk rfl rfl hb_9) ?_
          clear S; intro aa S
          refine AN.pure 11 S rfl (by kernel_rfl) (fun _ => run_pickF (S.ev rfl) hb_9 (S.ev rfl)) rfl rfl trivial ?_
          clear S; intro aa S
          refine AN.pure 12 S rfl (by kernel_rfl) (fun _ => Lf.run_move (S.ev rfl)) rfl rfl trivial ?_
          clear S; intro aa S
          rcases Bool.eq_false_or_eq_true (decide (((sets1.n : Nat) : Int) ≤ x18)) with hb_10 | hb_10
          · replace H := H.1 hb_10
            refine AN.not 13 S rfl (by kernel_rfl) rfl rfl (GNo.mk rfl rfl hb_10) ?_
            clear S; intro aa S
            refine AN.not 14 S rfl (by kernel_rfl) rfl rfl (GNo.mk rfl rfl hb_10) ?_
            clear S; intro aa S
            refine AN.not 15 S rfl (by kernel_rfl) rfl rfl (GNo.mk rfl rfl hb_10) ?_
            clear S; intro aa S
            refine AN.not 16 S rfl (by kernel_rfl) rfl rfl (GNo.mk rfl rfl hb_10) ?_
            clear S; intro aa S
            refine AN.pure 17 S rfl (by kernel_rfl) (fun _ => run_pickT (S.ev rfl) hb_10 (S.ev rfl)) rfl rfl trivial ?_
            clear S; intro aa S
            refine AN.pure 18 S rfl (by kernel_rfl) (fun _ => Lf.run_move (S.ev rfl)) rfl rfl trivial ?_
            clear S; intro aa S
            rcases Bool.eq_false_or_eq_true true with hb_12 | hb_12
            · replace H := H.1 hb_12
              refine AN.not 19 S rfl (by kernel_rfl) rfl rfl (GNo.mk rfl rfl hb_12) ?_
              clear S; intro aa S
              refine AN.not 20 S rfl (by kernel_rfl) rfl rfl (GNo.mk rfl rfl hb_12) ?_
              clear S; intro aa S
              refine AN.not 21 S rfl (by kernel_rfl) rfl rfl (GNo.mk rfl rfl hb_12) ?_
              clear S; intro aa S
              refine AN.not 22 S rfl (by kernel_rfl) rfl rfl (GNo.mk rfl rfl hb_12) ?_
              clear S; intro aa S
              refine AN.not 23 S rfl (by kernel_rfl) rfl rfl (GNo.mk rfl rfl hb_12) ?_
              clear S; intro aa S
              refine AN.not 24 S rfl (by kernel_rfl) rfl rfl (GNo.mk rfl rfl hb_12) ?_
              clear S; intro aa S
              refine AN.not 25 S rfl (by kernel_rfl) rfl rfl (GNo.mk rfl rfl hb_12) ?_
              clear S; intro aa S
              refine AN.not 26 S rfl (by kernel_rfl) rfl rfl (GNo.mk rfl rfl hb_12) ?_
              clear S; intro aa S
              refine AN.not 27 S rfl (by kernel_rfl) rfl rfl (GNo.mk rfl rfl hb_12) ?_
              clear S; intro aa S
              refine AN.not 28 S rfl (by kernel_rfl) rfl rfl (GNo.mk rfl rfl hb_12) ?_
              clear S; intro aa S
              refine AN.pure 29 S rfl (by kernel_rfl) (fun _ => run_pickT (S.ev rfl) hb_12 (S.ev rfl)) rfl rfl trivial ?_
              clear S; intro aa S
              refine AN.done (by kernel_rfl) ?_
              exact ⟨true, S.sub _ ⟨rfl, rfl, rfl, rfl, trivial⟩, H⟩
            · replace H := H.2 hb_12
              refine AN.pure 19 S rfl (by kernel_rfl) (fun _ => Lf.run_move (S.ev rfl)) rfl rfl (GOk.mk rfl rfl hb_12) ?_
              clear S; intro aa S
              refine AN.pure 20 S rfl (by kernel_rfl) (fun _ => Lf.run_move (S.ev rfl)) rfl rfl (GOk.mk rfl rfl hb_12) ?_
              clear S; intro aa S
              obtain ⟨q45_5, e_40, e_41, e_42, H⟩ := H
              refine AN.pure 21 S rfl (by kernel_rfl) (fun _ => Lf.run_ixs (S.ev rfl) (S.ev rfl) Try.underlying42 ti26 e_40 e_41 e_42) rfl rfl (GOk.mk rfl rfl hb_12) ?_
              clear S; intro aa S
              obtain ⟨x46_5, c_12, H⟩ := H
              refine AN.load 22 S rfl (by kernel_rfl) (fun _ hx => Lf.run_ld (S.ev rfl) fl26 (hx.cell _ _ (S.cl c_12))) rfl rfl (GOk.mk rfl rfl hb_12) ?_
              clear S; intro aa S
              refine AN.pure 23 S rfl (by kernel_rfl) (fun _ => Lf.run_move (S.ev rfl)) rfl rfl (GOk.mk rfl rfl hb_12) ?_
              clear S; intro aa S
              refine AN.pure 24 S rfl (by kernel_rfl) (fun _ => Lf.run_move (S.ev rfl)) rfl rfl (GOk.mk rfl rfl hb_12) ?_
              clear S; intro aa S
              obtain ⟨q49_5, e_43, e_44, e_45, H⟩ := H
              refine AN.pure 25 S rfl (by kernel_rfl) (fun _ => Lf.run_ixs (S.ev rfl) (S.ev rfl) Try.underlying42 ti26 e_43 e_44 e_45) rfl rfl (GOk.mk rfl rfl hb_12) ?_
              clear S; intro aa S
              obtain ⟨x50_5, c_13, H⟩ := H
              refine AN.load 26 S rfl (by kernel_rfl) (fun _ hx => Lf.run_ld (S.ev rfl) fl26 (hx.cell _ _ (S.cl c_13))) rfl rfl (GOk.mk rfl rfl hb_12) ?_
              clear S; intro aa S
              refine AN.pure 27 S rfl (by kernel_rfl) (fun _ => Lf.run_bits (op := .andNot) (by simp) (S.ev rfl) (S.ev rfl)) rfl rfl (GOk.mk rfl rfl hb_12) ?_
              clear S; intro aa S
              refine AN.pure 28 S rfl (by kernel_rfl) (fun _ => Lf.run_neq (S.ev rfl) (S.ev rfl)) rfl rfl (GOk.mk rfl rfl hb_12) ?_
              clear S; intro aa S
              refine AN.pure 29 S rfl (by kernel_rfl) (fun _ => run_pickF (S.ev rfl) hb_12 (S.ev rfl)) rfl rfl trivial ?_
              clear S; intro aa S
              refine AN.done (by kernel_rfl) ?_
              exact ⟨((bitsI .andNot .u64 x46_5 x50_5) != 0), S.sub _ ⟨rfl, rfl, rfl, rfl, trivial⟩, H⟩
          · replace H := H.2 hb_10
            refine AN.pure 13 S rfl (by kernel_rfl) (fun _ => Lf.run_move (S.ev rfl)) rfl rfl (GOk.mk rfl rfl hb_10) ?_
            clear S; intro aa S
            refine AN.pure 14 S rfl (by kernel_rfl) (fun _ => Lf.run_move (S.ev rfl)) rfl rfl (GOk.mk rfl rfl hb_10) ?_
            clear S; intro aa S
            refine AN.pure 15 S rfl (by kernel_rfl) (fun _ => Lf.run_lens (S.ev rfl) rfl Try.underlying42) rfl rfl (GOk.mk rfl rfl hb_10) ?_
            clear S; intro aa S
            refine AN.pure 16 S rfl (by kernel_rfl) (fun _ => Lf.run_geq (S.ev rfl) (S.ev rfl)) rfl rfl (GOk.mk rfl rfl hb_10) ?_
            clear S; intro aa S
            refine AN.pure 17 S rfl (by kernel_rfl) (fun _ => run_pickF (S.ev rfl) hb_10 (S.ev rfl)) rfl rfl trivial ?_
            clear S; intro aa S
            refine AN.pure 18 S rfl (by kernel_rfl) (fun _ => Lf.run_move (S.ev rfl)) rfl rfl trivial ?_
            clear S; intro aa S
            rcases Bool.eq_false_or_eq_true (decide (((sets1.n : Nat) : Int) ≤ x23)) with hb_11 | hb_11
            · replace H := H.1 hb_11
              refine AN.not 19 S rfl (by kernel_rfl) rfl rfl (GNo.mk rfl rfl hb_11) ?_
              clear S; intro aa S
              refine AN.not 20 S rfl (by kernel_rfl) rfl rfl (GNo.mk rfl rfl hb_11) ?_
              clear S; intro aa S
              refine AN.not 21 S rfl (by kernel_rfl) rfl rfl (GNo.mk rfl rfl hb_11) ?_
              clear S; intro aa S
              refine AN.not 22 S rfl (by kernel_rfl) rfl rfl (GNo.mk rfl rfl hb_11) ?_
              clear S; intro aa S
              refine AN.not 23 S rfl (by kernel_rfl) rfl rfl (GNo.mk rfl rfl hb_11) ?_
              clear S; intro aa S
              refine AN.not 24 S rfl (by kernel_rfl) rfl rfl (GNo.mk rfl rfl hb_11) ?_
              clear S; intro aa S
              refine AN.not 25 S rfl (by kernel_rfl) rfl rfl (GNo.mk rfl rfl hb_11) ?_
              clear S; intro aa S
              refine AN.not 26 S rfl (by kernel_rfl) rfl rfl (GNo.mk rfl rfl hb_11) ?_
              clear S; intro aa S
              refine AN.not 27 S rfl (by kernel_rfl) rfl rfl (GNo.mk rfl rfl hb_11) ?_
              clear S; intro aa S
              refine AN.not 28 S rfl (by kernel_rfl) rfl rfl (GNo.mk rfl rfl hb_11) ?_
              clear S; intro aa S
              refine AN.pure 29 S rfl (by kernel_rfl) (fun _ => run_pickT (S.ev rfl) hb_11 (S.ev rfl)) rfl rfl trivial ?_
              clear S; intro aa S
              refine AN.done (by kernel_rfl) ?_
              exact ⟨true, S.sub _ ⟨rfl, rfl, rfl, rfl, trivial⟩, H⟩
            · replace H := H.2 hb_11
              refine AN.pure 19 S rfl (by kernel_rfl) (fun _ => Lf.run_move (S.ev rfl)) rfl rfl (GOk.mk rfl rfl hb_11) ?_
              clear S; intro aa S
              refine AN.pure 20 S rfl (by kernel_rfl) (fun _ => Lf.run_move (S.ev rfl)) rfl rfl (GOk.mk rfl rfl hb_11) ?_
              clear S; intro aa S
              obtain ⟨q45_4, e_34, e_35, e_36, H⟩ := H
              refine AN.pure 21 S rfl (by kernel_rfl) (fun _ => Lf.run_ixs (S.ev rfl) (S.ev rfl) Try.underlying42 ti26 e_34 e_35 e_36) rfl rfl (GOk.mk rfl rfl hb_11) ?_
              clear S; intro aa S
              obtain ⟨x46_4, c_10, H⟩ := H
              refine AN.load 22 S rfl (by kernel_rfl) (fun _ hx => Lf.run_ld (S.ev rfl) fl26 (hx.cell _ _ (S.cl c_10))) rfl rfl (GOk.mk rfl rfl hb_11) ?_
              clear S; intro aa S
              refine AN.pure 23 S rfl (by kernel_rfl) (fun _ => Lf.run_move (S.ev rfl)) rfl rfl (GOk.mk rfl rfl hb_11) ?_
              clear S; intro aa S
              refine AN.pure 24 S rfl (by kernel_rfl) (fun _ => Lf.run_move (S.ev rfl)) rfl rfl (GOk.mk rfl rfl hb_11) ?_
              clear S; intro aa S
              obtain ⟨q49_4, e_37, e_38, e_39, H⟩ := H
              refine AN.pure 25 S rfl (by kernel_rfl) (fun _ => Lf.run_ixs (S.ev rfl) (S.ev rfl) Try.underlying42 ti26 e_37 e_38 e_39) rfl rfl (GOk.mk rfl rfl hb_11) ?_
              clear S; intro aa S
              obtain ⟨x50_4, c_11, H⟩ := H
              refine AN.load 26 S rfl (by kernel_rfl) (fun _ hx => Lf.run_ld (S.ev rfl) fl26 (hx.cell _ _ (S.cl c_11))) rfl rfl (GOk.mk rfl rfl hb_11) ?_
              clear S; intro aa S
              refine AN.pure 27 S rfl (by kernel_rfl) (fun _ => Lf.run_bits (op := .andNot) (by simp) (S.ev rfl) (S.ev rfl)) rfl rfl (GOk.mk rfl rfl hb_11) ?_
              clear S; intro aa S
              refine AN.pure 28 S rfl (by kernel_rfl) (fun _ => Lf.run_neq (S.ev rfl) (S.ev rfl)) rfl rfl (GOk.mk rfl rfl hb_11) ?_
              clear S; intro aa S
              refine AN.pure 29 S rfl (by kernel_rfl) (fun _ => run_pickF (S.ev rfl) hb_11 (S.ev rfl)) rfl rfl trivial ?_
              clear S; intro aa S
              refine AN.done (by kernel_rfl) ?_
              exact ⟨((bitsI .andNot .u64 x46_4 x50_4) != 0), S.sub _ ⟨rfl, rfl, rfl, rfl, trivial⟩, H⟩
      · replace H := H.2 hb_1
        refine AN.pure 3 S rfl (by kernel_rfl) (fun _ => Lf.run_move (S.ev rfl)) rfl rfl (GOk.mk rfl rfl hb_1) ?_
        clear S; intro aa S
        refine AN.pure 4 S rfl (by kernel_rfl) (fun _ => Lf.run_lss (S.ev rfl) (S.ev rfl)) rfl rfl (GOk.mk rfl rfl hb_1) ?_
        clear S; intro aa S
        refine AN.pure 5 S rfl (by kernel_rfl) (fun _ => run_pickF (S.ev rfl) hb_1 (S.ev rfl)) rfl rfl trivial ?_
        clear S; intro aa S
        refine AN.pure 6 S rfl (by kernel_rfl) (fun _ => Lf.run_move (S.ev rfl)) rfl rfl trivial ?_
        clear S; intro aa S
        rcases Bool.eq_false_or_eq_true (decide (x23 < 0)) with hb_2 | hb_2
        · replace H := H.1 hb_2
          refine AN.not 7 S rfl (by kernel_rfl) rfl rfl (GNo.mk rfl rfl hb_2) ?_
          clear S; intro aa S
          refine AN.not 8 S rfl (by kernel_rfl) rfl rfl (GNo.mk rfl rfl hb_2) ?_
          clear S; intro aa S
          refine AN.not 9 S rfl (by kernel_rfl) rfl rfl (GNo.mk rfl rfl hb_2) ?_
          clear S; intro aa S
          refine AN.not 10 S rfl (by kernel_rfl) rfl rfl (GNo.mk rfl rfl hb_2) ?_
          clear S; intro aa S
          refine AN.pure 11 S rfl (by kernel_rfl) (fun _ => run_pickT (S.ev rfl) hb_2 (S.ev rfl)) rfl rfl trivial ?_
          clear S; intro aa S
          refine AN.pure 12 S rfl (by kernel_rfl) (fun _ => Lf.run_move (S.ev rfl)) rfl rfl trivial ?_
          clear S; intro aa S
          rcases Bool.eq_false_or_eq_true true with hb_6 | hb_6
          · replace H := H.1 hb_6
            refine AN.not 13 S rfl (by kernel_rfl) rfl rfl (GNo.mk rfl rfl hb_6) ?_
            clear S; intro aa S
            refine AN.not 14 S rfl (by kernel_rfl) rfl rfl (GNo.mk rfl rfl hb_6) ?_
            clear S; intro aa S
            refine AN.not 15 S rfl (by kernel_rfl) rfl rfl (GNo.mk rfl rfl hb_6) ?_
            clear S; intro aa S
            refine AN.not 16 S rfl (by kernel_rfl) rfl rfl (GNo.mk rfl rfl hb_6) ?_
            clear S; intro aa S
            refine AN.pure 17 S rfl (by kernel_rfl) (fun _ => run_pickT (S.ev rfl) hb_6 (S.ev rfl)) rfl rfl trivial ?_
            clear S; intro aa S
            refine AN.pure 18 S rfl (by kernel_rfl) (fun _ => Lf.run_move (S.ev rfl)) rfl rfl trivial ?_
            clear S; intro aa S
            rcases Bool.eq_false_or_eq_true true with hb_8 | hb_8
            · replace H := H.1 hb_8
              refine AN.not 19 S rfl (by kernel_rfl) rfl rfl (GNo.mk rfl rfl hb_8) ?_
              clear S; intro aa S
              refine AN.not 20 S rfl (by kernel_rfl) rfl rfl (GNo.mk rfl rfl hb_8) ?_
              clear S; intro aa S
              refine AN.not 21 S rfl (by kernel_rfl) rfl rfl (GNo.mk rfl rfl hb_8) ?_
              clear S; intro aa S
              refine AN.not 22 S rfl (by kernel_rfl) rfl rfl (GNo.mk rfl rfl hb_8) ?_
              clear S; intro aa S
              refine AN.not 23 S rfl (by kernel_rfl) rfl rfl (GNo.mk rfl rfl hb_8) ?_
              clear S; intro aa S
              refine AN.not 24 S rfl (by kernel_rfl) rfl rfl (GNo.mk rfl rfl hb_8) ?_
              clear S; intro aa S
              refine AN.not 25 S rfl (by kernel_rfl) rfl rfl (GNo.mk rfl rfl hb_8) ?_
              clear S; intro aa S
              refine AN.not 26 S rfl (by kernel_rfl) rfl rfl (GNo.mk rfl rfl hb_8) ?_
              clear S; intro aa S
              refine AN.not 27 S rfl (by kernel_rfl) rfl rfl (GNo.mk rfl rfl hb_8) ?_
              clear S; intro aa S
              refine AN.not 28 S rfl (by kernel_rfl) rfl rfl (GNo.mk rfl rfl hb_8) ?_
              clear S; intro aa S
              refine AN.pure 29 S rfl (by kernel_rfl) (fun _ => run_pickT (S.ev rfl) hb_8 (S.ev rfl)) rfl rfl trivial ?_
              clear S; intro aa S
              refine AN.done (by kernel_rfl) ?_
              exact ⟨true, S.sub _ ⟨rfl, rfl, rfl, rfl, trivial⟩, H⟩
            · replace H := H.2 hb_8
              refine AN.pure 19 S rfl (by kernel_rfl) (fun _ => Lf.run_move (S.ev rfl)) rfl rfl (GOk.mk rfl rfl hb_8) ?_
              clear S; intro aa S
              refine AN.pure 20 S rfl (by kernel_rfl) (fun _ => Lf.run_move (S.ev rfl)) rfl rfl (GOk.mk rfl rfl hb_8) ?_
              clear S; intro aa S
              obtain ⟨q45_3, e_28, e_29, e_30, H⟩ := H
              refine AN.pure 21 S rfl (by kernel_rfl) (fun _ => Lf.run_ixs (S.ev rfl) (S.ev rfl) Try.underlying42 ti26 e_28 e_29 e_30) rfl rfl (GOk.mk rfl rfl hb_8) ?_
              clear S; intro aa S
              obtain ⟨x46_3, c_8, H⟩ := H
              refine AN.load 22 S rfl (by kernel_rfl) (fun _ hx => Lf.run_ld (S.ev rfl) fl26 (hx.cell _ _ (S.cl c_8))) rfl rfl (GOk.mk rfl rfl hb_8) ?_
              clear S; intro aa S
              refine AN.pure 23 S rfl (by kernel_rfl) (fun _ => Lf.run_move (S.ev rfl)) rfl rfl (GOk.mk rfl rfl hb_8) ?_
              clear S; intro aa S
              refine AN.pure 24 S rfl (by kernel_rfl) (fun _ => Lf.run_move (S.ev rfl)) rfl rfl (GOk.mk rfl rfl hb_8) ?_
              clear S; intro aa S
              obtain ⟨q49_3, e_31, e_32, e_33, H⟩ := H
              refine AN.pure 25 S rfl (by kernel_rfl) (fun _ => Lf.run_ixs (S.ev rfl) (S.ev rfl) Try.underlying42 ti26 e_31 e_32 e_33) rfl rfl (GOk.mk rfl rfl hb_8) ?_
              clear S; intro aa S
              obtain ⟨x50_3, c_9, H⟩ := H
              refine AN.load 26 S rfl (by kernel_rfl) (fun _ hx => Lf.run_ld (S.ev rfl) fl26 (hx.cell _ _ (S.cl c_9))) rfl rfl (GOk.mk rfl rfl hb_8) ?_
              clear S; intro aa S
              refine AN.pure 27 S rfl (by kernel_rfl) (fun _ => Lf.run_bits (op := .andNot) (by simp) (S.ev rfl) (S.ev rfl)) rfl rfl (GOk.mk rfl rfl hb_8) ?_
              clear S; intro aa S
              refine AN.pure 28 S rfl (by kernel_rfl) (fun _ => Lf.run_neq (S.ev rfl) (S.ev rfl)) rfl rfl (GOk.mk rfl rfl hb_8) ?_
              clear S; intro aa S
              refine AN.pure 29 S rfl (by kernel_rfl) (fun _ => run_pickF (S.ev rfl) hb_8 (S.ev rfl)) rfl rfl trivial ?_
              clear S; intro aa S
              refine AN.done (by kernel_rfl) ?_
              exact ⟨((bitsI .andNot .u64 x46_3 x50_3) != 0), S.sub _ ⟨rfl, rfl, rfl, rfl, trivial⟩, H⟩
          · replace H := H.2 hb_6
            refine AN.pure 13 S rfl (by kernel_rfl) (fun _ => Lf.run_move (S.ev rfl)) rfl rfl (GOk.mk rfl rfl hb_6) ?_
            clear S; intro aa S
            refine AN.pure 14 S rfl (by kernel_rfl) (fun _ => Lf.run_move (S.ev rfl)) rfl rfl (GOk.mk rfl rfl hb_6) ?_
            clear S; intro aa S
            refine AN.pure 15 S rfl (by kernel_rfl) (fun _ => Lf.run_lens (S.ev rfl) rfl Try.underlying42) rfl rfl (GOk.mk rfl rfl hb_6) ?_
            clear S; intro aa S
            refine AN.pure 16 S rfl (by kernel_rfl) (fun _ => Lf.run_geq (S.ev rfl) (S.ev rfl)) rfl rfl (GOk.mk rfl rfl hb_6) ?_
            clear S; intro aa S
            refine AN.pure 17 S rfl (by kernel_rfl) (fun _ => run_pickF (S.ev rfl) hb_6 (S.ev rfl)) rfl rfl trivial ?_
            clear S; intro aa S
            refine AN.pure 18 S rfl (by kernel_rfl) (fun _ => Lf.run_move (S.ev rfl)) rfl rfl trivial ?_
            clear S; intro aa S
            rcases Bool.eq_false_or_eq_true (decide (((sets1.n : Nat) : Int) ≤ x23)) with hb_7 | hb_7
            · replace H := H.1 hb_7
              refine AN.not 19 S rfl (by kernel_rfl) rfl rfl (GNo.mk rfl rfl hb_7) ?_
              clear S; intro aa S
              refine AN.not 20 S rfl (by kernel_rfl) rfl rfl (GNo.mk rfl rfl hb_7) ?_
              clear S; intro aa S
              refine AN.not 21 S rfl (by kernel_rfl) rfl rfl (GNo.mk rfl rfl hb_7) ?_
              clear S; intro aa S
              refine AN.not 22 S rfl (by kernel_rfl) rfl rfl (GNo.mk rfl rfl hb_7) ?_
              clear S; intro aa S
              refine AN.not 23 S rfl (by kernel_rfl) rfl rfl (GNo.mk rfl rfl hb_7) ?_
              clear S; intro aa S
              refine AN.not 24 S rfl (by kernel_rfl) rfl rfl (GNo.mk rfl rfl hb_7) ?_
              clear S; intro aa S
              refine AN.not 25 S rfl (by kernel_rfl) rfl rfl (GNo.mk rfl rfl hb_7) ?_
              clear S; intro aa S
              refine AN.not 26 S rfl (by kernel_rfl) rfl rfl (GNo.mk rfl rfl hb_7) ?_
              clear S; intro aa S
              refine AN.not 27 S rfl (by kernel_rfl) rfl rfl (GNo.mk rfl rfl hb_7) ?_
              clear S; intro aa S
              refine AN.not 28 S rfl (by kernel_rfl) rfl rfl (GNo.mk rfl rfl hb_7) ?_
              clear S; intro aa S
              refine AN.pure 29 S rfl (by kernel_rfl) (fun _ => run_pickT (S.ev rfl) hb_7 (S.ev rfl)) rfl rfl trivial ?_
              clear S; intro aa S
              refine AN.done (by kernel_rfl) ?_
              exact ⟨true, S.sub _ ⟨rfl, rfl, rfl, rfl, trivial⟩, H⟩
            · replace H := H.2 hb_7
              refine AN.pure 19 S rfl (by kernel_rfl) (fun _ => Lf.run_move (S.ev rfl)) rfl rfl (GOk.mk rfl rfl hb_7) ?_
              clear S; intro aa S
              refine AN.pure 20 S rfl (by kernel_rfl) (fun _ => Lf.run_move (S.ev rfl)) rfl rfl (GOk.mk rfl rfl hb_7) ?_
              clear S; intro aa S
              obtain ⟨q45_2, e_22, e_23, e_24, H⟩ := H
              refine AN.pure 21 S rfl (by kernel_rfl) (fun _ => Lf.run_ixs (S.ev rfl) (S.ev rfl) Try.underlying42 ti26 e_22 e_23 e_24) rfl rfl (GOk.mk rfl rfl hb_7) ?_
              clear S; intro aa S
              obtain ⟨x46_2, c_6, H⟩ := H
              refine AN.load 22 S rfl (by kernel_rfl) (fun _ hx => Lf.run_ld (S.ev rfl) fl26 (hx.cell _ _ (S.cl c_6))) rfl rfl (GOk.mk rfl rfl hb_7) ?_
              clear S; intro aa S
              refine AN.pure 23 S rfl (by kernel_rfl) (fun _ => Lf.run_move (S.ev rfl)) rfl rfl (GOk.mk rfl rfl hb_7) ?_
              clear S; intro aa S
              refine AN.pure 24 S rfl (by kernel_rfl) (fun _ => Lf.run_move (S.ev rfl)) rfl rfl (GOk.mk rfl rfl hb_7) ?_
              clear S; intro aa S
              obtain ⟨q49_2, e_25, e_26, e_27, H⟩ := H
              refine AN.pure 25 S rfl (by kernel_rfl) (fun _ => Lf.run_ixs (S.ev rfl) (S.ev rfl) Try.underlying42 ti26 e_25 e_26 e_27) rfl rfl (GOk.mk rfl rfl hb_7) ?_
              clear S; intro aa S
              obtain ⟨x50_2, c_7, H⟩ := H
              refine AN.load 26 S rfl (by kernel_rfl) (fun _ hx => Lf.run_ld (S.ev rfl) fl26 (hx.cell _ _ (S.cl c_7))) rfl rfl (GOk.mk rfl rfl hb_7) ?_
              clear S; intro aa S
              refine AN.pure 27 S rfl (by kernel_rfl) (fun _ => Lf.run_bits (op := .andNot) (by simp) (S.ev rfl) (S.ev rfl)) rfl rfl (GOk.mk rfl rfl hb_7) ?_
              clear S; intro aa S
              refine AN.pure 28 S rfl (by kernel_rfl) (fun _ => Lf.run_neq (S.ev rfl) (S.ev rfl)) rfl rfl (GOk.mk rfl rfl hb_7) ?_
              clear S; intro aa S
              refine AN.pure 29 S rfl (by kernel_rfl) (fun _ => run_pickF (S.ev rfl) hb_7 (S.ev rfl)) rfl rfl trivial ?_
              clear S; intro aa S
              refine AN.done (by kernel_rfl) ?_
              exact ⟨((bitsI .andNot .u64 x46_2 x50_2) != 0), S.sub _ ⟨rfl, rfl, rfl, rfl, trivial⟩, H⟩
        · replace H := H.2 hb_2
          refine AN.pure 7 S rfl (by kernel_rfl) (fun _ => Lf.run_move (S.ev rfl)) rfl rfl (GOk.mk rfl rfl hb_2) ?_
          clear S; intro aa S
          refine AN.pure 8 S rfl (by kernel_rfl) (fun _ => Lf.run_move (S.ev rfl)) rfl rfl (GOk.mk rfl rfl hb_2) ?_
          clear S; intro aa S
          refine AN.pure 9 S rfl (by kernel_rfl) (fun _ => Lf.run_lens (S.ev rfl) rfl Try.underlying42) rfl rfl (GOk.mk rfl rfl hb_2) ?_
          clear S; intro aa S
          refine AN.pure 10 S rfl (by kernel_rfl) (fun _ => Lf.run_geq (S.ev rfl) (S.ev rfl)) rfl rfl (GOk.mk rfl rfl hb_2) ?_
          clear S; intro aa S
          refine AN.pure 11 S rfl (by kernel_rfl) (fun _ => run_pickF (S.ev rfl) hb_2 (S.ev rfl)) rfl rfl trivial ?_
          clear S; intro aa S
          refine AN.pure 12 S rfl (by kernel_rfl) (fun _ => Lf.run_move (S.ev rfl)) rfl rfl trivial ?_
          clear S; intro aa S
          rcases Bool.eq_false_or_eq_true (decide (((sets1.n : Nat) : Int) ≤ x18)) with hb_3 | hb_3
          · replace H := H.1 hb_3
            refine AN.not 13 S rfl (by kernel_rfl) rfl rfl (GNo.mk rfl rfl hb_3) ?_
            clear S; intro aa S
            refine AN.not 14 S rfl (by kernel_rfl) rfl rfl (GNo.mk rfl rfl hb_3) ?_
            clear S; intro aa S
            refine AN.not 15 S rfl (by kernel_rfl) rfl rfl (GNo.mk rfl rfl hb_3) ?_
            clear S; intro aa S
            refine AN.not 16 S rfl (by kernel_rfl) rfl rfl (GNo.mk rfl rfl hb_3) ?_
            clear S; intro aa S
            refine AN.pure 17 S rfl (by kernel_rfl) (fun _ => run_pickT (S.ev rfl) hb_3 (S.ev rfl)) rfl rfl trivial ?_
            clear S; intro aa S
            refine AN.pure 18 S rfl (by kernel_rfl) (fun _ => Lf.run_move (S.ev rfl)) rfl rfl trivial ?_
            clear S; intro aa S
            rcases Bool.eq_false_or_eq_true true with hb_5 | hb_5
            · replace H := H.1 hb_5
              refine AN.not 19 S rfl (by kernel_rfl) rfl rfl (GNo.mk rfl rfl hb_5) ?_
              clear S; intro aa S
              refine AN.not 20 S rfl (by kernel_rfl) rfl rfl (GNo.mk rfl rfl hb_5) ?_
              clear S; intro aa S
              refine AN.not 21 S rfl (by kernel_rfl) rfl rfl (GNo.mk rfl rfl hb_5) ?_
              clear S; intro aa S
              refine AN.not 22 S rfl (by kernel_rfl) rfl rfl (GNo.mk rfl rfl hb_5) ?_
              clear S; intro aa S
              refine AN.not 23 S rfl (by kernel_rfl) rfl rfl (GNo.mk rfl rfl hb_5) ?_
              clear S; intro aa S
              refine AN.not 24 S rfl (by kernel_rfl) rfl rfl (GNo.mk rfl rfl hb_5) ?_
              clear S; intro aa S
              refine AN.not 25 S rfl (by kernel_rfl) rfl rfl (GNo.mk rfl rfl hb_5) ?_
              clear S; intro aa S
              refine AN.not 26 S rfl (by kernel_rfl) rfl rfl (GNo.mk rfl rfl hb_5) ?_
              clear S; intro aa S
              refine AN.not 27 S rfl (by kernel_rfl) rfl rfl (GNo.mk rfl rfl hb_5) ?_
              clear S; intro aa S
              refine AN.not 28 S rfl (by kernel_rfl) rfl rfl (GNo.mk rfl rfl hb_5) ?_
              clear S; intro aa S
              refine AN.pure 29 S rfl (by kernel_rfl) (fun _ => run_pickT (S.ev rfl) hb_5 (S.ev rfl)) rfl rfl trivial ?_
              clear S; intro aa S
              refine AN.done (by kernel_rfl) ?_
              exact ⟨true, S.sub _ ⟨rfl, rfl, rfl, rfl, trivial⟩, H⟩
            · replace H := H.2 hb_5
              refine AN.pure 19 S rfl (by kernel_rfl) (fun _ => Lf.run_move (S.ev rfl)) rfl rfl (GOk.mk rfl rfl hb_5) ?_
              clear S; intro aa S
              refine AN.pure 20 S rfl (by kernel_rfl) (fun _ => Lf.run_move (S.ev rfl)) rfl rfl (GOk.mk rfl rfl hb_5) ?_
              clear S; intro aa S
              obtain ⟨q45_1, e_16, e_17, e_18, H⟩ := H
              refine AN.pure 21 S rfl (by kernel_rfl) (fun _ => Lf.run_ixs (S.ev rfl) (S.ev rfl) Try.underlying42 ti26 e_16 e_17 e_18) rfl rfl (GOk.mk rfl rfl hb_5) ?_
              clear S; intro aa S
              obtain ⟨x46_1, c_4, H⟩ := H
              refine AN.load 22 S rfl (by kernel_rfl) (fun _ hx => Lf.run_ld (S.ev rfl) fl26 (hx.cell _ _ (S.cl c_4))) rfl rfl (GOk.mk rfl rfl hb_5) ?_
              clear S; intro aa S
              refine AN.pure 23 S rfl (by kernel_rfl) (fun _ => Lf.run_move (S.ev rfl)) rfl rfl (GOk.mk rfl rfl hb_5) ?_
              clear S; intro aa S
              refine AN.pure 24 S rfl (by kernel_rfl) (fun _ => Lf.run_move (S.ev rfl)) rfl rfl (GOk.mk rfl rfl hb_5) ?_
              clear S; intro aa S
              obtain ⟨q49_1, e_19, e_20, e_21, H⟩ := H
              refine AN.pure 25 S rfl (by kernel_rfl) (fun _ => Lf.run_ixs (S.ev rfl) (S.ev rfl) Try.underlying42 ti26 e_19 e_20 e_21) rfl rfl (GOk.mk rfl rfl hb_5) ?_
              clear S; intro aa S
              obtain ⟨x50_1, c_5, H⟩ := H
              refine AN.load 26 S rfl (by kernel_rfl) (fun _ hx => Lf.run_ld (S.ev rfl) fl26 (hx.cell _ _ (S.cl c_5))) rfl rfl (GOk.mk rfl rfl hb_5) ?_
              clear S; intro aa S
              refine AN.pure 27 S rfl (by kernel_rfl) (fun _ => Lf.run_bits (op := .andNot) (by simp) (S.ev rfl) (S.ev rfl)) rfl rfl (GOk.mk rfl rfl hb_5) ?_
              clear S; intro aa S
              refine AN.pure 28 S rfl (by kernel_rfl) (fun _ => Lf.run_neq (S.ev rfl) (S.ev rfl)) rfl rfl (GOk.mk rfl rfl hb_5) ?_
              clear S; intro aa S
              refine AN.pure 29 S rfl (by kernel_rfl) (fun _ => run_pickF (S.ev rfl) hb_5 (S.ev rfl)) rfl rfl trivial ?_
              clear S; intro aa S
              refine AN.done (by kernel_rfl) ?_
              exact ⟨((bitsI .andNot .u64 x46_1 x50_1) != 0), S.sub _ ⟨rfl, rfl, rfl, rfl, trivial⟩, H⟩
          · replace H := H.2 hb_3
            refine AN.pure 13 S rfl (by kernel_rfl) (fun _ => Lf.run_move (S.ev rfl)) rfl rfl (GOk.mk rfl rfl hb_3) ?_
            clear S; intro aa S
            refine AN.pure 14 S rfl (by kernel_rfl) (fun _ => Lf.run_move (S.ev rfl)) rfl rfl (GOk.mk rfl rfl hb_3) ?_
            clear S; intro aa S
            refine AN.pure 15 S rfl (by kernel_rfl) (fun _ => Lf.run_lens (S.ev rfl) rfl Try.underlying42) rfl rfl (GOk.mk rfl rfl hb_3) ?_
            clear S; intro aa S
            refine AN.pure 16 S rfl (by kernel_rfl) (fun _ => Lf.run_geq (S.ev rfl) (S.ev rfl)) rfl rfl (GOk.mk rfl rfl hb_3) ?_
            clear S; intro aa S
            refine AN.pure 17 S rfl (by kernel_rfl) (fun _ => run_pickF (S.ev rfl) hb_3 (S.ev rfl)) rfl rfl trivial ?_
            clear S; intro aa S
            refine AN.pure 18 S rfl (by kernel_rfl) (fun _ => Lf.run_move (S.ev rfl)) rfl rfl trivial ?_
            clear S; intro aa S
            rcases Bool.eq_false_or_eq_true (decide (((sets1.n : Nat) : Int) ≤ x23)) with hb_4 | hb_4
            · replace H := H.1 hb_4
              refine AN.not 19 S rfl (by kernel_rfl) rfl rfl (GNo.mk rfl rfl hb_4) ?_
              clear S; intro aa S
              refine AN.not 20 S rfl (by kernel_rfl) rfl rfl (GNo.mk rfl rfl hb_4) ?_
              clear S; intro aa S
              refine AN.not 21 S rfl (by kernel_rfl) rfl rfl (GNo.mk rfl rfl hb_4) ?_
              clear S; intro aa S
              refine AN.not 22 S rfl (by kernel_rfl) rfl rfl (GNo.mk rfl rfl hb_4) ?_
              clear S; intro aa S
              refine AN.not 23 S rfl (by kernel_rfl) rfl rfl (GNo.mk rfl rfl hb_4) ?_
              clear S; intro aa S
              refine AN.not 24 S rfl (by kernel_rfl) rfl rfl (GNo.mk rfl rfl hb_4) ?_
              clear S; intro aa S
              refine AN.not 25 S rfl (by kernel_rfl) rfl rfl (GNo.mk rfl rfl hb_4) ?_
              clear S; intro aa S
              refine AN.not 26 S rfl (by kernel_rfl) rfl rfl (GNo.mk rfl rfl hb_4) ?_
              clear S; intro aa S
              refine AN.not 27 S rfl (by kernel_rfl) rfl rfl (GNo.mk rfl rfl hb_4) ?_
              clear S; intro aa S
              refine AN.not 28 S rfl (by kernel_rfl) rfl rfl (GNo.mk rfl rfl hb_4) ?_
              clear S; intro aa S
              refine AN.pure 29 S rfl (by kernel_rfl) (fun _ => run_pickT (S.ev rfl) hb_4 (S.ev rfl)) rfl rfl trivial ?_
              clear S; intro aa S
              refine AN.done (by kernel_rfl) ?_
              exact ⟨true, S.sub _ ⟨rfl, rfl, rfl, rfl, trivial⟩, H⟩
            · replace H := H.2 hb_4
              refine AN.pure 19 S rfl (by kernel_rfl) (fun _ => Lf.run_move (S.ev rfl)) rfl rfl (GOk.mk rfl rfl hb_4) ?_
              clear S; intro aa S
              refine AN.pure 20 S rfl (by kernel_rfl) (fun _ => Lf.run_move (S.ev rfl)) rfl rfl (GOk.mk rfl rfl hb_4) ?_
              clear S; intro aa S
              obtain ⟨q45, e_10, e_11, e_12, H⟩ := H
              refine AN.pure 21 S rfl (by kernel_rfl) (fun _ => Lf.run_ixs (S.ev rfl) (S.ev rfl) Try.underlying42 ti26 e_10 e_11 e_12) rfl rfl (GOk.mk rfl rfl hb_4) ?_
              clear S; intro aa S
              obtain ⟨x46, c_2, H⟩ := H
              refine AN.load 22 S rfl (by kernel_rfl) (fun _ hx => Lf.run_ld (S.ev rfl) fl26 (hx.cell _ _ (S.cl c_2))) rfl rfl (GOk.mk rfl rfl hb_4) ?_
              clear S; intro aa S
              refine AN.pure 23 S rfl (by kernel_rfl) (fun _ => Lf.run_move (S.ev rfl)) rfl rfl (GOk.mk rfl rfl hb_4) ?_
              clear S; intro aa S
              refine AN.pure 24 S rfl (by kernel_rfl) (fun _ => Lf.run_move (S.ev rfl)) rfl rfl (GOk.mk rfl rfl hb_4) ?_
              clear S; intro aa S
              obtain ⟨q49, e_13, e_14, e_15, H⟩ := H
              refine AN.pure 25 S rfl (by kernel_rfl) (fun _ => Lf.run_ixs (S.ev rfl) (S.ev rfl) Try.underlying42 ti26 e_13 e_14 e_15) rfl rfl (GOk.mk rfl rfl hb_4) ?_
              clear S; intro aa S
              obtain ⟨x50, c_3, H⟩ := H
              refine AN.load 26 S rfl (by kernel_rfl) (fun _ hx => Lf.run_ld (S.ev rfl) fl26 (hx.cell _ _ (S.cl c_3))) rfl rfl (GOk.mk rfl rfl hb_4) ?_
              clear S; intro aa S
              refine AN.pure 27 S rfl (by kernel_rfl) (fun _ => Lf.run_bits (op := .andNot) (by simp) (S.ev rfl) (S.ev rfl)) rfl rfl (GOk.mk rfl rfl hb_4) ?_
              clear S; intro aa S
              refine AN.pure 28 S rfl (by kernel_rfl) (fun _ => Lf.run_neq (S.ev rfl) (S.ev rfl)) rfl rfl (GOk.mk rfl rfl hb_4) ?_
              clear S; intro aa S
              refine AN.pure 29 S rfl (by kernel_rfl) (fun _ => run_pickF (S.ev rfl) hb_4 (S.ev rfl)) rfl rfl trivial ?_
              clear S; intro aa S
              refine AN.done (by kernel_rfl) ?_
              exact ⟨((bitsI .andNot .u64 x46 x50) != 0), S.sub _ ⟨rfl, rfl, rfl, rfl, trivial⟩, H⟩
    · clear H S aa
      rintro aa ww ⟨x53, S, HJ⟩
      have H := HK _ HJ
      clear HK HJ
      refine W.cond S (b := x53) rfl (fun hb_16 => ?_) (fun hb_16 => ?_)
      · replace H := H.1 hb_16
        refine W.seq ?_
        replace S := S.sub [] trivial
        refine W.region ?_
        refine OL.pure S (Lf.run_assign (S.ev rfl)) rfl rfl trivial ?_
        clear S; intro aa S
        refine OL.nil ?_
        refine W.ret ?_
        exact Ret.one S rfl rfl H
      · replace H := H.2 hb_16
        refine W.skip ?_
        replace S := S.sub [(0, Value.slice l0.a l0.n l0.c), (1, Value.slice sets1.a sets1.n sets1.c), (5, Value.int .i64 i5)] ⟨rfl, rfl, rfl, trivial⟩
        refine W.region ?_
        refine OL.pure S (Lf.run_move (S.ev rfl)) rfl rfl trivial ?_
        clear S; intro aa S
        refine OL.pure S (Lf.run_add (S.ev rfl) (S.ev rfl)) rfl rfl trivial ?_
        clear S; intro aa S
        refine OL.pure S (Lf.run_assign (S.ev rfl)) rfl rfl trivial ?_
        clear S; intro aa S
        refine OL.nil ?_
        exact ⟨((IntKind.i64.wrap (i5 + 1))), ⟨S.sub _ ⟨rfl, rfl, rfl, trivial⟩, H.1⟩, H.2⟩
  · replace H := H.2 hb
    refine W.exit_ ?_
    refine xhit ?_
    refine W.seq ?_
    replace S := S.sub [] trivial
    refine W.region ?_
    refine OL.pure S (Lf.run_assign (S.ev rfl)) rfl rfl trivial ?_
    clear S; intro aa S
    refine OL.nil ?_
    refine W.ret ?_
    exact Ret.one S rfl rfl H

/-- chattel sub.Both -/
def L13 (ways0 : Option Nat) (a1 : Int) (a1_1 : ByteArray) (a1_2 : Bool) (a1_3 : Int) (a1_4 : Sv) (a1_5 : Sv) (b2 : Int) (b2_1 : ByteArray) (b2_2 : Bool) (b2_3 : Int) (b2_4 : Sv) (b2_5 : Sv) (h : Heap) (R : Value → Heap → Prop) : Prop :=
  new 25 #[Value.int .i64 a1, Value.string a1_1, Value.bool a1_2, Value.int .i64 a1_3, Value.slice a1_4.a a1_4.n a1_4.c, Value.slice a1_5.a a1_5.n a1_5.c] h fun p4 h1 =>
  new 25 #[Value.int .i64 b2, Value.string b2_1, Value.bool b2_2, Value.int .i64 b2_3, Value.slice b2_4.a b2_4.n b2_4.c, Value.slice b2_5.a b2_5.n b2_5.c] h1 fun p5 h2 =>
  ∃ (y9 : Int) (y9_1 : ByteArray) (y9_2 : Bool) (y9_3 : Int) (y9_4 : Sv) (y9_5 : Sv), cl h2 p4 = some (Value.int .i64 y9) ∧ cl h2 (p4.add 1) = some (Value.string y9_1) ∧ cl h2 (p4.add 2) = some (Value.bool y9_2) ∧ cl h2 (p4.add 3) = some (Value.int .i64 y9_3) ∧ cl h2 (p4.add 4) = some (Value.slice y9_4.a y9_4.n y9_4.c) ∧ cl h2 (p4.add 5) = some (Value.slice y9_5.a y9_5.n y9_5.c) ∧
  ∃ (y10 : Int) (y10_1 : ByteArray) (y10_2 : Bool) (y10_3 : Int) (y10_4 : Sv) (y10_5 : Sv), cl h2 p5 = some (Value.int .i64 y10) ∧ cl h2 (p5.add 1) = some (Value.string y10_1) ∧ cl h2 (p5.add 2) = some (Value.bool y10_2) ∧ cl h2 (p5.add 3) = some (Value.int .i64 y10_3) ∧ cl h2 (p5.add 4) = some (Value.slice y10_4.a y10_4.n y10_4.c) ∧ cl h2 (p5.add 5) = some (Value.slice y10_5.a y10_5.n y10_5.c) ∧
  cal Try.prog 15 #[Value.agg #[Value.int .i64 y9, Value.string y9_1, Value.bool y9_2, Value.int .i64 y9_3, Value.slice y9_4.a y9_4.n y9_4.c, Value.slice y9_5.a y9_5.n y9_5.c], Value.agg #[Value.int .i64 y10, Value.string y10_1, Value.bool y10_2, Value.int .i64 y10_3, Value.slice y10_4.a y10_4.n y10_4.c, Value.slice y10_5.a y10_5.n y10_5.c]] h2 fun u h3 => asB u fun x11 =>
  ifb (!x11) (
    R (.tuple #[Value.slice (⟨none, 0, 0⟩ : Sv).a (⟨none, 0, 0⟩ : Sv).n (⟨none, 0, 0⟩ : Sv).c, Value.bool false]) h3) (
    new 49 #[Value.map ways0, Value.slice (⟨none, 0, 0⟩ : Sv).a (⟨none, 0, 0⟩ : Sv).n (⟨none, 0, 0⟩ : Sv).c] h3 fun p15 h4 =>
    ∃ (y17 : Int) (y17_1 : ByteArray) (y17_2 : Bool) (y17_3 : Int) (y17_4 : Sv) (y17_5 : Sv), cl h4 p4 = some (Value.int .i64 y17) ∧ cl h4 (p4.add 1) = some (Value.string y17_1) ∧ cl h4 (p4.add 2) = some (Value.bool y17_2) ∧ cl h4 (p4.add 3) = some (Value.int .i64 y17_3) ∧ cl h4 (p4.add 4) = some (Value.slice y17_4.a y17_4.n y17_4.c) ∧ cl h4 (p4.add 5) = some (Value.slice y17_5.a y17_5.n y17_5.c) ∧
    ∃ (y18 : Int) (y18_1 : ByteArray) (y18_2 : Bool) (y18_3 : Int) (y18_4 : Sv) (y18_5 : Sv), cl h4 p5 = some (Value.int .i64 y18) ∧ cl h4 (p5.add 1) = some (Value.string y18_1) ∧ cl h4 (p5.add 2) = some (Value.bool y18_2) ∧ cl h4 (p5.add 3) = some (Value.int .i64 y18_3) ∧ cl h4 (p5.add 4) = some (Value.slice y18_4.a y18_4.n y18_4.c) ∧ cl h4 (p5.add 5) = some (Value.slice y18_5.a y18_5.n y18_5.c) ∧
    cal Try.prog 16 #[Value.pointer (some p15), Value.agg #[Value.int .i64 y17, Value.string y17_1, Value.bool y17_2, Value.int .i64 y17_3, Value.slice y17_4.a y17_4.n y17_4.c, Value.slice y17_5.a y17_5.n y17_5.c], Value.agg #[Value.int .i64 y18, Value.string y18_1, Value.bool y18_2, Value.int .i64 y18_3, Value.slice y18_4.a y18_4.n y18_4.c, Value.slice y18_5.a y18_5.n y18_5.c], Value.int .i64 3] h4 fun u_1 h5 =>
    ldS h5 (p15.add 1) fun x23 =>
    R (.tuple #[Value.slice x23.a x23.n x23.c, Value.bool true]) h5)

set_option maxRecDepth 100000 in

theorem F13 {ways0 a1 a1_1 a1_2 a1_3 a1_4 a1_5 b2 b2_1 b2_2 b2_3 b2_4 b2_5 h : _} {R : Value → Heap → Prop} (H : L13 ways0 a1 a1_1 a1_2 a1_3 a1_4 a1_5 b2 b2_1 b2_2 b2_3 b2_4 b2_5 h R) : CallsH Try.prog 13 #[Value.map ways0, Value.agg #[Value.int .i64 a1, Value.string a1_1, Value.bool a1_2, Value.int .i64 a1_3, Value.slice a1_4.a a1_4.n a1_4.c, Value.slice a1_5.a a1_5.n a1_5.c], Value.agg #[Value.int .i64 b2, Value.string b2_1, Value.bool b2_2, Value.int .i64 b2_3, Value.slice b2_4.a b2_4.n b2_4.c, Value.slice b2_5.a b2_5.n b2_5.c]] h R := by
  refine CallsH.enter (n := 24) Try.func13 rfl rfl rfl rfl ?_
  intro w0 aa ww S
  unfold L13 at H
  refine W.seq ?_
  replace S := S.sub [(0, Value.map ways0), (1, Value.agg #[Value.int .i64 a1, Value.string a1_1, Value.bool a1_2, Value.int .i64 a1_3, Value.slice a1_4.a a1_4.n a1_4.c, Value.slice a1_5.a a1_5.n a1_5.c]), (2, Value.agg #[Value.int .i64 b2, Value.string b2_1, Value.bool b2_2, Value.int .i64 b2_3, Value.slice b2_4.a b2_4.n b2_4.c, Value.slice b2_5.a b2_5.n b2_5.c])] ⟨rfl, rfl, rfl, trivial⟩
  refine W.region ?_
  refine ol_box S H rfl rfl rfl trivial ?_
  clear S H aa; intro p4 aa ww h1 H S
  refine ol_box S H rfl rfl rfl trivial ?_
  clear S H aa; intro p5 aa ww h2 H S
  refine OL.pure S (Lf.run_assign (S.ev rfl)) rfl rfl trivial ?_
  clear S; intro aa S
  refine OL.pure S (Lf.run_assign (S.ev rfl)) rfl rfl trivial ?_
  clear S; intro aa S
  refine OL.nil ?_
  refine W.seq ?_
  refine W.seq ?_
  replace S := S.sub [(0, Value.map ways0), (4, Value.pointer (some p4)), (5, Value.pointer (some p5))] ⟨rfl, rfl, rfl, trivial⟩
  refine W.region ?_
  obtain ⟨y9, y9_1, y9_2, y9_3, y9_4, y9_5, c_23, c_24, c_25, c_26, c_27, c_28, H⟩ := H
  refine OL.pure S (Lf.run_ldA (cs := [Value.int .i64 y9, Value.string y9_1, Value.bool y9_2, Value.int .i64 y9_3, Value.slice y9_4.a y9_4.n y9_4.c, Value.slice y9_5.a y9_5.n y9_5.c]) (S.ev rfl) ag25 ti25 (by rw [S.heap]; exact RowL.toRow ⟨c_23, c_24, c_25, c_26, c_27, c_28, trivial⟩)) rfl rfl trivial ?_
  clear S; intro aa S
  obtain ⟨y10, y10_1, y10_2, y10_3, y10_4, y10_5, c_17, c_18, c_19, c_20, c_21, c_22, H⟩ := H
  refine OL.pure S (Lf.run_ldA (cs := [Value.int .i64 y10, Value.string y10_1, Value.bool y10_2, Value.int .i64 y10_3, Value.slice y10_4.a y10_4.n y10_4.c, Value.slice y10_5.a y10_5.n y10_5.c]) (S.ev rfl) ag25 ti25 (by rw [S.heap]; exact RowL.toRow ⟨c_17, c_18, c_19, c_20, c_21, c_22, trivial⟩)) rfl rfl trivial ?_
  clear S; intro aa S
  refine ol_cal S H isfn15 rfl rfl trivial ?_
  clear S H aa; intro u aa ww h3 H S
  obtain ⟨x11, rfl, H⟩ := H
  refine OL.pure S (Lf.run_not (S.ev rfl)) rfl rfl trivial ?_
  clear S; intro aa S
  refine OL.nil ?_
  refine W.cond S (b := (!x11)) rfl (fun hb => ?_) (fun hb => ?_)
  · replace H := H.1 hb
    refine W.seq ?_
    replace S := S.sub [] trivial
    refine W.region ?_
    refine OL.pure S (Lf.run_assign (S.ev rfl)) rfl rfl trivial ?_
    clear S; intro aa S
    refine OL.pure S (Lf.run_assign (S.ev rfl)) rfl rfl trivial ?_
    clear S; intro aa S
    refine OL.nil ?_
    refine W.ret ?_
    exact Ret.two S rfl rfl rfl H
  · replace H := H.2 hb
    refine W.skip ?_
    refine W.seq ?_
    replace S := S.sub [(0, Value.map ways0), (4, Value.pointer (some p4)), (5, Value.pointer (some p5))] ⟨rfl, rfl, rfl, trivial⟩
    refine W.region ?_
    refine OL.pure S (Lf.run_move (S.ev rfl)) rfl rfl trivial ?_
    clear S; intro aa S
    refine OL.pure S (Lf.run_build (cs := #[Value.map ways0, Value.slice (⟨none, 0, 0⟩ : Sv).a (⟨none, 0, 0⟩ : Sv).n (⟨none, 0, 0⟩ : Sv).c]) pl49 ti49 (parts_map S rfl) (by kernel_rfl)) rfl rfl trivial ?_
    clear S; intro aa S
    refine ol_box S H rfl rfl rfl trivial ?_
    clear S H aa; intro p15 aa ww h4 H S
    refine OL.pure S (Lf.run_assign (S.ev rfl)) rfl rfl trivial ?_
    clear S; intro aa S
    refine OL.nil ?_
    refine W.seq ?_
    replace S := S.sub [(4, Value.pointer (some p4)), (5, Value.pointer (some p5)), (8, Value.pointer (some p15))] ⟨rfl, rfl, rfl, trivial⟩
    refine W.region ?_
    refine OL.pure S (Lf.run_move (S.ev rfl)) rfl rfl trivial ?_
    clear S; intro aa S
    obtain ⟨y17, y17_1, y17_2, y17_3, y17_4, y17_5, c_11, c_12, c_13, c_14, c_15, c_16, H⟩ := H
    refine OL.pure S (Lf.run_ldA (cs := [Value.int .i64 y17, Value.string y17_1, Value.bool y17_2, Value.int .i64 y17_3, Value.slice y17_4.a y17_4.n y17_4.c, Value.slice y17_5.a y17_5.n y17_5.c]) (S.ev rfl) ag25 ti25 (by rw [S.heap]; exact RowL.toRow ⟨c_11, c_12, c_13, c_14, c_15, c_16, trivial⟩)) rfl rfl trivial ?_
    clear S; intro aa S
    obtain ⟨y18, y18_1, y18_2, y18_3, y18_4, y18_5, c_5, c_6, c_7, c_8, c_9, c_10, H⟩ := H
    refine OL.pure S (Lf.run_ldA (cs := [Value.int .i64 y18, Value.string y18_1, Value.bool y18_2, Value.int .i64 y18_3, Value.slice y18_4.a y18_4.n y18_4.c, Value.slice y18_5.a y18_5.n y18_5.c]) (S.ev rfl) ag25 ti25 (by rw [S.heap]; exact RowL.toRow ⟨c_5, c_6, c_7, c_8, c_9, c_10, trivial⟩)) rfl rfl trivial ?_
    clear S; intro aa S
    refine ol_cal S H isfn16 rfl rfl trivial ?_
    clear S H aa; intro u_1 aa ww h5 H S
    refine OL.nil ?_
    refine W.seq ?_
    replace S := S.sub [(8, Value.pointer (some p15))] ⟨rfl, trivial⟩
    refine W.region ?_
    refine OL.pure S (Lf.run_move (S.ev rfl)) rfl rfl trivial ?_
    clear S; intro aa S
    refine OL.pure S (Lf.run_nc (S.ev rfl)) rfl rfl trivial ?_
    clear S; intro aa S
    refine OL.pure S (Lf.run_fa (S.ev rfl) fa49_1) rfl rfl trivial ?_
    clear S; intro aa S
    obtain ⟨x23, c_4, H⟩ := H
    refine OL.pure S (Lf.run_ld (S.ev rfl) fl29 (S.cl c_4)) rfl rfl trivial ?_
    clear S; intro aa S
    refine OL.pure S (Lf.run_assign (S.ev rfl)) rfl rfl trivial ?_
    clear S; intro aa S
    refine OL.pure S (Lf.run_assign (S.ev rfl)) rfl rfl trivial ?_
    clear S; intro aa S
    refine OL.nil ?_
    refine W.ret ?_
    exact Ret.two S rfl rfl rfl H

/-- chattel chattellaw10.ref -/
def L14 (r0 : Int) (h : Heap) (R : Value → Heap → Prop) : Prop :=
  new 25 #[Value.int .i64 0, Value.string (⟨#[]⟩ : ByteArray), Value.bool false, Value.int .i64 0, Value.slice (⟨none, 0, 0⟩ : Sv).a (⟨none, 0, 0⟩ : Sv).n (⟨none, 0, 0⟩ : Sv).c, Value.slice (⟨none, 0, 0⟩ : Sv).a (⟨none, 0, 0⟩ : Sv).n (⟨none, 0, 0⟩ : Sv).c] h fun p2 h1 =>
  newS 25 #[Value.int .i64 1, Value.string (⟨#[]⟩ : ByteArray), Value.bool false, Value.int .i64 0, Value.slice (⟨none, 0, 0⟩ : Sv).a (⟨none, 0, 0⟩ : Sv).n (⟨none, 0, 0⟩ : Sv).c, Value.slice (⟨none, 0, 0⟩ : Sv).a (⟨none, 0, 0⟩ : Sv).n (⟨none, 0, 0⟩ : Sv).c] 1 h1 fun s5 h2 =>
  stoA h2 p2 [Value.int .i64 7, Value.string (⟨#[]⟩ : ByteArray), Value.bool false, Value.int .i64 r0, Value.slice (⟨none, 0, 0⟩ : Sv).a (⟨none, 0, 0⟩ : Sv).n (⟨none, 0, 0⟩ : Sv).c, Value.slice s5.a s5.n s5.c] fun h3 =>
  ∃ (y : Int) (y_1 : ByteArray) (y_2 : Bool) (y_3 : Int) (y_4 : Sv) (y_5 : Sv), cl h3 p2 = some (Value.int .i64 y) ∧ cl h3 (p2.add 1) = some (Value.string y_1) ∧ cl h3 (p2.add 2) = some (Value.bool y_2) ∧ cl h3 (p2.add 3) = some (Value.int .i64 y_3) ∧ cl h3 (p2.add 4) = some (Value.slice y_4.a y_4.n y_4.c) ∧ cl h3 (p2.add 5) = some (Value.slice y_5.a y_5.n y_5.c) ∧
  R (Value.agg #[Value.int .i64 y, Value.string y_1, Value.bool y_2, Value.int .i64 y_3, Value.slice y_4.a y_4.n y_4.c, Value.slice y_5.a y_5.n y_5.c]) h3

set_option maxRecDepth 100000 in

theorem F14 {r0 h : _} {R : Value → Heap → Prop} (H : L14 r0 h R) : CallsH Try.prog 14 #[Value.int .i64 r0] h R := by
  refine CallsH.enter (n := 7) Try.func14 rfl rfl rfl rfl ?_
  intro w0 aa ww S
  unfold L14 at H
  refine W.seq ?_
  replace S := S.sub [(0, Value.int .i64 r0)] ⟨rfl, trivial⟩
  refine W.region ?_
  refine ol_alloc S H ti25 rfl rfl trivial ?_
  clear S H aa; intro p2 aa ww h1 H S
  refine OL.nil ?_
  refine W.seq ?_
  replace S := S.sub [(0, Value.int .i64 r0), (2, Value.pointer (some p2))] ⟨rfl, rfl, trivial⟩
  refine W.region ?_
  refine OL.pure S (Lf.run_move (S.ev rfl)) rfl rfl trivial ?_
  clear S; intro aa S
  refine OL.pure S (Lf.run_build (cs := #[Value.int .i64 1, Value.string (⟨#[]⟩ : ByteArray), Value.bool false, Value.int .i64 0, Value.slice (⟨none, 0, 0⟩ : Sv).a (⟨none, 0, 0⟩ : Sv).n (⟨none, 0, 0⟩ : Sv).c, Value.slice (⟨none, 0, 0⟩ : Sv).a (⟨none, 0, 0⟩ : Sv).n (⟨none, 0, 0⟩ : Sv).c]) pl25 ti25 (parts_map S rfl) (by kernel_rfl)) rfl rfl trivial ?_
  clear S; intro aa S
  refine ol_newS S H Try.underlying23 ti25 (by decide) (parts_map S rfl) (by kernel_rfl) (by decide) rfl trivial ?_
  clear S H aa; intro s5 aa ww h2 H S
  refine OL.pure S (Lf.run_build (cs := #[Value.int .i64 7, Value.string (⟨#[]⟩ : ByteArray), Value.bool false, Value.int .i64 r0, Value.slice (⟨none, 0, 0⟩ : Sv).a (⟨none, 0, 0⟩ : Sv).n (⟨none, 0, 0⟩ : Sv).c, Value.slice s5.a s5.n s5.c]) pl25 ti25 (parts_map S rfl) (by kernel_rfl)) rfl rfl trivial ?_
  clear S; intro aa S
  refine ol_stoA S H rfl rfl ti25 trivial ?_
  clear S H aa; intro aa ww h3 H S
  refine OL.nil ?_
  refine W.ret ?_
  obtain ⟨y, y_1, y_2, y_3, y_4, y_5, c, c_1, c_2, c_3, c_4, c_5, H⟩ := H
  exact Ret.gen S rfl (RV.cellA (cs := [Value.int .i64 y, Value.string y_1, Value.bool y_2, Value.int .i64 y_3, Value.slice y_4.a y_4.n y_4.c, Value.slice y_5.a y_5.n y_5.c]) rfl ag25 ti25 ⟨c, c_1, c_2, c_3, c_4, c_5, trivial⟩ RV.nil) rfl H

/-- chattel types.Same -/
def L15 (a0 : Int) (a0_1 : ByteArray) (a0_2 : Bool) (a0_3 : Int) (a0_4 : Sv) (a0_5 : Sv) (b1 : Int) (b1_1 : ByteArray) (b1_2 : Bool) (b1_3 : Int) (b1_4 : Sv) (b1_5 : Sv) (h : Heap) (R : Value → Heap → Prop) : Prop :=
  new 25 #[Value.int .i64 a0, Value.string a0_1, Value.bool a0_2, Value.int .i64 a0_3, Value.slice a0_4.a a0_4.n a0_4.c, Value.slice a0_5.a a0_5.n a0_5.c] h fun p2 h1 =>
  new 25 #[Value.int .i64 b1, Value.string b1_1, Value.bool b1_2, Value.int .i64 b1_3, Value.slice b1_4.a b1_4.n b1_4.c, Value.slice b1_5.a b1_5.n b1_5.c] h1 fun p3 h2 =>
  ldI .i64 h2 p2 fun x6 =>
  ldI .i64 h2 p3 fun x8 =>
  ∃ J : Bool → Prop, (orr (x6 != x8) (fun k =>
    ldT h2 (p2.add 1) fun x12 =>
    ldT h2 (p3.add 1) fun x14 =>
    k (x12.toList != x14.toList)) J) ∧ ∀ x16, J x16 →
  ∃ J_1 : Bool → Prop, (orr x16 (fun k_1 =>
    ldB h2 (p2.add 2) fun x19 =>
    ldB h2 (p3.add 2) fun x21 =>
    k_1 (x19 != x21)) J_1) ∧ ∀ x23, J_1 x23 →
  ifb x23 (
    R (Value.bool false) h2) (
    ldI .i64 h2 p2 fun x25 =>
    ∃ J_2 : Bool → Prop, (orr (x25 != 5) (fun k_2 =>
      ldS h2 (p2.add 4) fun x29 =>
      ldS h2 (p3.add 4) fun x32 =>
      k_2 (((x29.n : Nat) : Int) == ((x32.n : Nat) : Int))) J_2) ∧ ∀ x35, J_2 x35 →
    ∃ J_3 : Bool → Heap → Prop, (andj x35 (fun k_3 =>
      ldS h2 (p2.add 5) fun x38 =>
      ldS h2 (p3.add 5) fun x40 =>
      cal Try.prog 19 #[Value.slice x38.a x38.n x38.c, Value.slice x40.a x40.n x40.c, (Value.func (.func 15) #[] #[])] h2 fun u h4 => asB u fun x41 =>
      k_3 x41 h4) h2 J_3) ∧ ∀ x42 h3, J_3 x42 h3 →
    R (Value.bool x42) h3)

set_option maxRecDepth 100000 in

theorem F15 {a0 a0_1 a0_2 a0_3 a0_4 a0_5 b1 b1_1 b1_2 b1_3 b1_4 b1_5 h : _} {R : Value → Heap → Prop} (H : L15 a0 a0_1 a0_2 a0_3 a0_4 a0_5 b1 b1_1 b1_2 b1_3 b1_4 b1_5 h R) : CallsH Try.prog 15 #[Value.agg #[Value.int .i64 a0, Value.string a0_1, Value.bool a0_2, Value.int .i64 a0_3, Value.slice a0_4.a a0_4.n a0_4.c, Value.slice a0_5.a a0_5.n a0_5.c], Value.agg #[Value.int .i64 b1, Value.string b1_1, Value.bool b1_2, Value.int .i64 b1_3, Value.slice b1_4.a b1_4.n b1_4.c, Value.slice b1_5.a b1_5.n b1_5.c]] h R := by
  refine CallsH.enter (n := 43) Try.func15 rfl rfl rfl rfl ?_
  intro w0 aa ww S
  unfold L15 at H
  refine W.seq ?_
  replace S := S.sub [(0, Value.agg #[Value.int .i64 a0, Value.string a0_1, Value.bool a0_2, Value.int .i64 a0_3, Value.slice a0_4.a a0_4.n a0_4.c, Value.slice a0_5.a a0_5.n a0_5.c]), (1, Value.agg #[Value.int .i64 b1, Value.string b1_1, Value.bool b1_2, Value.int .i64 b1_3, Value.slice b1_4.a b1_4.n b1_4.c, Value.slice b1_5.a b1_5.n b1_5.c])] ⟨rfl, rfl, trivial⟩
  refine W.region ?_
  refine ol_box S H rfl rfl rfl trivial ?_
  clear S H aa; intro p2 aa ww h1 H S
  refine ol_box S H rfl rfl rfl trivial ?_
  clear S H aa; intro p3 aa ww h2 H S
  refine OL.pure S (Lf.run_assign (S.ev rfl)) rfl rfl trivial ?_
  clear S; intro aa S
  refine OL.nil ?_
  refine W.seq ?_
  refine W.seq ?_
  replace S := S.sub [(2, Value.pointer (some p2)), (3, Value.pointer (some p3))] ⟨rfl, rfl, trivial⟩
  refine W.region ?_
  refine OL.pure S (Lf.run_fa (S.ev rfl) fa25_0) rfl rfl trivial ?_
  clear S; intro aa S
  obtain ⟨x6, c, H⟩ := H
  refine OL.pure S (Lf.run_ld (S.ev rfl) fl3 (S.cl c)) rfl rfl trivial ?_
  clear S; intro aa S
  refine OL.pure S (Lf.run_fa (S.ev rfl) fa25_0) rfl rfl trivial ?_
  clear S; intro aa S
  obtain ⟨x8, c_1, H⟩ := H
  refine OL.pure S (Lf.run_ld (S.ev rfl) fl3 (S.cl c_1)) rfl rfl trivial ?_
  clear S; intro aa S
  refine OL.pure S (Lf.run_neq (S.ev rfl) (S.ev rfl)) rfl rfl trivial ?_
  clear S; intro aa S
  refine OL.pure S (Lf.run_move (S.ev rfl)) rfl rfl trivial ?_
  clear S; intro aa S
  obtain ⟨J, H, HK⟩ := H
  refine OL.cutN 6 (fun aa ww => ∃ x16, St 43 ((16, Value.bool x16) :: [(2, Value.pointer (some p2)), (3, Value.pointer (some p3)), (5, Value.pointer (some p2)), (6, Value.int .i64 x6), (7, Value.pointer (some p3)), (8, Value.int .i64 x8), (9, Value.bool (x6 != x8)), (10, Value.bool (x6 != x8))]) h2 w0 aa ww ∧ J x16) ?_ ?_
  · rcases Bool.eq_false_or_eq_true (x6 != x8) with hb | hb
    · replace H := H.1 hb
      refine OL.not S rfl rfl (GNo.mk rfl rfl hb) ?_
      clear S; intro aa S
      refine OL.not S rfl rfl (GNo.mk rfl rfl hb) ?_
      clear S; intro aa S
      refine OL.not S rfl rfl (GNo.mk rfl rfl hb) ?_
      clear S; intro aa S
      refine OL.not S rfl rfl (GNo.mk rfl rfl hb) ?_
      clear S; intro aa S
      refine OL.not S rfl rfl (GNo.mk rfl rfl hb) ?_
      clear S; intro aa S
      refine OL.pure S (Lf.run_pickT (S.ev rfl) hb (S.ev rfl)) rfl rfl trivial ?_
      clear S; intro aa S
      refine OL.nil ?_
      exact ⟨_, S.sub _ ⟨rfl, rfl, rfl, rfl, rfl, rfl, rfl, rfl, rfl, trivial⟩, H⟩
    · replace H := H.2 hb
      refine OL.pure S (Lf.run_fa (S.ev rfl) fa25_1) rfl rfl (GOk.mk rfl rfl hb) ?_
      clear S; intro aa S
      obtain ⟨x12, c_2, H⟩ := H
      refine OL.pure S (Lf.run_ld (S.ev rfl) fl9 (S.cl c_2)) rfl rfl (GOk.mk rfl rfl hb) ?_
      clear S; intro aa S
      refine OL.pure S (Lf.run_fa (S.ev rfl) fa25_1) rfl rfl (GOk.mk rfl rfl hb) ?_
      clear S; intro aa S
      obtain ⟨x14, c_3, H⟩ := H
      refine OL.pure S (Lf.run_ld (S.ev rfl) fl9 (S.cl c_3)) rfl rfl (GOk.mk rfl rfl hb) ?_
      clear S; intro aa S
      refine OL.pure S (Lf.run_neqt (S.ev rfl) (S.ev rfl)) rfl rfl (GOk.mk rfl rfl hb) ?_
      clear S; intro aa S
      refine OL.pure S (Lf.run_pickF (S.ev rfl) hb (S.ev rfl)) rfl rfl trivial ?_
      clear S; intro aa S
      refine OL.nil ?_
      exact ⟨_, S.sub _ ⟨rfl, rfl, rfl, rfl, rfl, rfl, rfl, rfl, rfl, trivial⟩, H⟩
  · clear S aa
    rintro aa ww ⟨x16, S, HJ⟩
    replace H := HK _ HJ
    clear HK HJ
    refine OL.pure S (Lf.run_move (S.ev rfl)) rfl rfl trivial ?_
    clear S; intro aa S
    obtain ⟨J_1, H, HK_1⟩ := H
    refine OL.cutN 6 (fun aa ww => ∃ x23, St 43 ((23, Value.bool x23) :: [(2, Value.pointer (some p2)), (3, Value.pointer (some p3)), (5, Value.pointer (some p2)), (6, Value.int .i64 x6), (7, Value.pointer (some p3)), (8, Value.int .i64 x8), (9, Value.bool (x6 != x8)), (10, Value.bool (x6 != x8)), (16, Value.bool x16), (17, Value.bool x16)]) h2 w0 aa ww ∧ J_1 x23) ?_ ?_
    · rcases Bool.eq_false_or_eq_true x16 with hb_1 | hb_1
      · replace H := H.1 hb_1
        refine OL.not S rfl rfl (GNo.mk rfl rfl hb_1) ?_
        clear S; intro aa S
        refine OL.not S rfl rfl (GNo.mk rfl rfl hb_1) ?_
        clear S; intro aa S
        refine OL.not S rfl rfl (GNo.mk rfl rfl hb_1) ?_
        clear S; intro aa S
        refine OL.not S rfl rfl (GNo.mk rfl rfl hb_1) ?_
        clear S; intro aa S
        refine OL.not S rfl rfl (GNo.mk rfl rfl hb_1) ?_
        clear S; intro aa S
        refine OL.pure S (Lf.run_pickT (S.ev rfl) hb_1 (S.ev rfl)) rfl rfl trivial ?_
        clear S; intro aa S
        refine OL.nil ?_
        exact ⟨_, S.sub _ ⟨rfl, rfl, rfl, rfl, rfl, rfl, rfl, rfl, rfl, rfl, rfl, trivial⟩, H⟩
      · replace H := H.2 hb_1
        refine OL.pure S (Lf.run_fa (S.ev rfl) fa25_2) rfl rfl (GOk.mk rfl rfl hb_1) ?_
        clear S; intro aa S
        obtain ⟨x19, c_4, H⟩ := H
        refine OL.pure S (Lf.run_ld (S.ev rfl) fl4 (S.cl c_4)) rfl rfl (GOk.mk rfl rfl hb_1) ?_
        clear S; intro aa S
        refine OL.pure S (Lf.run_fa (S.ev rfl) fa25_2) rfl rfl (GOk.mk rfl rfl hb_1) ?_
        clear S; intro aa S
        obtain ⟨x21, c_5, H⟩ := H
        refine OL.pure S (Lf.run_ld (S.ev rfl) fl4 (S.cl c_5)) rfl rfl (GOk.mk rfl rfl hb_1) ?_
        clear S; intro aa S
        refine OL.pure S (Lf.run_neqb Try.underlying4 (S.ev rfl) (S.ev rfl)) rfl rfl (GOk.mk rfl rfl hb_1) ?_
        clear S; intro aa S
        refine OL.pure S (Lf.run_pickF (S.ev rfl) hb_1 (S.ev rfl)) rfl rfl trivial ?_
        clear S; intro aa S
        refine OL.nil ?_
        exact ⟨_, S.sub _ ⟨rfl, rfl, rfl, rfl, rfl, rfl, rfl, rfl, rfl, rfl, rfl, trivial⟩, H⟩
    · clear S aa
      rintro aa ww ⟨x23, S, HJ⟩
      replace H := HK_1 _ HJ
      clear HK_1 HJ
      refine OL.nil ?_
      refine W.cond S (b := x23) rfl (fun hb_2 => ?_) (fun hb_2 => ?_)
      · replace H := H.1 hb_2
        refine W.seq ?_
        replace S := S.sub [] trivial
        refine W.region ?_
        refine OL.pure S (Lf.run_assign (S.ev rfl)) rfl rfl trivial ?_
        clear S; intro aa S
        refine OL.nil ?_
        refine W.ret ?_
        exact Ret.one S rfl rfl H
      · replace H := H.2 hb_2
        refine W.skip ?_
        refine W.seq ?_
        replace S := S.sub [(2, Value.pointer (some p2)), (3, Value.pointer (some p3))] ⟨rfl, rfl, trivial⟩
        refine W.region ?_
        refine OL.pure S (Lf.run_fa (S.ev rfl) fa25_0) rfl rfl trivial ?_
        clear S; intro aa S
        obtain ⟨x25, c_6, H⟩ := H
        refine OL.pure S (Lf.run_ld (S.ev rfl) fl3 (S.cl c_6)) rfl rfl trivial ?_
        clear S; intro aa S
        refine OL.pure S (Lf.run_neq (S.ev rfl) (S.ev rfl)) rfl rfl trivial ?_
        clear S; intro aa S
        refine OL.pure S (Lf.run_move (S.ev rfl)) rfl rfl trivial ?_
        clear S; intro aa S
        obtain ⟨J_2, H, HK_2⟩ := H
        refine OL.cutN 8 (fun aa ww => ∃ x35, St 43 ((35, Value.bool x35) :: [(2, Value.pointer (some p2)), (3, Value.pointer (some p3)), (24, Value.pointer (some p2)), (25, Value.int .i64 x25), (26, Value.bool (x25 != 5)), (27, Value.bool (x25 != 5))]) h2 w0 aa ww ∧ J_2 x35) ?_ ?_
        · rcases Bool.eq_false_or_eq_true (x25 != 5) with hb_3 | hb_3
          · replace H := H.1 hb_3
            refine OL.not S rfl rfl (GNo.mk rfl rfl hb_3) ?_
            clear S; intro aa S
            refine OL.not S rfl rfl (GNo.mk rfl rfl hb_3) ?_
            clear S; intro aa S
            refine OL.not S rfl rfl (GNo.mk rfl rfl hb_3) ?_
            clear S; intro aa S
            refine OL.not S rfl rfl (GNo.mk rfl rfl hb_3) ?_
            clear S; intro aa S
            refine OL.not S rfl rfl (GNo.mk rfl rfl hb_3) ?_
            clear S; intro aa S
            refine OL.not S rfl rfl (GNo.mk rfl rfl hb_3) ?_
            clear S; intro aa S
            refine OL.not S rfl rfl (GNo.mk rfl rfl hb_3) ?_
            clear S; intro aa S
            refine OL.pure S (Lf.run_pickT (S.ev rfl) hb_3 (S.ev rfl)) rfl rfl trivial ?_
            clear S; intro aa S
            refine OL.nil ?_
            exact ⟨_, S.sub _ ⟨rfl, rfl, rfl, rfl, rfl, rfl, rfl, trivial⟩, H⟩
          · replace H := H.2 hb_3
            refine OL.pure S (Lf.run_fa (S.ev rfl) fa25_4) rfl rfl (GOk.mk rfl rfl hb_3) ?_
            clear S; intro aa S
            obtain ⟨x29, c_7, H⟩ := H
            refine OL.pure S (Lf.run_ld (S.ev rfl) fl22 (S.cl c_7)) rfl rfl (GOk.mk rfl rfl hb_3) ?_
            clear S; intro aa S
            refine OL.pure S (Lf.run_lens (S.ev rfl) rfl Try.underlying22) rfl rfl (GOk.mk rfl rfl hb_3) ?_
            clear S; intro aa S
            refine OL.pure S (Lf.run_fa (S.ev rfl) fa25_4) rfl rfl (GOk.mk rfl rfl hb_3) ?_
            clear S; intro aa S
            obtain ⟨x32, c_8, H⟩ := H
            refine OL.pure S (Lf.run_ld (S.ev rfl) fl22 (S.cl c_8)) rfl rfl (GOk.mk rfl rfl hb_3) ?_
            clear S; intro aa S
            refine OL.pure S (Lf.run_lens (S.ev rfl) rfl Try.underlying22) rfl rfl (GOk.mk rfl rfl hb_3) ?_
            clear S; intro aa S
            refine OL.pure S (Lf.run_eql (S.ev rfl) (S.ev rfl)) rfl rfl (GOk.mk rfl rfl hb_3) ?_
            clear S; intro aa S
            refine OL.pure S (Lf.run_pickF (S.ev rfl) hb_3 (S.ev rfl)) rfl rfl trivial ?_
            clear S; intro aa S
            refine OL.nil ?_
            exact ⟨_, S.sub _ ⟨rfl, rfl, rfl, rfl, rfl, rfl, rfl, trivial⟩, H⟩
        · clear S aa
          rintro aa ww ⟨x35, S, HJ⟩
          replace H := HK_2 _ HJ
          clear HK_2 HJ
          refine OL.pure S (Lf.run_move (S.ev rfl)) rfl rfl trivial ?_
          clear S; intro aa S
          obtain ⟨J_3, H, HK_3⟩ := H
          refine OL.cutN 6 (fun aa ww => ∃ x42 h3, St 43 ((42, Value.bool x42) :: [(2, Value.pointer (some p2)), (3, Value.pointer (some p3)), (24, Value.pointer (some p2)), (25, Value.int .i64 x25), (26, Value.bool (x25 != 5)), (27, Value.bool (x25 != 5)), (35, Value.bool x35), (36, Value.bool x35)]) h3 w0 aa ww ∧ J_3 x42 h3) ?_ ?_
          · rcases Bool.eq_false_or_eq_true x35 with hb_4 | hb_4
            · replace H := H.1 hb_4
              refine OL.pure S (Lf.run_fa (S.ev rfl) fa25_5) rfl rfl (GOk.mk rfl rfl hb_4) ?_
              clear S; intro aa S
              obtain ⟨x38, c_9, H⟩ := H
              refine OL.pure S (Lf.run_ld (S.ev rfl) fl23 (S.cl c_9)) rfl rfl (GOk.mk rfl rfl hb_4) ?_
              clear S; intro aa S
              refine OL.pure S (Lf.run_fa (S.ev rfl) fa25_5) rfl rfl (GOk.mk rfl rfl hb_4) ?_
              clear S; intro aa S
              obtain ⟨x40, c_10, H⟩ := H
              refine OL.pure S (Lf.run_ld (S.ev rfl) fl23 (S.cl c_10)) rfl rfl (GOk.mk rfl rfl hb_4) ?_
              clear S; intro aa S
              refine ol_cal S H isfn19 rfl rfl (GOk.mk rfl rfl hb_4) ?_
              clear S H aa; intro u aa ww h4 H S
              obtain ⟨x41, rfl, H⟩ := H
              refine OL.pure S (Lf.run_pickT (S.ev rfl) hb_4 (S.ev rfl)) rfl rfl trivial ?_
              clear S; intro aa S
              refine OL.nil ?_
              exact ⟨_, _, S.sub _ ⟨rfl, rfl, rfl, rfl, rfl, rfl, rfl, rfl, rfl, trivial⟩, H⟩
            · replace H := H.2 hb_4
              refine OL.not S rfl rfl (GNo.mk rfl rfl hb_4) ?_
              clear S; intro aa S
              refine OL.not S rfl rfl (GNo.mk rfl rfl hb_4) ?_
              clear S; intro aa S
              refine OL.not S rfl rfl (GNo.mk rfl rfl hb_4) ?_
              clear S; intro aa S
              refine OL.not S rfl rfl (GNo.mk rfl rfl hb_4) ?_
              clear S; intro aa S
              refine OL.not S rfl rfl (GNo.mk rfl rfl hb_4) ?_
              clear S; intro aa S
              refine OL.pure S (Lf.run_pickF (S.ev rfl) hb_4 (S.ev rfl)) rfl rfl trivial ?_
              clear S; intro aa S
              refine OL.nil ?_
              exact ⟨_, _, S.sub _ ⟨rfl, rfl, rfl, rfl, rfl, rfl, rfl, rfl, rfl, trivial⟩, H⟩
          · clear S aa
            rintro aa ww ⟨x42, h3, S, HJ⟩
            replace H := HK_3 _ _ HJ
            clear HK_3 HJ
            refine OL.pure S (Lf.run_assign (S.ev rfl)) rfl rfl trivial ?_
            clear S; intro aa S
            refine OL.nil ?_
            refine W.ret ?_
            exact Ret.one S rfl rfl H

/-- (*chattel sub.pairer).see -/
def L16 (p0 : Option Addr) (a1 : Int) (a1_1 : ByteArray) (a1_2 : Bool) (a1_3 : Int) (a1_4 : Sv) (a1_5 : Sv) (b2 : Int) (b2_1 : ByteArray) (b2_2 : Bool) (b2_3 : Int) (b2_4 : Sv) (b2_5 : Sv) (way3 : Int) (h : Heap) (R : Value → Heap → Prop) : Prop :=
  new 25 #[Value.int .i64 a1, Value.string a1_1, Value.bool a1_2, Value.int .i64 a1_3, Value.slice a1_4.a a1_4.n a1_4.c, Value.slice a1_5.a a1_5.n a1_5.c] h fun p5 h1 =>
  new 25 #[Value.int .i64 b2, Value.string b2_1, Value.bool b2_2, Value.int .i64 b2_3, Value.slice b2_4.a b2_4.n b2_4.c, Value.slice b2_5.a b2_5.n b2_5.c] h1 fun p6 h2 =>
  ∃ J : Int → Heap → Prop, (
    ldI .i64 h2 p5 fun x15 =>
    ifb (x15 == 7) (
      ldI .i64 h2 (p5.add 3) fun x20 =>
      ldI .i64 h2 (p6.add 3) fun x22 =>
      cal Try.prog 20 #[Value.pointer p0, Value.int .i64 x20, Value.int .i64 x22, Value.int .i64 way3] h2 fun u h3 =>
      ldB h3 (p5.add 2) fun x26 =>
      ifb x26 (
        cal Try.prog 21 #[Value.int .i64 way3, Value.int .i64 3] h3 fun u_1 h4 => asI .i64 u_1 fun x28 =>
        J x28 h4) (
        J way3 h3)) (
      ifb (x15 == 8) (
        ldI .i64 h2 (p5.add 3) fun x33 =>
        ldI .i64 h2 (p6.add 3) fun x35 =>
        cal Try.prog 20 #[Value.pointer p0, Value.int .i64 x33, Value.int .i64 x35, Value.int .i64 way3] h2 fun u_2 h5 =>
        J way3 h5) (
        ifb (x15 == 5) (
          ldS h2 (p5.add 4) fun x41 =>
          ldS h2 (p5.add 4) fun x44 =>
          ∃ (I : Int → Heap → Prop) (m : Int → Heap → Nat), I 0 h2 ∧ ∀ x46 h6, I x46 h6 →
          ifb (decide (x46 < ((x44.n : Nat) : Int))) (
            ∃ Sq : Heap → Prop, Sq h6 ∧ (
              nn p0 fun p62 =>
              ldM h6 p62 fun x64 =>
              ldT h6 (p5.add 1) fun x66 =>
              hlS Sq (p5.add 4) fun x51 =>
              ixS x51 x46 fun q53 =>
              hlI .i64 Sq (q53.add ((x46 : Int).toNat * 1)) fun x54 =>
              hlS Sq (p6.add 4) fun x56 =>
              ixS x56 x46 fun q58 =>
              hlI .i64 Sq (q58.add ((x46 : Int).toNat * 1)) fun x59 =>
              cal Try.prog 22 #[Value.map x64, Value.string x66, Value.int .i64 x46] h6 fun u_3 h7 => asI .i64 u_3 fun x68 =>
              Sq h7 ∧
              cal Try.prog 21 #[Value.int .i64 way3, Value.int .i64 x68] h7 fun u_4 h8 => asI .i64 u_4 fun x69 =>
              Sq h8 ∧
              cal Try.prog 20 #[Value.pointer p0, Value.int .i64 x54, Value.int .i64 x59, Value.int .i64 x69] h8 fun u_5 h9 =>
              I (IntKind.i64.wrap (x46 + 1)) h9 ∧ m (IntKind.i64.wrap (x46 + 1)) h9 < m x46 h6)) (
            ldS h6 (p5.add 5) fun x73 =>
            ∃ (I_1 : Int → Heap → Prop) (m_1 : Int → Heap → Nat), I_1 0 h6 ∧ ∀ x75 h10, I_1 x75 h10 →
            ifb (decide (x75 < ((x73.n : Nat) : Int))) (
              ∃ Sq_1 : Heap → Prop, Sq_1 h10 ∧ (
                nn p0 fun p91 =>
                ldM h10 p91 fun x93 =>
                ldT h10 (p5.add 1) fun x95 =>
                hlS Sq_1 (p5.add 5) fun x80 =>
                ixS x80 x75 fun q82 =>
                ∃ (y83 : Int) (y83_1 : ByteArray) (y83_2 : Bool) (y83_3 : Int) (y83_4 : Sv) (y83_5 : Sv), hld Sq_1 (q82.add ((x75 : Int).toNat * 6)) (Value.int .i64 y83) ∧ hld Sq_1 ((q82.add ((x75 : Int).toNat * 6)).add 1) (Value.string y83_1) ∧ hld Sq_1 ((q82.add ((x75 : Int).toNat * 6)).add 2) (Value.bool y83_2) ∧ hld Sq_1 ((q82.add ((x75 : Int).toNat * 6)).add 3) (Value.int .i64 y83_3) ∧ hld Sq_1 ((q82.add ((x75 : Int).toNat * 6)).add 4) (Value.slice y83_4.a y83_4.n y83_4.c) ∧ hld Sq_1 ((q82.add ((x75 : Int).toNat * 6)).add 5) (Value.slice y83_5.a y83_5.n y83_5.c) ∧
                hlS Sq_1 (p6.add 5) fun x85 =>
                ixS x85 x75 fun q87 =>
                ∃ (y88 : Int) (y88_1 : ByteArray) (y88_2 : Bool) (y88_3 : Int) (y88_4 : Sv) (y88_5 : Sv), hld Sq_1 (q87.add ((x75 : Int).toNat * 6)) (Value.int .i64 y88) ∧ hld Sq_1 ((q87.add ((x75 : Int).toNat * 6)).add 1) (Value.string y88_1) ∧ hld Sq_1 ((q87.add ((x75 : Int).toNat * 6)).add 2) (Value.bool y88_2) ∧ hld Sq_1 ((q87.add ((x75 : Int).toNat * 6)).add 3) (Value.int .i64 y88_3) ∧ hld Sq_1 ((q87.add ((x75 : Int).toNat * 6)).add 4) (Value.slice y88_4.a y88_4.n y88_4.c) ∧ hld Sq_1 ((q87.add ((x75 : Int).toNat * 6)).add 5) (Value.slice y88_5.a y88_5.n y88_5.c) ∧
                cal Try.prog 22 #[Value.map x93, Value.string x95, Value.int .i64 (IntKind.i64.wrap (((x41.n : Nat) : Int) + x75))] h10 fun u_6 h11 => asI .i64 u_6 fun x99 =>
                Sq_1 h11 ∧
                cal Try.prog 21 #[Value.int .i64 way3, Value.int .i64 x99] h11 fun u_7 h12 => asI .i64 u_7 fun x100 =>
                Sq_1 h12 ∧
                cal Try.prog 16 #[Value.pointer p0, Value.agg #[Value.int .i64 y83, Value.string y83_1, Value.bool y83_2, Value.int .i64 y83_3, Value.slice y83_4.a y83_4.n y83_4.c, Value.slice y83_5.a y83_5.n y83_5.c], Value.agg #[Value.int .i64 y88, Value.string y88_1, Value.bool y88_2, Value.int .i64 y88_3, Value.slice y88_4.a y88_4.n y88_4.c, Value.slice y88_5.a y88_5.n y88_5.c], Value.int .i64 x100] h12 fun u_8 h13 =>
                I_1 (IntKind.i64.wrap (x75 + 1)) h13 ∧ m_1 (IntKind.i64.wrap (x75 + 1)) h13 < m_1 x75 h10)) (
              R (.tuple #[]) h10))) (
          J way3 h2)))) ∧ (∀ inner8 h14, J inner8 h14 →
  ldS h14 (p5.add 5) fun x104 =>
  ∃ (I_2 : Int → Heap → Prop) (m_2 : Int → Heap → Nat), I_2 0 h14 ∧ ∀ x106 h15, I_2 x106 h15 →
  ifb (decide (x106 < ((x104.n : Nat) : Int))) (
    ldS h15 (p5.add 5) fun x111 =>
    ixS x111 x106 fun q113 =>
    ∃ (y114 : Int) (y114_1 : ByteArray) (y114_2 : Bool) (y114_3 : Int) (y114_4 : Sv) (y114_5 : Sv), cl h15 (q113.add ((x106 : Int).toNat * 6)) = some (Value.int .i64 y114) ∧ cl h15 ((q113.add ((x106 : Int).toNat * 6)).add 1) = some (Value.string y114_1) ∧ cl h15 ((q113.add ((x106 : Int).toNat * 6)).add 2) = some (Value.bool y114_2) ∧ cl h15 ((q113.add ((x106 : Int).toNat * 6)).add 3) = some (Value.int .i64 y114_3) ∧ cl h15 ((q113.add ((x106 : Int).toNat * 6)).add 4) = some (Value.slice y114_4.a y114_4.n y114_4.c) ∧ cl h15 ((q113.add ((x106 : Int).toNat * 6)).add 5) = some (Value.slice y114_5.a y114_5.n y114_5.c) ∧
    ldS h15 (p6.add 5) fun x116 =>
    ixS x116 x106 fun q118 =>
    ∃ (y119 : Int) (y119_1 : ByteArray) (y119_2 : Bool) (y119_3 : Int) (y119_4 : Sv) (y119_5 : Sv), cl h15 (q118.add ((x106 : Int).toNat * 6)) = some (Value.int .i64 y119) ∧ cl h15 ((q118.add ((x106 : Int).toNat * 6)).add 1) = some (Value.string y119_1) ∧ cl h15 ((q118.add ((x106 : Int).toNat * 6)).add 2) = some (Value.bool y119_2) ∧ cl h15 ((q118.add ((x106 : Int).toNat * 6)).add 3) = some (Value.int .i64 y119_3) ∧ cl h15 ((q118.add ((x106 : Int).toNat * 6)).add 4) = some (Value.slice y119_4.a y119_4.n y119_4.c) ∧ cl h15 ((q118.add ((x106 : Int).toNat * 6)).add 5) = some (Value.slice y119_5.a y119_5.n y119_5.c) ∧
    cal Try.prog 16 #[Value.pointer p0, Value.agg #[Value.int .i64 y114, Value.string y114_1, Value.bool y114_2, Value.int .i64 y114_3, Value.slice y114_4.a y114_4.n y114_4.c, Value.slice y114_5.a y114_5.n y114_5.c], Value.agg #[Value.int .i64 y119, Value.string y119_1, Value.bool y119_2, Value.int .i64 y119_3, Value.slice y119_4.a y119_4.n y119_4.c, Value.slice y119_5.a y119_5.n y119_5.c], Value.int .i64 inner8] h15 fun u_9 h16 =>
    I_2 (IntKind.i64.wrap (x106 + 1)) h16 ∧ m_2 (IntKind.i64.wrap (x106 + 1)) h16 < m_2 x106 h15) (
    R (.tuple #[]) h15))

set_option maxRecDepth 100000 in

theorem F16 {p0 a1 a1_1 a1_2 a1_3 a1_4 a1_5 b2 b2_1 b2_2 b2_3 b2_4 b2_5 way3 h : _} {R : Value → Heap → Prop} (H : L16 p0 a1 a1_1 a1_2 a1_3 a1_4 a1_5 b2 b2_1 b2_2 b2_3 b2_4 b2_5 way3 h R) : CallsH Try.prog 16 #[Value.pointer p0, Value.agg #[Value.int .i64 a1, Value.string a1_1, Value.bool a1_2, Value.int .i64 a1_3, Value.slice a1_4.a a1_4.n a1_4.c, Value.slice a1_5.a a1_5.n a1_5.c], Value.agg #[Value.int .i64 b2, Value.string b2_1, Value.bool b2_2, Value.int .i64 b2_3, Value.slice b2_4.a b2_4.n b2_4.c, Value.slice b2_5.a b2_5.n b2_5.c], Value.int .i64 way3] h R := by
  refine CallsH.enter (n := 123) Try.func16 rfl rfl rfl rfl ?_
  intro w0 aa ww S
  unfold L16 at H
  refine W.seq ?_
  replace S := S.sub [(0, Value.pointer p0), (1, Value.agg #[Value.int .i64 a1, Value.string a1_1, Value.bool a1_2, Value.int .i64 a1_3, Value.slice a1_4.a a1_4.n a1_4.c, Value.slice a1_5.a a1_5.n a1_5.c]), (2, Value.agg #[Value.int .i64 b2, Value.string b2_1, Value.bool b2_2, Value.int .i64 b2_3, Value.slice b2_4.a b2_4.n b2_4.c, Value.slice b2_5.a b2_5.n b2_5.c]), (3, Value.int .i64 way3)] ⟨rfl, rfl, rfl, rfl, trivial⟩
  refine W.region ?_
  refine ol_box S H rfl rfl rfl trivial ?_
  clear S H aa; intro p5 aa ww h1 H S
  refine ol_box S H rfl rfl rfl trivial ?_
  clear S H aa; intro p6 aa ww h2 H S
  refine OL.nil ?_
  refine W.seq ?_
  replace S := S.sub [(0, Value.pointer p0), (3, Value.int .i64 way3), (5, Value.pointer (some p5)), (6, Value.pointer (some p6))] ⟨rfl, rfl, rfl, rfl, trivial⟩
  refine W.region ?_
  refine OL.pure S (Lf.run_move (S.ev rfl)) rfl rfl trivial ?_
  clear S; intro aa S
  refine OL.pure S (Lf.run_assign (S.ev rfl)) rfl rfl trivial ?_
  clear S; intro aa S
  refine OL.nil ?_
  obtain ⟨J, H, HK⟩ := H
  refine W.seqJ (fun aa ww => ∃ inner8 h14, St 123 [(0, Value.pointer p0), (5, Value.pointer (some p5)), (6, Value.pointer (some p6)), (8, Value.int .i64 inner8)] h14 w0 aa ww ∧ J inner8 h14) ?_ ?_
  · clear HK
    refine W.seq ?_
    replace S := S.sub [(0, Value.pointer p0), (3, Value.int .i64 way3), (5, Value.pointer (some p5)), (6, Value.pointer (some p6)), (8, Value.int .i64 way3)] ⟨rfl, rfl, rfl, rfl, rfl, trivial⟩
    refine W.region ?_
    refine OL.pure S (Lf.run_fa (S.ev rfl) fa25_0) rfl rfl trivial ?_
    clear S; intro aa S
    obtain ⟨x15, c, H⟩ := H
    refine OL.pure S (Lf.run_ld (S.ev rfl) fl3 (S.cl c)) rfl rfl trivial ?_
    clear S; intro aa S
    refine OL.nil ?_
    refine W.block ?_
    refine W.seq ?_
    replace S := S.sub [(0, Value.pointer p0), (3, Value.int .i64 way3), (5, Value.pointer (some p5)), (6, Value.pointer (some p6)), (8, Value.int .i64 way3), (15, Value.int .i64 x15)] ⟨rfl, rfl, rfl, rfl, rfl, rfl, trivial⟩
    refine W.region ?_
    refine OL.pure S (Lf.run_eql (S.ev rfl) (S.ev rfl)) rfl rfl trivial ?_
    clear S; intro aa S
    refine OL.pure S (Lf.run_assign (S.ev rfl)) rfl rfl trivial ?_
    clear S; intro aa S
    refine OL.nil ?_
    refine W.cond S (b := (x15 == 7)) rfl (fun hb => ?_) (fun hb => ?_)
    · replace H := H.1 hb
      refine W.seq ?_
      replace S := S.sub [(0, Value.pointer p0), (3, Value.int .i64 way3), (5, Value.pointer (some p5)), (6, Value.pointer (some p6)), (8, Value.int .i64 way3)] ⟨rfl, rfl, rfl, rfl, rfl, trivial⟩
      refine W.region ?_
      refine OL.pure S (Lf.run_move (S.ev rfl)) rfl rfl trivial ?_
      clear S; intro aa S
      refine OL.pure S (Lf.run_fa (S.ev rfl) fa25_3) rfl rfl trivial ?_
      clear S; intro aa S
      obtain ⟨x20, c_1, H⟩ := H
      refine OL.pure S (Lf.run_ld (S.ev rfl) fl3 (S.cl c_1)) rfl rfl trivial ?_
      clear S; intro aa S
      refine OL.pure S (Lf.run_fa (S.ev rfl) fa25_3) rfl rfl trivial ?_
      clear S; intro aa S
      obtain ⟨x22, c_2, H⟩ := H
      refine OL.pure S (Lf.run_ld (S.ev rfl) fl3 (S.cl c_2)) rfl rfl trivial ?_
      clear S; intro aa S
      refine OL.pure S (Lf.run_move (S.ev rfl)) rfl rfl trivial ?_
      clear S; intro aa S
      refine ol_cal S H isfn20 rfl rfl trivial ?_
      clear S H aa; intro u aa ww h3 H S
      refine OL.nil ?_
      refine W.seq ?_
      replace S := S.sub [(0, Value.pointer p0), (3, Value.int .i64 way3), (5, Value.pointer (some p5)), (6, Value.pointer (some p6)), (8, Value.int .i64 way3)] ⟨rfl, rfl, rfl, rfl, rfl, trivial⟩
      refine W.region ?_
      refine OL.pure S (Lf.run_fa (S.ev rfl) fa25_2) rfl rfl trivial ?_
      clear S; intro aa S
      obtain ⟨x26, c_3, H⟩ := H
      refine OL.pure S (Lf.run_ld (S.ev rfl) fl4 (S.cl c_3)) rfl rfl trivial ?_
      clear S; intro aa S
      refine OL.nil ?_
      refine W.cond S (b := x26) rfl (fun hb_1 => ?_) (fun hb_1 => ?_)
      · replace H := H.1 hb_1
        replace S := S.sub [(0, Value.pointer p0), (3, Value.int .i64 way3), (5, Value.pointer (some p5)), (6, Value.pointer (some p6))] ⟨rfl, rfl, rfl, rfl, trivial⟩
        refine W.region ?_
        refine OL.pure S (Lf.run_move (S.ev rfl)) rfl rfl trivial ?_
        clear S; intro aa S
        refine ol_cal S H isfn21 rfl rfl trivial ?_
        clear S H aa; intro u_1 aa ww h4 H S
        obtain ⟨x28, rfl, H⟩ := H
        refine OL.pure S (Lf.run_assign (S.ev rfl)) rfl rfl trivial ?_
        clear S; intro aa S
        refine OL.nil ?_
        exact ⟨x28, h4, S.sub _ ⟨rfl, rfl, rfl, rfl, trivial⟩, H⟩
      · replace H := H.2 hb_1
        refine W.skip ?_
        exact ⟨way3, h3, S.sub _ ⟨rfl, rfl, rfl, rfl, trivial⟩, H⟩
    · replace H := H.2 hb
      refine W.seq ?_
      replace S := S.sub [(0, Value.pointer p0), (3, Value.int .i64 way3), (5, Value.pointer (some p5)), (6, Value.pointer (some p6)), (8, Value.int .i64 way3), (15, Value.int .i64 x15)] ⟨rfl, rfl, rfl, rfl, rfl, rfl, trivial⟩
      refine W.region ?_
      refine OL.pure S (Lf.run_eql (S.ev rfl) (S.ev rfl)) rfl rfl trivial ?_
      clear S; intro aa S
      refine OL.pure S (Lf.run_assign (S.ev rfl)) rfl rfl trivial ?_
      clear S; intro aa S
      refine OL.nil ?_
      refine W.cond S (b := (x15 == 8)) rfl (fun hb_2 => ?_) (fun hb_2 => ?_)
      · replace H := H.1 hb_2
        replace S := S.sub [(0, Value.pointer p0), (3, Value.int .i64 way3), (5, Value.pointer (some p5)), (6, Value.pointer (some p6)), (8, Value.int .i64 way3)] ⟨rfl, rfl, rfl, rfl, rfl, trivial⟩
        refine W.region ?_
        refine OL.pure S (Lf.run_move (S.ev rfl)) rfl rfl trivial ?_
        clear S; intro aa S
        refine OL.pure S (Lf.run_fa (S.ev rfl) fa25_3) rfl rfl trivial ?_
        clear S; intro aa S
        obtain ⟨x33, c_4, H⟩ := H
        refine OL.pure S (Lf.run_ld (S.ev rfl) fl3 (S.cl c_4)) rfl rfl trivial ?_
        clear S; intro aa S
        refine OL.pure S (Lf.run_fa (S.ev rfl) fa25_3) rfl rfl trivial ?_
        clear S; intro aa S
        obtain ⟨x35, c_5, H⟩ := H
        refine OL.pure S (Lf.run_ld (S.ev rfl) fl3 (S.cl c_5)) rfl rfl trivial ?_
        clear S; intro aa S
        refine OL.pure S (Lf.run_move (S.ev rfl)) rfl rfl trivial ?_
        clear S; intro aa S
        refine ol_cal S H isfn20 rfl rfl trivial ?_
        clear S H aa; intro u_2 aa ww h5 H S
        refine OL.nil ?_
        exact ⟨way3, h5, S.sub _ ⟨rfl, rfl, rfl, rfl, trivial⟩, H⟩
      · replace H := H.2 hb_2
        refine W.seq ?_
        replace S := S.sub [(0, Value.pointer p0), (3, Value.int .i64 way3), (5, Value.pointer (some p5)), (6, Value.pointer (some p6)), (8, Value.int .i64 way3), (15, Value.int .i64 x15)] ⟨rfl, rfl, rfl, rfl, rfl, rfl, trivial⟩
        refine W.region ?_
        refine OL.pure S (Lf.run_eql (S.ev rfl) (S.ev rfl)) rfl rfl trivial ?_
        clear S; intro aa S
        refine OL.pure S (Lf.run_assign (S.ev rfl)) rfl rfl trivial ?_
        clear S; intro aa S
        refine OL.nil ?_
        refine W.cond S (b := (x15 == 5)) rfl (fun hb_3 => ?_) (fun hb_3 => ?_)
        · replace H := H.1 hb_3
          refine W.seq ?_
          replace S := S.sub [(0, Value.pointer p0), (3, Value.int .i64 way3), (5, Value.pointer (some p5)), (6, Value.pointer (some p6))] ⟨rfl, rfl, rfl, rfl, trivial⟩
          refine W.region ?_
          refine OL.pure S (Lf.run_fa (S.ev rfl) fa25_4) rfl rfl trivial ?_
          clear S; intro aa S
          obtain ⟨x41, c_6, H⟩ := H
          refine OL.pure S (Lf.run_ld (S.ev rfl) fl22 (S.cl c_6)) rfl rfl trivial ?_
          clear S; intro aa S
          refine OL.pure S (Lf.run_lens (S.ev rfl) rfl Try.underlying22) rfl rfl trivial ?_
          clear S; intro aa S
          refine OL.pure S (Lf.run_assign (S.ev rfl)) rfl rfl trivial ?_
          clear S; intro aa S
          refine OL.nil ?_
          refine W.seq ?_
          refine W.seq ?_
          replace S := S.sub [(0, Value.pointer p0), (3, Value.int .i64 way3), (5, Value.pointer (some p5)), (6, Value.pointer (some p6)), (9, Value.int .i64 ((x41.n : Nat) : Int))] ⟨rfl, rfl, rfl, rfl, rfl, trivial⟩
          refine W.region ?_
          refine OL.pure S (Lf.run_fa (S.ev rfl) fa25_4) rfl rfl trivial ?_
          clear S; intro aa S
          obtain ⟨x44, c_7, H⟩ := H
          refine OL.pure S (Lf.run_ld (S.ev rfl) fl22 (S.cl c_7)) rfl rfl trivial ?_
          clear S; intro aa S
          refine OL.pure S (Lf.run_lens (S.ev rfl) rfl Try.underlying22) rfl rfl trivial ?_
          clear S; intro aa S
          refine OL.pure S (Lf.run_move (S.ev rfl)) rfl rfl trivial ?_
          clear S; intro aa S
          refine OL.nil ?_
          refine W.block ?_
          obtain ⟨I, m, H, HB_1⟩ := H
          refine W.loopS (σ := Int × Heap) (fun s aa ww => St 123 [(0, Value.pointer p0), (3, Value.int .i64 way3), (5, Value.pointer (some p5)), (6, Value.pointer (some p6)), (9, Value.int .i64 ((x41.n : Nat) : Int)), (45, Value.int .i64 ((x44.n : Nat) : Int)), (46, Value.int .i64 s.1)] s.2 w0 aa ww ∧ I s.1 s.2) (fun s => m s.1 s.2) (0, h2) ⟨S.sub _ ⟨rfl, rfl, rfl, rfl, rfl, rfl, rfl, trivial⟩, H⟩ ?_
          clear H S aa
          rintro ⟨x46, h6⟩ aa ww ⟨S, HI⟩
          replace S : St 123 [(0, Value.pointer p0), (3, Value.int .i64 way3), (5, Value.pointer (some p5)), (6, Value.pointer (some p6)), (9, Value.int .i64 ((x41.n : Nat) : Int)), (45, Value.int .i64 ((x44.n : Nat) : Int)), (46, Value.int .i64 x46)] h6 w0 aa ww := S
          have H := HB_1 x46 h6 HI
          clear HI
          refine W.seq ?_
          replace S := S.sub [(0, Value.pointer p0), (3, Value.int .i64 way3), (5, Value.pointer (some p5)), (6, Value.pointer (some p6)), (9, Value.int .i64 ((x41.n : Nat) : Int)), (45, Value.int .i64 ((x44.n : Nat) : Int)), (46, Value.int .i64 x46)] ⟨rfl, rfl, rfl, rfl, rfl, rfl, rfl, trivial⟩
          refine W.region ?_
          refine OL.pure S (Lf.run_lss (S.ev rfl) (S.ev rfl)) rfl rfl trivial ?_
          clear S; intro aa S
          refine OL.nil ?_
          refine W.seq ?_
          refine W.cond S (b := (decide (x46 < ((x44.n : Nat) : Int)))) rfl (fun hb_4 => ?_) (fun hb_4 => ?_)
          · replace H := H.1 hb_4
            refine W.skip ?_
            refine W.seq ?_
            refine W.block ?_
            refine W.seq ?_
            replace S := S.sub [(0, Value.pointer p0), (3, Value.int .i64 way3), (5, Value.pointer (some p5)), (6, Value.pointer (some p6)), (9, Value.int .i64 ((x41.n : Nat) : Int)), (45, Value.int .i64 ((x44.n : Nat) : Int)), (46, Value.int .i64 x46)] ⟨rfl, rfl, rfl, rfl, rfl, rfl, rfl, trivial⟩
            refine W.region ?_
            refine OL.pure S (Lf.run_move (S.ev rfl)) rfl rfl trivial ?_
            clear S; intro aa S
            refine OL.pure S (Lf.run_assign (S.ev rfl)) rfl rfl trivial ?_
            clear S; intro aa S
            refine OL.nil ?_
            replace S := S.sub [(0, Value.pointer p0), (3, Value.int .i64 way3), (5, Value.pointer (some p5)), (6, Value.pointer (some p6)), (9, Value.int .i64 ((x41.n : Nat) : Int)), (10, Value.int .i64 x46), (45, Value.int .i64 ((x44.n : Nat) : Int)), (46, Value.int .i64 x46)] ⟨rfl, rfl, rfl, rfl, rfl, rfl, rfl, rfl, trivial⟩
            obtain ⟨Sq, HS, H⟩ := H
            refine W.regionN [2, 5, 7, 10] [19, 20, 21] Sq S (by kernel_rfl) ?_
            clear S; intro ww S
            refine BN.pure 0 S (fun _ => HS) rfl (by kernel_rfl) (by kernel_rfl) (fun _ => Lf.run_move (S.ev rfl)) rfl rfl trivial ?_
            clear S; intro aa S
            refine BN.pure 1 S (fun _ => HS) rfl (by kernel_rfl) (by kernel_rfl) (fun _ => Lf.run_fa (S.ev rfl) fa25_4) rfl rfl trivial ?_
            clear S; intro aa S
            refine BN.pure 3 S (fun _ => HS) rfl (by kernel_rfl) (by kernel_rfl) (fun _ => Lf.run_move (S.ev rfl)) rfl rfl trivial ?_
            clear S; intro aa S
            refine BN.pure 6 S (fun _ => HS) rfl (by kernel_rfl) (by kernel_rfl) (fun _ => Lf.run_fa (S.ev rfl) fa25_4) rfl rfl trivial ?_
            clear S; intro aa S
            refine BN.pure 8 S (fun _ => HS) rfl (by kernel_rfl) (by kernel_rfl) (fun _ => Lf.run_move (S.ev rfl)) rfl rfl trivial ?_
            clear S; intro aa S
            refine BN.pure 11 S (fun _ => HS) rfl (by kernel_rfl) (by kernel_rfl) (fun _ => Lf.run_move (S.ev rfl)) rfl rfl trivial ?_
            clear S; intro aa S
            refine BN.pure 12 S (fun _ => HS) rfl (by kernel_rfl) (by kernel_rfl) (fun _ => Lf.run_move (S.ev rfl)) rfl rfl trivial ?_
            clear S; intro aa S
            obtain ⟨p62, e, H⟩ := H
            refine BN.pure 13 S (fun _ => HS) rfl (by kernel_rfl) (by kernel_rfl) (fun _ => Lf.run_nc' (S.ev rfl) e) rfl rfl trivial ?_
            clear S; intro aa S
            refine BN.pure 14 S (fun _ => HS) rfl (by kernel_rfl) (by kernel_rfl) (fun _ => Lf.run_fa (S.ev rfl) fa49_0) rfl rfl trivial ?_
            clear S; intro aa S
            obtain ⟨x64, c_8, H⟩ := H
            refine BN.load 15 S (fun _ => HS) rfl (by kernel_rfl) (by kernel_rfl) (fun _ hx => Lf.run_ld (S.ev rfl) fl33 (hx.cell _ _ (S.cl c_8))) rfl rfl trivial ?_
            clear S; intro aa S
            refine BN.pure 16 S (fun _ => HS) rfl (by kernel_rfl) (by kernel_rfl) (fun _ => Lf.run_fa (S.ev rfl) fa25_1) rfl rfl trivial ?_
            clear S; intro aa S
            obtain ⟨x66, c_9, H⟩ := H
            refine BN.load 17 S (fun _ => HS) rfl (by kernel_rfl) (by kernel_rfl) (fun _ hx => Lf.run_ld (S.ev rfl) fl9 (hx.cell _ _ (S.cl c_9))) rfl rfl trivial ?_
            clear S; intro aa S
            refine BN.pure 18 S (fun _ => HS) rfl (by kernel_rfl) (by kernel_rfl) (fun _ => Lf.run_move (S.ev rfl)) rfl rfl trivial ?_
            clear S; intro aa S
            obtain ⟨x51, c_10, H⟩ := H
            refine BN.held 2 S HS rfl (by kernel_rfl) (fun _ hq => Lf.run_ld (S.ev rfl) fl22 (c_10 _ hq)) rfl rfl trivial ?_
            clear S; intro aa S
            obtain ⟨q53, e_1, e_2, e_3, H⟩ := H
            refine BN.pure 4 S (fun _ => HS) rfl (by kernel_rfl) (by kernel_rfl) (fun _ => Lf.run_ixs (S.ev rfl) (S.ev rfl) Try.underlying22 ti3 e_1 e_2 e_3) rfl rfl trivial ?_
            clear S; intro aa S
            obtain ⟨x54, c_11, H⟩ := H
            refine BN.held 5 S HS rfl (by kernel_rfl) (fun _ hq => Lf.run_ld (S.ev rfl) fl3 (c_11 _ hq)) rfl rfl trivial ?_
            clear S; intro aa S
            obtain ⟨x56, c_12, H⟩ := H
            refine BN.held 7 S HS rfl (by kernel_rfl) (fun _ hq => Lf.run_ld (S.ev rfl) fl22 (c_12 _ hq)) rfl rfl trivial ?_
            clear S; intro aa S
            obtain ⟨q58, e_4, e_5, e_6, H⟩ := H
            refine BN.pure 9 S (fun _ => HS) rfl (by kernel_rfl) (by kernel_rfl) (fun _ => Lf.run_ixs (S.ev rfl) (S.ev rfl) Try.underlying22 ti3 e_4 e_5 e_6) rfl rfl trivial ?_
            clear S; intro aa S
            obtain ⟨x59, c_13, H⟩ := H
            refine BN.held 10 S HS rfl (by kernel_rfl) (fun _ hq => Lf.run_ld (S.ev rfl) fl3 (c_13 _ hq)) rfl rfl trivial ?_
            clear S; intro aa S
            refine BN.eff 19 rfl (by kernel_rfl) ?_
            refine ol_cal S H isfn22 rfl rfl trivial ?_
            clear S H aa; intro u_3 aa ww h7 H S
            obtain ⟨x68, rfl, H⟩ := H
            refine OL.nil ?_
            clear HS; obtain ⟨HS, H⟩ := H
            refine ⟨fun _ => by rw [S.heap]; exact HS, ?_⟩
            refine BN.eff 20 rfl (by kernel_rfl) ?_
            refine ol_cal S H isfn21 rfl rfl trivial ?_
            clear S H aa; intro u_4 aa ww h8 H S
            obtain ⟨x69, rfl, H⟩ := H
            refine OL.nil ?_
            clear HS; obtain ⟨HS, H⟩ := H
            refine ⟨fun _ => by rw [S.heap]; exact HS, ?_⟩
            refine BN.eff 21 rfl (by kernel_rfl) ?_
            refine ol_cal S H isfn20 rfl rfl trivial ?_
            clear S H aa; intro u_5 aa ww h9 H S
            refine OL.nil ?_
            refine ⟨noNeed (by kernel_rfl), ?_⟩
            refine BN.done (by kernel_rfl) ?_
            replace S := S.sub [(0, Value.pointer p0), (3, Value.int .i64 way3), (5, Value.pointer (some p5)), (6, Value.pointer (some p6)), (9, Value.int .i64 ((x41.n : Nat) : Int)), (45, Value.int .i64 ((x44.n : Nat) : Int)), (46, Value.int .i64 x46)] ⟨rfl, rfl, rfl, rfl, rfl, rfl, rfl, trivial⟩
            refine W.region ?_
            refine OL.pure S (Lf.run_add (S.ev rfl) (S.ev rfl)) rfl rfl trivial ?_
            clear S; intro aa S
            refine OL.pure S (Lf.run_move (S.ev rfl)) rfl rfl trivial ?_
            clear S; intro aa S
            refine OL.nil ?_
            exact ⟨((IntKind.i64.wrap (x46 + 1)), h9), ⟨S.sub _ ⟨rfl, rfl, rfl, rfl, rfl, rfl, rfl, trivial⟩, H.1⟩, H.2⟩
          · replace H := H.2 hb_4
            refine W.exit_ ?_
            refine xhit ?_
            refine W.seq ?_
            refine W.seq ?_
            replace S := S.sub [(0, Value.pointer p0), (3, Value.int .i64 way3), (5, Value.pointer (some p5)), (6, Value.pointer (some p6)), (9, Value.int .i64 ((x41.n : Nat) : Int))] ⟨rfl, rfl, rfl, rfl, rfl, trivial⟩
            refine W.region ?_
            refine OL.pure S (Lf.run_fa (S.ev rfl) fa25_5) rfl rfl trivial ?_
            clear S; intro aa S
            obtain ⟨x73, c_14, H⟩ := H
            refine OL.pure S (Lf.run_ld (S.ev rfl) fl23 (S.cl c_14)) rfl rfl trivial ?_
            clear S; intro aa S
            refine OL.pure S (Lf.run_lens (S.ev rfl) rfl Try.underlying23) rfl rfl trivial ?_
            clear S; intro aa S
            refine OL.pure S (Lf.run_move (S.ev rfl)) rfl rfl trivial ?_
            clear S; intro aa S
            refine OL.nil ?_
            refine W.block ?_
            obtain ⟨I_1, m_1, H, HB⟩ := H
            refine W.loopS (σ := Int × Heap) (fun s aa ww => St 123 [(0, Value.pointer p0), (3, Value.int .i64 way3), (5, Value.pointer (some p5)), (6, Value.pointer (some p6)), (9, Value.int .i64 ((x41.n : Nat) : Int)), (74, Value.int .i64 ((x73.n : Nat) : Int)), (75, Value.int .i64 s.1)] s.2 w0 aa ww ∧ I_1 s.1 s.2) (fun s => m_1 s.1 s.2) (0, h6) ⟨S.sub _ ⟨rfl, rfl, rfl, rfl, rfl, rfl, rfl, trivial⟩, H⟩ ?_
            clear H S aa
            rintro ⟨x75, h10⟩ aa ww ⟨S, HI⟩
            replace S : St 123 [(0, Value.pointer p0), (3, Value.int .i64 way3), (5, Value.pointer (some p5)), (6, Value.pointer (some p6)), (9, Value.int .i64 ((x41.n : Nat) : Int)), (74, Value.int .i64 ((x73.n : Nat) : Int)), (75, Value.int .i64 x75)] h10 w0 aa ww := S
            have H := HB x75 h10 HI
            clear HI
            refine W.seq ?_
            replace S := S.sub [(0, Value.pointer p0), (3, Value.int .i64 way3), (5, Value.pointer (some p5)), (6, Value.pointer (some p6)), (9, Value.int .i64 ((x41.n : Nat) : Int)), (74, Value.int .i64 ((x73.n : Nat) : Int)), (75, Value.int .i64 x75)] ⟨rfl, rfl, rfl, rfl, rfl, rfl, rfl, trivial⟩
            refine W.region ?_
            refine OL.pure S (Lf.run_lss (S.ev rfl) (S.ev rfl)) rfl rfl trivial ?_
            clear S; intro aa S
            refine OL.nil ?_
            refine W.seq ?_
            refine W.cond S (b := (decide (x75 < ((x73.n : Nat) : Int)))) rfl (fun hb_5 => ?_) (fun hb_5 => ?_)
            · replace H := H.1 hb_5
              refine W.skip ?_
              refine W.seq ?_
              refine W.block ?_
              refine W.seq ?_
              replace S := S.sub [(0, Value.pointer p0), (3, Value.int .i64 way3), (5, Value.pointer (some p5)), (6, Value.pointer (some p6)), (9, Value.int .i64 ((x41.n : Nat) : Int)), (74, Value.int .i64 ((x73.n : Nat) : Int)), (75, Value.int .i64 x75)] ⟨rfl, rfl, rfl, rfl, rfl, rfl, rfl, trivial⟩
              refine W.region ?_
              refine OL.pure S (Lf.run_move (S.ev rfl)) rfl rfl trivial ?_
              clear S; intro aa S
              refine OL.pure S (Lf.run_assign (S.ev rfl)) rfl rfl trivial ?_
              clear S; intro aa S
              refine OL.nil ?_
              replace S := S.sub [(0, Value.pointer p0), (3, Value.int .i64 way3), (5, Value.pointer (some p5)), (6, Value.pointer (some p6)), (9, Value.int .i64 ((x41.n : Nat) : Int)), (11, Value.int .i64 x75), (74, Value.int .i64 ((x73.n : Nat) : Int)), (75, Value.int .i64 x75)] ⟨rfl, rfl, rfl, rfl, rfl, rfl, rfl, rfl, trivial⟩
              obtain ⟨Sq_1, HS_1, H⟩ := H
              refine W.regionN [2, 5, 7, 10] [21, 22, 23] Sq_1 S (by kernel_rfl) ?_
              clear S; intro ww S
              refine BN.pure 0 S (fun _ => HS_1) rfl (by kernel_rfl) (by kernel_rfl) (fun _ => Lf.run_move (S.ev rfl)) rfl rfl trivial ?_
              clear S; intro aa S
              refine BN.pure 1 S (fun _ => HS_1) rfl (by kernel_rfl) (by kernel_rfl) (fun _ => Lf.run_fa (S.ev rfl) fa25_5) rfl rfl trivial ?_
              clear S; intro aa S
              refine BN.pure 3 S (fun _ => HS_1) rfl (by kernel_rfl) (by kernel_rfl) (fun _ => Lf.run_move (S.ev rfl)) rfl rfl trivial ?_
              clear S; intro aa S
              refine BN.pure 6 S (fun _ => HS_1) rfl (by kernel_rfl) (by kernel_rfl) (fun _ => Lf.run_fa (S.ev rfl) fa25_5) rfl rfl trivial ?_
              clear S; intro aa S
              refine BN.pure 8 S (fun _ => HS_1) rfl (by kernel_rfl) (by kernel_rfl) (fun _ => Lf.run_move (S.ev rfl)) rfl rfl trivial ?_
              clear S; intro aa S
              refine BN.pure 11 S (fun _ => HS_1) rfl (by kernel_rfl) (by kernel_rfl) (fun _ => Lf.run_move (S.ev rfl)) rfl rfl trivial ?_
              clear S; intro aa S
              refine BN.pure 12 S (fun _ => HS_1) rfl (by kernel_rfl) (by kernel_rfl) (fun _ => Lf.run_move (S.ev rfl)) rfl rfl trivial ?_
              clear S; intro aa S
              obtain ⟨p91, e_7, H⟩ := H
              refine BN.pure 13 S (fun _ => HS_1) rfl (by kernel_rfl) (by kernel_rfl) (fun _ => Lf.run_nc' (S.ev rfl) e_7) rfl rfl trivial ?_
              clear S; intro aa S
              refine BN.pure 14 S (fun _ => HS_1) rfl (by kernel_rfl) (by kernel_rfl) (fun _ => Lf.run_fa (S.ev rfl) fa49_0) rfl rfl trivial ?_
              clear S; intro aa S
              obtain ⟨x93, c_15, H⟩ := H
              refine BN.load 15 S (fun _ => HS_1) rfl (by kernel_rfl) (by kernel_rfl) (fun _ hx => Lf.run_ld (S.ev rfl) fl33 (hx.cell _ _ (S.cl c_15))) rfl rfl trivial ?_
              clear S; intro aa S
              refine BN.pure 16 S (fun _ => HS_1) rfl (by kernel_rfl) (by kernel_rfl) (fun _ => Lf.run_fa (S.ev rfl) fa25_1) rfl rfl trivial ?_
              clear S; intro aa S
              obtain ⟨x95, c_16, H⟩ := H
              refine BN.load 17 S (fun _ => HS_1) rfl (by kernel_rfl) (by kernel_rfl) (fun _ hx => Lf.run_ld (S.ev rfl) fl9 (hx.cell _ _ (S.cl c_16))) rfl rfl trivial ?_
              clear S; intro aa S
              refine BN.pure 18 S (fun _ => HS_1) rfl (by kernel_rfl) (by kernel_rfl) (fun _ => Lf.run_move (S.ev rfl)) rfl rfl trivial ?_
              clear S; intro aa S
              refine BN.pure 19 S (fun _ => HS_1) rfl (by kernel_rfl) (by kernel_rfl) (fun _ => Lf.run_move (S.ev rfl)) rfl rfl trivial ?_
              clear S; intro aa S
              refine BN.pure 20 S (fun _ => HS_1) rfl (by kernel_rfl) (by kernel_rfl) (fun _ => Lf.run_add (S.ev rfl) (S.ev rfl)) rfl rfl trivial ?_
              clear S; intro aa S
              obtain ⟨x80, c_17, H⟩ := H
              refine BN.held 2 S HS_1 rfl (by kernel_rfl) (fun _ hq => Lf.run_ld (S.ev rfl) fl23 (c_17 _ hq)) rfl rfl trivial ?_
              clear S; intro aa S
              obtain ⟨q82, e_8, e_9, e_10, H⟩ := H
              refine BN.pure 4 S (fun _ => HS_1) rfl (by kernel_rfl) (by kernel_rfl) (fun _ => Lf.run_ixs (S.ev rfl) (S.ev rfl) Try.underlying23 ti25 e_8 e_9 e_10) rfl rfl trivial ?_
              clear S; intro aa S
              obtain ⟨y83, y83_1, y83_2, y83_3, y83_4, y83_5, c_27, c_28, c_29, c_30, c_31, c_32, H⟩ := H
              refine BN.held 5 S HS_1 rfl (by kernel_rfl) (fun _ hq => Lf.run_ldA (cs := [Value.int .i64 y83, Value.string y83_1, Value.bool y83_2, Value.int .i64 y83_3, Value.slice y83_4.a y83_4.n y83_4.c, Value.slice y83_5.a y83_5.n y83_5.c]) (S.ev rfl) ag25 ti25 (hlRow hq fun h_ hs_ => ⟨c_27 h_ hs_, c_28 h_ hs_, c_29 h_ hs_, c_30 h_ hs_, c_31 h_ hs_, c_32 h_ hs_, trivial⟩)) rfl rfl trivial ?_
              clear S; intro aa S
              obtain ⟨x85, c_19, H⟩ := H
              refine BN.held 7 S HS_1 rfl (by kernel_rfl) (fun _ hq => Lf.run_ld (S.ev rfl) fl23 (c_19 _ hq)) rfl rfl trivial ?_
              clear S; intro aa S
              obtain ⟨q87, e_11, e_12, e_13, H⟩ := H
              refine BN.pure 9 S (fun _ => HS_1) rfl (by kernel_rfl) (by kernel_rfl) (fun _ => Lf.run_ixs (S.ev rfl) (S.ev rfl) Try.underlying23 ti25 e_11 e_12 e_13) rfl rfl trivial ?_
              clear S; intro aa S
              obtain ⟨y88, y88_1, y88_2, y88_3, y88_4, y88_5, c_21, c_22, c_23, c_24, c_25, c_26, H⟩ := H
              refine BN.held 10 S HS_1 rfl (by kernel_rfl) (fun _ hq => Lf.run_ldA (cs := [Value.int .i64 y88, Value.string y88_1, Value.bool y88_2, Value.int .i64 y88_3, Value.slice y88_4.a y88_4.n y88_4.c, Value.slice y88_5.a y88_5.n y88_5.c]) (S.ev rfl) ag25 ti25 (hlRow hq fun h_ hs_ => ⟨c_21 h_ hs_, c_22 h_ hs_, c_23 h_ hs_, c_24 h_ hs_, c_25 h_ hs_, c_26 h_ hs_, trivial⟩)) rfl rfl trivial ?_
              clear S; intro aa S
              refine BN.eff 21 rfl (by kernel_rfl) ?_
              refine ol_cal S H isfn22 rfl rfl trivial ?_
              clear S H aa; intro u_6 aa ww h11 H S
              obtain ⟨x99, rfl, H⟩ := H
              refine OL.nil ?_
              clear HS_1; obtain ⟨HS_1, H⟩ := H
              refine ⟨fun _ => by rw [S.heap]; exact HS_1, ?_⟩
              refine BN.eff 22 rfl (by kernel_rfl) ?_
              refine ol_cal S H isfn21 rfl rfl trivial ?_
              clear S H aa; intro u_7 aa ww h12 H S
              obtain ⟨x100, rfl, H⟩ := H
              refine OL.nil ?_
              clear HS_1; obtain ⟨HS_1, H⟩ := H
              refine ⟨fun _ => by rw [S.heap]; exact HS_1, ?_⟩
              refine BN.eff 23 rfl (by kernel_rfl) ?_
              refine ol_cal S H isfn16 rfl rfl trivial ?_
              clear S H aa; intro u_8 aa ww h13 H S
              refine OL.nil ?_
              refine ⟨noNeed (by kernel_rfl), ?_⟩
              refine BN.done (by kernel_rfl) ?_
              replace S := S.sub [(0, Value.pointer p0), (3, Value.int .i64 way3), (5, Value.pointer (some p5)), (6, Value.pointer (some p6)), (9, Value.int .i64 ((x41.n : Nat) : Int)), (74, Value.int .i64 ((x73.n : Nat) : Int)), (75, Value.int .i64 x75)] ⟨rfl, rfl, rfl, rfl, rfl, rfl, rfl, trivial⟩
              refine W.region ?_
              refine OL.pure S (Lf.run_add (S.ev rfl) (S.ev rfl)) rfl rfl trivial ?_
              clear S; intro aa S
              refine OL.pure S (Lf.run_move (S.ev rfl)) rfl rfl trivial ?_
              clear S; intro aa S
              refine OL.nil ?_
              exact ⟨((IntKind.i64.wrap (x75 + 1)), h13), ⟨S.sub _ ⟨rfl, rfl, rfl, rfl, rfl, rfl, rfl, trivial⟩, H.1⟩, H.2⟩
            · replace H := H.2 hb_5
              refine W.exit_ ?_
              refine xhit ?_
              refine W.ret ?_
              exact Ret.none S rfl H
        · replace H := H.2 hb_3
          refine W.skip ?_
          exact ⟨way3, h2, S.sub _ ⟨rfl, rfl, rfl, rfl, trivial⟩, H⟩
  · clear H S aa
    rintro aa ww ⟨inner8, h14, S, HJ⟩
    have H := HK _ _ HJ
    clear HK HJ
    refine W.seq ?_
    replace S := S.sub [(0, Value.pointer p0), (5, Value.pointer (some p5)), (6, Value.pointer (some p6)), (8, Value.int .i64 inner8)] ⟨rfl, rfl, rfl, rfl, trivial⟩
    refine W.region ?_
    refine OL.pure S (Lf.run_fa (S.ev rfl) fa25_5) rfl rfl trivial ?_
    clear S; intro aa S
    obtain ⟨x104, c_33, H⟩ := H
    refine OL.pure S (Lf.run_ld (S.ev rfl) fl23 (S.cl c_33)) rfl rfl trivial ?_
    clear S; intro aa S
    refine OL.pure S (Lf.run_lens (S.ev rfl) rfl Try.underlying23) rfl rfl trivial ?_
    clear S; intro aa S
    refine OL.pure S (Lf.run_move (S.ev rfl)) rfl rfl trivial ?_
    clear S; intro aa S
    refine OL.nil ?_
    refine W.block ?_
    obtain ⟨I_2, m_2, H, HB_2⟩ := H
    refine W.loopS (σ := Int × Heap) (fun s aa ww => St 123 [(0, Value.pointer p0), (5, Value.pointer (some p5)), (6, Value.pointer (some p6)), (8, Value.int .i64 inner8), (105, Value.int .i64 ((x104.n : Nat) : Int)), (106, Value.int .i64 s.1)] s.2 w0 aa ww ∧ I_2 s.1 s.2) (fun s => m_2 s.1 s.2) (0, h14) ⟨S.sub _ ⟨rfl, rfl, rfl, rfl, rfl, rfl, trivial⟩, H⟩ ?_
    clear H S aa
    rintro ⟨x106, h15⟩ aa ww ⟨S, HI⟩
    replace S : St 123 [(0, Value.pointer p0), (5, Value.pointer (some p5)), (6, Value.pointer (some p6)), (8, Value.int .i64 inner8), (105, Value.int .i64 ((x104.n : Nat) : Int)), (106, Value.int .i64 x106)] h15 w0 aa ww := S
    have H := HB_2 x106 h15 HI
    clear HI
    refine W.seq ?_
    replace S := S.sub [(0, Value.pointer p0), (5, Value.pointer (some p5)), (6, Value.pointer (some p6)), (8, Value.int .i64 inner8), (105, Value.int .i64 ((x104.n : Nat) : Int)), (106, Value.int .i64 x106)] ⟨rfl, rfl, rfl, rfl, rfl, rfl, trivial⟩
    refine W.region ?_
    refine OL.pure S (Lf.run_lss (S.ev rfl) (S.ev rfl)) rfl rfl trivial ?_
    clear S; intro aa S
    refine OL.nil ?_
    refine W.seq ?_
    refine W.cond S (b := (decide (x106 < ((x104.n : Nat) : Int)))) rfl (fun hb_6 => ?_) (fun hb_6 => ?_)
    · replace H := H.1 hb_6
      refine W.skip ?_
      refine W.seq ?_
      refine W.block ?_
      refine W.seq ?_
      replace S := S.sub [(0, Value.pointer p0), (5, Value.pointer (some p5)), (6, Value.pointer (some p6)), (8, Value.int .i64 inner8), (105, Value.int .i64 ((x104.n : Nat) : Int)), (106, Value.int .i64 x106)] ⟨rfl, rfl, rfl, rfl, rfl, rfl, trivial⟩
      refine W.region ?_
      refine OL.pure S (Lf.run_move (S.ev rfl)) rfl rfl trivial ?_
      clear S; intro aa S
      refine OL.pure S (Lf.run_assign (S.ev rfl)) rfl rfl trivial ?_
      clear S; intro aa S
      refine OL.nil ?_
      replace S := S.sub [(0, Value.pointer p0), (5, Value.pointer (some p5)), (6, Value.pointer (some p6)), (8, Value.int .i64 inner8), (12, Value.int .i64 x106), (105, Value.int .i64 ((x104.n : Nat) : Int)), (106, Value.int .i64 x106)] ⟨rfl, rfl, rfl, rfl, rfl, rfl, rfl, trivial⟩
      refine W.regionD S (by kernel_rfl) ?_
      clear S; intro ww S
      refine AN.pure 0 S rfl (by kernel_rfl) (fun _ => Lf.run_move (S.ev rfl)) rfl rfl trivial ?_
      clear S; intro aa S
      refine AN.pure 1 S rfl (by kernel_rfl) (fun _ => Lf.run_fa (S.ev rfl) fa25_5) rfl rfl trivial ?_
      clear S; intro aa S
      obtain ⟨x111, c_34, H⟩ := H
      refine AN.load 2 S rfl (by kernel_rfl) (fun _ hx => Lf.run_ld (S.ev rfl) fl23 (hx.cell _ _ (S.cl c_34))) rfl rfl trivial ?_
      clear S; intro aa S
      refine AN.pure 3 S rfl (by kernel_rfl) (fun _ => Lf.run_move (S.ev rfl)) rfl rfl trivial ?_
      clear S; intro aa S
      obtain ⟨q113, e_14, e_15, e_16, H⟩ := H
      refine AN.pure 4 S rfl (by kernel_rfl) (fun _ => Lf.run_ixs (S.ev rfl) (S.ev rfl) Try.underlying23 ti25 e_14 e_15 e_16) rfl rfl trivial ?_
      clear S; intro aa S
      obtain ⟨y114, y114_1, y114_2, y114_3, y114_4, y114_5, c_44, c_45, c_46, c_47, c_48, c_49, H⟩ := H
      refine AN.load 5 S rfl (by kernel_rfl) (fun _ hx => Lf.run_ldA (cs := [Value.int .i64 y114, Value.string y114_1, Value.bool y114_2, Value.int .i64 y114_3, Value.slice y114_4.a y114_4.n y114_4.c, Value.slice y114_5.a y114_5.n y114_5.c]) (S.ev rfl) ag25 ti25 (hx.row (S.row ⟨c_44, c_45, c_46, c_47, c_48, c_49, trivial⟩))) rfl rfl trivial ?_
      clear S; intro aa S
      refine AN.pure 6 S rfl (by kernel_rfl) (fun _ => Lf.run_fa (S.ev rfl) fa25_5) rfl rfl trivial ?_
      clear S; intro aa S
      obtain ⟨x116, c_36, H⟩ := H
      refine AN.load 7 S rfl (by kernel_rfl) (fun _ hx => Lf.run_ld (S.ev rfl) fl23 (hx.cell _ _ (S.cl c_36))) rfl rfl trivial ?_
      clear S; intro aa S
      refine AN.pure 8 S rfl (by kernel_rfl) (fun _ => Lf.run_move (S.ev rfl)) rfl rfl trivial ?_
      clear S; intro aa S
      obtain ⟨q118, e_17, e_18, e_19, H⟩ := H
      refine AN.pure 9 S rfl (by kernel_rfl) (fun _ => Lf.run_ixs (S.ev rfl) (S.ev rfl) Try.underlying23 ti25 e_17 e_18 e_19) rfl rfl trivial ?_
      clear S; intro aa S
      obtain ⟨y119, y119_1, y119_2, y119_3, y119_4, y119_5, c_38, c_39, c_40, c_41, c_42, c_43, H⟩ := H
      refine AN.load 10 S rfl (by kernel_rfl) (fun _ hx => Lf.run_ldA (cs := [Value.int .i64 y119, Value.string y119_1, Value.bool y119_2, Value.int .i64 y119_3, Value.slice y119_4.a y119_4.n y119_4.c, Value.slice y119_5.a y119_5.n y119_5.c]) (S.ev rfl) ag25 ti25 (hx.row (S.row ⟨c_38, c_39, c_40, c_41, c_42, c_43, trivial⟩))) rfl rfl trivial ?_
      clear S; intro aa S
      refine AN.pure 11 S rfl (by kernel_rfl) (fun _ => Lf.run_move (S.ev rfl)) rfl rfl trivial ?_
      clear S; intro aa S
      refine AN.eff 12 rfl (by kernel_rfl) ?_
      refine ol_cal S H isfn16 rfl rfl trivial ?_
      clear S H aa; intro u_9 aa ww h16 H S
      refine OL.nil ?_
      refine AN.done (by kernel_rfl) ?_
      replace S := S.sub [(0, Value.pointer p0), (5, Value.pointer (some p5)), (6, Value.pointer (some p6)), (8, Value.int .i64 inner8), (105, Value.int .i64 ((x104.n : Nat) : Int)), (106, Value.int .i64 x106)] ⟨rfl, rfl, rfl, rfl, rfl, rfl, trivial⟩
      refine W.region ?_
      refine OL.pure S (Lf.run_add (S.ev rfl) (S.ev rfl)) rfl rfl trivial ?_
      clear S; intro aa S
      refine OL.pure S (Lf.run_move (S.ev rfl)) rfl rfl trivial ?_
      clear S; intro aa S
      refine OL.nil ?_
      exact ⟨((IntKind.i64.wrap (x106 + 1)), h16), ⟨S.sub _ ⟨rfl, rfl, rfl, rfl, rfl, rfl, trivial⟩, H.1⟩, H.2⟩
    · replace H := H.2 hb_6
      refine W.exit_ ?_
      refine xhit ?_
      exact Ret.none S rfl H

/-- chattel chattelref07.All -/
def L17 (x0 : Int) (x0_1 : ByteArray) (x0_2 : Bool) (x0_3 : Int) (x0_4 : Sv) (x0_5 : Sv) (h : Heap) (R : Value → Heap → Prop) : Prop :=
  new 25 #[Value.int .i64 x0, Value.string x0_1, Value.bool x0_2, Value.int .i64 x0_3, Value.slice x0_4.a x0_4.n x0_4.c, Value.slice x0_5.a x0_5.n x0_5.c] h fun p1 h1 =>
  newS 3 #[] 0 h1 fun s5 h2 =>
  ∃ (y6 : Int) (y6_1 : ByteArray) (y6_2 : Bool) (y6_3 : Int) (y6_4 : Sv) (y6_5 : Sv), cl h2 p1 = some (Value.int .i64 y6) ∧ cl h2 (p1.add 1) = some (Value.string y6_1) ∧ cl h2 (p1.add 2) = some (Value.bool y6_2) ∧ cl h2 (p1.add 3) = some (Value.int .i64 y6_3) ∧ cl h2 (p1.add 4) = some (Value.slice y6_4.a y6_4.n y6_4.c) ∧ cl h2 (p1.add 5) = some (Value.slice y6_5.a y6_5.n y6_5.c) ∧
  cal Try.prog 23 #[Value.agg #[Value.int .i64 y6, Value.string y6_1, Value.bool y6_2, Value.int .i64 y6_3, Value.slice y6_4.a y6_4.n y6_4.c, Value.slice y6_5.a y6_5.n y6_5.c]] h2 fun u h3 => asS u fun x7 =>
  appS 3 (Value.int .i64 0).cells 1 8 h3 s5 x7 fun s8 h4 =>
  ∃ (I : Sv → Int → Heap → Prop) (m : Sv → Int → Heap → Nat), I s8 0 h4 ∧ ∀ out3 i4 h5, I out3 i4 h5 →
  ldS h5 (p1.add 5) fun x11 =>
  ifb (decide (i4 < ((x11.n : Nat) : Int))) (
    ldS h5 (p1.add 5) fun x18 =>
    ixS x18 i4 fun q20 =>
    ∃ (y21 : Int) (y21_1 : ByteArray) (y21_2 : Bool) (y21_3 : Int) (y21_4 : Sv) (y21_5 : Sv), cl h5 (q20.add ((i4 : Int).toNat * 6)) = some (Value.int .i64 y21) ∧ cl h5 ((q20.add ((i4 : Int).toNat * 6)).add 1) = some (Value.string y21_1) ∧ cl h5 ((q20.add ((i4 : Int).toNat * 6)).add 2) = some (Value.bool y21_2) ∧ cl h5 ((q20.add ((i4 : Int).toNat * 6)).add 3) = some (Value.int .i64 y21_3) ∧ cl h5 ((q20.add ((i4 : Int).toNat * 6)).add 4) = some (Value.slice y21_4.a y21_4.n y21_4.c) ∧ cl h5 ((q20.add ((i4 : Int).toNat * 6)).add 5) = some (Value.slice y21_5.a y21_5.n y21_5.c) ∧
    cal Try.prog 17 #[Value.agg #[Value.int .i64 y21, Value.string y21_1, Value.bool y21_2, Value.int .i64 y21_3, Value.slice y21_4.a y21_4.n y21_4.c, Value.slice y21_5.a y21_5.n y21_5.c]] h5 fun u_1 h6 => asS u_1 fun x22 =>
    appS 3 (Value.int .i64 0).cells 1 8 h6 out3 x22 fun s23 h7 =>
    I s23 (IntKind.i64.wrap (i4 + 1)) h7 ∧ m s23 (IntKind.i64.wrap (i4 + 1)) h7 < m out3 i4 h5) (
    R (Value.slice out3.a out3.n out3.c) h5)

set_option maxRecDepth 100000 in

theorem F17 {x0 x0_1 x0_2 x0_3 x0_4 x0_5 h : _} {R : Value → Heap → Prop} (H : L17 x0 x0_1 x0_2 x0_3 x0_4 x0_5 h R) : CallsH Try.prog 17 #[Value.agg #[Value.int .i64 x0, Value.string x0_1, Value.bool x0_2, Value.int .i64 x0_3, Value.slice x0_4.a x0_4.n x0_4.c, Value.slice x0_5.a x0_5.n x0_5.c]] h R := by
  refine CallsH.enter (n := 25) Try.func17 rfl rfl rfl rfl ?_
  intro w0 aa ww S
  unfold L17 at H
  refine W.seq ?_
  replace S := S.sub [(0, Value.agg #[Value.int .i64 x0, Value.string x0_1, Value.bool x0_2, Value.int .i64 x0_3, Value.slice x0_4.a x0_4.n x0_4.c, Value.slice x0_5.a x0_5.n x0_5.c])] ⟨rfl, trivial⟩
  refine W.region ?_
  refine ol_box S H rfl rfl rfl trivial ?_
  clear S H aa; intro p1 aa ww h1 H S
  refine OL.pure S (Lf.run_assign (S.ev rfl)) rfl rfl trivial ?_
  clear S; intro aa S
  refine OL.nil ?_
  refine W.seq ?_
  replace S := S.sub [(1, Value.pointer (some p1))] ⟨rfl, trivial⟩
  refine W.region ?_
  refine ol_newS0 S H Try.underlying22 ti3 rfl rfl trivial ?_
  clear S H aa; intro s5 aa ww h2 H S
  obtain ⟨y6, y6_1, y6_2, y6_3, y6_4, y6_5, c_10, c_11, c_12, c_13, c_14, c_15, H⟩ := H
  refine OL.pure S (Lf.run_ldA (cs := [Value.int .i64 y6, Value.string y6_1, Value.bool y6_2, Value.int .i64 y6_3, Value.slice y6_4.a y6_4.n y6_4.c, Value.slice y6_5.a y6_5.n y6_5.c]) (S.ev rfl) ag25 ti25 (by rw [S.heap]; exact RowL.toRow ⟨c_10, c_11, c_12, c_13, c_14, c_15, trivial⟩)) rfl rfl trivial ?_
  clear S; intro aa S
  refine ol_cal S H isfn23 rfl rfl trivial ?_
  clear S H aa; intro u aa ww h3 H S
  obtain ⟨x7, rfl, H⟩ := H
  refine ol_appS S H Try.underlying22 ti3 rfl rfl rfl trivial ?_
  clear S H aa; intro s8 aa ww h4 H S
  refine OL.pure S (Lf.run_assign (S.ev rfl)) rfl rfl trivial ?_
  clear S; intro aa S
  refine OL.nil ?_
  refine W.seq ?_
  refine W.seq ?_
  replace S := S.sub [(1, Value.pointer (some p1)), (3, Value.slice s8.a s8.n s8.c)] ⟨rfl, rfl, trivial⟩
  refine W.region ?_
  refine OL.pure S (Lf.run_assign (S.ev rfl)) rfl rfl trivial ?_
  clear S; intro aa S
  refine OL.nil ?_
  refine W.block ?_
  obtain ⟨I, m, H, HB⟩ := H
  refine W.loopS (σ := Sv × Int × Heap) (fun s aa ww => St 25 [(1, Value.pointer (some p1)), (3, Value.slice s.1.a s.1.n s.1.c), (4, Value.int .i64 s.2.1)] s.2.2 w0 aa ww ∧ I s.1 s.2.1 s.2.2) (fun s => m s.1 s.2.1 s.2.2) (s8, 0, h4) ⟨S.sub _ ⟨rfl, rfl, rfl, trivial⟩, H⟩ ?_
  clear H S aa
  rintro ⟨out3, i4, h5⟩ aa ww ⟨S, HI⟩
  replace S : St 25 [(1, Value.pointer (some p1)), (3, Value.slice out3.a out3.n out3.c), (4, Value.int .i64 i4)] h5 w0 aa ww := S
  have H := HB out3 i4 h5 HI
  clear HI
  refine W.seq ?_
  refine W.seq ?_
  replace S := S.sub [(1, Value.pointer (some p1)), (3, Value.slice out3.a out3.n out3.c), (4, Value.int .i64 i4)] ⟨rfl, rfl, rfl, trivial⟩
  refine W.region ?_
  refine OL.pure S (Lf.run_move (S.ev rfl)) rfl rfl trivial ?_
  clear S; intro aa S
  refine OL.pure S (Lf.run_fa (S.ev rfl) fa25_5) rfl rfl trivial ?_
  clear S; intro aa S
  obtain ⟨x11, c_1, H⟩ := H
  refine OL.pure S (Lf.run_ld (S.ev rfl) fl23 (S.cl c_1)) rfl rfl trivial ?_
  clear S; intro aa S
  refine OL.pure S (Lf.run_lens (S.ev rfl) rfl Try.underlying23) rfl rfl trivial ?_
  clear S; intro aa S
  refine OL.pure S (Lf.run_lss (S.ev rfl) (S.ev rfl)) rfl rfl trivial ?_
  clear S; intro aa S
  refine OL.nil ?_
  refine W.cond S (b := (decide (i4 < ((x11.n : Nat) : Int)))) rfl (fun hb => ?_) (fun hb => ?_)
  · replace H := H.1 hb
    refine W.skip ?_
    refine W.seq ?_
    refine W.block ?_
    replace S := S.sub [(1, Value.pointer (some p1)), (3, Value.slice out3.a out3.n out3.c), (4, Value.int .i64 i4)] ⟨rfl, rfl, rfl, trivial⟩
    refine W.region ?_
    refine OL.pure S (Lf.run_move (S.ev rfl)) rfl rfl trivial ?_
    clear S; intro aa S
    refine OL.pure S (Lf.run_fa (S.ev rfl) fa25_5) rfl rfl trivial ?_
    clear S; intro aa S
    obtain ⟨x18, c_2, H⟩ := H
    refine OL.pure S (Lf.run_ld (S.ev rfl) fl23 (S.cl c_2)) rfl rfl trivial ?_
    clear S; intro aa S
    refine OL.pure S (Lf.run_move (S.ev rfl)) rfl rfl trivial ?_
    clear S; intro aa S
    obtain ⟨q20, e, e_1, e_2, H⟩ := H
    refine OL.pure S (Lf.run_ixs (S.ev rfl) (S.ev rfl) Try.underlying23 ti25 e e_1 e_2) rfl rfl trivial ?_
    clear S; intro aa S
    obtain ⟨y21, y21_1, y21_2, y21_3, y21_4, y21_5, c_4, c_5, c_6, c_7, c_8, c_9, H⟩ := H
    refine OL.pure S (Lf.run_ldA (cs := [Value.int .i64 y21, Value.string y21_1, Value.bool y21_2, Value.int .i64 y21_3, Value.slice y21_4.a y21_4.n y21_4.c, Value.slice y21_5.a y21_5.n y21_5.c]) (S.ev rfl) ag25 ti25 (by rw [S.heap]; exact RowL.toRow ⟨c_4, c_5, c_6, c_7, c_8, c_9, trivial⟩)) rfl rfl trivial ?_
    clear S; intro aa S
    refine ol_cal S H isfn17 rfl rfl trivial ?_
    clear S H aa; intro u_1 aa ww h6 H S
    obtain ⟨x22, rfl, H⟩ := H
    refine ol_appS S H Try.underlying22 ti3 rfl rfl rfl trivial ?_
    clear S H aa; intro s23 aa ww h7 H S
    refine OL.pure S (Lf.run_assign (S.ev rfl)) rfl rfl trivial ?_
    clear S; intro aa S
    refine OL.nil ?_
    replace S := S.sub [(1, Value.pointer (some p1)), (3, Value.slice s23.a s23.n s23.c), (4, Value.int .i64 i4)] ⟨rfl, rfl, rfl, trivial⟩
    refine W.region ?_
    refine OL.pure S (Lf.run_move (S.ev rfl)) rfl rfl trivial ?_
    clear S; intro aa S
    refine OL.pure S (Lf.run_add (S.ev rfl) (S.ev rfl)) rfl rfl trivial ?_
    clear S; intro aa S
    refine OL.pure S (Lf.run_assign (S.ev rfl)) rfl rfl trivial ?_
    clear S; intro aa S
    refine OL.nil ?_
    exact ⟨(s23, (IntKind.i64.wrap (i4 + 1)), h7), ⟨S.sub _ ⟨rfl, rfl, rfl, trivial⟩, H.1⟩, H.2⟩
  · replace H := H.2 hb
    refine W.exit_ ?_
    refine xhit ?_
    refine W.seq ?_
    replace S := S.sub [(3, Value.slice out3.a out3.n out3.c)] ⟨rfl, trivial⟩
    refine W.region ?_
    refine OL.pure S (Lf.run_move (S.ev rfl)) rfl rfl trivial ?_
    clear S; intro aa S
    refine OL.pure S (Lf.run_assign (S.ev rfl)) rfl rfl trivial ?_
    clear S; intro aa S
    refine OL.nil ?_
    refine W.ret ?_
    exact Ret.one S rfl rfl H

/-- chattel chattelref07.With -/
def L18 (x0 : Int) (x0_1 : ByteArray) (x0_2 : Bool) (x0_3 : Int) (x0_4 : Sv) (x0_5 : Sv) (l1 : Sv) (h : Heap) (R : Value → Heap → Prop) : Prop :=
  new 25 #[Value.int .i64 x0, Value.string x0_1, Value.bool x0_2, Value.int .i64 x0_3, Value.slice x0_4.a x0_4.n x0_4.c, Value.slice x0_5.a x0_5.n x0_5.c] h fun p2 h1 =>
  new 25 #[Value.int .i64 0, Value.string (⟨#[]⟩ : ByteArray), Value.bool false, Value.int .i64 0, Value.slice (⟨none, 0, 0⟩ : Sv).a (⟨none, 0, 0⟩ : Sv).n (⟨none, 0, 0⟩ : Sv).c, Value.slice (⟨none, 0, 0⟩ : Sv).a (⟨none, 0, 0⟩ : Sv).n (⟨none, 0, 0⟩ : Sv).c] h1 fun p4 h2 =>
  ldI .i64 h2 p2 fun x12 =>
  ldT h2 (p2.add 1) fun x14 =>
  ldB h2 (p2.add 2) fun x16 =>
  ldI .i64 h2 (p2.add 3) fun x18 =>
  ldS h2 (p2.add 4) fun x20 =>
  new 25 #[Value.int .i64 0, Value.string (⟨#[]⟩ : ByteArray), Value.bool false, Value.int .i64 0, Value.slice (⟨none, 0, 0⟩ : Sv).a (⟨none, 0, 0⟩ : Sv).n (⟨none, 0, 0⟩ : Sv).c, Value.slice (⟨none, 0, 0⟩ : Sv).a (⟨none, 0, 0⟩ : Sv).n (⟨none, 0, 0⟩ : Sv).c] h2 fun p6 h3 =>
  stoA h3 p6 [Value.int .i64 x12, Value.string x14, Value.bool x16, Value.int .i64 x18, Value.slice x20.a x20.n x20.c, Value.slice (⟨none, 0, 0⟩ : Sv).a (⟨none, 0, 0⟩ : Sv).n (⟨none, 0, 0⟩ : Sv).c] fun h4 =>
  ∃ (y22 : Int) (y22_1 : ByteArray) (y22_2 : Bool) (y22_3 : Int) (y22_4 : Sv) (y22_5 : Sv), cl h4 p2 = some (Value.int .i64 y22) ∧ cl h4 (p2.add 1) = some (Value.string y22_1) ∧ cl h4 (p2.add 2) = some (Value.bool y22_2) ∧ cl h4 (p2.add 3) = some (Value.int .i64 y22_3) ∧ cl h4 (p2.add 4) = some (Value.slice y22_4.a y22_4.n y22_4.c) ∧ cl h4 (p2.add 5) = some (Value.slice y22_5.a y22_5.n y22_5.c) ∧
  cal Try.prog 23 #[Value.agg #[Value.int .i64 y22, Value.string y22_1, Value.bool y22_2, Value.int .i64 y22_3, Value.slice y22_4.a y22_4.n y22_4.c, Value.slice y22_5.a y22_5.n y22_5.c]] h4 fun u h5 => asS u fun x23 =>
  ifb (decide (((l1.n : Nat) : Int) < ((x23.n : Nat) : Int))) (
    ∃ (y29 : Int) (y29_1 : ByteArray) (y29_2 : Bool) (y29_3 : Int) (y29_4 : Sv) (y29_5 : Sv), cl h5 p6 = some (Value.int .i64 y29) ∧ cl h5 (p6.add 1) = some (Value.string y29_1) ∧ cl h5 (p6.add 2) = some (Value.bool y29_2) ∧ cl h5 (p6.add 3) = some (Value.int .i64 y29_3) ∧ cl h5 (p6.add 4) = some (Value.slice y29_4.a y29_4.n y29_4.c) ∧ cl h5 (p6.add 5) = some (Value.slice y29_5.a y29_5.n y29_5.c) ∧
    stoA h5 p4 [Value.int .i64 y29, Value.string y29_1, Value.bool y29_2, Value.int .i64 y29_3, Value.slice y29_4.a y29_4.n y29_4.c, Value.slice y29_5.a y29_5.n y29_5.c] fun h6 =>
    ∃ (y : Int) (y_1 : ByteArray) (y_2 : Bool) (y_3 : Int) (y_4 : Sv) (y_5 : Sv), cl h6 p4 = some (Value.int .i64 y) ∧ cl h6 (p4.add 1) = some (Value.string y_1) ∧ cl h6 (p4.add 2) = some (Value.bool y_2) ∧ cl h6 (p4.add 3) = some (Value.int .i64 y_3) ∧ cl h6 (p4.add 4) = some (Value.slice y_4.a y_4.n y_4.c) ∧ cl h6 (p4.add 5) = some (Value.slice y_5.a y_5.n y_5.c) ∧
    R (.tuple #[Value.agg #[Value.int .i64 y, Value.string y_1, Value.bool y_2, Value.int .i64 y_3, Value.slice y_4.a y_4.n y_4.c, Value.slice y_5.a y_5.n y_5.c], Value.slice (⟨none, 0, 0⟩ : Sv).a (⟨none, 0, 0⟩ : Sv).n (⟨none, 0, 0⟩ : Sv).c]) h6) (
    ∃ J : Heap → Prop, (
      ldI .i64 h5 p2 fun x31 =>
      ifb (x31 == 5) (
        newS 3 #[] 0 h5 fun s33 h7 =>
        slS l1 1 0 ((x23.n : Nat) : Int) fun s36 =>
        appS 3 (Value.int .i64 0).cells 1 8 h7 s33 s36 fun s37 h8 =>
        sto h8 (p6.add 4) (Value.slice s37.a s37.n s37.c) fun h9 =>
        J h9) (
        ifb (((x23.n : Nat) : Int) == 1) (
          ixS l1 0 fun q42 =>
          ldI .i64 h5 q42 fun x43 =>
          sto h5 (p6.add 3) (Value.int .i64 x43) fun h10 =>
          J h10) (
          J h5))) ∧ (∀ h11, J h11 →
    slS l1 1 ((x23.n : Nat) : Int) ((l1.n : Nat) : Int) fun s47 =>
    ∃ (I : Sv → Int → Heap → Prop) (m : Sv → Int → Heap → Nat), I s47 0 h11 ∧ ∀ l1_1 i8 h12, I l1_1 i8 h12 →
    ldS h12 (p2.add 5) fun x50 =>
    ifb (decide (i8 < ((x50.n : Nat) : Int))) (
      ldS h12 (p2.add 5) fun x57 =>
      ixS x57 i8 fun q59 =>
      ∃ (y60 : Int) (y60_1 : ByteArray) (y60_2 : Bool) (y60_3 : Int) (y60_4 : Sv) (y60_5 : Sv), cl h12 (q59.add ((i8 : Int).toNat * 6)) = some (Value.int .i64 y60) ∧ cl h12 ((q59.add ((i8 : Int).toNat * 6)).add 1) = some (Value.string y60_1) ∧ cl h12 ((q59.add ((i8 : Int).toNat * 6)).add 2) = some (Value.bool y60_2) ∧ cl h12 ((q59.add ((i8 : Int).toNat * 6)).add 3) = some (Value.int .i64 y60_3) ∧ cl h12 ((q59.add ((i8 : Int).toNat * 6)).add 4) = some (Value.slice y60_4.a y60_4.n y60_4.c) ∧ cl h12 ((q59.add ((i8 : Int).toNat * 6)).add 5) = some (Value.slice y60_5.a y60_5.n y60_5.c) ∧
      cal Try.prog 18 #[Value.agg #[Value.int .i64 y60, Value.string y60_1, Value.bool y60_2, Value.int .i64 y60_3, Value.slice y60_4.a y60_4.n y60_4.c, Value.slice y60_5.a y60_5.n y60_5.c], Value.slice l1_1.a l1_1.n l1_1.c] h12 fun u_1 h13 => asTup u_1 fun r62 =>
      elt r62 0 fun u_2 => ∃ (y63 : Int) (y63_1 : ByteArray) (y63_2 : Bool) (y63_3 : Int) (y63_4 : Sv) (y63_5 : Sv), u_2 = Value.agg #[Value.int .i64 y63, Value.string y63_1, Value.bool y63_2, Value.int .i64 y63_3, Value.slice y63_4.a y63_4.n y63_4.c, Value.slice y63_5.a y63_5.n y63_5.c] ∧
      elt r62 1 fun u_3 => asS u_3 fun x64 =>
      new 25 #[Value.int .i64 0, Value.string (⟨#[]⟩ : ByteArray), Value.bool false, Value.int .i64 0, Value.slice (⟨none, 0, 0⟩ : Sv).a (⟨none, 0, 0⟩ : Sv).n (⟨none, 0, 0⟩ : Sv).c, Value.slice (⟨none, 0, 0⟩ : Sv).a (⟨none, 0, 0⟩ : Sv).n (⟨none, 0, 0⟩ : Sv).c] h13 fun p9 h14 =>
      stoA h14 p9 [Value.int .i64 y63, Value.string y63_1, Value.bool y63_2, Value.int .i64 y63_3, Value.slice y63_4.a y63_4.n y63_4.c, Value.slice y63_5.a y63_5.n y63_5.c] fun h15 =>
      ldS h15 (p6.add 5) fun x66 =>
      ∃ (y67 : Int) (y67_1 : ByteArray) (y67_2 : Bool) (y67_3 : Int) (y67_4 : Sv) (y67_5 : Sv), cl h15 p9 = some (Value.int .i64 y67) ∧ cl h15 (p9.add 1) = some (Value.string y67_1) ∧ cl h15 (p9.add 2) = some (Value.bool y67_2) ∧ cl h15 (p9.add 3) = some (Value.int .i64 y67_3) ∧ cl h15 (p9.add 4) = some (Value.slice y67_4.a y67_4.n y67_4.c) ∧ cl h15 (p9.add 5) = some (Value.slice y67_5.a y67_5.n y67_5.c) ∧
      newS 25 #[Value.int .i64 y67, Value.string y67_1, Value.bool y67_2, Value.int .i64 y67_3, Value.slice y67_4.a y67_4.n y67_4.c, Value.slice y67_5.a y67_5.n y67_5.c] 1 h15 fun s68 h16 =>
      appS 25 (Value.agg #[Value.int .i64 0, Value.string (⟨#[]⟩ : ByteArray), Value.bool false, Value.int .i64 0, Value.slice (⟨none, 0, 0⟩ : Sv).a (⟨none, 0, 0⟩ : Sv).n (⟨none, 0, 0⟩ : Sv).c, Value.slice (⟨none, 0, 0⟩ : Sv).a (⟨none, 0, 0⟩ : Sv).n (⟨none, 0, 0⟩ : Sv).c]).cells 6 88 h16 x66 s68 fun s69 h17 =>
      sto h17 (p6.add 5) (Value.slice s69.a s69.n s69.c) fun h18 =>
      I x64 (IntKind.i64.wrap (i8 + 1)) h18 ∧ m x64 (IntKind.i64.wrap (i8 + 1)) h18 < m l1_1 i8 h12) (
      ∃ (y72 : Int) (y72_1 : ByteArray) (y72_2 : Bool) (y72_3 : Int) (y72_4 : Sv) (y72_5 : Sv), cl h12 p6 = some (Value.int .i64 y72) ∧ cl h12 (p6.add 1) = some (Value.string y72_1) ∧ cl h12 (p6.add 2) = some (Value.bool y72_2) ∧ cl h12 (p6.add 3) = some (Value.int .i64 y72_3) ∧ cl h12 (p6.add 4) = some (Value.slice y72_4.a y72_4.n y72_4.c) ∧ cl h12 (p6.add 5) = some (Value.slice y72_5.a y72_5.n y72_5.c) ∧
      stoA h12 p4 [Value.int .i64 y72, Value.string y72_1, Value.bool y72_2, Value.int .i64 y72_3, Value.slice y72_4.a y72_4.n y72_4.c, Value.slice y72_5.a y72_5.n y72_5.c] fun h19 =>
      ∃ (y_6 : Int) (y_7 : ByteArray) (y_8 : Bool) (y_9 : Int) (y_10 : Sv) (y_11 : Sv), cl h19 p4 = some (Value.int .i64 y_6) ∧ cl h19 (p4.add 1) = some (Value.string y_7) ∧ cl h19 (p4.add 2) = some (Value.bool y_8) ∧ cl h19 (p4.add 3) = some (Value.int .i64 y_9) ∧ cl h19 (p4.add 4) = some (Value.slice y_10.a y_10.n y_10.c) ∧ cl h19 (p4.add 5) = some (Value.slice y_11.a y_11.n y_11.c) ∧
      R (.tuple #[Value.agg #[Value.int .i64 y_6, Value.string y_7, Value.bool y_8, Value.int .i64 y_9, Value.slice y_10.a y_10.n y_10.c, Value.slice y_11.a y_11.n y_11.c], Value.slice l1_1.a l1_1.n l1_1.c]) h19)))

set_option maxRecDepth 100000 in

theorem F18 {x0 x0_1 x0_2 x0_3 x0_4 x0_5 l1 h : _} {R : Value → Heap → Prop} (H : L18 x0 x0_1 x0_2 x0_3 x0_4 x0_5 l1 h R) : CallsH Try.prog 18 #[Value.agg #[Value.int .i64 x0, Value.string x0_1, Value.bool x0_2, Value.int .i64 x0_3, Value.slice x0_4.a x0_4.n x0_4.c, Value.slice x0_5.a x0_5.n x0_5.c], Value.slice l1.a l1.n l1.c] h R := by
  refine CallsH.enter (n := 74) Try.func18 rfl rfl rfl rfl ?_
  intro w0 aa ww S
  unfold L18 at H
  refine W.seq ?_
  replace S := S.sub [(0, Value.agg #[Value.int .i64 x0, Value.string x0_1, Value.bool x0_2, Value.int .i64 x0_3, Value.slice x0_4.a x0_4.n x0_4.c, Value.slice x0_5.a x0_5.n x0_5.c]), (1, Value.slice l1.a l1.n l1.c)] ⟨rfl, rfl, trivial⟩
  refine W.region ?_
  refine ol_box S H rfl rfl rfl trivial ?_
  clear S H aa; intro p2 aa ww h1 H S
  refine ol_alloc S H ti25 rfl rfl trivial ?_
  clear S H aa; intro p4 aa ww h2 H S
  refine OL.pure S (Lf.run_assign (S.ev rfl)) rfl rfl trivial ?_
  clear S; intro aa S
  refine OL.nil ?_
  refine W.seq ?_
  replace S := S.sub [(1, Value.slice l1.a l1.n l1.c), (2, Value.pointer (some p2)), (4, Value.pointer (some p4))] ⟨rfl, rfl, rfl, trivial⟩
  refine W.region ?_
  refine OL.pure S (Lf.run_fa (S.ev rfl) fa25_0) rfl rfl trivial ?_
  clear S; intro aa S
  obtain ⟨x12, c, H⟩ := H
  refine OL.pure S (Lf.run_ld (S.ev rfl) fl3 (S.cl c)) rfl rfl trivial ?_
  clear S; intro aa S
  refine OL.pure S (Lf.run_fa (S.ev rfl) fa25_1) rfl rfl trivial ?_
  clear S; intro aa S
  obtain ⟨x14, c_1, H⟩ := H
  refine OL.pure S (Lf.run_ld (S.ev rfl) fl9 (S.cl c_1)) rfl rfl trivial ?_
  clear S; intro aa S
  refine OL.pure S (Lf.run_fa (S.ev rfl) fa25_2) rfl rfl trivial ?_
  clear S; intro aa S
  obtain ⟨x16, c_2, H⟩ := H
  refine OL.pure S (Lf.run_ld (S.ev rfl) fl4 (S.cl c_2)) rfl rfl trivial ?_
  clear S; intro aa S
  refine OL.pure S (Lf.run_fa (S.ev rfl) fa25_3) rfl rfl trivial ?_
  clear S; intro aa S
  obtain ⟨x18, c_3, H⟩ := H
  refine OL.pure S (Lf.run_ld (S.ev rfl) fl3 (S.cl c_3)) rfl rfl trivial ?_
  clear S; intro aa S
  refine OL.pure S (Lf.run_fa (S.ev rfl) fa25_4) rfl rfl trivial ?_
  clear S; intro aa S
  obtain ⟨x20, c_4, H⟩ := H
  refine OL.pure S (Lf.run_ld (S.ev rfl) fl22 (S.cl c_4)) rfl rfl trivial ?_
  clear S; intro aa S
  refine OL.pure S (Lf.run_build (cs := #[Value.int .i64 x12, Value.string x14, Value.bool x16, Value.int .i64 x18, Value.slice x20.a x20.n x20.c, Value.slice (⟨none, 0, 0⟩ : Sv).a (⟨none, 0, 0⟩ : Sv).n (⟨none, 0, 0⟩ : Sv).c]) pl25 ti25 (parts_map S rfl) (by kernel_rfl)) rfl rfl trivial ?_
  clear S; intro aa S
  refine ol_alloc S H ti25 rfl rfl trivial ?_
  clear S H aa; intro p6 aa ww h3 H S
  refine ol_stoA S H rfl rfl ti25 trivial ?_
  clear S H aa; intro aa ww h4 H S
  refine OL.nil ?_
  refine W.seq ?_
  replace S := S.sub [(1, Value.slice l1.a l1.n l1.c), (2, Value.pointer (some p2)), (4, Value.pointer (some p4)), (6, Value.pointer (some p6))] ⟨rfl, rfl, rfl, rfl, trivial⟩
  refine W.region ?_
  obtain ⟨y22, y22_1, y22_2, y22_3, y22_4, y22_5, c_59, c_60, c_61, c_62, c_63, c_64, H⟩ := H
  refine OL.pure S (Lf.run_ldA (cs := [Value.int .i64 y22, Value.string y22_1, Value.bool y22_2, Value.int .i64 y22_3, Value.slice y22_4.a y22_4.n y22_4.c, Value.slice y22_5.a y22_5.n y22_5.c]) (S.ev rfl) ag25 ti25 (by rw [S.heap]; exact RowL.toRow ⟨c_59, c_60, c_61, c_62, c_63, c_64, trivial⟩)) rfl rfl trivial ?_
  clear S; intro aa S
  refine ol_cal S H isfn23 rfl rfl trivial ?_
  clear S H aa; intro u aa ww h5 H S
  obtain ⟨x23, rfl, H⟩ := H
  refine OL.pure S (Lf.run_lens (S.ev rfl) rfl Try.underlying22) rfl rfl trivial ?_
  clear S; intro aa S
  refine OL.pure S (Lf.run_assign (S.ev rfl)) rfl rfl trivial ?_
  clear S; intro aa S
  refine OL.nil ?_
  refine W.seq ?_
  refine W.seq ?_
  replace S := S.sub [(1, Value.slice l1.a l1.n l1.c), (2, Value.pointer (some p2)), (4, Value.pointer (some p4)), (6, Value.pointer (some p6)), (7, Value.int .i64 ((x23.n : Nat) : Int))] ⟨rfl, rfl, rfl, rfl, rfl, trivial⟩
  refine W.region ?_
  refine OL.pure S (Lf.run_move (S.ev rfl)) rfl rfl trivial ?_
  clear S; intro aa S
  refine OL.pure S (Lf.run_move (S.ev rfl)) rfl rfl trivial ?_
  clear S; intro aa S
  refine OL.pure S (Lf.run_lens (S.ev rfl) rfl Try.underlying22) rfl rfl trivial ?_
  clear S; intro aa S
  refine OL.pure S (Lf.run_gtr (S.ev rfl) (S.ev rfl)) rfl rfl trivial ?_
  clear S; intro aa S
  refine OL.nil ?_
  refine W.cond S (b := (decide (((l1.n : Nat) : Int) < ((x23.n : Nat) : Int)))) rfl (fun hb => ?_) (fun hb => ?_)
  · replace H := H.1 hb
    refine W.seq ?_
    replace S := S.sub [(4, Value.pointer (some p4)), (6, Value.pointer (some p6))] ⟨rfl, rfl, trivial⟩
    refine W.region ?_
    obtain ⟨y29, y29_1, y29_2, y29_3, y29_4, y29_5, c_13, c_14, c_15, c_16, c_17, c_18, H⟩ := H
    refine OL.pure S (Lf.run_ldA (cs := [Value.int .i64 y29, Value.string y29_1, Value.bool y29_2, Value.int .i64 y29_3, Value.slice y29_4.a y29_4.n y29_4.c, Value.slice y29_5.a y29_5.n y29_5.c]) (S.ev rfl) ag25 ti25 (by rw [S.heap]; exact RowL.toRow ⟨c_13, c_14, c_15, c_16, c_17, c_18, trivial⟩)) rfl rfl trivial ?_
    clear S; intro aa S
    refine ol_stoA S H rfl rfl ti25 trivial ?_
    clear S H aa; intro aa ww h6 H S
    refine OL.pure S (Lf.run_assign (S.ev rfl)) rfl rfl trivial ?_
    clear S; intro aa S
    refine OL.nil ?_
    refine W.ret ?_
    obtain ⟨y, y_1, y_2, y_3, y_4, y_5, c_7, c_8, c_9, c_10, c_11, c_12, H⟩ := H
    exact Ret.gen S rfl (RV.cellA (cs := [Value.int .i64 y, Value.string y_1, Value.bool y_2, Value.int .i64 y_3, Value.slice y_4.a y_4.n y_4.c, Value.slice y_5.a y_5.n y_5.c]) rfl ag25 ti25 ⟨c_7, c_8, c_9, c_10, c_11, c_12, trivial⟩ (RV.tmp rfl RV.nil)) rfl H
  · replace H := H.2 hb
    refine W.skip ?_
    obtain ⟨J, H, HK⟩ := H
    refine W.seqJ (fun aa ww => ∃ h11, St 74 [(1, Value.slice l1.a l1.n l1.c), (2, Value.pointer (some p2)), (4, Value.pointer (some p4)), (6, Value.pointer (some p6)), (7, Value.int .i64 ((x23.n : Nat) : Int))] h11 w0 aa ww ∧ J h11) ?_ ?_
    · clear HK
      refine W.seq ?_
      replace S := S.sub [(1, Value.slice l1.a l1.n l1.c), (2, Value.pointer (some p2)), (4, Value.pointer (some p4)), (6, Value.pointer (some p6)), (7, Value.int .i64 ((x23.n : Nat) : Int))] ⟨rfl, rfl, rfl, rfl, rfl, trivial⟩
      refine W.region ?_
      refine OL.pure S (Lf.run_fa (S.ev rfl) fa25_0) rfl rfl trivial ?_
      clear S; intro aa S
      obtain ⟨x31, c_19, H⟩ := H
      refine OL.pure S (Lf.run_ld (S.ev rfl) fl3 (S.cl c_19)) rfl rfl trivial ?_
      clear S; intro aa S
      refine OL.pure S (Lf.run_eql (S.ev rfl) (S.ev rfl)) rfl rfl trivial ?_
      clear S; intro aa S
      refine OL.nil ?_
      refine W.cond S (b := (x31 == 5)) rfl (fun hb_1 => ?_) (fun hb_1 => ?_)
      · replace H := H.1 hb_1
        replace S := S.sub [(1, Value.slice l1.a l1.n l1.c), (2, Value.pointer (some p2)), (4, Value.pointer (some p4)), (6, Value.pointer (some p6)), (7, Value.int .i64 ((x23.n : Nat) : Int))] ⟨rfl, rfl, rfl, rfl, rfl, trivial⟩
        refine W.region ?_
        refine ol_newS0 S H Try.underlying22 ti3 rfl rfl trivial ?_
        clear S H aa; intro s33 aa ww h7 H S
        refine OL.pure S (Lf.run_move (S.ev rfl)) rfl rfl trivial ?_
        clear S; intro aa S
        refine OL.pure S (Lf.run_move (S.ev rfl)) rfl rfl trivial ?_
        clear S; intro aa S
        obtain ⟨s36, c_20, c_21, c_22, c_23, H⟩ := slS_ex H
        refine OL.pure S (Lf.run_slNS Try.underlying22 ti3 (S.ev rfl) (S.ev rfl) c_21 c_22 c_23) rfl rfl trivial ?_
        clear S; intro aa S
        refine ol_appS S H Try.underlying22 ti3 rfl rfl rfl trivial ?_
        clear S H aa; intro s37 aa ww h8 H S
        refine OL.pure S (Lf.run_fa (S.ev rfl) fa25_4) rfl rfl trivial ?_
        clear S; intro aa S
        refine ol_sto S H rfl rfl rfl ti22 trivial ?_
        clear S H aa; intro aa ww h9 H S
        refine OL.nil ?_
        exact ⟨h9, S.sub _ ⟨rfl, rfl, rfl, rfl, rfl, trivial⟩, H⟩
      · replace H := H.2 hb_1
        refine W.seq ?_
        replace S := S.sub [(1, Value.slice l1.a l1.n l1.c), (2, Value.pointer (some p2)), (4, Value.pointer (some p4)), (6, Value.pointer (some p6)), (7, Value.int .i64 ((x23.n : Nat) : Int))] ⟨rfl, rfl, rfl, rfl, rfl, trivial⟩
        refine W.region ?_
        refine OL.pure S (Lf.run_move (S.ev rfl)) rfl rfl trivial ?_
        clear S; intro aa S
        refine OL.pure S (Lf.run_eql (S.ev rfl) (S.ev rfl)) rfl rfl trivial ?_
        clear S; intro aa S
        refine OL.nil ?_
        refine W.cond S (b := (((x23.n : Nat) : Int) == 1)) rfl (fun hb_2 => ?_) (fun hb_2 => ?_)
        · replace H := H.1 hb_2
          replace S := S.sub [(1, Value.slice l1.a l1.n l1.c), (2, Value.pointer (some p2)), (4, Value.pointer (some p4)), (6, Value.pointer (some p6)), (7, Value.int .i64 ((x23.n : Nat) : Int))] ⟨rfl, rfl, rfl, rfl, rfl, trivial⟩
          refine W.region ?_
          refine OL.pure S (Lf.run_move (S.ev rfl)) rfl rfl trivial ?_
          clear S; intro aa S
          obtain ⟨q42, e, e_1, e_2, H⟩ := H
          refine OL.pure S (Lf.run_ixs (S.ev rfl) (S.ev rfl) Try.underlying22 ti3 e e_1 e_2) rfl rfl trivial ?_
          clear S; intro aa S
          obtain ⟨x43, c_24, H⟩ := H
          refine OL.pure S (Lf.run_ld (S.ev rfl) fl3 (S.cl c_24)) rfl rfl trivial ?_
          clear S; intro aa S
          refine OL.pure S (Lf.run_fa (S.ev rfl) fa25_3) rfl rfl trivial ?_
          clear S; intro aa S
          refine ol_sto S H rfl rfl rfl ti3 trivial ?_
          clear S H aa; intro aa ww h10 H S
          refine OL.nil ?_
          exact ⟨h10, S.sub _ ⟨rfl, rfl, rfl, rfl, rfl, trivial⟩, H⟩
        · replace H := H.2 hb_2
          refine W.skip ?_
          exact ⟨h5, S.sub _ ⟨rfl, rfl, rfl, rfl, rfl, trivial⟩, H⟩
    · clear H S aa
      rintro aa ww ⟨h11, S, HJ⟩
      have H := HK _ HJ
      clear HK HJ
      refine W.seq ?_
      replace S := S.sub [(1, Value.slice l1.a l1.n l1.c), (2, Value.pointer (some p2)), (4, Value.pointer (some p4)), (6, Value.pointer (some p6)), (7, Value.int .i64 ((x23.n : Nat) : Int))] ⟨rfl, rfl, rfl, rfl, rfl, trivial⟩
      refine W.region ?_
      refine OL.pure S (Lf.run_move (S.ev rfl)) rfl rfl trivial ?_
      clear S; intro aa S
      refine OL.pure S (Lf.run_move (S.ev rfl)) rfl rfl trivial ?_
      clear S; intro aa S
      obtain ⟨s47, c_25, c_26, c_27, c_28, H⟩ := slS_ex H
      refine OL.pure S (Lf.run_slSN Try.underlying22 ti3 (S.ev rfl) (S.ev rfl) c_25 c_26 c_27 c_28) rfl rfl trivial ?_
      clear S; intro aa S
      refine OL.pure S (Lf.run_assign (S.ev rfl)) rfl rfl trivial ?_
      clear S; intro aa S
      refine OL.nil ?_
      refine W.seq ?_
      refine W.seq ?_
      replace S := S.sub [(1, Value.slice s47.a s47.n s47.c), (2, Value.pointer (some p2)), (4, Value.pointer (some p4)), (6, Value.pointer (some p6))] ⟨rfl, rfl, rfl, rfl, trivial⟩
      refine W.region ?_
      refine OL.pure S (Lf.run_assign (S.ev rfl)) rfl rfl trivial ?_
      clear S; intro aa S
      refine OL.nil ?_
      refine W.block ?_
      obtain ⟨I, m, H, HB⟩ := H
      refine W.loopS (σ := Sv × Int × Heap) (fun s aa ww => St 74 [(1, Value.slice s.1.a s.1.n s.1.c), (2, Value.pointer (some p2)), (4, Value.pointer (some p4)), (6, Value.pointer (some p6)), (8, Value.int .i64 s.2.1)] s.2.2 w0 aa ww ∧ I s.1 s.2.1 s.2.2) (fun s => m s.1 s.2.1 s.2.2) (s47, 0, h11) ⟨S.sub _ ⟨rfl, rfl, rfl, rfl, rfl, trivial⟩, H⟩ ?_
      clear H S aa
      rintro ⟨l1_1, i8, h12⟩ aa ww ⟨S, HI⟩
      replace S : St 74 [(1, Value.slice l1_1.a l1_1.n l1_1.c), (2, Value.pointer (some p2)), (4, Value.pointer (some p4)), (6, Value.pointer (some p6)), (8, Value.int .i64 i8)] h12 w0 aa ww := S
      have H := HB l1_1 i8 h12 HI
      clear HI
      refine W.seq ?_
      refine W.seq ?_
      replace S := S.sub [(1, Value.slice l1_1.a l1_1.n l1_1.c), (2, Value.pointer (some p2)), (4, Value.pointer (some p4)), (6, Value.pointer (some p6)), (8, Value.int .i64 i8)] ⟨rfl, rfl, rfl, rfl, rfl, trivial⟩
      refine W.region ?_
      refine OL.pure S (Lf.run_move (S.ev rfl)) rfl rfl trivial ?_
      clear S; intro aa S
      refine OL.pure S (Lf.run_fa (S.ev rfl) fa25_5) rfl rfl trivial ?_
      clear S; intro aa S
      obtain ⟨x50, c_29, H⟩ := H
      refine OL.pure S (Lf.run_ld (S.ev rfl) fl23 (S.cl c_29)) rfl rfl trivial ?_
      clear S; intro aa S
      refine OL.pure S (Lf.run_lens (S.ev rfl) rfl Try.underlying23) rfl rfl trivial ?_
      clear S; intro aa S
      refine OL.pure S (Lf.run_lss (S.ev rfl) (S.ev rfl)) rfl rfl trivial ?_
      clear S; intro aa S
      refine OL.nil ?_
      refine W.cond S (b := (decide (i8 < ((x50.n : Nat) : Int)))) rfl (fun hb_3 => ?_) (fun hb_3 => ?_)
      · replace H := H.1 hb_3
        refine W.skip ?_
        refine W.seq ?_
        refine W.block ?_
        refine W.seq ?_
        replace S := S.sub [(1, Value.slice l1_1.a l1_1.n l1_1.c), (2, Value.pointer (some p2)), (4, Value.pointer (some p4)), (6, Value.pointer (some p6)), (8, Value.int .i64 i8)] ⟨rfl, rfl, rfl, rfl, rfl, trivial⟩
        refine W.region ?_
        refine OL.pure S (Lf.run_fa (S.ev rfl) fa25_5) rfl rfl trivial ?_
        clear S; intro aa S
        obtain ⟨x57, c_30, H⟩ := H
        refine OL.pure S (Lf.run_ld (S.ev rfl) fl23 (S.cl c_30)) rfl rfl trivial ?_
        clear S; intro aa S
        refine OL.pure S (Lf.run_move (S.ev rfl)) rfl rfl trivial ?_
        clear S; intro aa S
        obtain ⟨q59, e_3, e_4, e_5, H⟩ := H
        refine OL.pure S (Lf.run_ixs (S.ev rfl) (S.ev rfl) Try.underlying23 ti25 e_3 e_4 e_5) rfl rfl trivial ?_
        clear S; intro aa S
        obtain ⟨y60, y60_1, y60_2, y60_3, y60_4, y60_5, c_40, c_41, c_42, c_43, c_44, c_45, H⟩ := H
        refine OL.pure S (Lf.run_ldA (cs := [Value.int .i64 y60, Value.string y60_1, Value.bool y60_2, Value.int .i64 y60_3, Value.slice y60_4.a y60_4.n y60_4.c, Value.slice y60_5.a y60_5.n y60_5.c]) (S.ev rfl) ag25 ti25 (by rw [S.heap]; exact RowL.toRow ⟨c_40, c_41, c_42, c_43, c_44, c_45, trivial⟩)) rfl rfl trivial ?_
        clear S; intro aa S
        refine OL.pure S (Lf.run_move (S.ev rfl)) rfl rfl trivial ?_
        clear S; intro aa S
        refine ol_cal S H isfn18 rfl rfl trivial ?_
        clear S H aa; intro u_1 aa ww h13 H S
        obtain ⟨r62, rfl, H⟩ := H
        refine OL.pure S (Lf.run_move (S.ev rfl)) rfl rfl trivial ?_
        clear S; intro aa S
        obtain ⟨u_2, e_6, y63, y63_1, y63_2, y63_3, y63_4, y63_5, rfl, H⟩ := H
        refine OL.pure S (Lf.run_ex (S.ev rfl) e_6) rfl rfl trivial ?_
        clear S; intro aa S
        obtain ⟨u_3, e_7, x64, rfl, H⟩ := H
        refine OL.pure S (Lf.run_ex (S.ev rfl) e_7) rfl rfl trivial ?_
        clear S; intro aa S
        refine ol_alloc S H ti25 rfl rfl trivial ?_
        clear S H aa; intro p9 aa ww h14 H S
        refine ol_stoA S H rfl rfl ti25 trivial ?_
        clear S H aa; intro aa ww h15 H S
        refine OL.pure S (Lf.run_assign (S.ev rfl)) rfl rfl trivial ?_
        clear S; intro aa S
        refine OL.nil ?_
        refine W.seq ?_
        replace S := S.sub [(2, Value.pointer (some p2)), (4, Value.pointer (some p4)), (6, Value.pointer (some p6)), (8, Value.int .i64 i8), (9, Value.pointer (some p9)), (10, Value.slice x64.a x64.n x64.c)] ⟨rfl, rfl, rfl, rfl, rfl, rfl, trivial⟩
        refine W.region ?_
        refine OL.pure S (Lf.run_fa (S.ev rfl) fa25_5) rfl rfl trivial ?_
        clear S; intro aa S
        obtain ⟨x66, c_32, H⟩ := H
        refine OL.pure S (Lf.run_ld (S.ev rfl) fl23 (S.cl c_32)) rfl rfl trivial ?_
        clear S; intro aa S
        obtain ⟨y67, y67_1, y67_2, y67_3, y67_4, y67_5, c_34, c_35, c_36, c_37, c_38, c_39, H⟩ := H
        refine OL.pure S (Lf.run_ldA (cs := [Value.int .i64 y67, Value.string y67_1, Value.bool y67_2, Value.int .i64 y67_3, Value.slice y67_4.a y67_4.n y67_4.c, Value.slice y67_5.a y67_5.n y67_5.c]) (S.ev rfl) ag25 ti25 (by rw [S.heap]; exact RowL.toRow ⟨c_34, c_35, c_36, c_37, c_38, c_39, trivial⟩)) rfl rfl trivial ?_
        clear S; intro aa S
        refine ol_newS S H Try.underlying23 ti25 (by decide) (parts_map S rfl) (by kernel_rfl) (by decide) rfl trivial ?_
        clear S H aa; intro s68 aa ww h16 H S
        refine ol_appS S H Try.underlying23 ti25 rfl rfl rfl trivial ?_
        clear S H aa; intro s69 aa ww h17 H S
        refine OL.pure S (Lf.run_fa (S.ev rfl) fa25_5) rfl rfl trivial ?_
        clear S; intro aa S
        refine ol_sto S H rfl rfl rfl ti23 trivial ?_
        clear S H aa; intro aa ww h18 H S
        refine OL.nil ?_
        replace S := S.sub [(2, Value.pointer (some p2)), (4, Value.pointer (some p4)), (6, Value.pointer (some p6)), (8, Value.int .i64 i8), (10, Value.slice x64.a x64.n x64.c)] ⟨rfl, rfl, rfl, rfl, rfl, trivial⟩
        refine W.region ?_
        refine OL.pure S (Lf.run_move (S.ev rfl)) rfl rfl trivial ?_
        clear S; intro aa S
        refine OL.pure S (Lf.run_assign (S.ev rfl)) rfl rfl trivial ?_
        clear S; intro aa S
        refine OL.nil ?_
        replace S := S.sub [(1, Value.slice x64.a x64.n x64.c), (2, Value.pointer (some p2)), (4, Value.pointer (some p4)), (6, Value.pointer (some p6)), (8, Value.int .i64 i8)] ⟨rfl, rfl, rfl, rfl, rfl, trivial⟩
        refine W.region ?_
        refine OL.pure S (Lf.run_move (S.ev rfl)) rfl rfl trivial ?_
        clear S; intro aa S
        refine OL.pure S (Lf.run_add (S.ev rfl) (S.ev rfl)) rfl rfl trivial ?_
        clear S; intro aa S
        refine OL.pure S (Lf.run_assign (S.ev rfl)) rfl rfl trivial ?_
        clear S; intro aa S
        refine OL.nil ?_
        exact ⟨(x64, (IntKind.i64.wrap (i8 + 1)), h18), ⟨S.sub _ ⟨rfl, rfl, rfl, rfl, rfl, trivial⟩, H.1⟩, H.2⟩
      · replace H := H.2 hb_3
        refine W.exit_ ?_
        refine xhit ?_
        refine W.seq ?_
        replace S := S.sub [(1, Value.slice l1_1.a l1_1.n l1_1.c), (4, Value.pointer (some p4)), (6, Value.pointer (some p6))] ⟨rfl, rfl, rfl, trivial⟩
        refine W.region ?_
        obtain ⟨y72, y72_1, y72_2, y72_3, y72_4, y72_5, c_53, c_54, c_55, c_56, c_57, c_58, H⟩ := H
        refine OL.pure S (Lf.run_ldA (cs := [Value.int .i64 y72, Value.string y72_1, Value.bool y72_2, Value.int .i64 y72_3, Value.slice y72_4.a y72_4.n y72_4.c, Value.slice y72_5.a y72_5.n y72_5.c]) (S.ev rfl) ag25 ti25 (by rw [S.heap]; exact RowL.toRow ⟨c_53, c_54, c_55, c_56, c_57, c_58, trivial⟩)) rfl rfl trivial ?_
        clear S; intro aa S
        refine OL.pure S (Lf.run_move (S.ev rfl)) rfl rfl trivial ?_
        clear S; intro aa S
        refine ol_stoA S H rfl rfl ti25 trivial ?_
        clear S H aa; intro aa ww h19 H S
        refine OL.pure S (Lf.run_assign (S.ev rfl)) rfl rfl trivial ?_
        clear S; intro aa S
        refine OL.nil ?_
        refine W.ret ?_
        obtain ⟨y_6, y_7, y_8, y_9, y_10, y_11, c_47, c_48, c_49, c_50, c_51, c_52, H⟩ := H
        exact Ret.gen S rfl (RV.cellA (cs := [Value.int .i64 y_6, Value.string y_7, Value.bool y_8, Value.int .i64 y_9, Value.slice y_10.a y_10.n y_10.c, Value.slice y_11.a y_11.n y_11.c]) rfl ag25 ti25 ⟨c_47, c_48, c_49, c_50, c_51, c_52, trivial⟩ (RV.tmp rfl RV.nil)) rfl H

/-- slices.EqualFunc[[]chattel api.Type,[]chattel api.Type,chattel api.Type,chattel api.Type] -/
def L19 (s10 : Sv) (s21 : Sv) (eq2 : Value) (h : Heap) (R : Value → Heap → Prop) : Prop :=
  ifb (((s10.n : Nat) : Int) != ((s21.n : Nat) : Int)) (
    R (Value.bool false) h) (
    ∃ (I : Int → Heap → Prop) (m : Int → Heap → Nat), I 0 h ∧ ∀ x17 h1, I x17 h1 →
    ifb (decide (x17 < ((s10.n : Nat) : Int))) (
      ixS s10 x17 fun q20 =>
      ∃ (y21 : Int) (y21_1 : ByteArray) (y21_2 : Bool) (y21_3 : Int) (y21_4 : Sv) (y21_5 : Sv), cl h1 (q20.add ((x17 : Int).toNat * 6)) = some (Value.int .i64 y21) ∧ cl h1 ((q20.add ((x17 : Int).toNat * 6)).add 1) = some (Value.string y21_1) ∧ cl h1 ((q20.add ((x17 : Int).toNat * 6)).add 2) = some (Value.bool y21_2) ∧ cl h1 ((q20.add ((x17 : Int).toNat * 6)).add 3) = some (Value.int .i64 y21_3) ∧ cl h1 ((q20.add ((x17 : Int).toNat * 6)).add 4) = some (Value.slice y21_4.a y21_4.n y21_4.c) ∧ cl h1 ((q20.add ((x17 : Int).toNat * 6)).add 5) = some (Value.slice y21_5.a y21_5.n y21_5.c) ∧
      new 25 #[Value.int .i64 0, Value.string (⟨#[]⟩ : ByteArray), Value.bool false, Value.int .i64 0, Value.slice (⟨none, 0, 0⟩ : Sv).a (⟨none, 0, 0⟩ : Sv).n (⟨none, 0, 0⟩ : Sv).c, Value.slice (⟨none, 0, 0⟩ : Sv).a (⟨none, 0, 0⟩ : Sv).n (⟨none, 0, 0⟩ : Sv).c] h1 fun p8 h2 =>
      stoA h2 p8 [Value.int .i64 y21, Value.string y21_1, Value.bool y21_2, Value.int .i64 y21_3, Value.slice y21_4.a y21_4.n y21_4.c, Value.slice y21_5.a y21_5.n y21_5.c] fun h3 =>
      ixS s21 x17 fun q24 =>
      ∃ (y25 : Int) (y25_1 : ByteArray) (y25_2 : Bool) (y25_3 : Int) (y25_4 : Sv) (y25_5 : Sv), cl h3 (q24.add ((x17 : Int).toNat * 6)) = some (Value.int .i64 y25) ∧ cl h3 ((q24.add ((x17 : Int).toNat * 6)).add 1) = some (Value.string y25_1) ∧ cl h3 ((q24.add ((x17 : Int).toNat * 6)).add 2) = some (Value.bool y25_2) ∧ cl h3 ((q24.add ((x17 : Int).toNat * 6)).add 3) = some (Value.int .i64 y25_3) ∧ cl h3 ((q24.add ((x17 : Int).toNat * 6)).add 4) = some (Value.slice y25_4.a y25_4.n y25_4.c) ∧ cl h3 ((q24.add ((x17 : Int).toNat * 6)).add 5) = some (Value.slice y25_5.a y25_5.n y25_5.c) ∧
      new 25 #[Value.int .i64 0, Value.string (⟨#[]⟩ : ByteArray), Value.bool false, Value.int .i64 0, Value.slice (⟨none, 0, 0⟩ : Sv).a (⟨none, 0, 0⟩ : Sv).n (⟨none, 0, 0⟩ : Sv).c, Value.slice (⟨none, 0, 0⟩ : Sv).a (⟨none, 0, 0⟩ : Sv).n (⟨none, 0, 0⟩ : Sv).c] h3 fun p9 h4 =>
      stoA h4 p9 [Value.int .i64 y25, Value.string y25_1, Value.bool y25_2, Value.int .i64 y25_3, Value.slice y25_4.a y25_4.n y25_4.c, Value.slice y25_5.a y25_5.n y25_5.c] fun h5 =>
      ∃ (y27 : Int) (y27_1 : ByteArray) (y27_2 : Bool) (y27_3 : Int) (y27_4 : Sv) (y27_5 : Sv), cl h5 p8 = some (Value.int .i64 y27) ∧ cl h5 (p8.add 1) = some (Value.string y27_1) ∧ cl h5 (p8.add 2) = some (Value.bool y27_2) ∧ cl h5 (p8.add 3) = some (Value.int .i64 y27_3) ∧ cl h5 (p8.add 4) = some (Value.slice y27_4.a y27_4.n y27_4.c) ∧ cl h5 (p8.add 5) = some (Value.slice y27_5.a y27_5.n y27_5.c) ∧
      ∃ (y28 : Int) (y28_1 : ByteArray) (y28_2 : Bool) (y28_3 : Int) (y28_4 : Sv) (y28_5 : Sv), cl h5 p9 = some (Value.int .i64 y28) ∧ cl h5 (p9.add 1) = some (Value.string y28_1) ∧ cl h5 (p9.add 2) = some (Value.bool y28_2) ∧ cl h5 (p9.add 3) = some (Value.int .i64 y28_3) ∧ cl h5 (p9.add 4) = some (Value.slice y28_4.a y28_4.n y28_4.c) ∧ cl h5 (p9.add 5) = some (Value.slice y28_5.a y28_5.n y28_5.c) ∧
      calV Try.prog eq2 #[Value.agg #[Value.int .i64 y27, Value.string y27_1, Value.bool y27_2, Value.int .i64 y27_3, Value.slice y27_4.a y27_4.n y27_4.c, Value.slice y27_5.a y27_5.n y27_5.c], Value.agg #[Value.int .i64 y28, Value.string y28_1, Value.bool y28_2, Value.int .i64 y28_3, Value.slice y28_4.a y28_4.n y28_4.c, Value.slice y28_5.a y28_5.n y28_5.c]] h5 fun u h6 => asB u fun x29 =>
      ifb (!x29) (
        R (Value.bool false) h6) (
        I (IntKind.i64.wrap (x17 + 1)) h6 ∧ m (IntKind.i64.wrap (x17 + 1)) h6 < m x17 h1)) (
      R (Value.bool true) h1))

set_option maxRecDepth 100000 in

theorem F19 {s10 s21 eq2 h : _} {R : Value → Heap → Prop} (H : L19 s10 s21 eq2 h R) : CallsH Try.prog 19 #[Value.slice s10.a s10.n s10.c, Value.slice s21.a s21.n s21.c, eq2] h R := by
  refine CallsH.enter (n := 32) Try.func19 rfl rfl rfl rfl ?_
  intro w0 aa ww S
  unfold L19 at H
  refine W.seq ?_
  replace S := S.sub [(0, Value.slice s10.a s10.n s10.c), (1, Value.slice s21.a s21.n s21.c), (2, eq2)] ⟨rfl, rfl, rfl, trivial⟩
  refine W.region ?_
  refine OL.pure S (Lf.run_assign (S.ev rfl)) rfl rfl trivial ?_
  clear S; intro aa S
  refine OL.nil ?_
  refine W.seq ?_
  refine W.seq ?_
  replace S := S.sub [(0, Value.slice s10.a s10.n s10.c), (1, Value.slice s21.a s21.n s21.c), (2, eq2)] ⟨rfl, rfl, rfl, trivial⟩
  refine W.region ?_
  refine OL.pure S (Lf.run_move (S.ev rfl)) rfl rfl trivial ?_
  clear S; intro aa S
  refine OL.pure S (Lf.run_lens (S.ev rfl) rfl Try.underlying23) rfl rfl trivial ?_
  clear S; intro aa S
  refine OL.pure S (Lf.run_move (S.ev rfl)) rfl rfl trivial ?_
  clear S; intro aa S
  refine OL.pure S (Lf.run_lens (S.ev rfl) rfl Try.underlying23) rfl rfl trivial ?_
  clear S; intro aa S
  refine OL.pure S (Lf.run_neq (S.ev rfl) (S.ev rfl)) rfl rfl trivial ?_
  clear S; intro aa S
  refine OL.nil ?_
  refine W.cond S (b := (((s10.n : Nat) : Int) != ((s21.n : Nat) : Int))) rfl (fun hb => ?_) (fun hb => ?_)
  · replace H := H.1 hb
    refine W.seq ?_
    replace S := S.sub [] trivial
    refine W.region ?_
    refine OL.pure S (Lf.run_assign (S.ev rfl)) rfl rfl trivial ?_
    clear S; intro aa S
    refine OL.nil ?_
    refine W.ret ?_
    exact Ret.one S rfl rfl H
  · replace H := H.2 hb
    refine W.skip ?_
    refine W.seq ?_
    refine W.seq ?_
    replace S := S.sub [(0, Value.slice s10.a s10.n s10.c), (1, Value.slice s21.a s21.n s21.c), (2, eq2)] ⟨rfl, rfl, rfl, trivial⟩
    refine W.region ?_
    refine OL.pure S (Lf.run_move (S.ev rfl)) rfl rfl trivial ?_
    clear S; intro aa S
    refine OL.pure S (Lf.run_lens (S.ev rfl) rfl Try.underlying23) rfl rfl trivial ?_
    clear S; intro aa S
    refine OL.pure S (Lf.run_move (S.ev rfl)) rfl rfl trivial ?_
    clear S; intro aa S
    refine OL.nil ?_
    refine W.block ?_
    obtain ⟨I, m, H, HB⟩ := H
    refine W.loopS (σ := Int × Heap) (fun s aa ww => St 32 [(1, Value.slice s21.a s21.n s21.c), (2, eq2), (15, Value.slice s10.a s10.n s10.c), (16, Value.int .i64 ((s10.n : Nat) : Int)), (17, Value.int .i64 s.1)] s.2 w0 aa ww ∧ I s.1 s.2) (fun s => m s.1 s.2) (0, h) ⟨S.sub _ ⟨rfl, rfl, rfl, rfl, rfl, trivial⟩, H⟩ ?_
    clear H S aa
    rintro ⟨x17, h1⟩ aa ww ⟨S, HI⟩
    replace S : St 32 [(1, Value.slice s21.a s21.n s21.c), (2, eq2), (15, Value.slice s10.a s10.n s10.c), (16, Value.int .i64 ((s10.n : Nat) : Int)), (17, Value.int .i64 x17)] h1 w0 aa ww := S
    have H := HB x17 h1 HI
    clear HI
    refine W.seq ?_
    replace S := S.sub [(1, Value.slice s21.a s21.n s21.c), (2, eq2), (15, Value.slice s10.a s10.n s10.c), (16, Value.int .i64 ((s10.n : Nat) : Int)), (17, Value.int .i64 x17)] ⟨rfl, rfl, rfl, rfl, rfl, trivial⟩
    refine W.region ?_
    refine OL.pure S (Lf.run_lss (S.ev rfl) (S.ev rfl)) rfl rfl trivial ?_
    clear S; intro aa S
    refine OL.nil ?_
    refine W.seq ?_
    refine W.cond S (b := (decide (x17 < ((s10.n : Nat) : Int)))) rfl (fun hb_1 => ?_) (fun hb_1 => ?_)
    · replace H := H.1 hb_1
      refine W.skip ?_
      refine W.seq ?_
      refine W.block ?_
      refine W.seq ?_
      replace S := S.sub [(1, Value.slice s21.a s21.n s21.c), (2, eq2), (15, Value.slice s10.a s10.n s10.c), (16, Value.int .i64 ((s10.n : Nat) : Int)), (17, Value.int .i64 x17)] ⟨rfl, rfl, rfl, rfl, rfl, trivial⟩
      refine W.region ?_
      refine OL.pure S (Lf.run_move (S.ev rfl)) rfl rfl trivial ?_
      clear S; intro aa S
      obtain ⟨q20, e, e_1, e_2, H⟩ := H
      refine OL.pure S (Lf.run_ixs (S.ev rfl) (S.ev rfl) Try.underlying23 ti25 e e_1 e_2) rfl rfl trivial ?_
      clear S; intro aa S
      obtain ⟨y21, y21_1, y21_2, y21_3, y21_4, y21_5, c_22, c_23, c_24, c_25, c_26, c_27, H⟩ := H
      refine OL.pure S (Lf.run_ldA (cs := [Value.int .i64 y21, Value.string y21_1, Value.bool y21_2, Value.int .i64 y21_3, Value.slice y21_4.a y21_4.n y21_4.c, Value.slice y21_5.a y21_5.n y21_5.c]) (S.ev rfl) ag25 ti25 (by rw [S.heap]; exact RowL.toRow ⟨c_22, c_23, c_24, c_25, c_26, c_27, trivial⟩)) rfl rfl trivial ?_
      clear S; intro aa S
      refine ol_alloc S H ti25 rfl rfl trivial ?_
      clear S H aa; intro p8 aa ww h2 H S
      refine OL.pure S (Lf.run_assign (S.ev rfl)) rfl rfl trivial ?_
      clear S; intro aa S
      refine ol_stoA S H rfl rfl ti25 trivial ?_
      clear S H aa; intro aa ww h3 H S
      refine OL.nil ?_
      refine W.seq ?_
      replace S := S.sub [(1, Value.slice s21.a s21.n s21.c), (2, eq2), (7, Value.int .i64 x17), (8, Value.pointer (some p8)), (15, Value.slice s10.a s10.n s10.c), (16, Value.int .i64 ((s10.n : Nat) : Int)), (17, Value.int .i64 x17)] ⟨rfl, rfl, rfl, rfl, rfl, rfl, rfl, trivial⟩
      refine W.region ?_
      refine OL.pure S (Lf.run_move (S.ev rfl)) rfl rfl trivial ?_
      clear S; intro aa S
      refine OL.pure S (Lf.run_move (S.ev rfl)) rfl rfl trivial ?_
      clear S; intro aa S
      obtain ⟨q24, e_3, e_4, e_5, H⟩ := H
      refine OL.pure S (Lf.run_ixs (S.ev rfl) (S.ev rfl) Try.underlying23 ti25 e_3 e_4 e_5) rfl rfl trivial ?_
      clear S; intro aa S
      obtain ⟨y25, y25_1, y25_2, y25_3, y25_4, y25_5, c_16, c_17, c_18, c_19, c_20, c_21, H⟩ := H
      refine OL.pure S (Lf.run_ldA (cs := [Value.int .i64 y25, Value.string y25_1, Value.bool y25_2, Value.int .i64 y25_3, Value.slice y25_4.a y25_4.n y25_4.c, Value.slice y25_5.a y25_5.n y25_5.c]) (S.ev rfl) ag25 ti25 (by rw [S.heap]; exact RowL.toRow ⟨c_16, c_17, c_18, c_19, c_20, c_21, trivial⟩)) rfl rfl trivial ?_
      clear S; intro aa S
      refine ol_alloc S H ti25 rfl rfl trivial ?_
      clear S H aa; intro p9 aa ww h4 H S
      refine ol_stoA S H rfl rfl ti25 trivial ?_
      clear S H aa; intro aa ww h5 H S
      refine OL.nil ?_
      refine W.seq ?_
      replace S := S.sub [(1, Value.slice s21.a s21.n s21.c), (2, eq2), (8, Value.pointer (some p8)), (9, Value.pointer (some p9)), (15, Value.slice s10.a s10.n s10.c), (16, Value.int .i64 ((s10.n : Nat) : Int)), (17, Value.int .i64 x17)] ⟨rfl, rfl, rfl, rfl, rfl, rfl, rfl, trivial⟩
      refine W.region ?_
      refine OL.pure S (Lf.run_move (S.ev rfl)) rfl rfl trivial ?_
      clear S; intro aa S
      obtain ⟨y27, y27_1, y27_2, y27_3, y27_4, y27_5, c_10, c_11, c_12, c_13, c_14, c_15, H⟩ := H
      refine OL.pure S (Lf.run_ldA (cs := [Value.int .i64 y27, Value.string y27_1, Value.bool y27_2, Value.int .i64 y27_3, Value.slice y27_4.a y27_4.n y27_4.c, Value.slice y27_5.a y27_5.n y27_5.c]) (S.ev rfl) ag25 ti25 (by rw [S.heap]; exact RowL.toRow ⟨c_10, c_11, c_12, c_13, c_14, c_15, trivial⟩)) rfl rfl trivial ?_
      clear S; intro aa S
      obtain ⟨y28, y28_1, y28_2, y28_3, y28_4, y28_5, c_4, c_5, c_6, c_7, c_8, c_9, H⟩ := H
      refine OL.pure S (Lf.run_ldA (cs := [Value.int .i64 y28, Value.string y28_1, Value.bool y28_2, Value.int .i64 y28_3, Value.slice y28_4.a y28_4.n y28_4.c, Value.slice y28_5.a y28_5.n y28_5.c]) (S.ev rfl) ag25 ti25 (by rw [S.heap]; exact RowL.toRow ⟨c_4, c_5, c_6, c_7, c_8, c_9, trivial⟩)) rfl rfl trivial ?_
      clear S; intro aa S
      refine ol_calV S H rfl rfl rfl trivial ?_
      clear S H aa; intro u aa ww h6 H S
      obtain ⟨x29, rfl, H⟩ := H
      refine OL.pure S (Lf.run_not (S.ev rfl)) rfl rfl trivial ?_
      clear S; intro aa S
      refine OL.nil ?_
      refine W.cond S (b := (!x29)) rfl (fun hb_2 => ?_) (fun hb_2 => ?_)
      · replace H := H.1 hb_2
        refine W.seq ?_
        replace S := S.sub [] trivial
        refine W.region ?_
        refine OL.pure S (Lf.run_assign (S.ev rfl)) rfl rfl trivial ?_
        clear S; intro aa S
        refine OL.nil ?_
        refine W.ret ?_
        exact Ret.one S rfl rfl H
      · replace H := H.2 hb_2
        refine W.skip ?_
        replace S := S.sub [(1, Value.slice s21.a s21.n s21.c), (2, eq2), (15, Value.slice s10.a s10.n s10.c), (16, Value.int .i64 ((s10.n : Nat) : Int)), (17, Value.int .i64 x17)] ⟨rfl, rfl, rfl, rfl, rfl, trivial⟩
        refine W.region ?_
        refine OL.pure S (Lf.run_add (S.ev rfl) (S.ev rfl)) rfl rfl trivial ?_
        clear S; intro aa S
        refine OL.pure S (Lf.run_move (S.ev rfl)) rfl rfl trivial ?_
        clear S; intro aa S
        refine OL.nil ?_
        exact ⟨((IntKind.i64.wrap (x17 + 1)), h6), ⟨S.sub _ ⟨rfl, rfl, rfl, rfl, rfl, trivial⟩, H.1⟩, H.2⟩
    · replace H := H.2 hb_1
      refine W.exit_ ?_
      refine xhit ?_
      refine W.seq ?_
      replace S := S.sub [] trivial
      refine W.region ?_
      refine OL.pure S (Lf.run_assign (S.ev rfl)) rfl rfl trivial ?_
      clear S; intro aa S
      refine OL.nil ?_
      refine W.ret ?_
      exact Ret.one S rfl rfl H

/-- (*chattel sub.pairer).life -/
def L20 (p0 : Option Addr) (a1 : Int) (b2 : Int) (way3 : Int) (h : Heap) (R : Value → Heap → Prop) : Prop :=
  ∃ J : Heap → Prop, (
    ifb ((bitsI .and .i64 way3 1) != 0) (
      nn p0 fun p13 =>
      ldS h (p13.add 1) fun x15 =>
      newS 35 #[Value.int .i64 a1, Value.int .i64 b2] 1 h fun s19 h1 =>
      appS 35 (Value.agg #[Value.int .i64 0, Value.int .i64 0]).cells 2 16 h1 x15 s19 fun s20 h2 =>
      nn p0 fun p21 =>
      sto h2 (p21.add 1) (Value.slice s20.a s20.n s20.c) fun h3 =>
      J h3) (
      J h)) ∧ (∀ h4, J h4 →
  ifb ((bitsI .and .i64 way3 2) != 0) (
    nn p0 fun p28 =>
    ldS h4 (p28.add 1) fun x30 =>
    newS 35 #[Value.int .i64 b2, Value.int .i64 a1] 1 h4 fun s34 h5 =>
    appS 35 (Value.agg #[Value.int .i64 0, Value.int .i64 0]).cells 2 16 h5 x30 s34 fun s35 h6 =>
    nn p0 fun p36 =>
    sto h6 (p36.add 1) (Value.slice s35.a s35.n s35.c) fun h7 =>
    R (.tuple #[]) h7) (
    R (.tuple #[]) h4))

set_option maxRecDepth 100000 in

theorem F20 {p0 a1 b2 way3 h : _} {R : Value → Heap → Prop} (H : L20 p0 a1 b2 way3 h R) : CallsH Try.prog 20 #[Value.pointer p0, Value.int .i64 a1, Value.int .i64 b2, Value.int .i64 way3] h R := by
  refine CallsH.enter (n := 38) Try.func20 rfl rfl rfl rfl ?_
  intro w0 aa ww S
  unfold L20 at H
  obtain ⟨J, H, HK⟩ := H
  refine W.seqJ (fun aa ww => ∃ h4, St 38 [(0, Value.pointer p0), (1, Value.int .i64 a1), (2, Value.int .i64 b2), (3, Value.int .i64 way3)] h4 w0 aa ww ∧ J h4) ?_ ?_
  · clear HK
    refine W.seq ?_
    replace S := S.sub [(0, Value.pointer p0), (1, Value.int .i64 a1), (2, Value.int .i64 b2), (3, Value.int .i64 way3)] ⟨rfl, rfl, rfl, rfl, trivial⟩
    refine W.region ?_
    refine OL.pure S (Lf.run_move (S.ev rfl)) rfl rfl trivial ?_
    clear S; intro aa S
    refine OL.pure S (Lf.run_bits (op := .and) (by simp) (S.ev rfl) (S.ev rfl)) rfl rfl trivial ?_
    clear S; intro aa S
    refine OL.pure S (Lf.run_neq (S.ev rfl) (S.ev rfl)) rfl rfl trivial ?_
    clear S; intro aa S
    refine OL.nil ?_
    refine W.cond S (b := ((bitsI .and .i64 way3 1) != 0)) rfl (fun hb => ?_) (fun hb => ?_)
    · replace H := H.1 hb
      replace S := S.sub [(0, Value.pointer p0), (1, Value.int .i64 a1), (2, Value.int .i64 b2), (3, Value.int .i64 way3)] ⟨rfl, rfl, rfl, rfl, trivial⟩
      refine W.region ?_
      refine OL.pure S (Lf.run_move (S.ev rfl)) rfl rfl trivial ?_
      clear S; intro aa S
      refine OL.pure S (Lf.run_move (S.ev rfl)) rfl rfl trivial ?_
      clear S; intro aa S
      obtain ⟨p13, e, H⟩ := H
      refine OL.pure S (Lf.run_nc' (S.ev rfl) e) rfl rfl trivial ?_
      clear S; intro aa S
      refine OL.pure S (Lf.run_fa (S.ev rfl) fa49_1) rfl rfl trivial ?_
      clear S; intro aa S
      obtain ⟨x15, c, H⟩ := H
      refine OL.pure S (Lf.run_ld (S.ev rfl) fl29 (S.cl c)) rfl rfl trivial ?_
      clear S; intro aa S
      refine OL.pure S (Lf.run_move (S.ev rfl)) rfl rfl trivial ?_
      clear S; intro aa S
      refine OL.pure S (Lf.run_move (S.ev rfl)) rfl rfl trivial ?_
      clear S; intro aa S
      refine OL.pure S (Lf.run_buildArr (cs := #[Value.int .i64 a1, Value.int .i64 b2]) Try.underlying35 ti3 ti35 (parts_map S rfl) (by kernel_rfl)) rfl rfl trivial ?_
      clear S; intro aa S
      refine ol_newS S H Try.underlying29 ti35 (by decide) (parts_map S rfl) (by kernel_rfl) (by decide) rfl trivial ?_
      clear S H aa; intro s19 aa ww h1 H S
      refine ol_appS S H Try.underlying29 ti35 rfl rfl rfl trivial ?_
      clear S H aa; intro s20 aa ww h2 H S
      obtain ⟨p21, e_1, H⟩ := H
      refine OL.pure S (Lf.run_nc' (S.ev rfl) e_1) rfl rfl trivial ?_
      clear S; intro aa S
      refine OL.pure S (Lf.run_fa (S.ev rfl) fa49_1) rfl rfl trivial ?_
      clear S; intro aa S
      refine ol_sto S H rfl rfl rfl ti29 trivial ?_
      clear S H aa; intro aa ww h3 H S
      refine OL.nil ?_
      exact ⟨h3, S.sub _ ⟨rfl, rfl, rfl, rfl, trivial⟩, H⟩
    · replace H := H.2 hb
      refine W.skip ?_
      exact ⟨h, S.sub _ ⟨rfl, rfl, rfl, rfl, trivial⟩, H⟩
  · clear H S aa
    rintro aa ww ⟨h4, S, HJ⟩
    have H := HK _ HJ
    clear HK HJ
    refine W.seq ?_
    replace S := S.sub [(0, Value.pointer p0), (1, Value.int .i64 a1), (2, Value.int .i64 b2), (3, Value.int .i64 way3)] ⟨rfl, rfl, rfl, rfl, trivial⟩
    refine W.region ?_
    refine OL.pure S (Lf.run_move (S.ev rfl)) rfl rfl trivial ?_
    clear S; intro aa S
    refine OL.pure S (Lf.run_bits (op := .and) (by simp) (S.ev rfl) (S.ev rfl)) rfl rfl trivial ?_
    clear S; intro aa S
    refine OL.pure S (Lf.run_neq (S.ev rfl) (S.ev rfl)) rfl rfl trivial ?_
    clear S; intro aa S
    refine OL.nil ?_
    refine W.cond S (b := ((bitsI .and .i64 way3 2) != 0)) rfl (fun hb_1 => ?_) (fun hb_1 => ?_)
    · replace H := H.1 hb_1
      replace S := S.sub [(0, Value.pointer p0), (1, Value.int .i64 a1), (2, Value.int .i64 b2)] ⟨rfl, rfl, rfl, trivial⟩
      refine W.region ?_
      refine OL.pure S (Lf.run_move (S.ev rfl)) rfl rfl trivial ?_
      clear S; intro aa S
      refine OL.pure S (Lf.run_move (S.ev rfl)) rfl rfl trivial ?_
      clear S; intro aa S
      obtain ⟨p28, e_2, H⟩ := H
      refine OL.pure S (Lf.run_nc' (S.ev rfl) e_2) rfl rfl trivial ?_
      clear S; intro aa S
      refine OL.pure S (Lf.run_fa (S.ev rfl) fa49_1) rfl rfl trivial ?_
      clear S; intro aa S
      obtain ⟨x30, c_1, H⟩ := H
      refine OL.pure S (Lf.run_ld (S.ev rfl) fl29 (S.cl c_1)) rfl rfl trivial ?_
      clear S; intro aa S
      refine OL.pure S (Lf.run_move (S.ev rfl)) rfl rfl trivial ?_
      clear S; intro aa S
      refine OL.pure S (Lf.run_move (S.ev rfl)) rfl rfl trivial ?_
      clear S; intro aa S
      refine OL.pure S (Lf.run_buildArr (cs := #[Value.int .i64 b2, Value.int .i64 a1]) Try.underlying35 ti3 ti35 (parts_map S rfl) (by kernel_rfl)) rfl rfl trivial ?_
      clear S; intro aa S
      refine ol_newS S H Try.underlying29 ti35 (by decide) (parts_map S rfl) (by kernel_rfl) (by decide) rfl trivial ?_
      clear S H aa; intro s34 aa ww h5 H S
      refine ol_appS S H Try.underlying29 ti35 rfl rfl rfl trivial ?_
      clear S H aa; intro s35 aa ww h6 H S
      obtain ⟨p36, e_3, H⟩ := H
      refine OL.pure S (Lf.run_nc' (S.ev rfl) e_3) rfl rfl trivial ?_
      clear S; intro aa S
      refine OL.pure S (Lf.run_fa (S.ev rfl) fa49_1) rfl rfl trivial ?_
      clear S; intro aa S
      refine ol_sto S H rfl rfl rfl ti29 trivial ?_
      clear S H aa; intro aa ww h7 H S
      refine OL.nil ?_
      exact Ret.none S rfl H
    · replace H := H.2 hb_1
      refine W.skip ?_
      exact Ret.none S rfl H

/-- chattel vary.Through -/
def L21 (outer0 : Int) (inner1 : Int) (h : Heap) (R : Value → Heap → Prop) : Prop :=
  ifb ((outer0 == 0) || (inner1 == 0)) (
    R (Value.int .i64 0) h) (
    ifb (outer0 == 1) (
      R (Value.int .i64 (bitsI .and .i64 inner1 3)) h) (
      ifb ((outer0 == 3) || (inner1 == 3)) (
        R (Value.int .i64 3) h) (
        ifb (outer0 == inner1) (
          R (Value.int .i64 1) h) (
          R (Value.int .i64 2) h))))

set_option maxRecDepth 100000 in

theorem F21 {outer0 inner1 h : _} {R : Value → Heap → Prop} (H : L21 outer0 inner1 h R) : CallsH Try.prog 21 #[Value.int .i64 outer0, Value.int .i64 inner1] h R := by
  refine CallsH.enter (n := 28) Try.func21 rfl rfl rfl rfl ?_
  intro w0 aa ww S
  unfold L21 at H
  refine W.seq ?_
  replace S := S.sub [(0, Value.int .i64 outer0), (1, Value.int .i64 inner1)] ⟨rfl, rfl, trivial⟩
  refine W.region ?_
  refine OL.pure S (Lf.run_assign (S.ev rfl)) rfl rfl trivial ?_
  clear S; intro aa S
  refine OL.nil ?_
  refine W.seq ?_
  refine W.block ?_
  refine W.seq ?_
  replace S := S.sub [(0, Value.int .i64 outer0), (1, Value.int .i64 inner1)] ⟨rfl, rfl, trivial⟩
  refine W.region ?_
  refine OL.pure S (Lf.run_move (S.ev rfl)) rfl rfl trivial ?_
  clear S; intro aa S
  refine OL.pure S (Lf.run_eql (S.ev rfl) (S.ev rfl)) rfl rfl trivial ?_
  clear S; intro aa S
  refine OL.pure S (Lf.run_move (S.ev rfl)) rfl rfl trivial ?_
  clear S; intro aa S
  refine OL.cutN 3 (fun aa ww => St 28 ((11, Value.bool ((outer0 == 0) || (inner1 == 0))) :: [(0, Value.int .i64 outer0), (1, Value.int .i64 inner1), (6, Value.int .i64 outer0), (7, Value.bool (outer0 == 0)), (8, Value.bool (outer0 == 0))]) h w0 aa ww) ?_ ?_
  · rcases Bool.eq_false_or_eq_true (outer0 == 0) with hb | hb
    · refine OL.not S rfl rfl (GNo.mk rfl rfl hb) ?_
      clear S; intro aa S
      refine OL.not S rfl rfl (GNo.mk rfl rfl hb) ?_
      clear S; intro aa S
      refine OL.pure S (Lf.run_pickT (S.ev rfl) hb (S.ev rfl)) rfl rfl trivial ?_
      clear S; intro aa S
      refine OL.nil ?_
      exact (S.hd (by rw [hb, Bool.true_or])).sub _ ⟨rfl, rfl, rfl, rfl, rfl, rfl, trivial⟩
    · refine OL.pure S (Lf.run_move (S.ev rfl)) rfl rfl (GOk.mk rfl rfl hb) ?_
      clear S; intro aa S
      refine OL.pure S (Lf.run_eql (S.ev rfl) (S.ev rfl)) rfl rfl (GOk.mk rfl rfl hb) ?_
      clear S; intro aa S
      refine OL.pure S (Lf.run_pickF (S.ev rfl) hb (S.ev rfl)) rfl rfl trivial ?_
      clear S; intro aa S
      refine OL.nil ?_
      exact (S.hd (by rw [hb, Bool.false_or])).sub _ ⟨rfl, rfl, rfl, rfl, rfl, rfl, trivial⟩
  · clear S aa
    intro aa ww S
    refine OL.pure S (Lf.run_assign (S.ev rfl)) rfl rfl trivial ?_
    clear S; intro aa S
    refine OL.nil ?_
    refine W.cond S (b := ((outer0 == 0) || (inner1 == 0))) rfl (fun hb_1 => ?_) (fun hb_1 => ?_)
    · replace H := H.1 hb_1
      refine W.seq ?_
      replace S := S.sub [] trivial
      refine W.region ?_
      refine OL.pure S (Lf.run_assign (S.ev rfl)) rfl rfl trivial ?_
      clear S; intro aa S
      refine OL.nil ?_
      refine W.ret ?_
      exact Ret.one S rfl rfl H
    · replace H := H.2 hb_1
      refine W.seq ?_
      replace S := S.sub [(0, Value.int .i64 outer0), (1, Value.int .i64 inner1)] ⟨rfl, rfl, trivial⟩
      refine W.region ?_
      refine OL.pure S (Lf.run_move (S.ev rfl)) rfl rfl trivial ?_
      clear S; intro aa S
      refine OL.pure S (Lf.run_eql (S.ev rfl) (S.ev rfl)) rfl rfl trivial ?_
      clear S; intro aa S
      refine OL.pure S (Lf.run_assign (S.ev rfl)) rfl rfl trivial ?_
      clear S; intro aa S
      refine OL.nil ?_
      refine W.cond S (b := (outer0 == 1)) rfl (fun hb_2 => ?_) (fun hb_2 => ?_)
      · replace H := H.1 hb_2
        refine W.seq ?_
        replace S := S.sub [(1, Value.int .i64 inner1)] ⟨rfl, trivial⟩
        refine W.region ?_
        refine OL.pure S (Lf.run_move (S.ev rfl)) rfl rfl trivial ?_
        clear S; intro aa S
        refine OL.pure S (Lf.run_bits (op := .and) (by simp) (S.ev rfl) (S.ev rfl)) rfl rfl trivial ?_
        clear S; intro aa S
        refine OL.pure S (Lf.run_assign (S.ev rfl)) rfl rfl trivial ?_
        clear S; intro aa S
        refine OL.nil ?_
        refine W.ret ?_
        exact Ret.one S rfl rfl H
      · replace H := H.2 hb_2
        refine W.seq ?_
        replace S := S.sub [(0, Value.int .i64 outer0), (1, Value.int .i64 inner1)] ⟨rfl, rfl, trivial⟩
        refine W.region ?_
        refine OL.pure S (Lf.run_move (S.ev rfl)) rfl rfl trivial ?_
        clear S; intro aa S
        refine OL.pure S (Lf.run_eql (S.ev rfl) (S.ev rfl)) rfl rfl trivial ?_
        clear S; intro aa S
        refine OL.pure S (Lf.run_move (S.ev rfl)) rfl rfl trivial ?_
        clear S; intro aa S
        refine OL.cutN 3 (fun aa ww => St 28 ((23, Value.bool ((outer0 == 3) || (inner1 == 3))) :: [(0, Value.int .i64 outer0), (1, Value.int .i64 inner1), (18, Value.int .i64 outer0), (19, Value.bool (outer0 == 3)), (20, Value.bool (outer0 == 3))]) h w0 aa ww) ?_ ?_
        · rcases Bool.eq_false_or_eq_true (outer0 == 3) with hb_3 | hb_3
          · refine OL.not S rfl rfl (GNo.mk rfl rfl hb_3) ?_
            clear S; intro aa S
            refine OL.not S rfl rfl (GNo.mk rfl rfl hb_3) ?_
            clear S; intro aa S
            refine OL.pure S (Lf.run_pickT (S.ev rfl) hb_3 (S.ev rfl)) rfl rfl trivial ?_
            clear S; intro aa S
            refine OL.nil ?_
            exact (S.hd (by rw [hb_3, Bool.true_or])).sub _ ⟨rfl, rfl, rfl, rfl, rfl, rfl, trivial⟩
          · refine OL.pure S (Lf.run_move (S.ev rfl)) rfl rfl (GOk.mk rfl rfl hb_3) ?_
            clear S; intro aa S
            refine OL.pure S (Lf.run_eql (S.ev rfl) (S.ev rfl)) rfl rfl (GOk.mk rfl rfl hb_3) ?_
            clear S; intro aa S
            refine OL.pure S (Lf.run_pickF (S.ev rfl) hb_3 (S.ev rfl)) rfl rfl trivial ?_
            clear S; intro aa S
            refine OL.nil ?_
            exact (S.hd (by rw [hb_3, Bool.false_or])).sub _ ⟨rfl, rfl, rfl, rfl, rfl, rfl, trivial⟩
        · clear S aa
          intro aa ww S
          refine OL.pure S (Lf.run_assign (S.ev rfl)) rfl rfl trivial ?_
          clear S; intro aa S
          refine OL.nil ?_
          refine W.cond S (b := ((outer0 == 3) || (inner1 == 3))) rfl (fun hb_4 => ?_) (fun hb_4 => ?_)
          · replace H := H.1 hb_4
            refine W.seq ?_
            replace S := S.sub [] trivial
            refine W.region ?_
            refine OL.pure S (Lf.run_assign (S.ev rfl)) rfl rfl trivial ?_
            clear S; intro aa S
            refine OL.nil ?_
            refine W.ret ?_
            exact Ret.one S rfl rfl H
          · replace H := H.2 hb_4
            refine W.seq ?_
            replace S := S.sub [(0, Value.int .i64 outer0), (1, Value.int .i64 inner1)] ⟨rfl, rfl, trivial⟩
            refine W.region ?_
            refine OL.pure S (Lf.run_move (S.ev rfl)) rfl rfl trivial ?_
            clear S; intro aa S
            refine OL.pure S (Lf.run_move (S.ev rfl)) rfl rfl trivial ?_
            clear S; intro aa S
            refine OL.pure S (Lf.run_eql (S.ev rfl) (S.ev rfl)) rfl rfl trivial ?_
            clear S; intro aa S
            refine OL.pure S (Lf.run_assign (S.ev rfl)) rfl rfl trivial ?_
            clear S; intro aa S
            refine OL.nil ?_
            refine W.cond S (b := (outer0 == inner1)) rfl (fun hb_5 => ?_) (fun hb_5 => ?_)
            · replace H := H.1 hb_5
              refine W.seq ?_
              replace S := S.sub [] trivial
              refine W.region ?_
              refine OL.pure S (Lf.run_assign (S.ev rfl)) rfl rfl trivial ?_
              clear S; intro aa S
              refine OL.nil ?_
              refine W.ret ?_
              exact Ret.one S rfl rfl H
            · replace H := H.2 hb_5
              refine W.skip ?_
              refine W.seq ?_
              replace S := S.sub [] trivial
              refine W.region ?_
              refine OL.pure S (Lf.run_assign (S.ev rfl)) rfl rfl trivial ?_
              clear S; intro aa S
              refine OL.nil ?_
              refine W.ret ?_
              exact Ret.one S rfl rfl H

/-- chattel vary.Of -/
def L22 (vw0 : Option Nat) (name1 : ByteArray) (slot2 : Int) (h : Heap) (R : Value → Heap → Prop) : Prop :=
  lkS h (Value.map vw0) name1 (Value.slice (⟨none, 0, 0⟩ : Sv).a (⟨none, 0, 0⟩ : Sv).n (⟨none, 0, 0⟩ : Sv).c) fun u => asS u fun x10 =>
  ifb ((decide (slot2 < 0)) || (decide (((x10.n : Nat) : Int) ≤ slot2))) (
    R (Value.int .i64 3) h) (
    ixS x10 slot2 fun q21 =>
    ldI .i64 h (q21.add ((slot2 : Int).toNat * 1)) fun x22 =>
    R (Value.int .i64 x22) h)

set_option maxRecDepth 100000 in

theorem F22 {vw0 name1 slot2 h : _} {R : Value → Heap → Prop} (H : L22 vw0 name1 slot2 h R) : CallsH Try.prog 22 #[Value.map vw0, Value.string name1, Value.int .i64 slot2] h R := by
  refine CallsH.enter (n := 23) Try.func22 rfl rfl rfl rfl ?_
  intro w0 aa ww S
  unfold L22 at H
  refine W.seq ?_
  replace S := S.sub [(0, Value.map vw0), (1, Value.string name1), (2, Value.int .i64 slot2)] ⟨rfl, rfl, rfl, trivial⟩
  refine W.region ?_
  refine OL.pure S (Lf.run_assign (S.ev rfl)) rfl rfl trivial ?_
  clear S; intro aa S
  refine OL.nil ?_
  refine W.seq ?_
  replace S := S.sub [(0, Value.map vw0), (1, Value.string name1), (2, Value.int .i64 slot2)] ⟨rfl, rfl, rfl, trivial⟩
  refine W.region ?_
  refine OL.pure S (Lf.run_move (S.ev rfl)) rfl rfl trivial ?_
  clear S; intro aa S
  refine OL.pure S (Lf.run_move (S.ev rfl)) rfl rfl trivial ?_
  clear S; intro aa S
  refine ol_lkS S H Try.underlying33 Try.underlying9 ti22 rfl rfl rfl trivial ?_
  clear S H aa; intro u aa H S
  obtain ⟨x10, rfl, H⟩ := H
  refine OL.pure S (Lf.run_assign (S.ev rfl)) rfl rfl trivial ?_
  clear S; intro aa S
  refine OL.nil ?_
  refine W.seq ?_
  refine W.seq ?_
  replace S := S.sub [(2, Value.int .i64 slot2), (7, Value.slice x10.a x10.n x10.c)] ⟨rfl, rfl, trivial⟩
  refine W.region ?_
  refine OL.pure S (Lf.run_move (S.ev rfl)) rfl rfl trivial ?_
  clear S; intro aa S
  refine OL.pure S (Lf.run_lss (S.ev rfl) (S.ev rfl)) rfl rfl trivial ?_
  clear S; intro aa S
  refine OL.pure S (Lf.run_move (S.ev rfl)) rfl rfl trivial ?_
  clear S; intro aa S
  refine OL.cutN 5 (fun aa ww => St 23 ((18, Value.bool ((decide (slot2 < 0)) || (decide (((x10.n : Nat) : Int) ≤ slot2)))) :: [(2, Value.int .i64 slot2), (7, Value.slice x10.a x10.n x10.c), (11, Value.int .i64 slot2), (12, Value.bool (decide (slot2 < 0))), (13, Value.bool (decide (slot2 < 0)))]) h w0 aa ww) ?_ ?_
  · rcases Bool.eq_false_or_eq_true (decide (slot2 < 0)) with hb | hb
    · refine OL.not S rfl rfl (GNo.mk rfl rfl hb) ?_
      clear S; intro aa S
      refine OL.not S rfl rfl (GNo.mk rfl rfl hb) ?_
      clear S; intro aa S
      refine OL.not S rfl rfl (GNo.mk rfl rfl hb) ?_
      clear S; intro aa S
      refine OL.not S rfl rfl (GNo.mk rfl rfl hb) ?_
      clear S; intro aa S
      refine OL.pure S (Lf.run_pickT (S.ev rfl) hb (S.ev rfl)) rfl rfl trivial ?_
      clear S; intro aa S
      refine OL.nil ?_
      exact (S.hd (by rw [hb, Bool.true_or])).sub _ ⟨rfl, rfl, rfl, rfl, rfl, rfl, trivial⟩
    · refine OL.pure S (Lf.run_move (S.ev rfl)) rfl rfl (GOk.mk rfl rfl hb) ?_
      clear S; intro aa S
      refine OL.pure S (Lf.run_move (S.ev rfl)) rfl rfl (GOk.mk rfl rfl hb) ?_
      clear S; intro aa S
      refine OL.pure S (Lf.run_lens (S.ev rfl) rfl Try.underlying22) rfl rfl (GOk.mk rfl rfl hb) ?_
      clear S; intro aa S
      refine OL.pure S (Lf.run_geq (S.ev rfl) (S.ev rfl)) rfl rfl (GOk.mk rfl rfl hb) ?_
      clear S; intro aa S
      refine OL.pure S (Lf.run_pickF (S.ev rfl) hb (S.ev rfl)) rfl rfl trivial ?_
      clear S; intro aa S
      refine OL.nil ?_
      exact (S.hd (by rw [hb, Bool.false_or])).sub _ ⟨rfl, rfl, rfl, rfl, rfl, rfl, trivial⟩
  · clear S aa
    intro aa ww S
    refine OL.nil ?_
    refine W.cond S (b := ((decide (slot2 < 0)) || (decide (((x10.n : Nat) : Int) ≤ slot2)))) rfl (fun hb_1 => ?_) (fun hb_1 => ?_)
    · replace H := H.1 hb_1
      refine W.seq ?_
      replace S := S.sub [] trivial
      refine W.region ?_
      refine OL.pure S (Lf.run_assign (S.ev rfl)) rfl rfl trivial ?_
      clear S; intro aa S
      refine OL.nil ?_
      refine W.ret ?_
      exact Ret.one S rfl rfl H
    · replace H := H.2 hb_1
      refine W.skip ?_
      refine W.seq ?_
      replace S := S.sub [(2, Value.int .i64 slot2), (7, Value.slice x10.a x10.n x10.c)] ⟨rfl, rfl, trivial⟩
      refine W.region ?_
      refine OL.pure S (Lf.run_move (S.ev rfl)) rfl rfl trivial ?_
      clear S; intro aa S
      refine OL.pure S (Lf.run_move (S.ev rfl)) rfl rfl trivial ?_
      clear S; intro aa S
      obtain ⟨q21, e, e_1, e_2, H⟩ := H
      refine OL.pure S (Lf.run_ixs (S.ev rfl) (S.ev rfl) Try.underlying22 ti3 e e_1 e_2) rfl rfl trivial ?_
      clear S; intro aa S
      obtain ⟨x22, c, H⟩ := H
      refine OL.pure S (Lf.run_ld (S.ev rfl) fl3 (S.cl c)) rfl rfl trivial ?_
      clear S; intro aa S
      refine OL.pure S (Lf.run_assign (S.ev rfl)) rfl rfl trivial ?_
      clear S; intro aa S
      refine OL.nil ?_
      refine W.ret ?_
      exact Ret.one S rfl rfl H

/-- chattel chattelref07.own -/
def L23 (x0 : Int) (x0_1 : ByteArray) (x0_2 : Bool) (x0_3 : Int) (x0_4 : Sv) (x0_5 : Sv) (h : Heap) (R : Value → Heap → Prop) : Prop :=
  new 25 #[Value.int .i64 x0, Value.string x0_1, Value.bool x0_2, Value.int .i64 x0_3, Value.slice x0_4.a x0_4.n x0_4.c, Value.slice x0_5.a x0_5.n x0_5.c] h fun p1 h1 =>
  ldI .i64 h1 p1 fun x4 =>
  ∃ J : Bool → Prop, (andr (decide (7 ≤ x4)) (fun k =>
    ldI .i64 h1 p1 fun x8 =>
    k (decide (x8 ≤ 9))) J) ∧ ∀ x10, J x10 →
  ifb x10 (
    ldI .i64 h1 (p1.add 3) fun x12 =>
    newS 3 #[Value.int .i64 x12] 1 h1 fun s13 h2 =>
    R (Value.slice s13.a s13.n s13.c) h2) (
    ldI .i64 h1 p1 fun x15 =>
    ifb (x15 == 5) (
      ldS h1 (p1.add 4) fun x18 =>
      R (Value.slice x18.a x18.n x18.c) h1) (
      R (Value.slice (⟨none, 0, 0⟩ : Sv).a (⟨none, 0, 0⟩ : Sv).n (⟨none, 0, 0⟩ : Sv).c) h1))

set_option maxRecDepth 100000 in

theorem F23 {x0 x0_1 x0_2 x0_3 x0_4 x0_5 h : _} {R : Value → Heap → Prop} (H : L23 x0 x0_1 x0_2 x0_3 x0_4 x0_5 h R) : CallsH Try.prog 23 #[Value.agg #[Value.int .i64 x0, Value.string x0_1, Value.bool x0_2, Value.int .i64 x0_3, Value.slice x0_4.a x0_4.n x0_4.c, Value.slice x0_5.a x0_5.n x0_5.c]] h R := by
  refine CallsH.enter (n := 19) Try.func23 rfl rfl rfl rfl ?_
  intro w0 aa ww S
  unfold L23 at H
  refine W.seq ?_
  replace S := S.sub [(0, Value.agg #[Value.int .i64 x0, Value.string x0_1, Value.bool x0_2, Value.int .i64 x0_3, Value.slice x0_4.a x0_4.n x0_4.c, Value.slice x0_5.a x0_5.n x0_5.c])] ⟨rfl, trivial⟩
  refine W.region ?_
  refine ol_box S H rfl rfl rfl trivial ?_
  clear S H aa; intro p1 aa ww h1 H S
  refine OL.pure S (Lf.run_assign (S.ev rfl)) rfl rfl trivial ?_
  clear S; intro aa S
  refine OL.nil ?_
  refine W.seq ?_
  refine W.seq ?_
  replace S := S.sub [(1, Value.pointer (some p1))] ⟨rfl, trivial⟩
  refine W.region ?_
  refine OL.pure S (Lf.run_fa (S.ev rfl) fa25_0) rfl rfl trivial ?_
  clear S; intro aa S
  obtain ⟨x4, c, H⟩ := H
  refine OL.pure S (Lf.run_ld (S.ev rfl) fl3 (S.cl c)) rfl rfl trivial ?_
  clear S; intro aa S
  refine OL.pure S (Lf.run_geq (S.ev rfl) (S.ev rfl)) rfl rfl trivial ?_
  clear S; intro aa S
  refine OL.pure S (Lf.run_move (S.ev rfl)) rfl rfl trivial ?_
  clear S; intro aa S
  obtain ⟨J, H, HK⟩ := H
  refine OL.cutN 4 (fun aa ww => ∃ x10, St 19 ((10, Value.bool x10) :: [(1, Value.pointer (some p1)), (3, Value.pointer (some p1)), (4, Value.int .i64 x4), (5, Value.bool (decide (7 ≤ x4))), (6, Value.bool (decide (7 ≤ x4)))]) h1 w0 aa ww ∧ J x10) ?_ ?_
  · rcases Bool.eq_false_or_eq_true (decide (7 ≤ x4)) with hb | hb
    · replace H := H.1 hb
      refine OL.pure S (Lf.run_fa (S.ev rfl) fa25_0) rfl rfl (GOk.mk rfl rfl hb) ?_
      clear S; intro aa S
      obtain ⟨x8, c_1, H⟩ := H
      refine OL.pure S (Lf.run_ld (S.ev rfl) fl3 (S.cl c_1)) rfl rfl (GOk.mk rfl rfl hb) ?_
      clear S; intro aa S
      refine OL.pure S (Lf.run_leq (S.ev rfl) (S.ev rfl)) rfl rfl (GOk.mk rfl rfl hb) ?_
      clear S; intro aa S
      refine OL.pure S (Lf.run_pickT (S.ev rfl) hb (S.ev rfl)) rfl rfl trivial ?_
      clear S; intro aa S
      refine OL.nil ?_
      exact ⟨_, S.sub _ ⟨rfl, rfl, rfl, rfl, rfl, rfl, trivial⟩, H⟩
    · replace H := H.2 hb
      refine OL.not S rfl rfl (GNo.mk rfl rfl hb) ?_
      clear S; intro aa S
      refine OL.not S rfl rfl (GNo.mk rfl rfl hb) ?_
      clear S; intro aa S
      refine OL.not S rfl rfl (GNo.mk rfl rfl hb) ?_
      clear S; intro aa S
      refine OL.pure S (Lf.run_pickF (S.ev rfl) hb (S.ev rfl)) rfl rfl trivial ?_
      clear S; intro aa S
      refine OL.nil ?_
      exact ⟨_, S.sub _ ⟨rfl, rfl, rfl, rfl, rfl, rfl, trivial⟩, H⟩
  · clear S aa
    rintro aa ww ⟨x10, S, HJ⟩
    replace H := HK _ HJ
    clear HK HJ
    refine OL.nil ?_
    refine W.cond S (b := x10) rfl (fun hb_1 => ?_) (fun hb_1 => ?_)
    · replace H := H.1 hb_1
      refine W.seq ?_
      replace S := S.sub [(1, Value.pointer (some p1))] ⟨rfl, trivial⟩
      refine W.region ?_
      refine OL.pure S (Lf.run_fa (S.ev rfl) fa25_3) rfl rfl trivial ?_
      clear S; intro aa S
      obtain ⟨x12, c_2, H⟩ := H
      refine OL.pure S (Lf.run_ld (S.ev rfl) fl3 (S.cl c_2)) rfl rfl trivial ?_
      clear S; intro aa S
      refine ol_newS S H Try.underlying22 ti3 (by decide) (parts_map S rfl) (by kernel_rfl) (by decide) rfl trivial ?_
      clear S H aa; intro s13 aa ww h2 H S
      refine OL.pure S (Lf.run_assign (S.ev rfl)) rfl rfl trivial ?_
      clear S; intro aa S
      refine OL.nil ?_
      refine W.ret ?_
      exact Ret.one S rfl rfl H
    · replace H := H.2 hb_1
      refine W.skip ?_
      refine W.seq ?_
      refine W.seq ?_
      replace S := S.sub [(1, Value.pointer (some p1))] ⟨rfl, trivial⟩
      refine W.region ?_
      refine OL.pure S (Lf.run_fa (S.ev rfl) fa25_0) rfl rfl trivial ?_
      clear S; intro aa S
      obtain ⟨x15, c_3, H⟩ := H
      refine OL.pure S (Lf.run_ld (S.ev rfl) fl3 (S.cl c_3)) rfl rfl trivial ?_
      clear S; intro aa S
      refine OL.pure S (Lf.run_eql (S.ev rfl) (S.ev rfl)) rfl rfl trivial ?_
      clear S; intro aa S
      refine OL.nil ?_
      refine W.cond S (b := (x15 == 5)) rfl (fun hb_2 => ?_) (fun hb_2 => ?_)
      · replace H := H.1 hb_2
        refine W.seq ?_
        replace S := S.sub [(1, Value.pointer (some p1))] ⟨rfl, trivial⟩
        refine W.region ?_
        refine OL.pure S (Lf.run_fa (S.ev rfl) fa25_4) rfl rfl trivial ?_
        clear S; intro aa S
        obtain ⟨x18, c_4, H⟩ := H
        refine OL.pure S (Lf.run_ld (S.ev rfl) fl22 (S.cl c_4)) rfl rfl trivial ?_
        clear S; intro aa S
        refine OL.pure S (Lf.run_assign (S.ev rfl)) rfl rfl trivial ?_
        clear S; intro aa S
        refine OL.nil ?_
        refine W.ret ?_
        exact Ret.one S rfl rfl H
      · replace H := H.2 hb_2
        refine W.skip ?_
        refine W.seq ?_
        replace S := S.sub [] trivial
        refine W.region ?_
        refine OL.pure S (Lf.run_assign (S.ev rfl)) rfl rfl trivial ?_
        clear S; intro aa S
        refine OL.nil ?_
        refine W.ret ?_
        exact Ret.one S rfl rfl H

end Go.Proofs.Ytkgckfcekokieaa

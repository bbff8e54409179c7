/- Lifted by program off the elaborated code: each Go function, read as a proposition over typed variables and the heap. -/
import Derived.Test.YtggacajnmgligaaG0
namespace Go.Proofs.Ytggacajnmgligaa
open Go Go.Lf
set_option linter.unusedVariables false
set_option maxRecDepth 100000

/-- chattel chattellaw13.HeapFrees -/
def L3 (n0 : Int) (deep1 : Int) (h : Heap) (R : Value → Heap → Prop) : Prop :=
  cal Try.prog 8 #[Value.int .i64 20, Value.bool true] h fun u h1 => asP u fun x21 =>
  cal Try.prog 9 #[] h1 fun u_1 h2 => asB u_1 fun x22 =>
  ifb (!x22) (
    R (Value.bool false) h2) (
    cal Try.prog 11 #[Value.int .u64 n0] h2 fun u_2 h3 => ∃ (y27 : Int) (y27_1 : Int) (y27_2 : ByteArray) (y27_3 : Sv) (y27_4 : Int) (y27_5 : Sv) (y27_6 : Int), u_2 = Value.agg #[Value.int .i64 y27, Value.int .u64 y27_1, Value.string y27_2, Value.slice y27_3.a y27_3.n y27_3.c, Value.int .i64 y27_4, Value.slice y27_5.a y27_5.n y27_5.c, Value.int .i64 y27_6] ∧
    cal Try.prog 10 #[Value.pointer x21, Value.agg #[Value.int .i64 y27, Value.int .u64 y27_1, Value.string y27_2, Value.slice y27_3.a y27_3.n y27_3.c, Value.int .i64 y27_4, Value.slice y27_5.a y27_5.n y27_5.c, Value.int .i64 y27_6]] h3 fun u_3 h4 => asTup u_3 fun r28 =>
    elt r28 0 fun u_4 => ∃ (y29 : Int) (y29_1 : Sv) (y29_2 : Int), u_4 = Value.agg #[Value.int .i64 y29, Value.slice y29_1.a y29_1.n y29_1.c, Value.int .i64 y29_2] ∧
    elt r28 1 fun u_5 => asB u_5 fun x30 =>
    new 28 #[Value.int .i64 0, Value.slice (⟨none, 0, 0⟩ : Sv).a (⟨none, 0, 0⟩ : Sv).n (⟨none, 0, 0⟩ : Sv).c, Value.int .i64 0] h4 fun p6 h5 =>
    stoA h5 p6 [Value.int .i64 y29, Value.slice y29_1.a y29_1.n y29_1.c, Value.int .i64 y29_2] fun h6 =>
    ∃ (y31 : Int) (y31_1 : Sv) (y31_2 : Int), cl h6 p6 = some (Value.int .i64 y31) ∧ cl h6 (p6.add 1) = some (Value.slice y31_1.a y31_1.n y31_1.c) ∧ cl h6 (p6.add 2) = some (Value.int .i64 y31_2) ∧
    new 28 #[Value.int .i64 0, Value.slice (⟨none, 0, 0⟩ : Sv).a (⟨none, 0, 0⟩ : Sv).n (⟨none, 0, 0⟩ : Sv).c, Value.int .i64 0] h6 fun p8 h7 =>
    stoA h7 p8 [Value.int .i64 y31, Value.slice y31_1.a y31_1.n y31_1.c, Value.int .i64 y31_2] fun h8 =>
    ∃ (I : Bool → Int → Heap → Prop) (m : Bool → Int → Heap → Nat), I x30 0 h8 ∧ ∀ ok7 i9 h9, I ok7 i9 h9 →
    ifb (decide (i9 < (IntKind.i64.wrap (1 + (IntKind.i64.wrap (((IntKind.u64.wrap deep1) : Int).tmod 6)))))) (
      ifb (!ok7) (
        R (Value.bool false) h9) (
        ldI .i64 h9 p6 fun x42 =>
        cal Try.prog 10 #[Value.pointer x21, Value.agg #[Value.int .i64 6, Value.int .u64 0, Value.string (⟨#[]⟩ : ByteArray), Value.slice (⟨none, 0, 0⟩ : Sv).a (⟨none, 0, 0⟩ : Sv).n (⟨none, 0, 0⟩ : Sv).c, Value.int .i64 x42, Value.slice (⟨none, 0, 0⟩ : Sv).a (⟨none, 0, 0⟩ : Sv).n (⟨none, 0, 0⟩ : Sv).c, Value.int .i64 0]] h9 fun u_6 h10 => asTup u_6 fun r45 =>
        elt r45 0 fun u_7 => ∃ (y46 : Int) (y46_1 : Sv) (y46_2 : Int), u_7 = Value.agg #[Value.int .i64 y46, Value.slice y46_1.a y46_1.n y46_1.c, Value.int .i64 y46_2] ∧
        elt r45 1 fun u_8 => asB u_8 fun x47 =>
        stoA h10 p6 [Value.int .i64 y46, Value.slice y46_1.a y46_1.n y46_1.c, Value.int .i64 y46_2] fun h11 =>
        I x47 (IntKind.i64.wrap (i9 + 1)) h11 ∧ m x47 (IntKind.i64.wrap (i9 + 1)) h11 < m ok7 i9 h9)) (
      ∃ (y50 : Int) (y50_1 : Sv) (y50_2 : Int), cl h9 p8 = some (Value.int .i64 y50) ∧ cl h9 (p8.add 1) = some (Value.slice y50_1.a y50_1.n y50_1.c) ∧ cl h9 (p8.add 2) = some (Value.int .i64 y50_2) ∧
      cal Try.prog 12 #[Value.pointer x21, Value.agg #[Value.int .i64 y50, Value.slice y50_1.a y50_1.n y50_1.c, Value.int .i64 y50_2], Value.bool false] h9 fun u_9 h12 => asTup u_9 fun r51 =>
      elt r51 0 fun u_10 => ∃ (y52 : Int) (y52_1 : Sv) (y52_2 : Int), u_10 = Value.agg #[Value.int .i64 y52, Value.slice y52_1.a y52_1.n y52_1.c, Value.int .i64 y52_2] ∧
      elt r51 1 fun u_11 => asI .i64 u_11 fun x53 =>
      new 28 #[Value.int .i64 0, Value.slice (⟨none, 0, 0⟩ : Sv).a (⟨none, 0, 0⟩ : Sv).n (⟨none, 0, 0⟩ : Sv).c, Value.int .i64 0] h12 fun p10 h13 =>
      stoA h13 p10 [Value.int .i64 y52, Value.slice y52_1.a y52_1.n y52_1.c, Value.int .i64 y52_2] fun h14 =>
      cal Try.prog 13 #[Value.pointer x21] h14 fun u_12 h15 => asI .i64 u_12 fun x55 =>
      ldI .i64 h15 p6 fun x58 =>
      cal Try.prog 14 #[Value.pointer x21, Value.int .i64 x58] h15 fun u_13 h16 => asI .i64 u_13 fun x59 =>
      ∃ (y62 : Int) (y62_1 : Sv) (y62_2 : Int), cl h16 p10 = some (Value.int .i64 y62) ∧ cl h16 (p10.add 1) = some (Value.slice y62_1.a y62_1.n y62_1.c) ∧ cl h16 (p10.add 2) = some (Value.int .i64 y62_2) ∧
      cal Try.prog 15 #[Value.pointer x21, Value.agg #[Value.int .i64 y62, Value.slice y62_1.a y62_1.n y62_1.c, Value.int .i64 y62_2]] h16 fun u_14 h17 => asTup u_14 fun r63 =>
      elt r63 0 fun u_15 => ∃ (y64 : Int) (y64_1 : Int) (y64_2 : ByteArray) (y64_3 : Sv) (y64_4 : Int) (y64_5 : Sv) (y64_6 : Int), u_15 = Value.agg #[Value.int .i64 y64, Value.int .u64 y64_1, Value.string y64_2, Value.slice y64_3.a y64_3.n y64_3.c, Value.int .i64 y64_4, Value.slice y64_5.a y64_5.n y64_5.c, Value.int .i64 y64_6] ∧
      elt r63 1 fun u_16 => asI .i64 u_16 fun x65 =>
      new 33 #[Value.int .i64 0, Value.int .u64 0, Value.string (⟨#[]⟩ : ByteArray), Value.slice (⟨none, 0, 0⟩ : Sv).a (⟨none, 0, 0⟩ : Sv).n (⟨none, 0, 0⟩ : Sv).c, Value.int .i64 0, Value.slice (⟨none, 0, 0⟩ : Sv).a (⟨none, 0, 0⟩ : Sv).n (⟨none, 0, 0⟩ : Sv).c, Value.int .i64 0] h17 fun p14 h18 =>
      stoA h18 p14 [Value.int .i64 y64, Value.int .u64 y64_1, Value.string y64_2, Value.slice y64_3.a y64_3.n y64_3.c, Value.int .i64 y64_4, Value.slice y64_5.a y64_5.n y64_5.c, Value.int .i64 y64_6] fun h19 =>
      ∃ J : Bool → Heap → Prop, (andj ((((ok7 && (x53 == 0)) && (x59 == 0)) && (x65 == 1)) && (x55 == (IntKind.i64.wrap ((IntKind.i64.wrap (1 + (IntKind.i64.wrap (((IntKind.u64.wrap deep1) : Int).tmod 6)))) + 1)))) (fun k =>
        cal Try.prog 13 #[Value.pointer x21] h19 fun u_17 h21 => asI .i64 u_17 fun x87 =>
        k (x87 == 0) h21) h19 J) ∧ ∀ x89 h20, J x89 h20 →
      ∃ J_1 : Bool → Heap → Prop, (andj x89 (fun k_1 =>
        ldI .i64 h20 p6 fun x93 =>
        cal Try.prog 14 #[Value.pointer x21, Value.int .i64 x93] h20 fun u_18 h23 => asI .i64 u_18 fun x94 =>
        k_1 (x94 == 1) h23) h20 J_1) ∧ ∀ x96 h22, J_1 x96 h22 →
      R (Value.bool x96) h22))

set_option maxRecDepth 100000 in

theorem F3 {n0 deep1 h : _} {R : Value → Heap → Prop} (H : L3 n0 deep1 h R) : CallsH Try.prog 3 #[Value.int .u64 n0, Value.int .i64 deep1] h R := by
  refine CallsH.enter (n := 97) Try.func3 rfl rfl rfl rfl ?_
  intro w0 aa ww S
  unfold L3 at H
  refine W.seq ?_
  replace S := S.sub [(0, Value.int .u64 n0), (1, Value.int .i64 deep1)] ⟨rfl, rfl, trivial⟩
  refine W.region ?_
  refine OL.pure S (Lf.run_assign (S.ev rfl)) rfl rfl trivial ?_
  clear S; intro aa S
  refine OL.nil ?_
  refine W.seq ?_
  replace S := S.sub [(0, Value.int .u64 n0), (1, Value.int .i64 deep1)] ⟨rfl, rfl, trivial⟩
  refine W.region ?_
  refine OL.pure S (Lf.run_move (S.ev rfl)) rfl rfl trivial ?_
  clear S; intro aa S
  refine OL.pure S (Lf.run_cvi Try.underlying3 Try.underlying22 (S.ev rfl)) rfl rfl trivial ?_
  clear S; intro aa S
  refine OL.pure S (Lf.run_rem (S.ev rfl) (S.ev rfl) (by decide)) rfl rfl trivial ?_
  clear S; intro aa S
  refine OL.pure S (Lf.run_cvi Try.underlying22 Try.underlying3 (S.ev rfl)) rfl rfl trivial ?_
  clear S; intro aa S
  refine OL.pure S (Lf.run_add (S.ev rfl) (S.ev rfl)) rfl rfl trivial ?_
  clear S; intro aa S
  refine OL.pure S (Lf.run_assign (S.ev rfl)) rfl rfl trivial ?_
  clear S; intro aa S
  refine OL.nil ?_
  refine W.seq ?_
  replace S := S.sub [(0, Value.int .u64 n0), (1, Value.int .i64 (IntKind.i64.wrap (1 + (IntKind.i64.wrap (((IntKind.u64.wrap deep1) : Int).tmod 6)))))] ⟨rfl, rfl, trivial⟩
  refine W.region ?_
  refine ol_cal S H isfn8 rfl rfl trivial ?_
  clear S H aa; intro u aa ww h1 H S
  obtain ⟨x21, rfl, H⟩ := H
  refine OL.pure S (Lf.run_assign (S.ev rfl)) rfl rfl trivial ?_
  clear S; intro aa S
  refine OL.nil ?_
  refine W.seq ?_
  refine W.seq ?_
  replace S := S.sub [(0, Value.int .u64 n0), (1, Value.int .i64 (IntKind.i64.wrap (1 + (IntKind.i64.wrap (((IntKind.u64.wrap deep1) : Int).tmod 6))))), (5, Value.pointer x21)] ⟨rfl, rfl, rfl, trivial⟩
  refine W.region ?_
  refine ol_cal S H isfn9 rfl rfl trivial ?_
  clear S H aa; intro u_1 aa ww h2 H S
  obtain ⟨x22, rfl, H⟩ := H
  refine OL.pure S (Lf.run_not (S.ev rfl)) rfl rfl trivial ?_
  clear S; intro aa S
  refine OL.nil ?_
  refine W.cond S (b := (!x22)) rfl (fun hb => ?_) (fun hb => ?_)
  · replace H := H.1 hb
    refine W.seq ?_
    replace S := S.sub [] trivial
    refine W.region ?_
    refine OL.pure S (Lf.run_assign (S.ev rfl)) rfl rfl trivial ?_
    clear S; intro aa S
    refine OL.nil ?_
    refine W.ret ?_
    exact Ret.one S rfl rfl H
  · replace H := H.2 hb
    refine W.skip ?_
    refine W.seq ?_
    replace S := S.sub [(0, Value.int .u64 n0), (1, Value.int .i64 (IntKind.i64.wrap (1 + (IntKind.i64.wrap (((IntKind.u64.wrap deep1) : Int).tmod 6))))), (5, Value.pointer x21)] ⟨rfl, rfl, rfl, trivial⟩
    refine W.region ?_
    refine OL.pure S (Lf.run_move (S.ev rfl)) rfl rfl trivial ?_
    clear S; intro aa S
    refine OL.pure S (Lf.run_move (S.ev rfl)) rfl rfl trivial ?_
    clear S; intro aa S
    refine ol_cal S H isfn11 rfl rfl trivial ?_
    clear S H aa; intro u_2 aa ww h3 H S
    obtain ⟨y27, y27_1, y27_2, y27_3, y27_4, y27_5, y27_6, rfl, H⟩ := H
    refine ol_cal S H isfn10 rfl rfl trivial ?_
    clear S H aa; intro u_3 aa ww h4 H S
    obtain ⟨r28, rfl, H⟩ := H
    refine OL.pure S (Lf.run_move (S.ev rfl)) rfl rfl trivial ?_
    clear S; intro aa S
    obtain ⟨u_4, e, y29, y29_1, y29_2, rfl, H⟩ := H
    refine OL.pure S (Lf.run_ex (S.ev rfl) e) rfl rfl trivial ?_
    clear S; intro aa S
    obtain ⟨u_5, e_1, x30, rfl, H⟩ := H
    refine OL.pure S (Lf.run_ex (S.ev rfl) e_1) rfl rfl trivial ?_
    clear S; intro aa S
    refine ol_alloc S H ti28 rfl rfl trivial ?_
    clear S H aa; intro p6 aa ww h5 H S
    refine ol_stoA S H rfl rfl ti28 trivial ?_
    clear S H aa; intro aa ww h6 H S
    refine OL.pure S (Lf.run_assign (S.ev rfl)) rfl rfl trivial ?_
    clear S; intro aa S
    refine OL.nil ?_
    refine W.seq ?_
    replace S := S.sub [(1, Value.int .i64 (IntKind.i64.wrap (1 + (IntKind.i64.wrap (((IntKind.u64.wrap deep1) : Int).tmod 6))))), (5, Value.pointer x21), (6, Value.pointer (some p6)), (7, Value.bool x30)] ⟨rfl, rfl, rfl, rfl, trivial⟩
    refine W.region ?_
    obtain ⟨y31, y31_1, y31_2, c_12, c_13, c_14, H⟩ := H
    refine OL.pure S (Lf.run_ldA (cs := [Value.int .i64 y31, Value.slice y31_1.a y31_1.n y31_1.c, Value.int .i64 y31_2]) (S.ev rfl) ag28 ti28 (by rw [S.heap]; exact RowL.toRow ⟨c_12, c_13, c_14, trivial⟩)) rfl rfl trivial ?_
    clear S; intro aa S
    refine ol_alloc S H ti28 rfl rfl trivial ?_
    clear S H aa; intro p8 aa ww h7 H S
    refine ol_stoA S H rfl rfl ti28 trivial ?_
    clear S H aa; intro aa ww h8 H S
    refine OL.nil ?_
    refine W.seq ?_
    refine W.seq ?_
    replace S := S.sub [(1, Value.int .i64 (IntKind.i64.wrap (1 + (IntKind.i64.wrap (((IntKind.u64.wrap deep1) : Int).tmod 6))))), (5, Value.pointer x21), (6, Value.pointer (some p6)), (7, Value.bool x30), (8, Value.pointer (some p8))] ⟨rfl, rfl, rfl, rfl, rfl, trivial⟩
    refine W.region ?_
    refine OL.pure S (Lf.run_assign (S.ev rfl)) rfl rfl trivial ?_
    clear S; intro aa S
    refine OL.nil ?_
    refine W.block ?_
    obtain ⟨I, m, H, HB⟩ := H
    refine W.loopS (σ := Bool × Int × Heap) (fun s aa ww => St 97 [(1, Value.int .i64 (IntKind.i64.wrap (1 + (IntKind.i64.wrap (((IntKind.u64.wrap deep1) : Int).tmod 6))))), (5, Value.pointer x21), (6, Value.pointer (some p6)), (7, Value.bool s.1), (8, Value.pointer (some p8)), (9, Value.int .i64 s.2.1)] s.2.2 w0 aa ww ∧ I s.1 s.2.1 s.2.2) (fun s => m s.1 s.2.1 s.2.2) (x30, 0, h8) ⟨S.sub _ ⟨rfl, rfl, rfl, rfl, rfl, rfl, trivial⟩, H⟩ ?_
    clear H S aa
    rintro ⟨ok7, i9, h9⟩ aa ww ⟨S, HI⟩
    replace S : St 97 [(1, Value.int .i64 (IntKind.i64.wrap (1 + (IntKind.i64.wrap (((IntKind.u64.wrap deep1) : Int).tmod 6))))), (5, Value.pointer x21), (6, Value.pointer (some p6)), (7, Value.bool ok7), (8, Value.pointer (some p8)), (9, Value.int .i64 i9)] h9 w0 aa ww := S
    have H := HB ok7 i9 h9 HI
    clear HI
    refine W.seq ?_
    refine W.seq ?_
    replace S := S.sub [(1, Value.int .i64 (IntKind.i64.wrap (1 + (IntKind.i64.wrap (((IntKind.u64.wrap deep1) : Int).tmod 6))))), (5, Value.pointer x21), (6, Value.pointer (some p6)), (7, Value.bool ok7), (8, Value.pointer (some p8)), (9, Value.int .i64 i9)] ⟨rfl, rfl, rfl, rfl, rfl, rfl, trivial⟩
    refine W.region ?_
    refine OL.pure S (Lf.run_move (S.ev rfl)) rfl rfl trivial ?_
    clear S; intro aa S
    refine OL.pure S (Lf.run_move (S.ev rfl)) rfl rfl trivial ?_
    clear S; intro aa S
    refine OL.pure S (Lf.run_lss (S.ev rfl) (S.ev rfl)) rfl rfl trivial ?_
    clear S; intro aa S
    refine OL.nil ?_
    refine W.cond S (b := (decide (i9 < (IntKind.i64.wrap (1 + (IntKind.i64.wrap (((IntKind.u64.wrap deep1) : Int).tmod 6))))))) rfl (fun hb_1 => ?_) (fun hb_1 => ?_)
    · replace H := H.1 hb_1
      refine W.skip ?_
      refine W.seq ?_
      refine W.block ?_
      refine W.seq ?_
      refine W.seq ?_
      replace S := S.sub [(1, Value.int .i64 (IntKind.i64.wrap (1 + (IntKind.i64.wrap (((IntKind.u64.wrap deep1) : Int).tmod 6))))), (5, Value.pointer x21), (6, Value.pointer (some p6)), (7, Value.bool ok7), (8, Value.pointer (some p8)), (9, Value.int .i64 i9)] ⟨rfl, rfl, rfl, rfl, rfl, rfl, trivial⟩
      refine W.region ?_
      refine OL.pure S (Lf.run_move (S.ev rfl)) rfl rfl trivial ?_
      clear S; intro aa S
      refine OL.pure S (Lf.run_not (S.ev rfl)) rfl rfl trivial ?_
      clear S; intro aa S
      refine OL.nil ?_
      refine W.cond S (b := (!ok7)) rfl (fun hb_2 => ?_) (fun hb_2 => ?_)
      · replace H := H.1 hb_2
        refine W.seq ?_
        replace S := S.sub [] trivial
        refine W.region ?_
        refine OL.pure S (Lf.run_assign (S.ev rfl)) rfl rfl trivial ?_
        clear S; intro aa S
        refine OL.nil ?_
        refine W.ret ?_
        exact Ret.one S rfl rfl H
      · replace H := H.2 hb_2
        refine W.skip ?_
        replace S := S.sub [(1, Value.int .i64 (IntKind.i64.wrap (1 + (IntKind.i64.wrap (((IntKind.u64.wrap deep1) : Int).tmod 6))))), (5, Value.pointer x21), (6, Value.pointer (some p6)), (8, Value.pointer (some p8)), (9, Value.int .i64 i9)] ⟨rfl, rfl, rfl, rfl, rfl, trivial⟩
        refine W.region ?_
        refine OL.pure S (Lf.run_move (S.ev rfl)) rfl rfl trivial ?_
        clear S; intro aa S
        refine OL.pure S (Lf.run_fa (S.ev rfl) fa28_0) rfl rfl trivial ?_
        clear S; intro aa S
        obtain ⟨x42, c_1, H⟩ := H
        refine OL.pure S (Lf.run_ld (S.ev rfl) fl3 (S.cl c_1)) rfl rfl trivial ?_
        clear S; intro aa S
        refine OL.pure S (Lf.run_build (cs := #[Value.int .i64 x42, Value.slice (⟨none, 0, 0⟩ : Sv).a (⟨none, 0, 0⟩ : Sv).n (⟨none, 0, 0⟩ : Sv).c, Value.int .i64 0]) pl28 ti28 (parts_map S rfl) (by kernel_rfl)) rfl rfl trivial ?_
        clear S; intro aa S
        refine OL.pure S (Lf.run_build (cs := #[Value.int .i64 6, Value.int .u64 0, Value.string (⟨#[]⟩ : ByteArray), Value.slice (⟨none, 0, 0⟩ : Sv).a (⟨none, 0, 0⟩ : Sv).n (⟨none, 0, 0⟩ : Sv).c, Value.int .i64 x42, Value.slice (⟨none, 0, 0⟩ : Sv).a (⟨none, 0, 0⟩ : Sv).n (⟨none, 0, 0⟩ : Sv).c, Value.int .i64 0]) pl33 ti33 (parts_map S rfl) (by kernel_rfl)) rfl rfl trivial ?_
        clear S; intro aa S
        refine ol_cal S H isfn10 rfl rfl trivial ?_
        clear S H aa; intro u_6 aa ww h10 H S
        obtain ⟨r45, rfl, H⟩ := H
        refine OL.pure S (Lf.run_move (S.ev rfl)) rfl rfl trivial ?_
        clear S; intro aa S
        obtain ⟨u_7, e_2, y46, y46_1, y46_2, rfl, H⟩ := H
        refine OL.pure S (Lf.run_ex (S.ev rfl) e_2) rfl rfl trivial ?_
        clear S; intro aa S
        obtain ⟨u_8, e_3, x47, rfl, H⟩ := H
        refine OL.pure S (Lf.run_ex (S.ev rfl) e_3) rfl rfl trivial ?_
        clear S; intro aa S
        refine ol_stoA S H rfl rfl ti28 trivial ?_
        clear S H aa; intro aa ww h11 H S
        refine OL.pure S (Lf.run_assign (S.ev rfl)) rfl rfl trivial ?_
        clear S; intro aa S
        refine OL.nil ?_
        replace S := S.sub [(1, Value.int .i64 (IntKind.i64.wrap (1 + (IntKind.i64.wrap (((IntKind.u64.wrap deep1) : Int).tmod 6))))), (5, Value.pointer x21), (6, Value.pointer (some p6)), (7, Value.bool x47), (8, Value.pointer (some p8)), (9, Value.int .i64 i9)] ⟨rfl, rfl, rfl, rfl, rfl, rfl, trivial⟩
        refine W.region ?_
        refine OL.pure S (Lf.run_move (S.ev rfl)) rfl rfl trivial ?_
        clear S; intro aa S
        refine OL.pure S (Lf.run_add (S.ev rfl) (S.ev rfl)) rfl rfl trivial ?_
        clear S; intro aa S
        refine OL.pure S (Lf.run_assign (S.ev rfl)) rfl rfl trivial ?_
        clear S; intro aa S
        refine OL.nil ?_
        exact ⟨(x47, (IntKind.i64.wrap (i9 + 1)), h11), ⟨S.sub _ ⟨rfl, rfl, rfl, rfl, rfl, rfl, trivial⟩, H.1⟩, H.2⟩
    · replace H := H.2 hb_1
      refine W.exit_ ?_
      refine xhit ?_
      refine W.seq ?_
      replace S := S.sub [(1, Value.int .i64 (IntKind.i64.wrap (1 + (IntKind.i64.wrap (((IntKind.u64.wrap deep1) : Int).tmod 6))))), (5, Value.pointer x21), (6, Value.pointer (some p6)), (7, Value.bool ok7), (8, Value.pointer (some p8))] ⟨rfl, rfl, rfl, rfl, rfl, trivial⟩
      refine W.region ?_
      refine OL.pure S (Lf.run_move (S.ev rfl)) rfl rfl trivial ?_
      clear S; intro aa S
      obtain ⟨y50, y50_1, y50_2, c_9, c_10, c_11, H⟩ := H
      refine OL.pure S (Lf.run_ldA (cs := [Value.int .i64 y50, Value.slice y50_1.a y50_1.n y50_1.c, Value.int .i64 y50_2]) (S.ev rfl) ag28 ti28 (by rw [S.heap]; exact RowL.toRow ⟨c_9, c_10, c_11, trivial⟩)) rfl rfl trivial ?_
      clear S; intro aa S
      refine ol_cal S H isfn12 rfl rfl trivial ?_
      clear S H aa; intro u_9 aa ww h12 H S
      obtain ⟨r51, rfl, H⟩ := H
      refine OL.pure S (Lf.run_move (S.ev rfl)) rfl rfl trivial ?_
      clear S; intro aa S
      obtain ⟨u_10, e_4, y52, y52_1, y52_2, rfl, H⟩ := H
      refine OL.pure S (Lf.run_ex (S.ev rfl) e_4) rfl rfl trivial ?_
      clear S; intro aa S
      obtain ⟨u_11, e_5, x53, rfl, H⟩ := H
      refine OL.pure S (Lf.run_ex (S.ev rfl) e_5) rfl rfl trivial ?_
      clear S; intro aa S
      refine ol_alloc S H ti28 rfl rfl trivial ?_
      clear S H aa; intro p10 aa ww h13 H S
      refine ol_stoA S H rfl rfl ti28 trivial ?_
      clear S H aa; intro aa ww h14 H S
      refine OL.pure S (Lf.run_assign (S.ev rfl)) rfl rfl trivial ?_
      clear S; intro aa S
      refine OL.nil ?_
      refine W.seq ?_
      replace S := S.sub [(1, Value.int .i64 (IntKind.i64.wrap (1 + (IntKind.i64.wrap (((IntKind.u64.wrap deep1) : Int).tmod 6))))), (5, Value.pointer x21), (6, Value.pointer (some p6)), (7, Value.bool ok7), (10, Value.pointer (some p10)), (11, Value.int .i64 x53)] ⟨rfl, rfl, rfl, rfl, rfl, rfl, trivial⟩
      refine W.region ?_
      refine OL.pure S (Lf.run_move (S.ev rfl)) rfl rfl trivial ?_
      clear S; intro aa S
      refine ol_cal S H isfn13 rfl rfl trivial ?_
      clear S H aa; intro u_12 aa ww h15 H S
      obtain ⟨x55, rfl, H⟩ := H
      refine OL.pure S (Lf.run_assign (S.ev rfl)) rfl rfl trivial ?_
      clear S; intro aa S
      refine OL.nil ?_
      refine W.seq ?_
      replace S := S.sub [(1, Value.int .i64 (IntKind.i64.wrap (1 + (IntKind.i64.wrap (((IntKind.u64.wrap deep1) : Int).tmod 6))))), (5, Value.pointer x21), (6, Value.pointer (some p6)), (7, Value.bool ok7), (10, Value.pointer (some p10)), (11, Value.int .i64 x53), (12, Value.int .i64 x55)] ⟨rfl, rfl, rfl, rfl, rfl, rfl, rfl, trivial⟩
      refine W.region ?_
      refine OL.pure S (Lf.run_move (S.ev rfl)) rfl rfl trivial ?_
      clear S; intro aa S
      refine OL.pure S (Lf.run_fa (S.ev rfl) fa28_0) rfl rfl trivial ?_
      clear S; intro aa S
      obtain ⟨x58, c_3, H⟩ := H
      refine OL.pure S (Lf.run_ld (S.ev rfl) fl3 (S.cl c_3)) rfl rfl trivial ?_
      clear S; intro aa S
      refine ol_cal S H isfn14 rfl rfl trivial ?_
      clear S H aa; intro u_13 aa ww h16 H S
      obtain ⟨x59, rfl, H⟩ := H
      refine OL.pure S (Lf.run_assign (S.ev rfl)) rfl rfl trivial ?_
      clear S; intro aa S
      refine OL.nil ?_
      refine W.seq ?_
      replace S := S.sub [(1, Value.int .i64 (IntKind.i64.wrap (1 + (IntKind.i64.wrap (((IntKind.u64.wrap deep1) : Int).tmod 6))))), (5, Value.pointer x21), (6, Value.pointer (some p6)), (7, Value.bool ok7), (10, Value.pointer (some p10)), (11, Value.int .i64 x53), (12, Value.int .i64 x55), (13, Value.int .i64 x59)] ⟨rfl, rfl, rfl, rfl, rfl, rfl, rfl, rfl, trivial⟩
      refine W.region ?_
      refine OL.pure S (Lf.run_move (S.ev rfl)) rfl rfl trivial ?_
      clear S; intro aa S
      obtain ⟨y62, y62_1, y62_2, c_6, c_7, c_8, H⟩ := H
      refine OL.pure S (Lf.run_ldA (cs := [Value.int .i64 y62, Value.slice y62_1.a y62_1.n y62_1.c, Value.int .i64 y62_2]) (S.ev rfl) ag28 ti28 (by rw [S.heap]; exact RowL.toRow ⟨c_6, c_7, c_8, trivial⟩)) rfl rfl trivial ?_
      clear S; intro aa S
      refine ol_cal S H isfn15 rfl rfl trivial ?_
      clear S H aa; intro u_14 aa ww h17 H S
      obtain ⟨r63, rfl, H⟩ := H
      refine OL.pure S (Lf.run_move (S.ev rfl)) rfl rfl trivial ?_
      clear S; intro aa S
      obtain ⟨u_15, e_6, y64, y64_1, y64_2, y64_3, y64_4, y64_5, y64_6, rfl, H⟩ := H
      refine OL.pure S (Lf.run_ex (S.ev rfl) e_6) rfl rfl trivial ?_
      clear S; intro aa S
      obtain ⟨u_16, e_7, x65, rfl, H⟩ := H
      refine OL.pure S (Lf.run_ex (S.ev rfl) e_7) rfl rfl trivial ?_
      clear S; intro aa S
      refine ol_alloc S H ti33 rfl rfl trivial ?_
      clear S H aa; intro p14 aa ww h18 H S
      refine ol_stoA S H rfl rfl ti33 trivial ?_
      clear S H aa; intro aa ww h19 H S
      refine OL.pure S (Lf.run_assign (S.ev rfl)) rfl rfl trivial ?_
      clear S; intro aa S
      refine OL.nil ?_
      refine W.seq ?_
      replace S := S.sub [(1, Value.int .i64 (IntKind.i64.wrap (1 + (IntKind.i64.wrap (((IntKind.u64.wrap deep1) : Int).tmod 6))))), (5, Value.pointer x21), (6, Value.pointer (some p6)), (7, Value.bool ok7), (11, Value.int .i64 x53), (12, Value.int .i64 x55), (13, Value.int .i64 x59), (15, Value.int .i64 x65)] ⟨rfl, rfl, rfl, rfl, rfl, rfl, rfl, rfl, trivial⟩
      refine W.region ?_
      refine OL.pure S (Lf.run_move (S.ev rfl)) rfl rfl trivial ?_
      clear S; intro aa S
      refine OL.pure S (Lf.run_move (S.ev rfl)) rfl rfl trivial ?_
      clear S; intro aa S
      refine OL.cutN 3 (fun aa ww => St 97 ((70, Value.bool (ok7 && (x53 == 0))) :: [(1, Value.int .i64 (IntKind.i64.wrap (1 + (IntKind.i64.wrap (((IntKind.u64.wrap deep1) : Int).tmod 6))))), (5, Value.pointer x21), (6, Value.pointer (some p6)), (7, Value.bool ok7), (11, Value.int .i64 x53), (12, Value.int .i64 x55), (13, Value.int .i64 x59), (15, Value.int .i64 x65), (66, Value.bool ok7), (67, Value.bool ok7)]) h19 w0 aa ww) ?_ ?_
      · rcases Bool.eq_false_or_eq_true ok7 with hb_3 | hb_3
        · refine OL.pure S (Lf.run_move (S.ev rfl)) rfl rfl (GOk.mk rfl rfl hb_3) ?_
          clear S; intro aa S
          refine OL.pure S (Lf.run_eql (S.ev rfl) (S.ev rfl)) rfl rfl (GOk.mk rfl rfl hb_3) ?_
          clear S; intro aa S
          refine OL.pure S (Lf.run_pickT (S.ev rfl) hb_3 (S.ev rfl)) rfl rfl trivial ?_
          clear S; intro aa S
          refine OL.nil ?_
          exact (S.hd (by rw [hb_3, Bool.true_and])).sub _ ⟨rfl, rfl, rfl, rfl, rfl, rfl, rfl, rfl, rfl, rfl, rfl, trivial⟩
        · refine OL.not S rfl rfl (GNo.mk rfl rfl hb_3) ?_
          clear S; intro aa S
          refine OL.not S rfl rfl (GNo.mk rfl rfl hb_3) ?_
          clear S; intro aa S
          refine OL.pure S (Lf.run_pickF (S.ev rfl) hb_3 (S.ev rfl)) rfl rfl trivial ?_
          clear S; intro aa S
          refine OL.nil ?_
          exact (S.hd (by rw [hb_3, Bool.false_and])).sub _ ⟨rfl, rfl, rfl, rfl, rfl, rfl, rfl, rfl, rfl, rfl, rfl, trivial⟩
      · clear S aa
        intro aa ww S
        refine OL.pure S (Lf.run_move (S.ev rfl)) rfl rfl trivial ?_
        clear S; intro aa S
        refine OL.cutN 3 (fun aa ww => St 97 ((74, Value.bool ((ok7 && (x53 == 0)) && (x59 == 0))) :: [(1, Value.int .i64 (IntKind.i64.wrap (1 + (IntKind.i64.wrap (((IntKind.u64.wrap deep1) : Int).tmod 6))))), (5, Value.pointer x21), (6, Value.pointer (some p6)), (7, Value.bool ok7), (11, Value.int .i64 x53), (12, Value.int .i64 x55), (13, Value.int .i64 x59), (15, Value.int .i64 x65), (66, Value.bool ok7), (67, Value.bool ok7), (70, Value.bool (ok7 && (x53 == 0))), (71, Value.bool (ok7 && (x53 == 0)))]) h19 w0 aa ww) ?_ ?_
        · rcases Bool.eq_false_or_eq_true (ok7 && (x53 == 0)) with hb_4 | hb_4
          · refine OL.pure S (Lf.run_move (S.ev rfl)) rfl rfl (GOk.mk rfl rfl hb_4) ?_
            clear S; intro aa S
            refine OL.pure S (Lf.run_eql (S.ev rfl) (S.ev rfl)) rfl rfl (GOk.mk rfl rfl hb_4) ?_
            clear S; intro aa S
            refine OL.pure S (Lf.run_pickT (S.ev rfl) hb_4 (S.ev rfl)) rfl rfl trivial ?_
            clear S; intro aa S
            refine OL.nil ?_
            exact (S.hd (by rw [hb_4, Bool.true_and])).sub _ ⟨rfl, rfl, rfl, rfl, rfl, rfl, rfl, rfl, rfl, rfl, rfl, rfl, rfl, trivial⟩
          · refine OL.not S rfl rfl (GNo.mk rfl rfl hb_4) ?_
            clear S; intro aa S
            refine OL.not S rfl rfl (GNo.mk rfl rfl hb_4) ?_
            clear S; intro aa S
            refine OL.pure S (Lf.run_pickF (S.ev rfl) hb_4 (S.ev rfl)) rfl rfl trivial ?_
            clear S; intro aa S
            refine OL.nil ?_
            exact (S.hd (by rw [hb_4, Bool.false_and])).sub _ ⟨rfl, rfl, rfl, rfl, rfl, rfl, rfl, rfl, rfl, rfl, rfl, rfl, rfl, trivial⟩
        · clear S aa
          intro aa ww S
          refine OL.pure S (Lf.run_move (S.ev rfl)) rfl rfl trivial ?_
          clear S; intro aa S
          refine OL.cutN 3 (fun aa ww => St 97 ((78, Value.bool (((ok7 && (x53 == 0)) && (x59 == 0)) && (x65 == 1))) :: [(1, Value.int .i64 (IntKind.i64.wrap (1 + (IntKind.i64.wrap (((IntKind.u64.wrap deep1) : Int).tmod 6))))), (5, Value.pointer x21), (6, Value.pointer (some p6)), (7, Value.bool ok7), (11, Value.int .i64 x53), (12, Value.int .i64 x55), (13, Value.int .i64 x59), (15, Value.int .i64 x65), (66, Value.bool ok7), (67, Value.bool ok7), (70, Value.bool (ok7 && (x53 == 0))), (71, Value.bool (ok7 && (x53 == 0))), (74, Value.bool ((ok7 && (x53 == 0)) && (x59 == 0))), (75, Value.bool ((ok7 && (x53 == 0)) && (x59 == 0)))]) h19 w0 aa ww) ?_ ?_
          · rcases Bool.eq_false_or_eq_true ((ok7 && (x53 == 0)) && (x59 == 0)) with hb_5 | hb_5
            · refine OL.pure S (Lf.run_move (S.ev rfl)) rfl rfl (GOk.mk rfl rfl hb_5) ?_
              clear S; intro aa S
              refine OL.pure S (Lf.run_eql (S.ev rfl) (S.ev rfl)) rfl rfl (GOk.mk rfl rfl hb_5) ?_
              clear S; intro aa S
              refine OL.pure S (Lf.run_pickT (S.ev rfl) hb_5 (S.ev rfl)) rfl rfl trivial ?_
              clear S; intro aa S
              refine OL.nil ?_
              exact (S.hd (by rw [hb_5, Bool.true_and])).sub _ ⟨rfl, rfl, rfl, rfl, rfl, rfl, rfl, rfl, rfl, rfl, rfl, rfl, rfl, rfl, rfl, trivial⟩
            · refine OL.not S rfl rfl (GNo.mk rfl rfl hb_5) ?_
              clear S; intro aa S
              refine OL.not S rfl rfl (GNo.mk rfl rfl hb_5) ?_
              clear S; intro aa S
              refine OL.pure S (Lf.run_pickF (S.ev rfl) hb_5 (S.ev rfl)) rfl rfl trivial ?_
              clear S; intro aa S
              refine OL.nil ?_
              exact (S.hd (by rw [hb_5, Bool.false_and])).sub _ ⟨rfl, rfl, rfl, rfl, rfl, rfl, rfl, rfl, rfl, rfl, rfl, rfl, rfl, rfl, rfl, trivial⟩
          · clear S aa
            intro aa ww S
            refine OL.pure S (Lf.run_move (S.ev rfl)) rfl rfl trivial ?_
            clear S; intro aa S
            refine OL.cutN 5 (fun aa ww => St 97 ((84, Value.bool ((((ok7 && (x53 == 0)) && (x59 == 0)) && (x65 == 1)) && (x55 == (IntKind.i64.wrap ((IntKind.i64.wrap (1 + (IntKind.i64.wrap (((IntKind.u64.wrap deep1) : Int).tmod 6)))) + 1))))) :: [(1, Value.int .i64 (IntKind.i64.wrap (1 + (IntKind.i64.wrap (((IntKind.u64.wrap deep1) : Int).tmod 6))))), (5, Value.pointer x21), (6, Value.pointer (some p6)), (7, Value.bool ok7), (11, Value.int .i64 x53), (12, Value.int .i64 x55), (13, Value.int .i64 x59), (15, Value.int .i64 x65), (66, Value.bool ok7), (67, Value.bool ok7), (70, Value.bool (ok7 && (x53 == 0))), (71, Value.bool (ok7 && (x53 == 0))), (74, Value.bool ((ok7 && (x53 == 0)) && (x59 == 0))), (75, Value.bool ((ok7 && (x53 == 0)) && (x59 == 0))), (78, Value.bool (((ok7 && (x53 == 0)) && (x59 == 0)) && (x65 == 1))), (79, Value.bool (((ok7 && (x53 == 0)) && (x59 == 0)) && (x65 == 1)))]) h19 w0 aa ww) ?_ ?_
            · rcases Bool.eq_false_or_eq_true (((ok7 && (x53 == 0)) && (x59 == 0)) && (x65 == 1)) with hb_6 | hb_6
              · refine OL.pure S (Lf.run_move (S.ev rfl)) rfl rfl (GOk.mk rfl rfl hb_6) ?_
                clear S; intro aa S
                refine OL.pure S (Lf.run_move (S.ev rfl)) rfl rfl (GOk.mk rfl rfl hb_6) ?_
                clear S; intro aa S
                refine OL.pure S (Lf.run_add (S.ev rfl) (S.ev rfl)) rfl rfl (GOk.mk rfl rfl hb_6) ?_
                clear S; intro aa S
                refine OL.pure S (Lf.run_eql (S.ev rfl) (S.ev rfl)) rfl rfl (GOk.mk rfl rfl hb_6) ?_
                clear S; intro aa S
                refine OL.pure S (Lf.run_pickT (S.ev rfl) hb_6 (S.ev rfl)) rfl rfl trivial ?_
                clear S; intro aa S
                refine OL.nil ?_
                exact (S.hd (by rw [hb_6, Bool.true_and])).sub _ ⟨rfl, rfl, rfl, rfl, rfl, rfl, rfl, rfl, rfl, rfl, rfl, rfl, rfl, rfl, rfl, rfl, rfl, trivial⟩
              · refine OL.not S rfl rfl (GNo.mk rfl rfl hb_6) ?_
                clear S; intro aa S
                refine OL.not S rfl rfl (GNo.mk rfl rfl hb_6) ?_
                clear S; intro aa S
                refine OL.not S rfl rfl (GNo.mk rfl rfl hb_6) ?_
                clear S; intro aa S
                refine OL.not S rfl rfl (GNo.mk rfl rfl hb_6) ?_
                clear S; intro aa S
                refine OL.pure S (Lf.run_pickF (S.ev rfl) hb_6 (S.ev rfl)) rfl rfl trivial ?_
                clear S; intro aa S
                refine OL.nil ?_
                exact (S.hd (by rw [hb_6, Bool.false_and])).sub _ ⟨rfl, rfl, rfl, rfl, rfl, rfl, rfl, rfl, rfl, rfl, rfl, rfl, rfl, rfl, rfl, rfl, rfl, trivial⟩
            · clear S aa
              intro aa ww S
              refine OL.pure S (Lf.run_move (S.ev rfl)) rfl rfl trivial ?_
              clear S; intro aa S
              obtain ⟨J, H, HK⟩ := H
              refine OL.cutN 4 (fun aa ww => ∃ x89 h20, St 97 ((89, Value.bool x89) :: [(1, Value.int .i64 (IntKind.i64.wrap (1 + (IntKind.i64.wrap (((IntKind.u64.wrap deep1) : Int).tmod 6))))), (5, Value.pointer x21), (6, Value.pointer (some p6)), (7, Value.bool ok7), (11, Value.int .i64 x53), (12, Value.int .i64 x55), (13, Value.int .i64 x59), (15, Value.int .i64 x65), (66, Value.bool ok7), (67, Value.bool ok7), (70, Value.bool (ok7 && (x53 == 0))), (71, Value.bool (ok7 && (x53 == 0))), (74, Value.bool ((ok7 && (x53 == 0)) && (x59 == 0))), (75, Value.bool ((ok7 && (x53 == 0)) && (x59 == 0))), (78, Value.bool (((ok7 && (x53 == 0)) && (x59 == 0)) && (x65 == 1))), (79, Value.bool (((ok7 && (x53 == 0)) && (x59 == 0)) && (x65 == 1))), (84, Value.bool ((((ok7 && (x53 == 0)) && (x59 == 0)) && (x65 == 1)) && (x55 == (IntKind.i64.wrap ((IntKind.i64.wrap (1 + (IntKind.i64.wrap (((IntKind.u64.wrap deep1) : Int).tmod 6)))) + 1))))), (85, Value.bool ((((ok7 && (x53 == 0)) && (x59 == 0)) && (x65 == 1)) && (x55 == (IntKind.i64.wrap ((IntKind.i64.wrap (1 + (IntKind.i64.wrap (((IntKind.u64.wrap deep1) : Int).tmod 6)))) + 1)))))]) h20 w0 aa ww ∧ J x89 h20) ?_ ?_
              · rcases Bool.eq_false_or_eq_true ((((ok7 && (x53 == 0)) && (x59 == 0)) && (x65 == 1)) && (x55 == (IntKind.i64.wrap ((IntKind.i64.wrap (1 + (IntKind.i64.wrap (((IntKind.u64.wrap deep1) : Int).tmod 6)))) + 1)))) with hb_7 | hb_7
                · replace H := H.1 hb_7
                  refine OL.pure S (Lf.run_move (S.ev rfl)) rfl rfl (GOk.mk rfl rfl hb_7) ?_
                  clear S; intro aa S
                  refine ol_cal S H isfn13 rfl rfl (GOk.mk rfl rfl hb_7) ?_
                  clear S H aa; intro u_17 aa ww h21 H S
                  obtain ⟨x87, rfl, H⟩ := H
                  refine OL.pure S (Lf.run_eql (S.ev rfl) (S.ev rfl)) rfl rfl (GOk.mk rfl rfl hb_7) ?_
                  clear S; intro aa S
                  refine OL.pure S (Lf.run_pickT (S.ev rfl) hb_7 (S.ev rfl)) rfl rfl trivial ?_
                  clear S; intro aa S
                  refine OL.nil ?_
                  exact ⟨_, _, S.sub _ ⟨rfl, rfl, rfl, rfl, rfl, rfl, rfl, rfl, rfl, rfl, rfl, rfl, rfl, rfl, rfl, rfl, rfl, rfl, rfl, trivial⟩, H⟩
                · replace H := H.2 hb_7
                  refine OL.not S rfl rfl (GNo.mk rfl rfl hb_7) ?_
                  clear S; intro aa S
                  refine OL.not S rfl rfl (GNo.mk rfl rfl hb_7) ?_
                  clear S; intro aa S
                  refine OL.not S rfl rfl (GNo.mk rfl rfl hb_7) ?_
                  clear S; intro aa S
                  refine OL.pure S (Lf.run_pickF (S.ev rfl) hb_7 (S.ev rfl)) rfl rfl trivial ?_
                  clear S; intro aa S
                  refine OL.nil ?_
                  exact ⟨_, _, S.sub _ ⟨rfl, rfl, rfl, rfl, rfl, rfl, rfl, rfl, rfl, rfl, rfl, rfl, rfl, rfl, rfl, rfl, rfl, rfl, rfl, trivial⟩, H⟩
              · clear S aa
                rintro aa ww ⟨x89, h20, S, HJ⟩
                replace H := HK _ _ HJ
                clear HK HJ
                refine OL.pure S (Lf.run_move (S.ev rfl)) rfl rfl trivial ?_
                clear S; intro aa S
                obtain ⟨J_1, H, HK_1⟩ := H
                refine OL.cutN 6 (fun aa ww => ∃ x96 h22, St 97 ((96, Value.bool x96) :: [(1, Value.int .i64 (IntKind.i64.wrap (1 + (IntKind.i64.wrap (((IntKind.u64.wrap deep1) : Int).tmod 6))))), (5, Value.pointer x21), (6, Value.pointer (some p6)), (7, Value.bool ok7), (11, Value.int .i64 x53), (12, Value.int .i64 x55), (13, Value.int .i64 x59), (15, Value.int .i64 x65), (66, Value.bool ok7), (67, Value.bool ok7), (70, Value.bool (ok7 && (x53 == 0))), (71, Value.bool (ok7 && (x53 == 0))), (74, Value.bool ((ok7 && (x53 == 0)) && (x59 == 0))), (75, Value.bool ((ok7 && (x53 == 0)) && (x59 == 0))), (78, Value.bool (((ok7 && (x53 == 0)) && (x59 == 0)) && (x65 == 1))), (79, Value.bool (((ok7 && (x53 == 0)) && (x59 == 0)) && (x65 == 1))), (84, Value.bool ((((ok7 && (x53 == 0)) && (x59 == 0)) && (x65 == 1)) && (x55 == (IntKind.i64.wrap ((IntKind.i64.wrap (1 + (IntKind.i64.wrap (((IntKind.u64.wrap deep1) : Int).tmod 6)))) + 1))))), (85, Value.bool ((((ok7 && (x53 == 0)) && (x59 == 0)) && (x65 == 1)) && (x55 == (IntKind.i64.wrap ((IntKind.i64.wrap (1 + (IntKind.i64.wrap (((IntKind.u64.wrap deep1) : Int).tmod 6)))) + 1))))), (89, Value.bool x89), (90, Value.bool x89)]) h22 w0 aa ww ∧ J_1 x96 h22) ?_ ?_
                · rcases Bool.eq_false_or_eq_true x89 with hb_8 | hb_8
                  · replace H := H.1 hb_8
                    refine OL.pure S (Lf.run_move (S.ev rfl)) rfl rfl (GOk.mk rfl rfl hb_8) ?_
                    clear S; intro aa S
                    refine OL.pure S (Lf.run_fa (S.ev rfl) fa28_0) rfl rfl (GOk.mk rfl rfl hb_8) ?_
                    clear S; intro aa S
                    obtain ⟨x93, c_5, H⟩ := H
                    refine OL.pure S (Lf.run_ld (S.ev rfl) fl3 (S.cl c_5)) rfl rfl (GOk.mk rfl rfl hb_8) ?_
                    clear S; intro aa S
                    refine ol_cal S H isfn14 rfl rfl (GOk.mk rfl rfl hb_8) ?_
                    clear S H aa; intro u_18 aa ww h23 H S
                    obtain ⟨x94, rfl, H⟩ := H
                    refine OL.pure S (Lf.run_eql (S.ev rfl) (S.ev rfl)) rfl rfl (GOk.mk rfl rfl hb_8) ?_
                    clear S; intro aa S
                    refine OL.pure S (Lf.run_pickT (S.ev rfl) hb_8 (S.ev rfl)) rfl rfl trivial ?_
                    clear S; intro aa S
                    refine OL.nil ?_
                    exact ⟨_, _, S.sub _ ⟨rfl, rfl, rfl, rfl, rfl, rfl, rfl, rfl, rfl, rfl, rfl, rfl, rfl, rfl, rfl, rfl, rfl, rfl, rfl, rfl, rfl, trivial⟩, H⟩
                  · replace H := H.2 hb_8
                    refine OL.not S rfl rfl (GNo.mk rfl rfl hb_8) ?_
                    clear S; intro aa S
                    refine OL.not S rfl rfl (GNo.mk rfl rfl hb_8) ?_
                    clear S; intro aa S
                    refine OL.not S rfl rfl (GNo.mk rfl rfl hb_8) ?_
                    clear S; intro aa S
                    refine OL.not S rfl rfl (GNo.mk rfl rfl hb_8) ?_
                    clear S; intro aa S
                    refine OL.not S rfl rfl (GNo.mk rfl rfl hb_8) ?_
                    clear S; intro aa S
                    refine OL.pure S (Lf.run_pickF (S.ev rfl) hb_8 (S.ev rfl)) rfl rfl trivial ?_
                    clear S; intro aa S
                    refine OL.nil ?_
                    exact ⟨_, _, S.sub _ ⟨rfl, rfl, rfl, rfl, rfl, rfl, rfl, rfl, rfl, rfl, rfl, rfl, rfl, rfl, rfl, rfl, rfl, rfl, rfl, rfl, rfl, trivial⟩, H⟩
                · clear S aa
                  rintro aa ww ⟨x96, h22, S, HJ⟩
                  replace H := HK_1 _ _ HJ
                  clear HK_1 HJ
                  refine OL.pure S (Lf.run_assign (S.ev rfl)) rfl rfl trivial ?_
                  clear S; intro aa S
                  refine OL.nil ?_
                  refine W.ret ?_
                  exact Ret.one S rfl rfl H

/-- chattel chattellaw13.HeapRights -/
def L4 (given0 : Int) (given0_1 : Int) (given0_2 : Bool) (given0_3 : Bool) (given0_4 : Int) (h : Heap) (R : Value → Heap → Prop) : Prop :=
  new 44 #[Value.int .u64 given0, Value.int .u64 given0_1, Value.bool given0_2, Value.bool given0_3, Value.int .i64 given0_4] h fun p1 h1 =>
  ldI .u64 h1 p1 fun x19 =>
  ldI .u64 h1 (p1.add 1) fun x21 =>
  ldB h1 (p1.add 2) fun x23 =>
  ldB h1 (p1.add 3) fun x25 =>
  ldI .i64 h1 (p1.add 4) fun x27 =>
  cal Try.prog 8 #[Value.int .i64 4, Value.bool true] h1 fun u h2 => asP u fun x28 =>
  cal Try.prog 16 #[Value.int .u64 x19, Value.int .u64 x21] h2 fun u_1 h3 => ∃ (y33 : Int) (y33_1 : Int) (y33_2 : ByteArray) (y33_3 : Sv) (y33_4 : Int) (y33_5 : Sv) (y33_6 : Int), u_1 = Value.agg #[Value.int .i64 y33, Value.int .u64 y33_1, Value.string y33_2, Value.slice y33_3.a y33_3.n y33_3.c, Value.int .i64 y33_4, Value.slice y33_5.a y33_5.n y33_5.c, Value.int .i64 y33_6] ∧
  cal Try.prog 10 #[Value.pointer x28, Value.agg #[Value.int .i64 y33, Value.int .u64 y33_1, Value.string y33_2, Value.slice y33_3.a y33_3.n y33_3.c, Value.int .i64 y33_4, Value.slice y33_5.a y33_5.n y33_5.c, Value.int .i64 y33_6]] h3 fun u_2 h4 => asTup u_2 fun r34 =>
  elt r34 0 fun u_3 => ∃ (y35 : Int) (y35_1 : Sv) (y35_2 : Int), u_3 = Value.agg #[Value.int .i64 y35, Value.slice y35_1.a y35_1.n y35_1.c, Value.int .i64 y35_2] ∧
  elt r34 1 fun u_4 => asB u_4 fun x36 =>
  new 28 #[Value.int .i64 0, Value.slice (⟨none, 0, 0⟩ : Sv).a (⟨none, 0, 0⟩ : Sv).n (⟨none, 0, 0⟩ : Sv).c, Value.int .i64 0] h4 fun p9 h5 =>
  stoA h5 p9 [Value.int .i64 y35, Value.slice y35_1.a y35_1.n y35_1.c, Value.int .i64 y35_2] fun h6 =>
  cal Try.prog 9 #[] h6 fun u_5 h7 => asB u_5 fun x37 =>
  ifb ((!x37) || (!x36)) (
    R (Value.bool false) h7) (
    ∃ (y43 : Int) (y43_1 : Sv) (y43_2 : Int), cl h7 p9 = some (Value.int .i64 y43) ∧ cl h7 (p9.add 1) = some (Value.slice y43_1.a y43_1.n y43_1.c) ∧ cl h7 (p9.add 2) = some (Value.int .i64 y43_2) ∧
    new 28 #[Value.int .i64 0, Value.slice (⟨none, 0, 0⟩ : Sv).a (⟨none, 0, 0⟩ : Sv).n (⟨none, 0, 0⟩ : Sv).c, Value.int .i64 0] h7 fun p11 h8 =>
    stoA h8 p11 [Value.int .i64 y43, Value.slice y43_1.a y43_1.n y43_1.c, Value.int .i64 y43_2] fun h9 =>
    ∃ J : Heap → Prop, (
      ifb (decide (0 < x27)) (
        newS 3 #[Value.int .i64 ((x27 : Int).tmod 2)] 1 h9 fun s48 h10 =>
        sto h10 (p11.add 1) (Value.slice s48.a s48.n s48.c) fun h11 =>
        J h11) (
        J h9)) ∧ (∀ h12, J h12 →
    ∃ (y52 : Int) (y52_1 : Sv) (y52_2 : Int), cl h12 p11 = some (Value.int .i64 y52) ∧ cl h12 (p11.add 1) = some (Value.slice y52_1.a y52_1.n y52_1.c) ∧ cl h12 (p11.add 2) = some (Value.int .i64 y52_2) ∧
    cal Try.prog 12 #[Value.pointer x28, Value.agg #[Value.int .i64 y52, Value.slice y52_1.a y52_1.n y52_1.c, Value.int .i64 y52_2], Value.bool x23] h12 fun u_6 h13 => asTup u_6 fun r54 =>
    elt r54 0 fun u_7 => ∃ (y55 : Int) (y55_1 : Sv) (y55_2 : Int), u_7 = Value.agg #[Value.int .i64 y55, Value.slice y55_1.a y55_1.n y55_1.c, Value.int .i64 y55_2] ∧
    elt r54 1 fun u_8 => asI .i64 u_8 fun x56 =>
    new 28 #[Value.int .i64 0, Value.slice (⟨none, 0, 0⟩ : Sv).a (⟨none, 0, 0⟩ : Sv).n (⟨none, 0, 0⟩ : Sv).c, Value.int .i64 0] h13 fun p12 h14 =>
    stoA h14 p12 [Value.int .i64 y55, Value.slice y55_1.a y55_1.n y55_1.c, Value.int .i64 y55_2] fun h15 =>
    ∃ J_1 : Int → Heap → Prop, (
      ifb x25 (
        ∃ Sq : Heap → Prop, Sq h15 ∧ (
          ∃ (y59 : Int) (y59_1 : Sv) (y59_2 : Int), hld Sq p9 (Value.int .i64 y59) ∧ hld Sq (p9.add 1) (Value.slice y59_1.a y59_1.n y59_1.c) ∧ hld Sq (p9.add 2) (Value.int .i64 y59_2) ∧
          cal Try.prog 16 #[Value.int .u64 x21, Value.int .u64 x19] h15 fun u_9 h16 => ∃ (y62 : Int) (y62_1 : Int) (y62_2 : ByteArray) (y62_3 : Sv) (y62_4 : Int) (y62_5 : Sv) (y62_6 : Int), u_9 = Value.agg #[Value.int .i64 y62, Value.int .u64 y62_1, Value.string y62_2, Value.slice y62_3.a y62_3.n y62_3.c, Value.int .i64 y62_4, Value.slice y62_5.a y62_5.n y62_5.c, Value.int .i64 y62_6] ∧
          Sq h16 ∧
          cal Try.prog 17 #[Value.pointer x28, Value.agg #[Value.int .i64 y59, Value.slice y59_1.a y59_1.n y59_1.c, Value.int .i64 y59_2], Value.agg #[Value.int .i64 y62, Value.int .u64 y62_1, Value.string y62_2, Value.slice y62_3.a y62_3.n y62_3.c, Value.int .i64 y62_4, Value.slice y62_5.a y62_5.n y62_5.c, Value.int .i64 y62_6]] h16 fun u_10 h17 => asI .i64 u_10 fun x63 =>
          J_1 x63 h17)) (
        ∃ (y66 : Int) (y66_1 : Sv) (y66_2 : Int), cl h15 p9 = some (Value.int .i64 y66) ∧ cl h15 (p9.add 1) = some (Value.slice y66_1.a y66_1.n y66_1.c) ∧ cl h15 (p9.add 2) = some (Value.int .i64 y66_2) ∧
        cal Try.prog 15 #[Value.pointer x28, Value.agg #[Value.int .i64 y66, Value.slice y66_1.a y66_1.n y66_1.c, Value.int .i64 y66_2]] h15 fun u_11 h18 => asTup u_11 fun r67 =>
        elt r67 0 fun u_12 => ∃ (y68 : Int) (y68_1 : Int) (y68_2 : ByteArray) (y68_3 : Sv) (y68_4 : Int) (y68_5 : Sv) (y68_6 : Int), u_12 = Value.agg #[Value.int .i64 y68, Value.int .u64 y68_1, Value.string y68_2, Value.slice y68_3.a y68_3.n y68_3.c, Value.int .i64 y68_4, Value.slice y68_5.a y68_5.n y68_5.c, Value.int .i64 y68_6] ∧
        elt r67 1 fun u_13 => asI .i64 u_13 fun x69 =>
        J_1 x69 h18)) ∧ (∀ g14 h19, J_1 g14 h19 →
    ∃ (y72 : Int) (y72_1 : Sv) (y72_2 : Int), cl h19 p12 = some (Value.int .i64 y72) ∧ cl h19 (p12.add 1) = some (Value.slice y72_1.a y72_1.n y72_1.c) ∧ cl h19 (p12.add 2) = some (Value.int .i64 y72_2) ∧
    cal Try.prog 15 #[Value.pointer x28, Value.agg #[Value.int .i64 y72, Value.slice y72_1.a y72_1.n y72_1.c, Value.int .i64 y72_2]] h19 fun u_14 h20 => asTup u_14 fun r73 =>
    elt r73 0 fun u_15 => ∃ (y74 : Int) (y74_1 : Int) (y74_2 : ByteArray) (y74_3 : Sv) (y74_4 : Int) (y74_5 : Sv) (y74_6 : Int), u_15 = Value.agg #[Value.int .i64 y74, Value.int .u64 y74_1, Value.string y74_2, Value.slice y74_3.a y74_3.n y74_3.c, Value.int .i64 y74_4, Value.slice y74_5.a y74_5.n y74_5.c, Value.int .i64 y74_6] ∧
    elt r73 1 fun u_16 => asI .i64 u_16 fun x75 =>
    new 33 #[Value.int .i64 0, Value.int .u64 0, Value.string (⟨#[]⟩ : ByteArray), Value.slice (⟨none, 0, 0⟩ : Sv).a (⟨none, 0, 0⟩ : Sv).n (⟨none, 0, 0⟩ : Sv).c, Value.int .i64 0, Value.slice (⟨none, 0, 0⟩ : Sv).a (⟨none, 0, 0⟩ : Sv).n (⟨none, 0, 0⟩ : Sv).c, Value.int .i64 0] h20 fun p15 h21 =>
    stoA h21 p15 [Value.int .i64 y74, Value.int .u64 y74_1, Value.string y74_2, Value.slice y74_3.a y74_3.n y74_3.c, Value.int .i64 y74_4, Value.slice y74_5.a y74_5.n y74_5.c, Value.int .i64 y74_6] fun h22 =>
    ∃ J_2 : Int → Prop, (
      ifb (x23 || x25) (
        J_2 2) (
        J_2 0)) ∧ (∀ want17, J_2 want17 →
    R (Value.bool (((x56 == 0) && (g14 == 0)) && (x75 == want17))) h22))))

set_option maxRecDepth 100000 in

theorem F4 {given0 given0_1 given0_2 given0_3 given0_4 h : _} {R : Value → Heap → Prop} (H : L4 given0 given0_1 given0_2 given0_3 given0_4 h R) : CallsH Try.prog 4 #[Value.agg #[Value.int .u64 given0, Value.int .u64 given0_1, Value.bool given0_2, Value.bool given0_3, Value.int .i64 given0_4]] h R := by
  refine CallsH.enter (n := 91) Try.func4 rfl rfl rfl rfl ?_
  intro w0 aa ww S
  unfold L4 at H
  refine W.seq ?_
  replace S := S.sub [(0, Value.agg #[Value.int .u64 given0, Value.int .u64 given0_1, Value.bool given0_2, Value.bool given0_3, Value.int .i64 given0_4])] ⟨rfl, trivial⟩
  refine W.region ?_
  refine ol_box S H rfl rfl rfl trivial ?_
  clear S H aa; intro p1 aa ww h1 H S
  refine OL.pure S (Lf.run_assign (S.ev rfl)) rfl rfl trivial ?_
  clear S; intro aa S
  refine OL.nil ?_
  refine W.seq ?_
  replace S := S.sub [(1, Value.pointer (some p1))] ⟨rfl, trivial⟩
  refine W.regionD S (by kernel_rfl) ?_
  clear S; intro ww S
  refine AN.pure 0 S rfl (by kernel_rfl) (fun _ => Lf.run_fa (S.ev rfl) fa44_0) rfl rfl trivial ?_
  clear S; intro aa S
  obtain ⟨x19, c, H⟩ := H
  refine AN.load 1 S rfl (by kernel_rfl) (fun _ hx => Lf.run_ld (S.ev rfl) fl22 (hx.cell _ _ (S.cl c))) rfl rfl trivial ?_
  clear S; intro aa S
  refine AN.pure 2 S rfl (by kernel_rfl) (fun _ => Lf.run_fa (S.ev rfl) fa44_1) rfl rfl trivial ?_
  clear S; intro aa S
  obtain ⟨x21, c_1, H⟩ := H
  refine AN.load 3 S rfl (by kernel_rfl) (fun _ hx => Lf.run_ld (S.ev rfl) fl22 (hx.cell _ _ (S.cl c_1))) rfl rfl trivial ?_
  clear S; intro aa S
  refine AN.pure 4 S rfl (by kernel_rfl) (fun _ => Lf.run_fa (S.ev rfl) fa44_2) rfl rfl trivial ?_
  clear S; intro aa S
  obtain ⟨x23, c_2, H⟩ := H
  refine AN.load 5 S rfl (by kernel_rfl) (fun _ hx => Lf.run_ld (S.ev rfl) fl4 (hx.cell _ _ (S.cl c_2))) rfl rfl trivial ?_
  clear S; intro aa S
  refine AN.pure 6 S rfl (by kernel_rfl) (fun _ => Lf.run_fa (S.ev rfl) fa44_3) rfl rfl trivial ?_
  clear S; intro aa S
  obtain ⟨x25, c_3, H⟩ := H
  refine AN.load 7 S rfl (by kernel_rfl) (fun _ hx => Lf.run_ld (S.ev rfl) fl4 (hx.cell _ _ (S.cl c_3))) rfl rfl trivial ?_
  clear S; intro aa S
  refine AN.pure 8 S rfl (by kernel_rfl) (fun _ => Lf.run_fa (S.ev rfl) fa44_4) rfl rfl trivial ?_
  clear S; intro aa S
  obtain ⟨x27, c_4, H⟩ := H
  refine AN.load 9 S rfl (by kernel_rfl) (fun _ hx => Lf.run_ld (S.ev rfl) fl3 (hx.cell _ _ (S.cl c_4))) rfl rfl trivial ?_
  clear S; intro aa S
  refine AN.pure 10 S rfl (by kernel_rfl) (fun _ => Lf.run_assign (S.ev rfl)) rfl rfl trivial ?_
  clear S; intro aa S
  refine AN.pure 11 S rfl (by kernel_rfl) (fun _ => Lf.run_assign (S.ev rfl)) rfl rfl trivial ?_
  clear S; intro aa S
  refine AN.pure 12 S rfl (by kernel_rfl) (fun _ => Lf.run_assign (S.ev rfl)) rfl rfl trivial ?_
  clear S; intro aa S
  refine AN.pure 13 S rfl (by kernel_rfl) (fun _ => Lf.run_assign (S.ev rfl)) rfl rfl trivial ?_
  clear S; intro aa S
  refine AN.pure 14 S rfl (by kernel_rfl) (fun _ => Lf.run_assign (S.ev rfl)) rfl rfl trivial ?_
  clear S; intro aa S
  refine AN.done (by kernel_rfl) ?_
  refine W.seq ?_
  replace S := S.sub [(3, Value.int .u64 x19), (4, Value.int .u64 x21), (5, Value.bool x23), (6, Value.bool x25), (7, Value.int .i64 x27)] ⟨rfl, rfl, rfl, rfl, rfl, trivial⟩
  refine W.region ?_
  refine ol_cal S H isfn8 rfl rfl trivial ?_
  clear S H aa; intro u aa ww h2 H S
  obtain ⟨x28, rfl, H⟩ := H
  refine OL.pure S (Lf.run_assign (S.ev rfl)) rfl rfl trivial ?_
  clear S; intro aa S
  refine OL.nil ?_
  refine W.seq ?_
  replace S := S.sub [(3, Value.int .u64 x19), (4, Value.int .u64 x21), (5, Value.bool x23), (6, Value.bool x25), (7, Value.int .i64 x27), (8, Value.pointer x28)] ⟨rfl, rfl, rfl, rfl, rfl, rfl, trivial⟩
  refine W.region ?_
  refine OL.pure S (Lf.run_move (S.ev rfl)) rfl rfl trivial ?_
  clear S; intro aa S
  refine OL.pure S (Lf.run_move (S.ev rfl)) rfl rfl trivial ?_
  clear S; intro aa S
  refine OL.pure S (Lf.run_move (S.ev rfl)) rfl rfl trivial ?_
  clear S; intro aa S
  refine ol_cal S H isfn16 rfl rfl trivial ?_
  clear S H aa; intro u_1 aa ww h3 H S
  obtain ⟨y33, y33_1, y33_2, y33_3, y33_4, y33_5, y33_6, rfl, H⟩ := H
  refine ol_cal S H isfn10 rfl rfl trivial ?_
  clear S H aa; intro u_2 aa ww h4 H S
  obtain ⟨r34, rfl, H⟩ := H
  refine OL.pure S (Lf.run_move (S.ev rfl)) rfl rfl trivial ?_
  clear S; intro aa S
  obtain ⟨u_3, e, y35, y35_1, y35_2, rfl, H⟩ := H
  refine OL.pure S (Lf.run_ex (S.ev rfl) e) rfl rfl trivial ?_
  clear S; intro aa S
  obtain ⟨u_4, e_1, x36, rfl, H⟩ := H
  refine OL.pure S (Lf.run_ex (S.ev rfl) e_1) rfl rfl trivial ?_
  clear S; intro aa S
  refine ol_alloc S H ti28 rfl rfl trivial ?_
  clear S H aa; intro p9 aa ww h5 H S
  refine ol_stoA S H rfl rfl ti28 trivial ?_
  clear S H aa; intro aa ww h6 H S
  refine OL.pure S (Lf.run_assign (S.ev rfl)) rfl rfl trivial ?_
  clear S; intro aa S
  refine OL.nil ?_
  refine W.seq ?_
  refine W.seq ?_
  replace S := S.sub [(3, Value.int .u64 x19), (4, Value.int .u64 x21), (5, Value.bool x23), (6, Value.bool x25), (7, Value.int .i64 x27), (8, Value.pointer x28), (9, Value.pointer (some p9)), (10, Value.bool x36)] ⟨rfl, rfl, rfl, rfl, rfl, rfl, rfl, rfl, trivial⟩
  refine W.region ?_
  refine ol_cal S H isfn9 rfl rfl trivial ?_
  clear S H aa; intro u_5 aa ww h7 H S
  obtain ⟨x37, rfl, H⟩ := H
  refine OL.pure S (Lf.run_not (S.ev rfl)) rfl rfl trivial ?_
  clear S; intro aa S
  refine OL.pure S (Lf.run_move (S.ev rfl)) rfl rfl trivial ?_
  clear S; intro aa S
  refine OL.cutN 3 (fun aa ww => St 91 ((42, Value.bool ((!x37) || (!x36))) :: [(3, Value.int .u64 x19), (4, Value.int .u64 x21), (5, Value.bool x23), (6, Value.bool x25), (7, Value.int .i64 x27), (8, Value.pointer x28), (9, Value.pointer (some p9)), (10, Value.bool x36), (37, Value.bool x37), (38, Value.bool (!x37)), (39, Value.bool (!x37))]) h7 w0 aa ww) ?_ ?_
  · rcases Bool.eq_false_or_eq_true (!x37) with hb | hb
    · refine OL.not S rfl rfl (GNo.mk rfl rfl hb) ?_
      clear S; intro aa S
      refine OL.not S rfl rfl (GNo.mk rfl rfl hb) ?_
      clear S; intro aa S
      refine OL.pure S (Lf.run_pickT (S.ev rfl) hb (S.ev rfl)) rfl rfl trivial ?_
      clear S; intro aa S
      refine OL.nil ?_
      exact (S.hd (by rw [hb, Bool.true_or])).sub _ ⟨rfl, rfl, rfl, rfl, rfl, rfl, rfl, rfl, rfl, rfl, rfl, rfl, trivial⟩
    · refine OL.pure S (Lf.run_move (S.ev rfl)) rfl rfl (GOk.mk rfl rfl hb) ?_
      clear S; intro aa S
      refine OL.pure S (Lf.run_not (S.ev rfl)) rfl rfl (GOk.mk rfl rfl hb) ?_
      clear S; intro aa S
      refine OL.pure S (Lf.run_pickF (S.ev rfl) hb (S.ev rfl)) rfl rfl trivial ?_
      clear S; intro aa S
      refine OL.nil ?_
      exact (S.hd (by rw [hb, Bool.false_or])).sub _ ⟨rfl, rfl, rfl, rfl, rfl, rfl, rfl, rfl, rfl, rfl, rfl, rfl, trivial⟩
  · clear S aa
    intro aa ww S
    refine OL.nil ?_
    refine W.cond S (b := ((!x37) || (!x36))) rfl (fun hb_1 => ?_) (fun hb_1 => ?_)
    · replace H := H.1 hb_1
      refine W.seq ?_
      replace S := S.sub [] trivial
      refine W.region ?_
      refine OL.pure S (Lf.run_assign (S.ev rfl)) rfl rfl trivial ?_
      clear S; intro aa S
      refine OL.nil ?_
      refine W.ret ?_
      exact Ret.one S rfl rfl H
    · replace H := H.2 hb_1
      refine W.skip ?_
      refine W.seq ?_
      replace S := S.sub [(3, Value.int .u64 x19), (4, Value.int .u64 x21), (5, Value.bool x23), (6, Value.bool x25), (7, Value.int .i64 x27), (8, Value.pointer x28), (9, Value.pointer (some p9))] ⟨rfl, rfl, rfl, rfl, rfl, rfl, rfl, trivial⟩
      refine W.region ?_
      obtain ⟨y43, y43_1, y43_2, c_23, c_24, c_25, H⟩ := H
      refine OL.pure S (Lf.run_ldA (cs := [Value.int .i64 y43, Value.slice y43_1.a y43_1.n y43_1.c, Value.int .i64 y43_2]) (S.ev rfl) ag28 ti28 (by rw [S.heap]; exact RowL.toRow ⟨c_23, c_24, c_25, trivial⟩)) rfl rfl trivial ?_
      clear S; intro aa S
      refine ol_alloc S H ti28 rfl rfl trivial ?_
      clear S H aa; intro p11 aa ww h8 H S
      refine ol_stoA S H rfl rfl ti28 trivial ?_
      clear S H aa; intro aa ww h9 H S
      refine OL.nil ?_
      obtain ⟨J, H, HK⟩ := H
      refine W.seqJ (fun aa ww => ∃ h12, St 91 [(3, Value.int .u64 x19), (4, Value.int .u64 x21), (5, Value.bool x23), (6, Value.bool x25), (8, Value.pointer x28), (9, Value.pointer (some p9)), (11, Value.pointer (some p11))] h12 w0 aa ww ∧ J h12) ?_ ?_
      · clear HK
        refine W.seq ?_
        replace S := S.sub [(3, Value.int .u64 x19), (4, Value.int .u64 x21), (5, Value.bool x23), (6, Value.bool x25), (7, Value.int .i64 x27), (8, Value.pointer x28), (9, Value.pointer (some p9)), (11, Value.pointer (some p11))] ⟨rfl, rfl, rfl, rfl, rfl, rfl, rfl, rfl, trivial⟩
        refine W.region ?_
        refine OL.pure S (Lf.run_move (S.ev rfl)) rfl rfl trivial ?_
        clear S; intro aa S
        refine OL.pure S (Lf.run_gtr (S.ev rfl) (S.ev rfl)) rfl rfl trivial ?_
        clear S; intro aa S
        refine OL.nil ?_
        refine W.cond S (b := (decide (0 < x27))) rfl (fun hb_2 => ?_) (fun hb_2 => ?_)
        · replace H := H.1 hb_2
          replace S := S.sub [(3, Value.int .u64 x19), (4, Value.int .u64 x21), (5, Value.bool x23), (6, Value.bool x25), (7, Value.int .i64 x27), (8, Value.pointer x28), (9, Value.pointer (some p9)), (11, Value.pointer (some p11))] ⟨rfl, rfl, rfl, rfl, rfl, rfl, rfl, rfl, trivial⟩
          refine W.region ?_
          refine OL.pure S (Lf.run_move (S.ev rfl)) rfl rfl trivial ?_
          clear S; intro aa S
          refine OL.pure S (Lf.run_rem (S.ev rfl) (S.ev rfl) (by decide)) rfl rfl trivial ?_
          clear S; intro aa S
          refine ol_newS S H Try.underlying26 ti3 (by decide) (parts_map S rfl) (by kernel_rfl) (by decide) rfl trivial ?_
          clear S H aa; intro s48 aa ww h10 H S
          refine OL.pure S (Lf.run_fa (S.ev rfl) fa28_1) rfl rfl trivial ?_
          clear S; intro aa S
          refine ol_sto S H rfl rfl rfl ti26 trivial ?_
          clear S H aa; intro aa ww h11 H S
          refine OL.nil ?_
          exact ⟨h11, S.sub _ ⟨rfl, rfl, rfl, rfl, rfl, rfl, rfl, trivial⟩, H⟩
        · replace H := H.2 hb_2
          refine W.skip ?_
          exact ⟨h9, S.sub _ ⟨rfl, rfl, rfl, rfl, rfl, rfl, rfl, trivial⟩, H⟩
      · clear H S aa
        rintro aa ww ⟨h12, S, HJ⟩
        have H := HK _ HJ
        clear HK HJ
        refine W.seq ?_
        replace S := S.sub [(3, Value.int .u64 x19), (4, Value.int .u64 x21), (5, Value.bool x23), (6, Value.bool x25), (8, Value.pointer x28), (9, Value.pointer (some p9)), (11, Value.pointer (some p11))] ⟨rfl, rfl, rfl, rfl, rfl, rfl, rfl, trivial⟩
        refine W.region ?_
        refine OL.pure S (Lf.run_move (S.ev rfl)) rfl rfl trivial ?_
        clear S; intro aa S
        obtain ⟨y52, y52_1, y52_2, c_20, c_21, c_22, H⟩ := H
        refine OL.pure S (Lf.run_ldA (cs := [Value.int .i64 y52, Value.slice y52_1.a y52_1.n y52_1.c, Value.int .i64 y52_2]) (S.ev rfl) ag28 ti28 (by rw [S.heap]; exact RowL.toRow ⟨c_20, c_21, c_22, trivial⟩)) rfl rfl trivial ?_
        clear S; intro aa S
        refine OL.pure S (Lf.run_move (S.ev rfl)) rfl rfl trivial ?_
        clear S; intro aa S
        refine ol_cal S H isfn12 rfl rfl trivial ?_
        clear S H aa; intro u_6 aa ww h13 H S
        obtain ⟨r54, rfl, H⟩ := H
        refine OL.pure S (Lf.run_move (S.ev rfl)) rfl rfl trivial ?_
        clear S; intro aa S
        obtain ⟨u_7, e_2, y55, y55_1, y55_2, rfl, H⟩ := H
        refine OL.pure S (Lf.run_ex (S.ev rfl) e_2) rfl rfl trivial ?_
        clear S; intro aa S
        obtain ⟨u_8, e_3, x56, rfl, H⟩ := H
        refine OL.pure S (Lf.run_ex (S.ev rfl) e_3) rfl rfl trivial ?_
        clear S; intro aa S
        refine ol_alloc S H ti28 rfl rfl trivial ?_
        clear S H aa; intro p12 aa ww h14 H S
        refine ol_stoA S H rfl rfl ti28 trivial ?_
        clear S H aa; intro aa ww h15 H S
        refine OL.pure S (Lf.run_assign (S.ev rfl)) rfl rfl trivial ?_
        clear S; intro aa S
        refine OL.nil ?_
        refine W.seq ?_
        replace S := S.sub [(3, Value.int .u64 x19), (4, Value.int .u64 x21), (5, Value.bool x23), (6, Value.bool x25), (8, Value.pointer x28), (9, Value.pointer (some p9)), (12, Value.pointer (some p12)), (13, Value.int .i64 x56)] ⟨rfl, rfl, rfl, rfl, rfl, rfl, rfl, rfl, trivial⟩
        refine W.region ?_
        refine OL.pure S (Lf.run_assign (S.ev rfl)) rfl rfl trivial ?_
        clear S; intro aa S
        refine OL.nil ?_
        obtain ⟨J_1, H, HK_1⟩ := H
        refine W.seqJ (fun aa ww => ∃ g14 h19, St 91 [(5, Value.bool x23), (6, Value.bool x25), (8, Value.pointer x28), (12, Value.pointer (some p12)), (13, Value.int .i64 x56), (14, Value.int .i64 g14)] h19 w0 aa ww ∧ J_1 g14 h19) ?_ ?_
        · clear HK_1
          refine W.seq ?_
          replace S := S.sub [(3, Value.int .u64 x19), (4, Value.int .u64 x21), (5, Value.bool x23), (6, Value.bool x25), (8, Value.pointer x28), (9, Value.pointer (some p9)), (12, Value.pointer (some p12)), (13, Value.int .i64 x56)] ⟨rfl, rfl, rfl, rfl, rfl, rfl, rfl, rfl, trivial⟩
          refine W.region ?_
          refine OL.pure S (Lf.run_move (S.ev rfl)) rfl rfl trivial ?_
          clear S; intro aa S
          refine OL.nil ?_
          refine W.cond S (b := x25) rfl (fun hb_3 => ?_) (fun hb_3 => ?_)
          · replace H := H.1 hb_3
            replace S := S.sub [(3, Value.int .u64 x19), (4, Value.int .u64 x21), (5, Value.bool x23), (6, Value.bool x25), (8, Value.pointer x28), (9, Value.pointer (some p9)), (12, Value.pointer (some p12)), (13, Value.int .i64 x56)] ⟨rfl, rfl, rfl, rfl, rfl, rfl, rfl, rfl, trivial⟩
            obtain ⟨Sq, HS, H⟩ := H
            refine W.regionN [1] [4, 5] Sq S (by kernel_rfl) ?_
            clear S; intro ww S
            refine BN.pure 0 S (fun _ => HS) rfl (by kernel_rfl) (by kernel_rfl) (fun _ => Lf.run_move (S.ev rfl)) rfl rfl trivial ?_
            clear S; intro aa S
            refine BN.pure 2 S (fun _ => HS) rfl (by kernel_rfl) (by kernel_rfl) (fun _ => Lf.run_move (S.ev rfl)) rfl rfl trivial ?_
            clear S; intro aa S
            refine BN.pure 3 S (fun _ => HS) rfl (by kernel_rfl) (by kernel_rfl) (fun _ => Lf.run_move (S.ev rfl)) rfl rfl trivial ?_
            clear S; intro aa S
            obtain ⟨y59, y59_1, y59_2, c_9, c_10, c_11, H⟩ := H
            refine BN.held 1 S HS rfl (by kernel_rfl) (fun _ hq => Lf.run_ldA (cs := [Value.int .i64 y59, Value.slice y59_1.a y59_1.n y59_1.c, Value.int .i64 y59_2]) (S.ev rfl) ag28 ti28 (hlRow hq fun h_ hs_ => ⟨c_9 h_ hs_, c_10 h_ hs_, c_11 h_ hs_, trivial⟩)) rfl rfl trivial ?_
            clear S; intro aa S
            refine BN.eff 4 rfl (by kernel_rfl) ?_
            refine ol_cal S H isfn16 rfl rfl trivial ?_
            clear S H aa; intro u_9 aa ww h16 H S
            obtain ⟨y62, y62_1, y62_2, y62_3, y62_4, y62_5, y62_6, rfl, H⟩ := H
            refine OL.nil ?_
            clear HS; obtain ⟨HS, H⟩ := H
            refine ⟨fun _ => by rw [S.heap]; exact HS, ?_⟩
            refine BN.eff 5 rfl (by kernel_rfl) ?_
            refine ol_cal S H isfn17 rfl rfl trivial ?_
            clear S H aa; intro u_10 aa ww h17 H S
            obtain ⟨x63, rfl, H⟩ := H
            refine OL.nil ?_
            refine ⟨noNeed (by kernel_rfl), ?_⟩
            refine BN.pure 6 S (noNeed (by kernel_rfl)) rfl (by kernel_rfl) (by kernel_rfl) (fun _ => Lf.run_assign (S.ev rfl)) rfl rfl trivial ?_
            clear S; intro aa S
            refine BN.done (by kernel_rfl) ?_
            exact ⟨x63, h17, S.sub _ ⟨rfl, rfl, rfl, rfl, rfl, rfl, trivial⟩, H⟩
          · replace H := H.2 hb_3
            replace S := S.sub [(5, Value.bool x23), (6, Value.bool x25), (8, Value.pointer x28), (9, Value.pointer (some p9)), (12, Value.pointer (some p12)), (13, Value.int .i64 x56)] ⟨rfl, rfl, rfl, rfl, rfl, rfl, trivial⟩
            refine W.region ?_
            refine OL.pure S (Lf.run_move (S.ev rfl)) rfl rfl trivial ?_
            clear S; intro aa S
            obtain ⟨y66, y66_1, y66_2, c_13, c_14, c_15, H⟩ := H
            refine OL.pure S (Lf.run_ldA (cs := [Value.int .i64 y66, Value.slice y66_1.a y66_1.n y66_1.c, Value.int .i64 y66_2]) (S.ev rfl) ag28 ti28 (by rw [S.heap]; exact RowL.toRow ⟨c_13, c_14, c_15, trivial⟩)) rfl rfl trivial ?_
            clear S; intro aa S
            refine ol_cal S H isfn15 rfl rfl trivial ?_
            clear S H aa; intro u_11 aa ww h18 H S
            obtain ⟨r67, rfl, H⟩ := H
            refine OL.pure S (Lf.run_move (S.ev rfl)) rfl rfl trivial ?_
            clear S; intro aa S
            obtain ⟨u_12, e_4, y68, y68_1, y68_2, y68_3, y68_4, y68_5, y68_6, rfl, H⟩ := H
            refine OL.pure S (Lf.run_ex (S.ev rfl) e_4) rfl rfl trivial ?_
            clear S; intro aa S
            obtain ⟨u_13, e_5, x69, rfl, H⟩ := H
            refine OL.pure S (Lf.run_ex (S.ev rfl) e_5) rfl rfl trivial ?_
            clear S; intro aa S
            refine OL.pure S (Lf.run_assign (S.ev rfl)) rfl rfl trivial ?_
            clear S; intro aa S
            refine OL.nil ?_
            exact ⟨x69, h18, S.sub _ ⟨rfl, rfl, rfl, rfl, rfl, rfl, trivial⟩, H⟩
        · clear H S aa
          rintro aa ww ⟨g14, h19, S, HJ⟩
          have H := HK_1 _ _ HJ
          clear HK_1 HJ
          refine W.seq ?_
          replace S := S.sub [(5, Value.bool x23), (6, Value.bool x25), (8, Value.pointer x28), (12, Value.pointer (some p12)), (13, Value.int .i64 x56), (14, Value.int .i64 g14)] ⟨rfl, rfl, rfl, rfl, rfl, rfl, trivial⟩
          refine W.region ?_
          refine OL.pure S (Lf.run_move (S.ev rfl)) rfl rfl trivial ?_
          clear S; intro aa S
          obtain ⟨y72, y72_1, y72_2, c_17, c_18, c_19, H⟩ := H
          refine OL.pure S (Lf.run_ldA (cs := [Value.int .i64 y72, Value.slice y72_1.a y72_1.n y72_1.c, Value.int .i64 y72_2]) (S.ev rfl) ag28 ti28 (by rw [S.heap]; exact RowL.toRow ⟨c_17, c_18, c_19, trivial⟩)) rfl rfl trivial ?_
          clear S; intro aa S
          refine ol_cal S H isfn15 rfl rfl trivial ?_
          clear S H aa; intro u_14 aa ww h20 H S
          obtain ⟨r73, rfl, H⟩ := H
          refine OL.pure S (Lf.run_move (S.ev rfl)) rfl rfl trivial ?_
          clear S; intro aa S
          obtain ⟨u_15, e_6, y74, y74_1, y74_2, y74_3, y74_4, y74_5, y74_6, rfl, H⟩ := H
          refine OL.pure S (Lf.run_ex (S.ev rfl) e_6) rfl rfl trivial ?_
          clear S; intro aa S
          obtain ⟨u_16, e_7, x75, rfl, H⟩ := H
          refine OL.pure S (Lf.run_ex (S.ev rfl) e_7) rfl rfl trivial ?_
          clear S; intro aa S
          refine ol_alloc S H ti33 rfl rfl trivial ?_
          clear S H aa; intro p15 aa ww h21 H S
          refine ol_stoA S H rfl rfl ti33 trivial ?_
          clear S H aa; intro aa ww h22 H S
          refine OL.pure S (Lf.run_assign (S.ev rfl)) rfl rfl trivial ?_
          clear S; intro aa S
          refine OL.nil ?_
          refine W.seq ?_
          replace S := S.sub [(5, Value.bool x23), (6, Value.bool x25), (13, Value.int .i64 x56), (14, Value.int .i64 g14), (16, Value.int .i64 x75)] ⟨rfl, rfl, rfl, rfl, rfl, trivial⟩
          refine W.region ?_
          refine OL.pure S (Lf.run_assign (S.ev rfl)) rfl rfl trivial ?_
          clear S; intro aa S
          refine OL.nil ?_
          obtain ⟨J_2, H, HK_2⟩ := H
          refine W.seqJ (fun aa ww => ∃ want17, St 91 [(13, Value.int .i64 x56), (14, Value.int .i64 g14), (16, Value.int .i64 x75), (17, Value.int .i64 want17)] h22 w0 aa ww ∧ J_2 want17) ?_ ?_
          · clear HK_2
            refine W.seq ?_
            replace S := S.sub [(5, Value.bool x23), (6, Value.bool x25), (13, Value.int .i64 x56), (14, Value.int .i64 g14), (16, Value.int .i64 x75), (17, Value.int .i64 0)] ⟨rfl, rfl, rfl, rfl, rfl, rfl, trivial⟩
            refine W.region ?_
            refine OL.pure S (Lf.run_move (S.ev rfl)) rfl rfl trivial ?_
            clear S; intro aa S
            refine OL.pure S (Lf.run_move (S.ev rfl)) rfl rfl trivial ?_
            clear S; intro aa S
            refine OL.cutN 2 (fun aa ww => St 91 ((79, Value.bool (x23 || x25)) :: [(5, Value.bool x23), (6, Value.bool x25), (13, Value.int .i64 x56), (14, Value.int .i64 g14), (16, Value.int .i64 x75), (17, Value.int .i64 0), (76, Value.bool x23), (77, Value.bool x23)]) h22 w0 aa ww) ?_ ?_
            · rcases Bool.eq_false_or_eq_true x23 with hb_4 | hb_4
              · refine OL.not S rfl rfl (GNo.mk rfl rfl hb_4) ?_
                clear S; intro aa S
                refine OL.pure S (Lf.run_pickT (S.ev rfl) hb_4 (S.ev rfl)) rfl rfl trivial ?_
                clear S; intro aa S
                refine OL.nil ?_
                exact (S.hd (by rw [hb_4, Bool.true_or])).sub _ ⟨rfl, rfl, rfl, rfl, rfl, rfl, rfl, rfl, rfl, trivial⟩
              · refine OL.pure S (Lf.run_move (S.ev rfl)) rfl rfl (GOk.mk rfl rfl hb_4) ?_
                clear S; intro aa S
                refine OL.pure S (Lf.run_pickF (S.ev rfl) hb_4 (S.ev rfl)) rfl rfl trivial ?_
                clear S; intro aa S
                refine OL.nil ?_
                exact (S.hd (by rw [hb_4, Bool.false_or])).sub _ ⟨rfl, rfl, rfl, rfl, rfl, rfl, rfl, rfl, rfl, trivial⟩
            · clear S aa
              intro aa ww S
              refine OL.nil ?_
              refine W.cond S (b := (x23 || x25)) rfl (fun hb_5 => ?_) (fun hb_5 => ?_)
              · replace H := H.1 hb_5
                replace S := S.sub [(13, Value.int .i64 x56), (14, Value.int .i64 g14), (16, Value.int .i64 x75)] ⟨rfl, rfl, rfl, trivial⟩
                refine W.region ?_
                refine OL.pure S (Lf.run_assign (S.ev rfl)) rfl rfl trivial ?_
                clear S; intro aa S
                refine OL.nil ?_
                exact ⟨2, S.sub _ ⟨rfl, rfl, rfl, rfl, trivial⟩, H⟩
              · replace H := H.2 hb_5
                refine W.skip ?_
                exact ⟨0, S.sub _ ⟨rfl, rfl, rfl, rfl, trivial⟩, H⟩
          · clear H S aa
            rintro aa ww ⟨want17, S, HJ⟩
            have H := HK_2 _ HJ
            clear HK_2 HJ
            refine W.seq ?_
            replace S := S.sub [(13, Value.int .i64 x56), (14, Value.int .i64 g14), (16, Value.int .i64 x75), (17, Value.int .i64 want17)] ⟨rfl, rfl, rfl, rfl, trivial⟩
            refine W.region ?_
            refine OL.pure S (Lf.run_move (S.ev rfl)) rfl rfl trivial ?_
            clear S; intro aa S
            refine OL.pure S (Lf.run_eql (S.ev rfl) (S.ev rfl)) rfl rfl trivial ?_
            clear S; intro aa S
            refine OL.pure S (Lf.run_move (S.ev rfl)) rfl rfl trivial ?_
            clear S; intro aa S
            refine OL.cutN 3 (fun aa ww => St 91 ((85, Value.bool ((x56 == 0) && (g14 == 0))) :: [(13, Value.int .i64 x56), (14, Value.int .i64 g14), (16, Value.int .i64 x75), (17, Value.int .i64 want17), (80, Value.int .i64 x56), (81, Value.bool (x56 == 0)), (82, Value.bool (x56 == 0))]) h22 w0 aa ww) ?_ ?_
            · rcases Bool.eq_false_or_eq_true (x56 == 0) with hb_6 | hb_6
              · refine OL.pure S (Lf.run_move (S.ev rfl)) rfl rfl (GOk.mk rfl rfl hb_6) ?_
                clear S; intro aa S
                refine OL.pure S (Lf.run_eql (S.ev rfl) (S.ev rfl)) rfl rfl (GOk.mk rfl rfl hb_6) ?_
                clear S; intro aa S
                refine OL.pure S (Lf.run_pickT (S.ev rfl) hb_6 (S.ev rfl)) rfl rfl trivial ?_
                clear S; intro aa S
                refine OL.nil ?_
                exact (S.hd (by rw [hb_6, Bool.true_and])).sub _ ⟨rfl, rfl, rfl, rfl, rfl, rfl, rfl, rfl, trivial⟩
              · refine OL.not S rfl rfl (GNo.mk rfl rfl hb_6) ?_
                clear S; intro aa S
                refine OL.not S rfl rfl (GNo.mk rfl rfl hb_6) ?_
                clear S; intro aa S
                refine OL.pure S (Lf.run_pickF (S.ev rfl) hb_6 (S.ev rfl)) rfl rfl trivial ?_
                clear S; intro aa S
                refine OL.nil ?_
                exact (S.hd (by rw [hb_6, Bool.false_and])).sub _ ⟨rfl, rfl, rfl, rfl, rfl, rfl, rfl, rfl, trivial⟩
            · clear S aa
              intro aa ww S
              refine OL.pure S (Lf.run_move (S.ev rfl)) rfl rfl trivial ?_
              clear S; intro aa S
              refine OL.cutN 4 (fun aa ww => St 91 ((90, Value.bool (((x56 == 0) && (g14 == 0)) && (x75 == want17))) :: [(13, Value.int .i64 x56), (14, Value.int .i64 g14), (16, Value.int .i64 x75), (17, Value.int .i64 want17), (80, Value.int .i64 x56), (81, Value.bool (x56 == 0)), (82, Value.bool (x56 == 0)), (85, Value.bool ((x56 == 0) && (g14 == 0))), (86, Value.bool ((x56 == 0) && (g14 == 0)))]) h22 w0 aa ww) ?_ ?_
              · rcases Bool.eq_false_or_eq_true ((x56 == 0) && (g14 == 0)) with hb_7 | hb_7
                · refine OL.pure S (Lf.run_move (S.ev rfl)) rfl rfl (GOk.mk rfl rfl hb_7) ?_
                  clear S; intro aa S
                  refine OL.pure S (Lf.run_move (S.ev rfl)) rfl rfl (GOk.mk rfl rfl hb_7) ?_
                  clear S; intro aa S
                  refine OL.pure S (Lf.run_eql (S.ev rfl) (S.ev rfl)) rfl rfl (GOk.mk rfl rfl hb_7) ?_
                  clear S; intro aa S
                  refine OL.pure S (Lf.run_pickT (S.ev rfl) hb_7 (S.ev rfl)) rfl rfl trivial ?_
                  clear S; intro aa S
                  refine OL.nil ?_
                  exact (S.hd (by rw [hb_7, Bool.true_and])).sub _ ⟨rfl, rfl, rfl, rfl, rfl, rfl, rfl, rfl, rfl, rfl, trivial⟩
                · refine OL.not S rfl rfl (GNo.mk rfl rfl hb_7) ?_
                  clear S; intro aa S
                  refine OL.not S rfl rfl (GNo.mk rfl rfl hb_7) ?_
                  clear S; intro aa S
                  refine OL.not S rfl rfl (GNo.mk rfl rfl hb_7) ?_
                  clear S; intro aa S
                  refine OL.pure S (Lf.run_pickF (S.ev rfl) hb_7 (S.ev rfl)) rfl rfl trivial ?_
                  clear S; intro aa S
                  refine OL.nil ?_
                  exact (S.hd (by rw [hb_7, Bool.false_and])).sub _ ⟨rfl, rfl, rfl, rfl, rfl, rfl, rfl, rfl, rfl, rfl, trivial⟩
              · clear S aa
                intro aa ww S
                refine OL.pure S (Lf.run_assign (S.ev rfl)) rfl rfl trivial ?_
                clear S; intro aa S
                refine OL.nil ?_
                refine W.ret ?_
                exact Ret.one S rfl rfl H

/-- chattel chattellaw13.HeapParts -/
def L5 (given0 : Int) (given0_1 : Int) (given0_2 : Bool) (given0_3 : Bool) (h : Heap) (R : Value → Heap → Prop) : Prop :=
  new 49 #[Value.int .u64 given0, Value.int .u64 given0_1, Value.bool given0_2, Value.bool given0_3] h fun p1 h1 =>
  ldI .u64 h1 p1 fun x20 =>
  ldI .u64 h1 (p1.add 1) fun x22 =>
  ldB h1 (p1.add 2) fun x24 =>
  ldB h1 (p1.add 3) fun x26 =>
  cal Try.prog 8 #[Value.int .i64 4, Value.bool true] h1 fun u h2 => asP u fun x27 =>
  cal Try.prog 16 #[Value.int .u64 x20, Value.int .u64 x22] h2 fun u_1 h3 => ∃ (y32 : Int) (y32_1 : Int) (y32_2 : ByteArray) (y32_3 : Sv) (y32_4 : Int) (y32_5 : Sv) (y32_6 : Int), u_1 = Value.agg #[Value.int .i64 y32, Value.int .u64 y32_1, Value.string y32_2, Value.slice y32_3.a y32_3.n y32_3.c, Value.int .i64 y32_4, Value.slice y32_5.a y32_5.n y32_5.c, Value.int .i64 y32_6] ∧
  cal Try.prog 10 #[Value.pointer x27, Value.agg #[Value.int .i64 y32, Value.int .u64 y32_1, Value.string y32_2, Value.slice y32_3.a y32_3.n y32_3.c, Value.int .i64 y32_4, Value.slice y32_5.a y32_5.n y32_5.c, Value.int .i64 y32_6]] h3 fun u_2 h4 => asTup u_2 fun r33 =>
  elt r33 0 fun u_3 => ∃ (y34 : Int) (y34_1 : Sv) (y34_2 : Int), u_3 = Value.agg #[Value.int .i64 y34, Value.slice y34_1.a y34_1.n y34_1.c, Value.int .i64 y34_2] ∧
  elt r33 1 fun u_4 => asB u_4 fun x35 =>
  new 28 #[Value.int .i64 0, Value.slice (⟨none, 0, 0⟩ : Sv).a (⟨none, 0, 0⟩ : Sv).n (⟨none, 0, 0⟩ : Sv).c, Value.int .i64 0] h4 fun p8 h5 =>
  stoA h5 p8 [Value.int .i64 y34, Value.slice y34_1.a y34_1.n y34_1.c, Value.int .i64 y34_2] fun h6 =>
  cal Try.prog 9 #[] h6 fun u_5 h7 => asB u_5 fun x36 =>
  ifb ((!x36) || (!x35)) (
    R (Value.bool false) h7) (
    ∃ J : Addr → Addr → Heap → Prop, (
      ∃ Sq : Heap → Prop, Sq h7 ∧ (
        ∃ (y42 : Int) (y42_1 : Sv) (y42_2 : Int), hld Sq p8 (Value.int .i64 y42) ∧ hld Sq (p8.add 1) (Value.slice y42_1.a y42_1.n y42_1.c) ∧ hld Sq (p8.add 2) (Value.int .i64 y42_2) ∧
        ∃ (y43 : Int) (y43_1 : Sv) (y43_2 : Int), hld Sq p8 (Value.int .i64 y43) ∧ hld Sq (p8.add 1) (Value.slice y43_1.a y43_1.n y43_1.c) ∧ hld Sq (p8.add 2) (Value.int .i64 y43_2) ∧
        (
          new 28 #[Value.int .i64 0, Value.slice (⟨none, 0, 0⟩ : Sv).a (⟨none, 0, 0⟩ : Sv).n (⟨none, 0, 0⟩ : Sv).c, Value.int .i64 0] h7 fun p10 h8 =>
          Sq h8 ∧
          new 28 #[Value.int .i64 0, Value.slice (⟨none, 0, 0⟩ : Sv).a (⟨none, 0, 0⟩ : Sv).n (⟨none, 0, 0⟩ : Sv).c, Value.int .i64 0] h8 fun p11 h9 =>
          Sq h9 ∧
          stoA h9 p10 [Value.int .i64 y42, Value.slice y42_1.a y42_1.n y42_1.c, Value.int .i64 y42_2] fun h10 =>
          Sq h10 ∧
          stoA h10 p11 [Value.int .i64 y43, Value.slice y43_1.a y43_1.n y43_1.c, Value.int .i64 y43_2] fun h11 =>
          J p10 p11 h11) ∧ (
          new 28 #[Value.int .i64 0, Value.slice (⟨none, 0, 0⟩ : Sv).a (⟨none, 0, 0⟩ : Sv).n (⟨none, 0, 0⟩ : Sv).c, Value.int .i64 0] h7 fun p11_1 h12 =>
          Sq h12 ∧
          new 28 #[Value.int .i64 0, Value.slice (⟨none, 0, 0⟩ : Sv).a (⟨none, 0, 0⟩ : Sv).n (⟨none, 0, 0⟩ : Sv).c, Value.int .i64 0] h12 fun p10_1 h13 =>
          Sq h13 ∧
          stoA h13 p10_1 [Value.int .i64 y42, Value.slice y42_1.a y42_1.n y42_1.c, Value.int .i64 y42_2] fun h14 =>
          Sq h14 ∧
          stoA h14 p11_1 [Value.int .i64 y43, Value.slice y43_1.a y43_1.n y43_1.c, Value.int .i64 y43_2] fun h15 =>
          J p10_1 p11_1 h15))) ∧ (∀ x10 y11 h16, J x10 y11 h16 →
    newS 3 #[Value.int .i64 0] 1 h16 fun s44 h17 =>
    newS 3 #[Value.int .i64 1] 1 h17 fun s45 h18 =>
    sto h18 (x10.add 1) (Value.slice s44.a s44.n s44.c) fun h19 =>
    sto h19 (y11.add 1) (Value.slice s45.a s45.n s45.c) fun h20 =>
    ∃ (y50 : Int) (y50_1 : Sv) (y50_2 : Int), cl h20 x10 = some (Value.int .i64 y50) ∧ cl h20 (x10.add 1) = some (Value.slice y50_1.a y50_1.n y50_1.c) ∧ cl h20 (x10.add 2) = some (Value.int .i64 y50_2) ∧
    cal Try.prog 12 #[Value.pointer x27, Value.agg #[Value.int .i64 y50, Value.slice y50_1.a y50_1.n y50_1.c, Value.int .i64 y50_2], Value.bool x24] h20 fun u_6 h21 => asTup u_6 fun r52 =>
    elt r52 0 fun u_7 => ∃ (y53 : Int) (y53_1 : Sv) (y53_2 : Int), u_7 = Value.agg #[Value.int .i64 y53, Value.slice y53_1.a y53_1.n y53_1.c, Value.int .i64 y53_2] ∧
    elt r52 1 fun u_8 => asI .i64 u_8 fun x54 =>
    new 28 #[Value.int .i64 0, Value.slice (⟨none, 0, 0⟩ : Sv).a (⟨none, 0, 0⟩ : Sv).n (⟨none, 0, 0⟩ : Sv).c, Value.int .i64 0] h21 fun p12 h22 =>
    stoA h22 p12 [Value.int .i64 y53, Value.slice y53_1.a y53_1.n y53_1.c, Value.int .i64 y53_2] fun h23 =>
    ∃ (y57 : Int) (y57_1 : Sv) (y57_2 : Int), cl h23 y11 = some (Value.int .i64 y57) ∧ cl h23 (y11.add 1) = some (Value.slice y57_1.a y57_1.n y57_1.c) ∧ cl h23 (y11.add 2) = some (Value.int .i64 y57_2) ∧
    cal Try.prog 12 #[Value.pointer x27, Value.agg #[Value.int .i64 y57, Value.slice y57_1.a y57_1.n y57_1.c, Value.int .i64 y57_2], Value.bool true] h23 fun u_9 h24 => asTup u_9 fun r58 =>
    elt r58 0 fun u_10 => ∃ (y59 : Int) (y59_1 : Sv) (y59_2 : Int), u_10 = Value.agg #[Value.int .i64 y59, Value.slice y59_1.a y59_1.n y59_1.c, Value.int .i64 y59_2] ∧
    elt r58 1 fun u_11 => asI .i64 u_11 fun x60 =>
    new 28 #[Value.int .i64 0, Value.slice (⟨none, 0, 0⟩ : Sv).a (⟨none, 0, 0⟩ : Sv).n (⟨none, 0, 0⟩ : Sv).c, Value.int .i64 0] h24 fun p14 h25 =>
    stoA h25 p14 [Value.int .i64 y59, Value.slice y59_1.a y59_1.n y59_1.c, Value.int .i64 y59_2] fun h26 =>
    ∃ J_1 : Int → Heap → Prop, (
      ifb x26 (
        ∃ Sq_1 : Heap → Prop, Sq_1 h26 ∧ (
          ∃ (y63 : Int) (y63_1 : Sv) (y63_2 : Int), hld Sq_1 y11 (Value.int .i64 y63) ∧ hld Sq_1 (y11.add 1) (Value.slice y63_1.a y63_1.n y63_1.c) ∧ hld Sq_1 (y11.add 2) (Value.int .i64 y63_2) ∧
          cal Try.prog 11 #[Value.int .u64 x20] h26 fun u_12 h27 => ∃ (y65 : Int) (y65_1 : Int) (y65_2 : ByteArray) (y65_3 : Sv) (y65_4 : Int) (y65_5 : Sv) (y65_6 : Int), u_12 = Value.agg #[Value.int .i64 y65, Value.int .u64 y65_1, Value.string y65_2, Value.slice y65_3.a y65_3.n y65_3.c, Value.int .i64 y65_4, Value.slice y65_5.a y65_5.n y65_5.c, Value.int .i64 y65_6] ∧
          Sq_1 h27 ∧
          cal Try.prog 17 #[Value.pointer x27, Value.agg #[Value.int .i64 y63, Value.slice y63_1.a y63_1.n y63_1.c, Value.int .i64 y63_2], Value.agg #[Value.int .i64 y65, Value.int .u64 y65_1, Value.string y65_2, Value.slice y65_3.a y65_3.n y65_3.c, Value.int .i64 y65_4, Value.slice y65_5.a y65_5.n y65_5.c, Value.int .i64 y65_6]] h27 fun u_13 h28 => asI .i64 u_13 fun x66 =>
          J_1 x66 h28)) (
        ∃ (y69 : Int) (y69_1 : Sv) (y69_2 : Int), cl h26 p14 = some (Value.int .i64 y69) ∧ cl h26 (p14.add 1) = some (Value.slice y69_1.a y69_1.n y69_1.c) ∧ cl h26 (p14.add 2) = some (Value.int .i64 y69_2) ∧
        cal Try.prog 18 #[Value.pointer x27, Value.agg #[Value.int .i64 y69, Value.slice y69_1.a y69_1.n y69_1.c, Value.int .i64 y69_2]] h26 fun u_14 h29 => asTup u_14 fun r70 =>
        elt r70 0 fun u_15 => ∃ (y71 : Int) (y71_1 : Int) (y71_2 : ByteArray) (y71_3 : Sv) (y71_4 : Int) (y71_5 : Sv) (y71_6 : Int), u_15 = Value.agg #[Value.int .i64 y71, Value.int .u64 y71_1, Value.string y71_2, Value.slice y71_3.a y71_3.n y71_3.c, Value.int .i64 y71_4, Value.slice y71_5.a y71_5.n y71_5.c, Value.int .i64 y71_6] ∧
        elt r70 1 fun u_16 => asI .i64 u_16 fun x72 =>
        J_1 x72 h29)) ∧ (∀ e16 h30, J_1 e16 h30 →
    ∃ (y75 : Int) (y75_1 : Sv) (y75_2 : Int), cl h30 p12 = some (Value.int .i64 y75) ∧ cl h30 (p12.add 1) = some (Value.slice y75_1.a y75_1.n y75_1.c) ∧ cl h30 (p12.add 2) = some (Value.int .i64 y75_2) ∧
    cal Try.prog 15 #[Value.pointer x27, Value.agg #[Value.int .i64 y75, Value.slice y75_1.a y75_1.n y75_1.c, Value.int .i64 y75_2]] h30 fun u_17 h31 => asTup u_17 fun r76 =>
    elt r76 0 fun u_18 => ∃ (y77 : Int) (y77_1 : Int) (y77_2 : ByteArray) (y77_3 : Sv) (y77_4 : Int) (y77_5 : Sv) (y77_6 : Int), u_18 = Value.agg #[Value.int .i64 y77, Value.int .u64 y77_1, Value.string y77_2, Value.slice y77_3.a y77_3.n y77_3.c, Value.int .i64 y77_4, Value.slice y77_5.a y77_5.n y77_5.c, Value.int .i64 y77_6] ∧
    elt r76 1 fun u_19 => asI .i64 u_19 fun x78 =>
    new 33 #[Value.int .i64 0, Value.int .u64 0, Value.string (⟨#[]⟩ : ByteArray), Value.slice (⟨none, 0, 0⟩ : Sv).a (⟨none, 0, 0⟩ : Sv).n (⟨none, 0, 0⟩ : Sv).c, Value.int .i64 0, Value.slice (⟨none, 0, 0⟩ : Sv).a (⟨none, 0, 0⟩ : Sv).n (⟨none, 0, 0⟩ : Sv).c, Value.int .i64 0] h31 fun p17 h32 =>
    stoA h32 p17 [Value.int .i64 y77, Value.int .u64 y77_1, Value.string y77_2, Value.slice y77_3.a y77_3.n y77_3.c, Value.int .i64 y77_4, Value.slice y77_5.a y77_5.n y77_5.c, Value.int .i64 y77_6] fun h33 =>
    ∃ J_2 : Bool → Prop, (andr ((((x54 == 0) && (x60 == 0)) && (e16 == 0)) && (x78 == 0)) (fun k =>
      ldI .u64 h33 (p17.add 1) fun x95 =>
      k (x95 == x20)) J_2) ∧ ∀ x98, J_2 x98 →
    R (Value.bool x98) h33)))

set_option maxRecDepth 100000 in

theorem F5 {given0 given0_1 given0_2 given0_3 h : _} {R : Value → Heap → Prop} (H : L5 given0 given0_1 given0_2 given0_3 h R) : CallsH Try.prog 5 #[Value.agg #[Value.int .u64 given0, Value.int .u64 given0_1, Value.bool given0_2, Value.bool given0_3]] h R := by
  refine CallsH.enter (n := 99) Try.func5 rfl rfl rfl rfl ?_
  intro w0 aa ww S
  unfold L5 at H
  refine W.seq ?_
  replace S := S.sub [(0, Value.agg #[Value.int .u64 given0, Value.int .u64 given0_1, Value.bool given0_2, Value.bool given0_3])] ⟨rfl, trivial⟩
  refine W.region ?_
  refine ol_box S H rfl rfl rfl trivial ?_
  clear S H aa; intro p1 aa ww h1 H S
  refine OL.pure S (Lf.run_assign (S.ev rfl)) rfl rfl trivial ?_
  clear S; intro aa S
  refine OL.nil ?_
  refine W.seq ?_
  replace S := S.sub [(1, Value.pointer (some p1))] ⟨rfl, trivial⟩
  refine W.regionD S (by kernel_rfl) ?_
  clear S; intro ww S
  refine AN.pure 0 S rfl (by kernel_rfl) (fun _ => Lf.run_fa (S.ev rfl) fa49_0) rfl rfl trivial ?_
  clear S; intro aa S
  obtain ⟨x20, c, H⟩ := H
  refine AN.load 1 S rfl (by kernel_rfl) (fun _ hx => Lf.run_ld (S.ev rfl) fl22 (hx.cell _ _ (S.cl c))) rfl rfl trivial ?_
  clear S; intro aa S
  refine AN.pure 2 S rfl (by kernel_rfl) (fun _ => Lf.run_fa (S.ev rfl) fa49_1) rfl rfl trivial ?_
  clear S; intro aa S
  obtain ⟨x22, c_1, H⟩ := H
  refine AN.load 3 S rfl (by kernel_rfl) (fun _ hx => Lf.run_ld (S.ev rfl) fl22 (hx.cell _ _ (S.cl c_1))) rfl rfl trivial ?_
  clear S; intro aa S
  refine AN.pure 4 S rfl (by kernel_rfl) (fun _ => Lf.run_fa (S.ev rfl) fa49_2) rfl rfl trivial ?_
  clear S; intro aa S
  obtain ⟨x24, c_2, H⟩ := H
  refine AN.load 5 S rfl (by kernel_rfl) (fun _ hx => Lf.run_ld (S.ev rfl) fl4 (hx.cell _ _ (S.cl c_2))) rfl rfl trivial ?_
  clear S; intro aa S
  refine AN.pure 6 S rfl (by kernel_rfl) (fun _ => Lf.run_fa (S.ev rfl) fa49_3) rfl rfl trivial ?_
  clear S; intro aa S
  obtain ⟨x26, c_3, H⟩ := H
  refine AN.load 7 S rfl (by kernel_rfl) (fun _ hx => Lf.run_ld (S.ev rfl) fl4 (hx.cell _ _ (S.cl c_3))) rfl rfl trivial ?_
  clear S; intro aa S
  refine AN.pure 8 S rfl (by kernel_rfl) (fun _ => Lf.run_assign (S.ev rfl)) rfl rfl trivial ?_
  clear S; intro aa S
  refine AN.pure 9 S rfl (by kernel_rfl) (fun _ => Lf.run_assign (S.ev rfl)) rfl rfl trivial ?_
  clear S; intro aa S
  refine AN.pure 10 S rfl (by kernel_rfl) (fun _ => Lf.run_assign (S.ev rfl)) rfl rfl trivial ?_
  clear S; intro aa S
  refine AN.pure 11 S rfl (by kernel_rfl) (fun _ => Lf.run_assign (S.ev rfl)) rfl rfl trivial ?_
  clear S; intro aa S
  refine AN.done (by kernel_rfl) ?_
  refine W.seq ?_
  replace S := S.sub [(3, Value.int .u64 x20), (4, Value.int .u64 x22), (5, Value.bool x24), (6, Value.bool x26)] ⟨rfl, rfl, rfl, rfl, trivial⟩
  refine W.region ?_
  refine ol_cal S H isfn8 rfl rfl trivial ?_
  clear S H aa; intro u aa ww h2 H S
  obtain ⟨x27, rfl, H⟩ := H
  refine OL.pure S (Lf.run_assign (S.ev rfl)) rfl rfl trivial ?_
  clear S; intro aa S
  refine OL.nil ?_
  refine W.seq ?_
  replace S := S.sub [(3, Value.int .u64 x20), (4, Value.int .u64 x22), (5, Value.bool x24), (6, Value.bool x26), (7, Value.pointer x27)] ⟨rfl, rfl, rfl, rfl, rfl, trivial⟩
  refine W.region ?_
  refine OL.pure S (Lf.run_move (S.ev rfl)) rfl rfl trivial ?_
  clear S; intro aa S
  refine OL.pure S (Lf.run_move (S.ev rfl)) rfl rfl trivial ?_
  clear S; intro aa S
  refine OL.pure S (Lf.run_move (S.ev rfl)) rfl rfl trivial ?_
  clear S; intro aa S
  refine ol_cal S H isfn16 rfl rfl trivial ?_
  clear S H aa; intro u_1 aa ww h3 H S
  obtain ⟨y32, y32_1, y32_2, y32_3, y32_4, y32_5, y32_6, rfl, H⟩ := H
  refine ol_cal S H isfn10 rfl rfl trivial ?_
  clear S H aa; intro u_2 aa ww h4 H S
  obtain ⟨r33, rfl, H⟩ := H
  refine OL.pure S (Lf.run_move (S.ev rfl)) rfl rfl trivial ?_
  clear S; intro aa S
  obtain ⟨u_3, e, y34, y34_1, y34_2, rfl, H⟩ := H
  refine OL.pure S (Lf.run_ex (S.ev rfl) e) rfl rfl trivial ?_
  clear S; intro aa S
  obtain ⟨u_4, e_1, x35, rfl, H⟩ := H
  refine OL.pure S (Lf.run_ex (S.ev rfl) e_1) rfl rfl trivial ?_
  clear S; intro aa S
  refine ol_alloc S H ti28 rfl rfl trivial ?_
  clear S H aa; intro p8 aa ww h5 H S
  refine ol_stoA S H rfl rfl ti28 trivial ?_
  clear S H aa; intro aa ww h6 H S
  refine OL.pure S (Lf.run_assign (S.ev rfl)) rfl rfl trivial ?_
  clear S; intro aa S
  refine OL.nil ?_
  refine W.seq ?_
  refine W.seq ?_
  replace S := S.sub [(3, Value.int .u64 x20), (5, Value.bool x24), (6, Value.bool x26), (7, Value.pointer x27), (8, Value.pointer (some p8)), (9, Value.bool x35)] ⟨rfl, rfl, rfl, rfl, rfl, rfl, trivial⟩
  refine W.region ?_
  refine ol_cal S H isfn9 rfl rfl trivial ?_
  clear S H aa; intro u_5 aa ww h7 H S
  obtain ⟨x36, rfl, H⟩ := H
  refine OL.pure S (Lf.run_not (S.ev rfl)) rfl rfl trivial ?_
  clear S; intro aa S
  refine OL.pure S (Lf.run_move (S.ev rfl)) rfl rfl trivial ?_
  clear S; intro aa S
  refine OL.cutN 3 (fun aa ww => St 99 ((41, Value.bool ((!x36) || (!x35))) :: [(3, Value.int .u64 x20), (5, Value.bool x24), (6, Value.bool x26), (7, Value.pointer x27), (8, Value.pointer (some p8)), (9, Value.bool x35), (36, Value.bool x36), (37, Value.bool (!x36)), (38, Value.bool (!x36))]) h7 w0 aa ww) ?_ ?_
  · rcases Bool.eq_false_or_eq_true (!x36) with hb | hb
    · refine OL.not S rfl rfl (GNo.mk rfl rfl hb) ?_
      clear S; intro aa S
      refine OL.not S rfl rfl (GNo.mk rfl rfl hb) ?_
      clear S; intro aa S
      refine OL.pure S (Lf.run_pickT (S.ev rfl) hb (S.ev rfl)) rfl rfl trivial ?_
      clear S; intro aa S
      refine OL.nil ?_
      exact (S.hd (by rw [hb, Bool.true_or])).sub _ ⟨rfl, rfl, rfl, rfl, rfl, rfl, rfl, rfl, rfl, rfl, trivial⟩
    · refine OL.pure S (Lf.run_move (S.ev rfl)) rfl rfl (GOk.mk rfl rfl hb) ?_
      clear S; intro aa S
      refine OL.pure S (Lf.run_not (S.ev rfl)) rfl rfl (GOk.mk rfl rfl hb) ?_
      clear S; intro aa S
      refine OL.pure S (Lf.run_pickF (S.ev rfl) hb (S.ev rfl)) rfl rfl trivial ?_
      clear S; intro aa S
      refine OL.nil ?_
      exact (S.hd (by rw [hb, Bool.false_or])).sub _ ⟨rfl, rfl, rfl, rfl, rfl, rfl, rfl, rfl, rfl, rfl, trivial⟩
  · clear S aa
    intro aa ww S
    refine OL.nil ?_
    refine W.cond S (b := ((!x36) || (!x35))) rfl (fun hb_1 => ?_) (fun hb_1 => ?_)
    · replace H := H.1 hb_1
      refine W.seq ?_
      replace S := S.sub [] trivial
      refine W.region ?_
      refine OL.pure S (Lf.run_assign (S.ev rfl)) rfl rfl trivial ?_
      clear S; intro aa S
      refine OL.nil ?_
      refine W.ret ?_
      exact Ret.one S rfl rfl H
    · replace H := H.2 hb_1
      refine W.skip ?_
      refine W.seq ?_
      replace S := S.sub [(3, Value.int .u64 x20), (5, Value.bool x24), (6, Value.bool x26), (7, Value.pointer x27), (8, Value.pointer (some p8))] ⟨rfl, rfl, rfl, rfl, rfl, trivial⟩
      obtain ⟨J, H, HK⟩ := H
      refine W.mono (N' := fun aa ww => ∃ x10 y11 h16, St 99 [(3, Value.int .u64 x20), (5, Value.bool x24), (6, Value.bool x26), (7, Value.pointer x27), (10, Value.pointer (some x10)), (11, Value.pointer (some y11))] h16 w0 aa ww ∧ J x10 y11 h16) ?_ ?_
      · obtain ⟨Sq, HS, H⟩ := H
        refine W.regionN [0, 1] [2, 3, 4, 5] Sq S (by kernel_rfl) ?_
        clear S; intro ww S
        obtain ⟨y42, y42_1, y42_2, c_9, c_10, c_11, H⟩ := H
        refine BN.held 0 S HS rfl (by kernel_rfl) (fun _ hq => Lf.run_ldA (cs := [Value.int .i64 y42, Value.slice y42_1.a y42_1.n y42_1.c, Value.int .i64 y42_2]) (S.ev rfl) ag28 ti28 (hlRow hq fun h_ hs_ => ⟨c_9 h_ hs_, c_10 h_ hs_, c_11 h_ hs_, trivial⟩)) rfl rfl trivial ?_
        clear S; intro aa S
        obtain ⟨y43, y43_1, y43_2, c_6, c_7, c_8, H⟩ := H
        refine BN.held 1 S HS rfl (by kernel_rfl) (fun _ hq => Lf.run_ldA (cs := [Value.int .i64 y43, Value.slice y43_1.a y43_1.n y43_1.c, Value.int .i64 y43_2]) (S.ev rfl) ag28 ti28 (hlRow hq fun h_ hs_ => ⟨c_6 h_ hs_, c_7 h_ hs_, c_8 h_ hs_, trivial⟩)) rfl rfl trivial ?_
        clear S; intro aa S
        refine BN.effs [2, 3] (by kernel_rfl) rfl ⟨⟨_, rfl, ?_⟩, ⟨_, rfl, ?_⟩, trivial⟩
        · replace H := H.1
          refine ol_alloc S H ti28 rfl rfl trivial ?_
          clear S H aa; intro p10 aa ww h8 H S
          refine OL.nil ?_
          clear HS; obtain ⟨HS, H⟩ := H
          refine ⟨fun _ => by rw [S.heap]; exact HS, ?_⟩
          refine BN.eff 3 rfl (by kernel_rfl) ?_
          refine ol_alloc S H ti28 rfl rfl trivial ?_
          clear S H aa; intro p11 aa ww h9 H S
          refine OL.nil ?_
          clear HS; obtain ⟨HS, H⟩ := H
          refine ⟨fun _ => by rw [S.heap]; exact HS, ?_⟩
          refine BN.eff 4 rfl (by kernel_rfl) ?_
          refine ol_stoA S H rfl rfl ti28 trivial ?_
          clear S H aa; intro aa ww h10 H S
          refine OL.nil ?_
          clear HS; obtain ⟨HS, H⟩ := H
          refine ⟨fun _ => by rw [S.heap]; exact HS, ?_⟩
          refine BN.eff 5 rfl (by kernel_rfl) ?_
          refine ol_stoA S H rfl rfl ti28 trivial ?_
          clear S H aa; intro aa ww h11 H S
          refine OL.nil ?_
          refine ⟨noNeed (by kernel_rfl), ?_⟩
          refine BN.done (by kernel_rfl) ?_
          exact ⟨p10, p11, h11, S.sub _ ⟨rfl, rfl, rfl, rfl, rfl, rfl, trivial⟩, H⟩
        · replace H := H.2
          refine ol_alloc S H ti28 rfl rfl trivial ?_
          clear S H aa; intro p11_1 aa ww h12 H S
          refine OL.nil ?_
          clear HS; obtain ⟨HS, H⟩ := H
          refine ⟨fun _ => by rw [S.heap]; exact HS, ?_⟩
          refine BN.eff 2 rfl (by kernel_rfl) ?_
          refine ol_alloc S H ti28 rfl rfl trivial ?_
          clear S H aa; intro p10_1 aa ww h13 H S
          refine OL.nil ?_
          clear HS; obtain ⟨HS, H⟩ := H
          refine ⟨fun _ => by rw [S.heap]; exact HS, ?_⟩
          refine BN.eff 4 rfl (by kernel_rfl) ?_
          refine ol_stoA S H rfl rfl ti28 trivial ?_
          clear S H aa; intro aa ww h14 H S
          refine OL.nil ?_
          clear HS; obtain ⟨HS, H⟩ := H
          refine ⟨fun _ => by rw [S.heap]; exact HS, ?_⟩
          refine BN.eff 5 rfl (by kernel_rfl) ?_
          refine ol_stoA S H rfl rfl ti28 trivial ?_
          clear S H aa; intro aa ww h15 H S
          refine OL.nil ?_
          refine ⟨noNeed (by kernel_rfl), ?_⟩
          refine BN.done (by kernel_rfl) ?_
          exact ⟨p10_1, p11_1, h15, S.sub _ ⟨rfl, rfl, rfl, rfl, rfl, rfl, trivial⟩, H⟩
      · clear H S aa
        rintro aa ww ⟨x10, y11, h16, S, HJ⟩
        have H := HK _ _ _ HJ
        clear HK HJ
        refine W.seq ?_
        replace S := S.sub [(3, Value.int .u64 x20), (5, Value.bool x24), (6, Value.bool x26), (7, Value.pointer x27), (10, Value.pointer (some x10)), (11, Value.pointer (some y11))] ⟨rfl, rfl, rfl, rfl, rfl, rfl, trivial⟩
        refine W.region ?_
        refine ol_newS S H Try.underlying26 ti3 (by decide) (parts_map S rfl) (by kernel_rfl) (by decide) rfl trivial ?_
        clear S H aa; intro s44 aa ww h17 H S
        refine ol_newS S H Try.underlying26 ti3 (by decide) (parts_map S rfl) (by kernel_rfl) (by decide) rfl trivial ?_
        clear S H aa; intro s45 aa ww h18 H S
        refine OL.pure S (Lf.run_fa (S.ev rfl) fa28_1) rfl rfl trivial ?_
        clear S; intro aa S
        refine ol_sto S H rfl rfl rfl ti26 trivial ?_
        clear S H aa; intro aa ww h19 H S
        refine OL.pure S (Lf.run_fa (S.ev rfl) fa28_1) rfl rfl trivial ?_
        clear S; intro aa S
        refine ol_sto S H rfl rfl rfl ti26 trivial ?_
        clear S H aa; intro aa ww h20 H S
        refine OL.nil ?_
        refine W.seq ?_
        replace S := S.sub [(3, Value.int .u64 x20), (5, Value.bool x24), (6, Value.bool x26), (7, Value.pointer x27), (10, Value.pointer (some x10)), (11, Value.pointer (some y11))] ⟨rfl, rfl, rfl, rfl, rfl, rfl, trivial⟩
        refine W.region ?_
        refine OL.pure S (Lf.run_move (S.ev rfl)) rfl rfl trivial ?_
        clear S; intro aa S
        obtain ⟨y50, y50_1, y50_2, c_30, c_31, c_32, H⟩ := H
        refine OL.pure S (Lf.run_ldA (cs := [Value.int .i64 y50, Value.slice y50_1.a y50_1.n y50_1.c, Value.int .i64 y50_2]) (S.ev rfl) ag28 ti28 (by rw [S.heap]; exact RowL.toRow ⟨c_30, c_31, c_32, trivial⟩)) rfl rfl trivial ?_
        clear S; intro aa S
        refine OL.pure S (Lf.run_move (S.ev rfl)) rfl rfl trivial ?_
        clear S; intro aa S
        refine ol_cal S H isfn12 rfl rfl trivial ?_
        clear S H aa; intro u_6 aa ww h21 H S
        obtain ⟨r52, rfl, H⟩ := H
        refine OL.pure S (Lf.run_move (S.ev rfl)) rfl rfl trivial ?_
        clear S; intro aa S
        obtain ⟨u_7, e_2, y53, y53_1, y53_2, rfl, H⟩ := H
        refine OL.pure S (Lf.run_ex (S.ev rfl) e_2) rfl rfl trivial ?_
        clear S; intro aa S
        obtain ⟨u_8, e_3, x54, rfl, H⟩ := H
        refine OL.pure S (Lf.run_ex (S.ev rfl) e_3) rfl rfl trivial ?_
        clear S; intro aa S
        refine ol_alloc S H ti28 rfl rfl trivial ?_
        clear S H aa; intro p12 aa ww h22 H S
        refine ol_stoA S H rfl rfl ti28 trivial ?_
        clear S H aa; intro aa ww h23 H S
        refine OL.pure S (Lf.run_assign (S.ev rfl)) rfl rfl trivial ?_
        clear S; intro aa S
        refine OL.nil ?_
        refine W.seq ?_
        replace S := S.sub [(3, Value.int .u64 x20), (6, Value.bool x26), (7, Value.pointer x27), (11, Value.pointer (some y11)), (12, Value.pointer (some p12)), (13, Value.int .i64 x54)] ⟨rfl, rfl, rfl, rfl, rfl, rfl, trivial⟩
        refine W.region ?_
        refine OL.pure S (Lf.run_move (S.ev rfl)) rfl rfl trivial ?_
        clear S; intro aa S
        obtain ⟨y57, y57_1, y57_2, c_27, c_28, c_29, H⟩ := H
        refine OL.pure S (Lf.run_ldA (cs := [Value.int .i64 y57, Value.slice y57_1.a y57_1.n y57_1.c, Value.int .i64 y57_2]) (S.ev rfl) ag28 ti28 (by rw [S.heap]; exact RowL.toRow ⟨c_27, c_28, c_29, trivial⟩)) rfl rfl trivial ?_
        clear S; intro aa S
        refine ol_cal S H isfn12 rfl rfl trivial ?_
        clear S H aa; intro u_9 aa ww h24 H S
        obtain ⟨r58, rfl, H⟩ := H
        refine OL.pure S (Lf.run_move (S.ev rfl)) rfl rfl trivial ?_
        clear S; intro aa S
        obtain ⟨u_10, e_4, y59, y59_1, y59_2, rfl, H⟩ := H
        refine OL.pure S (Lf.run_ex (S.ev rfl) e_4) rfl rfl trivial ?_
        clear S; intro aa S
        obtain ⟨u_11, e_5, x60, rfl, H⟩ := H
        refine OL.pure S (Lf.run_ex (S.ev rfl) e_5) rfl rfl trivial ?_
        clear S; intro aa S
        refine ol_alloc S H ti28 rfl rfl trivial ?_
        clear S H aa; intro p14 aa ww h25 H S
        refine ol_stoA S H rfl rfl ti28 trivial ?_
        clear S H aa; intro aa ww h26 H S
        refine OL.pure S (Lf.run_assign (S.ev rfl)) rfl rfl trivial ?_
        clear S; intro aa S
        refine OL.nil ?_
        refine W.seq ?_
        replace S := S.sub [(3, Value.int .u64 x20), (6, Value.bool x26), (7, Value.pointer x27), (11, Value.pointer (some y11)), (12, Value.pointer (some p12)), (13, Value.int .i64 x54), (14, Value.pointer (some p14)), (15, Value.int .i64 x60)] ⟨rfl, rfl, rfl, rfl, rfl, rfl, rfl, rfl, trivial⟩
        refine W.region ?_
        refine OL.pure S (Lf.run_assign (S.ev rfl)) rfl rfl trivial ?_
        clear S; intro aa S
        refine OL.nil ?_
        obtain ⟨J_1, H, HK_1⟩ := H
        refine W.seqJ (fun aa ww => ∃ e16 h30, St 99 [(3, Value.int .u64 x20), (7, Value.pointer x27), (12, Value.pointer (some p12)), (13, Value.int .i64 x54), (15, Value.int .i64 x60), (16, Value.int .i64 e16)] h30 w0 aa ww ∧ J_1 e16 h30) ?_ ?_
        · clear HK_1
          refine W.seq ?_
          replace S := S.sub [(3, Value.int .u64 x20), (6, Value.bool x26), (7, Value.pointer x27), (11, Value.pointer (some y11)), (12, Value.pointer (some p12)), (13, Value.int .i64 x54), (14, Value.pointer (some p14)), (15, Value.int .i64 x60)] ⟨rfl, rfl, rfl, rfl, rfl, rfl, rfl, rfl, trivial⟩
          refine W.region ?_
          refine OL.pure S (Lf.run_move (S.ev rfl)) rfl rfl trivial ?_
          clear S; intro aa S
          refine OL.nil ?_
          refine W.cond S (b := x26) rfl (fun hb_2 => ?_) (fun hb_2 => ?_)
          · replace H := H.1 hb_2
            replace S := S.sub [(3, Value.int .u64 x20), (7, Value.pointer x27), (11, Value.pointer (some y11)), (12, Value.pointer (some p12)), (13, Value.int .i64 x54), (15, Value.int .i64 x60)] ⟨rfl, rfl, rfl, rfl, rfl, rfl, trivial⟩
            obtain ⟨Sq_1, HS_1, H⟩ := H
            refine W.regionN [1] [3, 4] Sq_1 S (by kernel_rfl) ?_
            clear S; intro ww S
            refine BN.pure 0 S (fun _ => HS_1) rfl (by kernel_rfl) (by kernel_rfl) (fun _ => Lf.run_move (S.ev rfl)) rfl rfl trivial ?_
            clear S; intro aa S
            refine BN.pure 2 S (fun _ => HS_1) rfl (by kernel_rfl) (by kernel_rfl) (fun _ => Lf.run_move (S.ev rfl)) rfl rfl trivial ?_
            clear S; intro aa S
            obtain ⟨y63, y63_1, y63_2, c_15, c_16, c_17, H⟩ := H
            refine BN.held 1 S HS_1 rfl (by kernel_rfl) (fun _ hq => Lf.run_ldA (cs := [Value.int .i64 y63, Value.slice y63_1.a y63_1.n y63_1.c, Value.int .i64 y63_2]) (S.ev rfl) ag28 ti28 (hlRow hq fun h_ hs_ => ⟨c_15 h_ hs_, c_16 h_ hs_, c_17 h_ hs_, trivial⟩)) rfl rfl trivial ?_
            clear S; intro aa S
            refine BN.eff 3 rfl (by kernel_rfl) ?_
            refine ol_cal S H isfn11 rfl rfl trivial ?_
            clear S H aa; intro u_12 aa ww h27 H S
            obtain ⟨y65, y65_1, y65_2, y65_3, y65_4, y65_5, y65_6, rfl, H⟩ := H
            refine OL.nil ?_
            clear HS_1; obtain ⟨HS_1, H⟩ := H
            refine ⟨fun _ => by rw [S.heap]; exact HS_1, ?_⟩
            refine BN.eff 4 rfl (by kernel_rfl) ?_
            refine ol_cal S H isfn17 rfl rfl trivial ?_
            clear S H aa; intro u_13 aa ww h28 H S
            obtain ⟨x66, rfl, H⟩ := H
            refine OL.nil ?_
            refine ⟨noNeed (by kernel_rfl), ?_⟩
            refine BN.pure 5 S (noNeed (by kernel_rfl)) rfl (by kernel_rfl) (by kernel_rfl) (fun _ => Lf.run_assign (S.ev rfl)) rfl rfl trivial ?_
            clear S; intro aa S
            refine BN.done (by kernel_rfl) ?_
            exact ⟨x66, h28, S.sub _ ⟨rfl, rfl, rfl, rfl, rfl, rfl, trivial⟩, H⟩
          · replace H := H.2 hb_2
            replace S := S.sub [(3, Value.int .u64 x20), (7, Value.pointer x27), (12, Value.pointer (some p12)), (13, Value.int .i64 x54), (14, Value.pointer (some p14)), (15, Value.int .i64 x60)] ⟨rfl, rfl, rfl, rfl, rfl, rfl, trivial⟩
            refine W.region ?_
            refine OL.pure S (Lf.run_move (S.ev rfl)) rfl rfl trivial ?_
            clear S; intro aa S
            obtain ⟨y69, y69_1, y69_2, c_19, c_20, c_21, H⟩ := H
            refine OL.pure S (Lf.run_ldA (cs := [Value.int .i64 y69, Value.slice y69_1.a y69_1.n y69_1.c, Value.int .i64 y69_2]) (S.ev rfl) ag28 ti28 (by rw [S.heap]; exact RowL.toRow ⟨c_19, c_20, c_21, trivial⟩)) rfl rfl trivial ?_
            clear S; intro aa S
            refine ol_cal S H isfn18 rfl rfl trivial ?_
            clear S H aa; intro u_14 aa ww h29 H S
            obtain ⟨r70, rfl, H⟩ := H
            refine OL.pure S (Lf.run_move (S.ev rfl)) rfl rfl trivial ?_
            clear S; intro aa S
            obtain ⟨u_15, e_6, y71, y71_1, y71_2, y71_3, y71_4, y71_5, y71_6, rfl, H⟩ := H
            refine OL.pure S (Lf.run_ex (S.ev rfl) e_6) rfl rfl trivial ?_
            clear S; intro aa S
            obtain ⟨u_16, e_7, x72, rfl, H⟩ := H
            refine OL.pure S (Lf.run_ex (S.ev rfl) e_7) rfl rfl trivial ?_
            clear S; intro aa S
            refine OL.pure S (Lf.run_assign (S.ev rfl)) rfl rfl trivial ?_
            clear S; intro aa S
            refine OL.nil ?_
            exact ⟨x72, h29, S.sub _ ⟨rfl, rfl, rfl, rfl, rfl, rfl, trivial⟩, H⟩
        · clear H S aa
          rintro aa ww ⟨e16, h30, S, HJ⟩
          have H := HK_1 _ _ HJ
          clear HK_1 HJ
          refine W.seq ?_
          replace S := S.sub [(3, Value.int .u64 x20), (7, Value.pointer x27), (12, Value.pointer (some p12)), (13, Value.int .i64 x54), (15, Value.int .i64 x60), (16, Value.int .i64 e16)] ⟨rfl, rfl, rfl, rfl, rfl, rfl, trivial⟩
          refine W.region ?_
          refine OL.pure S (Lf.run_move (S.ev rfl)) rfl rfl trivial ?_
          clear S; intro aa S
          obtain ⟨y75, y75_1, y75_2, c_24, c_25, c_26, H⟩ := H
          refine OL.pure S (Lf.run_ldA (cs := [Value.int .i64 y75, Value.slice y75_1.a y75_1.n y75_1.c, Value.int .i64 y75_2]) (S.ev rfl) ag28 ti28 (by rw [S.heap]; exact RowL.toRow ⟨c_24, c_25, c_26, trivial⟩)) rfl rfl trivial ?_
          clear S; intro aa S
          refine ol_cal S H isfn15 rfl rfl trivial ?_
          clear S H aa; intro u_17 aa ww h31 H S
          obtain ⟨r76, rfl, H⟩ := H
          refine OL.pure S (Lf.run_move (S.ev rfl)) rfl rfl trivial ?_
          clear S; intro aa S
          obtain ⟨u_18, e_8, y77, y77_1, y77_2, y77_3, y77_4, y77_5, y77_6, rfl, H⟩ := H
          refine OL.pure S (Lf.run_ex (S.ev rfl) e_8) rfl rfl trivial ?_
          clear S; intro aa S
          obtain ⟨u_19, e_9, x78, rfl, H⟩ := H
          refine OL.pure S (Lf.run_ex (S.ev rfl) e_9) rfl rfl trivial ?_
          clear S; intro aa S
          refine ol_alloc S H ti33 rfl rfl trivial ?_
          clear S H aa; intro p17 aa ww h32 H S
          refine ol_stoA S H rfl rfl ti33 trivial ?_
          clear S H aa; intro aa ww h33 H S
          refine OL.pure S (Lf.run_assign (S.ev rfl)) rfl rfl trivial ?_
          clear S; intro aa S
          refine OL.nil ?_
          refine W.seq ?_
          replace S := S.sub [(3, Value.int .u64 x20), (13, Value.int .i64 x54), (15, Value.int .i64 x60), (16, Value.int .i64 e16), (17, Value.pointer (some p17)), (18, Value.int .i64 x78)] ⟨rfl, rfl, rfl, rfl, rfl, rfl, trivial⟩
          refine W.region ?_
          refine OL.pure S (Lf.run_move (S.ev rfl)) rfl rfl trivial ?_
          clear S; intro aa S
          refine OL.pure S (Lf.run_eql (S.ev rfl) (S.ev rfl)) rfl rfl trivial ?_
          clear S; intro aa S
          refine OL.pure S (Lf.run_move (S.ev rfl)) rfl rfl trivial ?_
          clear S; intro aa S
          refine OL.cutN 3 (fun aa ww => St 99 ((84, Value.bool ((x54 == 0) && (x60 == 0))) :: [(3, Value.int .u64 x20), (13, Value.int .i64 x54), (15, Value.int .i64 x60), (16, Value.int .i64 e16), (17, Value.pointer (some p17)), (18, Value.int .i64 x78), (79, Value.int .i64 x54), (80, Value.bool (x54 == 0)), (81, Value.bool (x54 == 0))]) h33 w0 aa ww) ?_ ?_
          · rcases Bool.eq_false_or_eq_true (x54 == 0) with hb_3 | hb_3
            · refine OL.pure S (Lf.run_move (S.ev rfl)) rfl rfl (GOk.mk rfl rfl hb_3) ?_
              clear S; intro aa S
              refine OL.pure S (Lf.run_eql (S.ev rfl) (S.ev rfl)) rfl rfl (GOk.mk rfl rfl hb_3) ?_
              clear S; intro aa S
              refine OL.pure S (Lf.run_pickT (S.ev rfl) hb_3 (S.ev rfl)) rfl rfl trivial ?_
              clear S; intro aa S
              refine OL.nil ?_
              exact (S.hd (by rw [hb_3, Bool.true_and])).sub _ ⟨rfl, rfl, rfl, rfl, rfl, rfl, rfl, rfl, rfl, rfl, trivial⟩
            · refine OL.not S rfl rfl (GNo.mk rfl rfl hb_3) ?_
              clear S; intro aa S
              refine OL.not S rfl rfl (GNo.mk rfl rfl hb_3) ?_
              clear S; intro aa S
              refine OL.pure S (Lf.run_pickF (S.ev rfl) hb_3 (S.ev rfl)) rfl rfl trivial ?_
              clear S; intro aa S
              refine OL.nil ?_
              exact (S.hd (by rw [hb_3, Bool.false_and])).sub _ ⟨rfl, rfl, rfl, rfl, rfl, rfl, rfl, rfl, rfl, rfl, trivial⟩
          · clear S aa
            intro aa ww S
            refine OL.pure S (Lf.run_move (S.ev rfl)) rfl rfl trivial ?_
            clear S; intro aa S
            refine OL.cutN 3 (fun aa ww => St 99 ((88, Value.bool (((x54 == 0) && (x60 == 0)) && (e16 == 0))) :: [(3, Value.int .u64 x20), (13, Value.int .i64 x54), (15, Value.int .i64 x60), (16, Value.int .i64 e16), (17, Value.pointer (some p17)), (18, Value.int .i64 x78), (79, Value.int .i64 x54), (80, Value.bool (x54 == 0)), (81, Value.bool (x54 == 0)), (84, Value.bool ((x54 == 0) && (x60 == 0))), (85, Value.bool ((x54 == 0) && (x60 == 0)))]) h33 w0 aa ww) ?_ ?_
            · rcases Bool.eq_false_or_eq_true ((x54 == 0) && (x60 == 0)) with hb_4 | hb_4
              · refine OL.pure S (Lf.run_move (S.ev rfl)) rfl rfl (GOk.mk rfl rfl hb_4) ?_
                clear S; intro aa S
                refine OL.pure S (Lf.run_eql (S.ev rfl) (S.ev rfl)) rfl rfl (GOk.mk rfl rfl hb_4) ?_
                clear S; intro aa S
                refine OL.pure S (Lf.run_pickT (S.ev rfl) hb_4 (S.ev rfl)) rfl rfl trivial ?_
                clear S; intro aa S
                refine OL.nil ?_
                exact (S.hd (by rw [hb_4, Bool.true_and])).sub _ ⟨rfl, rfl, rfl, rfl, rfl, rfl, rfl, rfl, rfl, rfl, rfl, rfl, trivial⟩
              · refine OL.not S rfl rfl (GNo.mk rfl rfl hb_4) ?_
                clear S; intro aa S
                refine OL.not S rfl rfl (GNo.mk rfl rfl hb_4) ?_
                clear S; intro aa S
                refine OL.pure S (Lf.run_pickF (S.ev rfl) hb_4 (S.ev rfl)) rfl rfl trivial ?_
                clear S; intro aa S
                refine OL.nil ?_
                exact (S.hd (by rw [hb_4, Bool.false_and])).sub _ ⟨rfl, rfl, rfl, rfl, rfl, rfl, rfl, rfl, rfl, rfl, rfl, rfl, trivial⟩
            · clear S aa
              intro aa ww S
              refine OL.pure S (Lf.run_move (S.ev rfl)) rfl rfl trivial ?_
              clear S; intro aa S
              refine OL.cutN 3 (fun aa ww => St 99 ((92, Value.bool ((((x54 == 0) && (x60 == 0)) && (e16 == 0)) && (x78 == 0))) :: [(3, Value.int .u64 x20), (13, Value.int .i64 x54), (15, Value.int .i64 x60), (16, Value.int .i64 e16), (17, Value.pointer (some p17)), (18, Value.int .i64 x78), (79, Value.int .i64 x54), (80, Value.bool (x54 == 0)), (81, Value.bool (x54 == 0)), (84, Value.bool ((x54 == 0) && (x60 == 0))), (85, Value.bool ((x54 == 0) && (x60 == 0))), (88, Value.bool (((x54 == 0) && (x60 == 0)) && (e16 == 0))), (89, Value.bool (((x54 == 0) && (x60 == 0)) && (e16 == 0)))]) h33 w0 aa ww) ?_ ?_
              · rcases Bool.eq_false_or_eq_true (((x54 == 0) && (x60 == 0)) && (e16 == 0)) with hb_5 | hb_5
                · refine OL.pure S (Lf.run_move (S.ev rfl)) rfl rfl (GOk.mk rfl rfl hb_5) ?_
                  clear S; intro aa S
                  refine OL.pure S (Lf.run_eql (S.ev rfl) (S.ev rfl)) rfl rfl (GOk.mk rfl rfl hb_5) ?_
                  clear S; intro aa S
                  refine OL.pure S (Lf.run_pickT (S.ev rfl) hb_5 (S.ev rfl)) rfl rfl trivial ?_
                  clear S; intro aa S
                  refine OL.nil ?_
                  exact (S.hd (by rw [hb_5, Bool.true_and])).sub _ ⟨rfl, rfl, rfl, rfl, rfl, rfl, rfl, rfl, rfl, rfl, rfl, rfl, rfl, rfl, trivial⟩
                · refine OL.not S rfl rfl (GNo.mk rfl rfl hb_5) ?_
                  clear S; intro aa S
                  refine OL.not S rfl rfl (GNo.mk rfl rfl hb_5) ?_
                  clear S; intro aa S
                  refine OL.pure S (Lf.run_pickF (S.ev rfl) hb_5 (S.ev rfl)) rfl rfl trivial ?_
                  clear S; intro aa S
                  refine OL.nil ?_
                  exact (S.hd (by rw [hb_5, Bool.false_and])).sub _ ⟨rfl, rfl, rfl, rfl, rfl, rfl, rfl, rfl, rfl, rfl, rfl, rfl, rfl, rfl, trivial⟩
              · clear S aa
                intro aa ww S
                refine OL.pure S (Lf.run_move (S.ev rfl)) rfl rfl trivial ?_
                clear S; intro aa S
                obtain ⟨J_2, H, HK_2⟩ := H
                refine OL.cutN 5 (fun aa ww => ∃ x98, St 99 ((98, Value.bool x98) :: [(3, Value.int .u64 x20), (13, Value.int .i64 x54), (15, Value.int .i64 x60), (16, Value.int .i64 e16), (17, Value.pointer (some p17)), (18, Value.int .i64 x78), (79, Value.int .i64 x54), (80, Value.bool (x54 == 0)), (81, Value.bool (x54 == 0)), (84, Value.bool ((x54 == 0) && (x60 == 0))), (85, Value.bool ((x54 == 0) && (x60 == 0))), (88, Value.bool (((x54 == 0) && (x60 == 0)) && (e16 == 0))), (89, Value.bool (((x54 == 0) && (x60 == 0)) && (e16 == 0))), (92, Value.bool ((((x54 == 0) && (x60 == 0)) && (e16 == 0)) && (x78 == 0))), (93, Value.bool ((((x54 == 0) && (x60 == 0)) && (e16 == 0)) && (x78 == 0)))]) h33 w0 aa ww ∧ J_2 x98) ?_ ?_
                · rcases Bool.eq_false_or_eq_true ((((x54 == 0) && (x60 == 0)) && (e16 == 0)) && (x78 == 0)) with hb_6 | hb_6
                  · replace H := H.1 hb_6
                    refine OL.pure S (Lf.run_fa (S.ev rfl) fa33_1) rfl rfl (GOk.mk rfl rfl hb_6) ?_
                    clear S; intro aa S
                    obtain ⟨x95, c_23, H⟩ := H
                    refine OL.pure S (Lf.run_ld (S.ev rfl) fl22 (S.cl c_23)) rfl rfl (GOk.mk rfl rfl hb_6) ?_
                    clear S; intro aa S
                    refine OL.pure S (Lf.run_move (S.ev rfl)) rfl rfl (GOk.mk rfl rfl hb_6) ?_
                    clear S; intro aa S
                    refine OL.pure S (Lf.run_eql (S.ev rfl) (S.ev rfl)) rfl rfl (GOk.mk rfl rfl hb_6) ?_
                    clear S; intro aa S
                    refine OL.pure S (Lf.run_pickT (S.ev rfl) hb_6 (S.ev rfl)) rfl rfl trivial ?_
                    clear S; intro aa S
                    refine OL.nil ?_
                    exact ⟨_, S.sub _ ⟨rfl, rfl, rfl, rfl, rfl, rfl, rfl, rfl, rfl, rfl, rfl, rfl, rfl, rfl, rfl, rfl, trivial⟩, H⟩
                  · replace H := H.2 hb_6
                    refine OL.not S rfl rfl (GNo.mk rfl rfl hb_6) ?_
                    clear S; intro aa S
                    refine OL.not S rfl rfl (GNo.mk rfl rfl hb_6) ?_
                    clear S; intro aa S
                    refine OL.not S rfl rfl (GNo.mk rfl rfl hb_6) ?_
                    clear S; intro aa S
                    refine OL.not S rfl rfl (GNo.mk rfl rfl hb_6) ?_
                    clear S; intro aa S
                    refine OL.pure S (Lf.run_pickF (S.ev rfl) hb_6 (S.ev rfl)) rfl rfl trivial ?_
                    clear S; intro aa S
                    refine OL.nil ?_
                    exact ⟨_, S.sub _ ⟨rfl, rfl, rfl, rfl, rfl, rfl, rfl, rfl, rfl, rfl, rfl, rfl, rfl, rfl, rfl, rfl, trivial⟩, H⟩
                · clear S aa
                  rintro aa ww ⟨x98, S, HJ⟩
                  replace H := HK_2 _ HJ
                  clear HK_2 HJ
                  refine OL.pure S (Lf.run_assign (S.ev rfl)) rfl rfl trivial ?_
                  clear S; intro aa S
                  refine OL.nil ?_
                  refine W.ret ?_
                  exact Ret.one S rfl rfl H

/-- chattel chattellaw13.HeapNils -/
def L7 (v0 : Int) (v0_1 : Int) (v0_2 : ByteArray) (v0_3 : Sv) (v0_4 : Int) (v0_5 : Sv) (v0_6 : Int) (p1 : Int) (p1_1 : Sv) (p1_2 : Int) (h : Heap) (R : Value → Heap → Prop) : Prop :=
  new 33 #[Value.int .i64 v0, Value.int .u64 v0_1, Value.string v0_2, Value.slice v0_3.a v0_3.n v0_3.c, Value.int .i64 v0_4, Value.slice v0_5.a v0_5.n v0_5.c, Value.int .i64 v0_6] h fun p2 h1 =>
  new 28 #[Value.int .i64 p1, Value.slice p1_1.a p1_1.n p1_1.c, Value.int .i64 p1_2] h1 fun p3 h2 =>
  ∃ (y18 : Int) (y18_1 : Int) (y18_2 : ByteArray) (y18_3 : Sv) (y18_4 : Int) (y18_5 : Sv) (y18_6 : Int), cl h2 p2 = some (Value.int .i64 y18) ∧ cl h2 (p2.add 1) = some (Value.int .u64 y18_1) ∧ cl h2 (p2.add 2) = some (Value.string y18_2) ∧ cl h2 (p2.add 3) = some (Value.slice y18_3.a y18_3.n y18_3.c) ∧ cl h2 (p2.add 4) = some (Value.int .i64 y18_4) ∧ cl h2 (p2.add 5) = some (Value.slice y18_5.a y18_5.n y18_5.c) ∧ cl h2 (p2.add 6) = some (Value.int .i64 y18_6) ∧
  cal Try.prog 22 #[Value.agg #[Value.int .i64 y18, Value.int .u64 y18_1, Value.string y18_2, Value.slice y18_3.a y18_3.n y18_3.c, Value.int .i64 y18_4, Value.slice y18_5.a y18_5.n y18_5.c, Value.int .i64 y18_6], Value.int .i64 4] h2 fun u h3 => asB u fun x19 =>
  ∃ J : Bool → Prop, (orr (!x19) (fun k =>
    ldI .i64 h3 p2 fun x23 =>
    k (x23 == 6)) J) ∧ ∀ x25, J x25 →
  ∃ J_1 : Bool → Prop, (orr x25 (fun k_1 =>
    ldI .i64 h3 p2 fun x28 =>
    k_1 (x28 == 5)) J_1) ∧ ∀ x30, J_1 x30 →
  ∃ J_2 : Bool → Prop, (orr x30 (fun k_2 =>
    ldS h3 (p3.add 1) fun x33 =>
    k_2 (decide (20 < ((x33.n : Nat) : Int)))) J_2) ∧ ∀ x36, J_2 x36 →
  ifb x36 (
    cal Try.prog 9 #[] h3 fun u_1 h4 => asB u_1 fun x37 =>
    R (Value.bool x37) h4) (
    ∃ (y40 : Int) (y40_1 : Int) (y40_2 : ByteArray) (y40_3 : Sv) (y40_4 : Int) (y40_5 : Sv) (y40_6 : Int), cl h3 p2 = some (Value.int .i64 y40) ∧ cl h3 (p2.add 1) = some (Value.int .u64 y40_1) ∧ cl h3 (p2.add 2) = some (Value.string y40_2) ∧ cl h3 (p2.add 3) = some (Value.slice y40_3.a y40_3.n y40_3.c) ∧ cl h3 (p2.add 4) = some (Value.int .i64 y40_4) ∧ cl h3 (p2.add 5) = some (Value.slice y40_5.a y40_5.n y40_5.c) ∧ cl h3 (p2.add 6) = some (Value.int .i64 y40_6) ∧
    cal Try.prog 10 #[Value.pointer none, Value.agg #[Value.int .i64 y40, Value.int .u64 y40_1, Value.string y40_2, Value.slice y40_3.a y40_3.n y40_3.c, Value.int .i64 y40_4, Value.slice y40_5.a y40_5.n y40_5.c, Value.int .i64 y40_6]] h3 fun u_2 h5 => asTup u_2 fun r41 =>
    elt r41 0 fun u_3 => ∃ (y42 : Int) (y42_1 : Sv) (y42_2 : Int), u_3 = Value.agg #[Value.int .i64 y42, Value.slice y42_1.a y42_1.n y42_1.c, Value.int .i64 y42_2] ∧
    elt r41 1 fun u_4 => asB u_4 fun x43 =>
    new 28 #[Value.int .i64 0, Value.slice (⟨none, 0, 0⟩ : Sv).a (⟨none, 0, 0⟩ : Sv).n (⟨none, 0, 0⟩ : Sv).c, Value.int .i64 0] h5 fun p6 h6 =>
    stoA h6 p6 [Value.int .i64 y42, Value.slice y42_1.a y42_1.n y42_1.c, Value.int .i64 y42_2] fun h7 =>
    ldI .i64 h7 p3 fun x47 =>
    cal Try.prog 23 #[Value.pointer none, Value.int .i64 x47] h7 fun u_5 h8 => asTup u_5 fun r48 =>
    elt r48 0 fun u_6 => ∃ (y49 : Int) (y49_1 : Sv) (y49_2 : Int), u_6 = Value.agg #[Value.int .i64 y49, Value.slice y49_1.a y49_1.n y49_1.c, Value.int .i64 y49_2] ∧
    elt r48 1 fun u_7 => asI .i64 u_7 fun x50 =>
    new 28 #[Value.int .i64 0, Value.slice (⟨none, 0, 0⟩ : Sv).a (⟨none, 0, 0⟩ : Sv).n (⟨none, 0, 0⟩ : Sv).c, Value.int .i64 0] h8 fun p8 h9 =>
    stoA h9 p8 [Value.int .i64 y49, Value.slice y49_1.a y49_1.n y49_1.c, Value.int .i64 y49_2] fun h10 =>
    ∃ (y53 : Int) (y53_1 : Sv) (y53_2 : Int), cl h10 p3 = some (Value.int .i64 y53) ∧ cl h10 (p3.add 1) = some (Value.slice y53_1.a y53_1.n y53_1.c) ∧ cl h10 (p3.add 2) = some (Value.int .i64 y53_2) ∧
    cal Try.prog 15 #[Value.pointer none, Value.agg #[Value.int .i64 y53, Value.slice y53_1.a y53_1.n y53_1.c, Value.int .i64 y53_2]] h10 fun u_8 h11 => asTup u_8 fun r54 =>
    elt r54 0 fun u_9 => ∃ (y55 : Int) (y55_1 : Int) (y55_2 : ByteArray) (y55_3 : Sv) (y55_4 : Int) (y55_5 : Sv) (y55_6 : Int), u_9 = Value.agg #[Value.int .i64 y55, Value.int .u64 y55_1, Value.string y55_2, Value.slice y55_3.a y55_3.n y55_3.c, Value.int .i64 y55_4, Value.slice y55_5.a y55_5.n y55_5.c, Value.int .i64 y55_6] ∧
    elt r54 1 fun u_10 => asI .i64 u_10 fun x56 =>
    new 33 #[Value.int .i64 0, Value.int .u64 0, Value.string (⟨#[]⟩ : ByteArray), Value.slice (⟨none, 0, 0⟩ : Sv).a (⟨none, 0, 0⟩ : Sv).n (⟨none, 0, 0⟩ : Sv).c, Value.int .i64 0, Value.slice (⟨none, 0, 0⟩ : Sv).a (⟨none, 0, 0⟩ : Sv).n (⟨none, 0, 0⟩ : Sv).c, Value.int .i64 0] h11 fun p10 h12 =>
    stoA h12 p10 [Value.int .i64 y55, Value.int .u64 y55_1, Value.string y55_2, Value.slice y55_3.a y55_3.n y55_3.c, Value.int .i64 y55_4, Value.slice y55_5.a y55_5.n y55_5.c, Value.int .i64 y55_6] fun h13 =>
    ∃ (y59 : Int) (y59_1 : Sv) (y59_2 : Int), cl h13 p3 = some (Value.int .i64 y59) ∧ cl h13 (p3.add 1) = some (Value.slice y59_1.a y59_1.n y59_1.c) ∧ cl h13 (p3.add 2) = some (Value.int .i64 y59_2) ∧
    cal Try.prog 18 #[Value.pointer none, Value.agg #[Value.int .i64 y59, Value.slice y59_1.a y59_1.n y59_1.c, Value.int .i64 y59_2]] h13 fun u_11 h14 => asTup u_11 fun r60 =>
    elt r60 0 fun u_12 => ∃ (y61 : Int) (y61_1 : Int) (y61_2 : ByteArray) (y61_3 : Sv) (y61_4 : Int) (y61_5 : Sv) (y61_6 : Int), u_12 = Value.agg #[Value.int .i64 y61, Value.int .u64 y61_1, Value.string y61_2, Value.slice y61_3.a y61_3.n y61_3.c, Value.int .i64 y61_4, Value.slice y61_5.a y61_5.n y61_5.c, Value.int .i64 y61_6] ∧
    elt r60 1 fun u_13 => asI .i64 u_13 fun x62 =>
    new 33 #[Value.int .i64 0, Value.int .u64 0, Value.string (⟨#[]⟩ : ByteArray), Value.slice (⟨none, 0, 0⟩ : Sv).a (⟨none, 0, 0⟩ : Sv).n (⟨none, 0, 0⟩ : Sv).c, Value.int .i64 0, Value.slice (⟨none, 0, 0⟩ : Sv).a (⟨none, 0, 0⟩ : Sv).n (⟨none, 0, 0⟩ : Sv).c, Value.int .i64 0] h14 fun p12 h15 =>
    stoA h15 p12 [Value.int .i64 y61, Value.int .u64 y61_1, Value.string y61_2, Value.slice y61_3.a y61_3.n y61_3.c, Value.int .i64 y61_4, Value.slice y61_5.a y61_5.n y61_5.c, Value.int .i64 y61_6] fun h16 =>
    ∃ (y65 : Int) (y65_1 : Sv) (y65_2 : Int), cl h16 p3 = some (Value.int .i64 y65) ∧ cl h16 (p3.add 1) = some (Value.slice y65_1.a y65_1.n y65_1.c) ∧ cl h16 (p3.add 2) = some (Value.int .i64 y65_2) ∧
    cal Try.prog 12 #[Value.pointer none, Value.agg #[Value.int .i64 y65, Value.slice y65_1.a y65_1.n y65_1.c, Value.int .i64 y65_2], Value.bool true] h16 fun u_14 h17 => asTup u_14 fun r66 =>
    elt r66 0 fun u_15 => ∃ (y67 : Int) (y67_1 : Sv) (y67_2 : Int), u_15 = Value.agg #[Value.int .i64 y67, Value.slice y67_1.a y67_1.n y67_1.c, Value.int .i64 y67_2] ∧
    elt r66 1 fun u_16 => asI .i64 u_16 fun x68 =>
    new 28 #[Value.int .i64 0, Value.slice (⟨none, 0, 0⟩ : Sv).a (⟨none, 0, 0⟩ : Sv).n (⟨none, 0, 0⟩ : Sv).c, Value.int .i64 0] h17 fun p14 h18 =>
    stoA h18 p14 [Value.int .i64 y67, Value.slice y67_1.a y67_1.n y67_1.c, Value.int .i64 y67_2] fun h19 =>
    ∃ (y71 : Int) (y71_1 : Sv) (y71_2 : Int), cl h19 p3 = some (Value.int .i64 y71) ∧ cl h19 (p3.add 1) = some (Value.slice y71_1.a y71_1.n y71_1.c) ∧ cl h19 (p3.add 2) = some (Value.int .i64 y71_2) ∧
    cal Try.prog 24 #[Value.pointer none, Value.agg #[Value.int .i64 y71, Value.slice y71_1.a y71_1.n y71_1.c, Value.int .i64 y71_2]] h19 fun u_17 h20 => asTup u_17 fun r72 =>
    elt r72 0 fun u_18 => ∃ (y73 : Int) (y73_1 : Int) (y73_2 : ByteArray) (y73_3 : Sv) (y73_4 : Int) (y73_5 : Sv) (y73_6 : Int), u_18 = Value.agg #[Value.int .i64 y73, Value.int .u64 y73_1, Value.string y73_2, Value.slice y73_3.a y73_3.n y73_3.c, Value.int .i64 y73_4, Value.slice y73_5.a y73_5.n y73_5.c, Value.int .i64 y73_6] ∧
    elt r72 1 fun u_19 => asI .i64 u_19 fun x74 =>
    new 33 #[Value.int .i64 0, Value.int .u64 0, Value.string (⟨#[]⟩ : ByteArray), Value.slice (⟨none, 0, 0⟩ : Sv).a (⟨none, 0, 0⟩ : Sv).n (⟨none, 0, 0⟩ : Sv).c, Value.int .i64 0, Value.slice (⟨none, 0, 0⟩ : Sv).a (⟨none, 0, 0⟩ : Sv).n (⟨none, 0, 0⟩ : Sv).c, Value.int .i64 0] h20 fun p16 h21 =>
    stoA h21 p16 [Value.int .i64 y73, Value.int .u64 y73_1, Value.string y73_2, Value.slice y73_3.a y73_3.n y73_3.c, Value.int .i64 y73_4, Value.slice y73_5.a y73_5.n y73_5.c, Value.int .i64 y73_6] fun h22 =>
    cal Try.prog 9 #[] h22 fun u_20 h23 => asB u_20 fun x75 =>
    ∃ J_3 : Bool → Heap → Prop, (andj ((((((x75 && (!x43)) && (x50 == 1)) && (x56 == 1)) && (x62 == 1)) && (x68 == 1)) && (x74 == 1)) (fun k_3 =>
      ∃ (y102 : Int) (y102_1 : Sv) (y102_2 : Int), cl h23 p3 = some (Value.int .i64 y102) ∧ cl h23 (p3.add 1) = some (Value.slice y102_1.a y102_1.n y102_1.c) ∧ cl h23 (p3.add 2) = some (Value.int .i64 y102_2) ∧
      ∃ (y103 : Int) (y103_1 : Int) (y103_2 : ByteArray) (y103_3 : Sv) (y103_4 : Int) (y103_5 : Sv) (y103_6 : Int), cl h23 p2 = some (Value.int .i64 y103) ∧ cl h23 (p2.add 1) = some (Value.int .u64 y103_1) ∧ cl h23 (p2.add 2) = some (Value.string y103_2) ∧ cl h23 (p2.add 3) = some (Value.slice y103_3.a y103_3.n y103_3.c) ∧ cl h23 (p2.add 4) = some (Value.int .i64 y103_4) ∧ cl h23 (p2.add 5) = some (Value.slice y103_5.a y103_5.n y103_5.c) ∧ cl h23 (p2.add 6) = some (Value.int .i64 y103_6) ∧
      cal Try.prog 17 #[Value.pointer none, Value.agg #[Value.int .i64 y102, Value.slice y102_1.a y102_1.n y102_1.c, Value.int .i64 y102_2], Value.agg #[Value.int .i64 y103, Value.int .u64 y103_1, Value.string y103_2, Value.slice y103_3.a y103_3.n y103_3.c, Value.int .i64 y103_4, Value.slice y103_5.a y103_5.n y103_5.c, Value.int .i64 y103_6]] h23 fun u_21 h25 => asI .i64 u_21 fun x104 =>
      k_3 (x104 == 1) h25) h23 J_3) ∧ ∀ x106 h24, J_3 x106 h24 →
    ∃ J_4 : Bool → Heap → Prop, (andj x106 (fun k_4 =>
      ldI .i64 h24 p3 fun x110 =>
      cal Try.prog 14 #[Value.pointer none, Value.int .i64 x110] h24 fun u_22 h27 => asI .i64 u_22 fun x111 =>
      k_4 (x111 == 1) h27) h24 J_4) ∧ ∀ x113 h26, J_4 x113 h26 →
    ∃ J_5 : Bool → Heap → Prop, (andj x113 (fun k_5 =>
      ∃ (y116 : Int) (y116_1 : Int) (y116_2 : ByteArray) (y116_3 : Sv) (y116_4 : Int) (y116_5 : Sv) (y116_6 : Int), cl h26 p2 = some (Value.int .i64 y116) ∧ cl h26 (p2.add 1) = some (Value.int .u64 y116_1) ∧ cl h26 (p2.add 2) = some (Value.string y116_2) ∧ cl h26 (p2.add 3) = some (Value.slice y116_3.a y116_3.n y116_3.c) ∧ cl h26 (p2.add 4) = some (Value.int .i64 y116_4) ∧ cl h26 (p2.add 5) = some (Value.slice y116_5.a y116_5.n y116_5.c) ∧ cl h26 (p2.add 6) = some (Value.int .i64 y116_6) ∧
      cal Try.prog 25 #[Value.pointer none, Value.agg #[Value.int .i64 y116, Value.int .u64 y116_1, Value.string y116_2, Value.slice y116_3.a y116_3.n y116_3.c, Value.int .i64 y116_4, Value.slice y116_5.a y116_5.n y116_5.c, Value.int .i64 y116_6]] h26 fun u_23 h29 => asI .i64 u_23 fun x117 =>
      k_5 (x117 == 0) h29) h26 J_5) ∧ ∀ x119 h28, J_5 x119 h28 →
    ∃ J_6 : Bool → Heap → Prop, (andj x119 (fun k_6 =>
      cal Try.prog 13 #[Value.pointer none] h28 fun u_24 h31 => asI .i64 u_24 fun x122 =>
      k_6 (x122 == 0) h31) h28 J_6) ∧ ∀ x124 h30, J_6 x124 h30 →
    ∃ J_7 : Bool → Heap → Prop, (andj x124 (fun k_7 =>
      ldI .i64 h30 p3 fun x128 =>
      cal Try.prog 26 #[Value.pointer none, Value.int .i64 x128] h30 fun u_25 h33 => asS u_25 fun x129 =>
      k_7 (((x129.n : Nat) : Int) == 0) h33) h30 J_7) ∧ ∀ x132 h32, J_7 x132 h32 →
    R (Value.bool x132) h32)

set_option maxRecDepth 100000 in

theorem F7 {v0 v0_1 v0_2 v0_3 v0_4 v0_5 v0_6 p1 p1_1 p1_2 h : _} {R : Value → Heap → Prop} (H : L7 v0 v0_1 v0_2 v0_3 v0_4 v0_5 v0_6 p1 p1_1 p1_2 h R) : CallsH Try.prog 7 #[Value.agg #[Value.int .i64 v0, Value.int .u64 v0_1, Value.string v0_2, Value.slice v0_3.a v0_3.n v0_3.c, Value.int .i64 v0_4, Value.slice v0_5.a v0_5.n v0_5.c, Value.int .i64 v0_6], Value.agg #[Value.int .i64 p1, Value.slice p1_1.a p1_1.n p1_1.c, Value.int .i64 p1_2]] h R := by
  refine CallsH.enter (n := 133) Try.func7 rfl rfl rfl rfl ?_
  intro w0 aa ww S
  unfold L7 at H
  refine W.seq ?_
  replace S := S.sub [(0, Value.agg #[Value.int .i64 v0, Value.int .u64 v0_1, Value.string v0_2, Value.slice v0_3.a v0_3.n v0_3.c, Value.int .i64 v0_4, Value.slice v0_5.a v0_5.n v0_5.c, Value.int .i64 v0_6]), (1, Value.agg #[Value.int .i64 p1, Value.slice p1_1.a p1_1.n p1_1.c, Value.int .i64 p1_2])] ⟨rfl, rfl, trivial⟩
  refine W.region ?_
  refine ol_box S H rfl rfl rfl trivial ?_
  clear S H aa; intro p2 aa ww h1 H S
  refine ol_box S H rfl rfl rfl trivial ?_
  clear S H aa; intro p3 aa ww h2 H S
  refine OL.pure S (Lf.run_assign (S.ev rfl)) rfl rfl trivial ?_
  clear S; intro aa S
  refine OL.nil ?_
  refine W.seq ?_
  refine W.seq ?_
  replace S := S.sub [(2, Value.pointer (some p2)), (3, Value.pointer (some p3))] ⟨rfl, rfl, trivial⟩
  refine W.region ?_
  obtain ⟨y18, y18_1, y18_2, y18_3, y18_4, y18_5, y18_6, c_51, c_52, c_53, c_54, c_55, c_56, c_57, H⟩ := H
  refine OL.pure S (Lf.run_ldA (cs := [Value.int .i64 y18, Value.int .u64 y18_1, Value.string y18_2, Value.slice y18_3.a y18_3.n y18_3.c, Value.int .i64 y18_4, Value.slice y18_5.a y18_5.n y18_5.c, Value.int .i64 y18_6]) (S.ev rfl) ag33 ti33 (by rw [S.heap]; exact RowL.toRow ⟨c_51, c_52, c_53, c_54, c_55, c_56, c_57, trivial⟩)) rfl rfl trivial ?_
  clear S; intro aa S
  refine ol_cal S H isfn22 rfl rfl trivial ?_
  clear S H aa; intro u aa ww h3 H S
  obtain ⟨x19, rfl, H⟩ := H
  refine OL.pure S (Lf.run_not (S.ev rfl)) rfl rfl trivial ?_
  clear S; intro aa S
  refine OL.pure S (Lf.run_move (S.ev rfl)) rfl rfl trivial ?_
  clear S; intro aa S
  obtain ⟨J, H, HK⟩ := H
  refine OL.cutN 4 (fun aa ww => ∃ x25, St 133 ((25, Value.bool x25) :: [(2, Value.pointer (some p2)), (3, Value.pointer (some p3)), (18, Value.agg #[Value.int .i64 y18, Value.int .u64 y18_1, Value.string y18_2, Value.slice y18_3.a y18_3.n y18_3.c, Value.int .i64 y18_4, Value.slice y18_5.a y18_5.n y18_5.c, Value.int .i64 y18_6]), (19, Value.bool x19), (20, Value.bool (!x19)), (21, Value.bool (!x19))]) h3 w0 aa ww ∧ J x25) ?_ ?_
  · rcases Bool.eq_false_or_eq_true (!x19) with hb | hb
    · replace H := H.1 hb
      refine OL.not S rfl rfl (GNo.mk rfl rfl hb) ?_
      clear S; intro aa S
      refine OL.not S rfl rfl (GNo.mk rfl rfl hb) ?_
      clear S; intro aa S
      refine OL.not S rfl rfl (GNo.mk rfl rfl hb) ?_
      clear S; intro aa S
      refine OL.pure S (Lf.run_pickT (S.ev rfl) hb (S.ev rfl)) rfl rfl trivial ?_
      clear S; intro aa S
      refine OL.nil ?_
      exact ⟨_, S.sub _ ⟨rfl, rfl, rfl, rfl, rfl, rfl, rfl, trivial⟩, H⟩
    · replace H := H.2 hb
      refine OL.pure S (Lf.run_fa (S.ev rfl) fa33_0) rfl rfl (GOk.mk rfl rfl hb) ?_
      clear S; intro aa S
      obtain ⟨x23, c_1, H⟩ := H
      refine OL.pure S (Lf.run_ld (S.ev rfl) fl3 (S.cl c_1)) rfl rfl (GOk.mk rfl rfl hb) ?_
      clear S; intro aa S
      refine OL.pure S (Lf.run_eql (S.ev rfl) (S.ev rfl)) rfl rfl (GOk.mk rfl rfl hb) ?_
      clear S; intro aa S
      refine OL.pure S (Lf.run_pickF (S.ev rfl) hb (S.ev rfl)) rfl rfl trivial ?_
      clear S; intro aa S
      refine OL.nil ?_
      exact ⟨_, S.sub _ ⟨rfl, rfl, rfl, rfl, rfl, rfl, rfl, trivial⟩, H⟩
  · clear S aa
    rintro aa ww ⟨x25, S, HJ⟩
    replace H := HK _ HJ
    clear HK HJ
    refine OL.pure S (Lf.run_move (S.ev rfl)) rfl rfl trivial ?_
    clear S; intro aa S
    obtain ⟨J_1, H, HK_1⟩ := H
    refine OL.cutN 4 (fun aa ww => ∃ x30, St 133 ((30, Value.bool x30) :: [(2, Value.pointer (some p2)), (3, Value.pointer (some p3)), (18, Value.agg #[Value.int .i64 y18, Value.int .u64 y18_1, Value.string y18_2, Value.slice y18_3.a y18_3.n y18_3.c, Value.int .i64 y18_4, Value.slice y18_5.a y18_5.n y18_5.c, Value.int .i64 y18_6]), (19, Value.bool x19), (20, Value.bool (!x19)), (21, Value.bool (!x19)), (25, Value.bool x25), (26, Value.bool x25)]) h3 w0 aa ww ∧ J_1 x30) ?_ ?_
    · rcases Bool.eq_false_or_eq_true x25 with hb_1 | hb_1
      · replace H := H.1 hb_1
        refine OL.not S rfl rfl (GNo.mk rfl rfl hb_1) ?_
        clear S; intro aa S
        refine OL.not S rfl rfl (GNo.mk rfl rfl hb_1) ?_
        clear S; intro aa S
        refine OL.not S rfl rfl (GNo.mk rfl rfl hb_1) ?_
        clear S; intro aa S
        refine OL.pure S (Lf.run_pickT (S.ev rfl) hb_1 (S.ev rfl)) rfl rfl trivial ?_
        clear S; intro aa S
        refine OL.nil ?_
        exact ⟨_, S.sub _ ⟨rfl, rfl, rfl, rfl, rfl, rfl, rfl, rfl, rfl, trivial⟩, H⟩
      · replace H := H.2 hb_1
        refine OL.pure S (Lf.run_fa (S.ev rfl) fa33_0) rfl rfl (GOk.mk rfl rfl hb_1) ?_
        clear S; intro aa S
        obtain ⟨x28, c_2, H⟩ := H
        refine OL.pure S (Lf.run_ld (S.ev rfl) fl3 (S.cl c_2)) rfl rfl (GOk.mk rfl rfl hb_1) ?_
        clear S; intro aa S
        refine OL.pure S (Lf.run_eql (S.ev rfl) (S.ev rfl)) rfl rfl (GOk.mk rfl rfl hb_1) ?_
        clear S; intro aa S
        refine OL.pure S (Lf.run_pickF (S.ev rfl) hb_1 (S.ev rfl)) rfl rfl trivial ?_
        clear S; intro aa S
        refine OL.nil ?_
        exact ⟨_, S.sub _ ⟨rfl, rfl, rfl, rfl, rfl, rfl, rfl, rfl, rfl, trivial⟩, H⟩
    · clear S aa
      rintro aa ww ⟨x30, S, HJ⟩
      replace H := HK_1 _ HJ
      clear HK_1 HJ
      refine OL.pure S (Lf.run_move (S.ev rfl)) rfl rfl trivial ?_
      clear S; intro aa S
      obtain ⟨J_2, H, HK_2⟩ := H
      refine OL.cutN 5 (fun aa ww => ∃ x36, St 133 ((36, Value.bool x36) :: [(2, Value.pointer (some p2)), (3, Value.pointer (some p3)), (18, Value.agg #[Value.int .i64 y18, Value.int .u64 y18_1, Value.string y18_2, Value.slice y18_3.a y18_3.n y18_3.c, Value.int .i64 y18_4, Value.slice y18_5.a y18_5.n y18_5.c, Value.int .i64 y18_6]), (19, Value.bool x19), (20, Value.bool (!x19)), (21, Value.bool (!x19)), (25, Value.bool x25), (26, Value.bool x25), (30, Value.bool x30), (31, Value.bool x30)]) h3 w0 aa ww ∧ J_2 x36) ?_ ?_
      · rcases Bool.eq_false_or_eq_true x30 with hb_2 | hb_2
        · replace H := H.1 hb_2
          refine OL.not S rfl rfl (GNo.mk rfl rfl hb_2) ?_
          clear S; intro aa S
          refine OL.not S rfl rfl (GNo.mk rfl rfl hb_2) ?_
          clear S; intro aa S
          refine OL.not S rfl rfl (GNo.mk rfl rfl hb_2) ?_
          clear S; intro aa S
          refine OL.not S rfl rfl (GNo.mk rfl rfl hb_2) ?_
          clear S; intro aa S
          refine OL.pure S (Lf.run_pickT (S.ev rfl) hb_2 (S.ev rfl)) rfl rfl trivial ?_
          clear S; intro aa S
          refine OL.nil ?_
          exact ⟨_, S.sub _ ⟨rfl, rfl, rfl, rfl, rfl, rfl, rfl, rfl, rfl, rfl, rfl, trivial⟩, H⟩
        · replace H := H.2 hb_2
          refine OL.pure S (Lf.run_fa (S.ev rfl) fa28_1) rfl rfl (GOk.mk rfl rfl hb_2) ?_
          clear S; intro aa S
          obtain ⟨x33, c_3, H⟩ := H
          refine OL.pure S (Lf.run_ld (S.ev rfl) fl26 (S.cl c_3)) rfl rfl (GOk.mk rfl rfl hb_2) ?_
          clear S; intro aa S
          refine OL.pure S (Lf.run_lens (S.ev rfl) rfl Try.underlying26) rfl rfl (GOk.mk rfl rfl hb_2) ?_
          clear S; intro aa S
          refine OL.pure S (Lf.run_gtr (S.ev rfl) (S.ev rfl)) rfl rfl (GOk.mk rfl rfl hb_2) ?_
          clear S; intro aa S
          refine OL.pure S (Lf.run_pickF (S.ev rfl) hb_2 (S.ev rfl)) rfl rfl trivial ?_
          clear S; intro aa S
          refine OL.nil ?_
          exact ⟨_, S.sub _ ⟨rfl, rfl, rfl, rfl, rfl, rfl, rfl, rfl, rfl, rfl, rfl, trivial⟩, H⟩
      · clear S aa
        rintro aa ww ⟨x36, S, HJ⟩
        replace H := HK_2 _ HJ
        clear HK_2 HJ
        refine OL.nil ?_
        refine W.cond S (b := x36) rfl (fun hb_3 => ?_) (fun hb_3 => ?_)
        · replace H := H.1 hb_3
          refine W.seq ?_
          replace S := S.sub [] trivial
          refine W.region ?_
          refine ol_cal S H isfn9 rfl rfl trivial ?_
          clear S H aa; intro u_1 aa ww h4 H S
          obtain ⟨x37, rfl, H⟩ := H
          refine OL.pure S (Lf.run_assign (S.ev rfl)) rfl rfl trivial ?_
          clear S; intro aa S
          refine OL.nil ?_
          refine W.ret ?_
          exact Ret.one S rfl rfl H
        · replace H := H.2 hb_3
          refine W.skip ?_
          refine W.seq ?_
          replace S := S.sub [(2, Value.pointer (some p2)), (3, Value.pointer (some p3))] ⟨rfl, rfl, trivial⟩
          refine W.region ?_
          refine OL.pure S (Lf.run_assign (S.ev rfl)) rfl rfl trivial ?_
          clear S; intro aa S
          refine OL.nil ?_
          refine W.seq ?_
          replace S := S.sub [(2, Value.pointer (some p2)), (3, Value.pointer (some p3)), (5, Value.pointer none)] ⟨rfl, rfl, rfl, trivial⟩
          refine W.region ?_
          refine OL.pure S (Lf.run_move (S.ev rfl)) rfl rfl trivial ?_
          clear S; intro aa S
          obtain ⟨y40, y40_1, y40_2, y40_3, y40_4, y40_5, y40_6, c_44, c_45, c_46, c_47, c_48, c_49, c_50, H⟩ := H
          refine OL.pure S (Lf.run_ldA (cs := [Value.int .i64 y40, Value.int .u64 y40_1, Value.string y40_2, Value.slice y40_3.a y40_3.n y40_3.c, Value.int .i64 y40_4, Value.slice y40_5.a y40_5.n y40_5.c, Value.int .i64 y40_6]) (S.ev rfl) ag33 ti33 (by rw [S.heap]; exact RowL.toRow ⟨c_44, c_45, c_46, c_47, c_48, c_49, c_50, trivial⟩)) rfl rfl trivial ?_
          clear S; intro aa S
          refine ol_cal S H isfn10 rfl rfl trivial ?_
          clear S H aa; intro u_2 aa ww h5 H S
          obtain ⟨r41, rfl, H⟩ := H
          refine OL.pure S (Lf.run_move (S.ev rfl)) rfl rfl trivial ?_
          clear S; intro aa S
          obtain ⟨u_3, e, y42, y42_1, y42_2, rfl, H⟩ := H
          refine OL.pure S (Lf.run_ex (S.ev rfl) e) rfl rfl trivial ?_
          clear S; intro aa S
          obtain ⟨u_4, e_1, x43, rfl, H⟩ := H
          refine OL.pure S (Lf.run_ex (S.ev rfl) e_1) rfl rfl trivial ?_
          clear S; intro aa S
          refine ol_alloc S H ti28 rfl rfl trivial ?_
          clear S H aa; intro p6 aa ww h6 H S
          refine ol_stoA S H rfl rfl ti28 trivial ?_
          clear S H aa; intro aa ww h7 H S
          refine OL.pure S (Lf.run_assign (S.ev rfl)) rfl rfl trivial ?_
          clear S; intro aa S
          refine OL.nil ?_
          refine W.seq ?_
          replace S := S.sub [(2, Value.pointer (some p2)), (3, Value.pointer (some p3)), (5, Value.pointer none), (7, Value.bool x43)] ⟨rfl, rfl, rfl, rfl, trivial⟩
          refine W.region ?_
          refine OL.pure S (Lf.run_move (S.ev rfl)) rfl rfl trivial ?_
          clear S; intro aa S
          refine OL.pure S (Lf.run_fa (S.ev rfl) fa28_0) rfl rfl trivial ?_
          clear S; intro aa S
          obtain ⟨x47, c_5, H⟩ := H
          refine OL.pure S (Lf.run_ld (S.ev rfl) fl3 (S.cl c_5)) rfl rfl trivial ?_
          clear S; intro aa S
          refine ol_cal S H isfn23 rfl rfl trivial ?_
          clear S H aa; intro u_5 aa ww h8 H S
          obtain ⟨r48, rfl, H⟩ := H
          refine OL.pure S (Lf.run_move (S.ev rfl)) rfl rfl trivial ?_
          clear S; intro aa S
          obtain ⟨u_6, e_2, y49, y49_1, y49_2, rfl, H⟩ := H
          refine OL.pure S (Lf.run_ex (S.ev rfl) e_2) rfl rfl trivial ?_
          clear S; intro aa S
          obtain ⟨u_7, e_3, x50, rfl, H⟩ := H
          refine OL.pure S (Lf.run_ex (S.ev rfl) e_3) rfl rfl trivial ?_
          clear S; intro aa S
          refine ol_alloc S H ti28 rfl rfl trivial ?_
          clear S H aa; intro p8 aa ww h9 H S
          refine ol_stoA S H rfl rfl ti28 trivial ?_
          clear S H aa; intro aa ww h10 H S
          refine OL.pure S (Lf.run_assign (S.ev rfl)) rfl rfl trivial ?_
          clear S; intro aa S
          refine OL.nil ?_
          refine W.seq ?_
          replace S := S.sub [(2, Value.pointer (some p2)), (3, Value.pointer (some p3)), (5, Value.pointer none), (7, Value.bool x43), (9, Value.int .i64 x50)] ⟨rfl, rfl, rfl, rfl, rfl, trivial⟩
          refine W.region ?_
          refine OL.pure S (Lf.run_move (S.ev rfl)) rfl rfl trivial ?_
          clear S; intro aa S
          obtain ⟨y53, y53_1, y53_2, c_41, c_42, c_43, H⟩ := H
          refine OL.pure S (Lf.run_ldA (cs := [Value.int .i64 y53, Value.slice y53_1.a y53_1.n y53_1.c, Value.int .i64 y53_2]) (S.ev rfl) ag28 ti28 (by rw [S.heap]; exact RowL.toRow ⟨c_41, c_42, c_43, trivial⟩)) rfl rfl trivial ?_
          clear S; intro aa S
          refine ol_cal S H isfn15 rfl rfl trivial ?_
          clear S H aa; intro u_8 aa ww h11 H S
          obtain ⟨r54, rfl, H⟩ := H
          refine OL.pure S (Lf.run_move (S.ev rfl)) rfl rfl trivial ?_
          clear S; intro aa S
          obtain ⟨u_9, e_4, y55, y55_1, y55_2, y55_3, y55_4, y55_5, y55_6, rfl, H⟩ := H
          refine OL.pure S (Lf.run_ex (S.ev rfl) e_4) rfl rfl trivial ?_
          clear S; intro aa S
          obtain ⟨u_10, e_5, x56, rfl, H⟩ := H
          refine OL.pure S (Lf.run_ex (S.ev rfl) e_5) rfl rfl trivial ?_
          clear S; intro aa S
          refine ol_alloc S H ti33 rfl rfl trivial ?_
          clear S H aa; intro p10 aa ww h12 H S
          refine ol_stoA S H rfl rfl ti33 trivial ?_
          clear S H aa; intro aa ww h13 H S
          refine OL.pure S (Lf.run_assign (S.ev rfl)) rfl rfl trivial ?_
          clear S; intro aa S
          refine OL.nil ?_
          refine W.seq ?_
          replace S := S.sub [(2, Value.pointer (some p2)), (3, Value.pointer (some p3)), (5, Value.pointer none), (7, Value.bool x43), (9, Value.int .i64 x50), (11, Value.int .i64 x56)] ⟨rfl, rfl, rfl, rfl, rfl, rfl, trivial⟩
          refine W.region ?_
          refine OL.pure S (Lf.run_move (S.ev rfl)) rfl rfl trivial ?_
          clear S; intro aa S
          obtain ⟨y59, y59_1, y59_2, c_38, c_39, c_40, H⟩ := H
          refine OL.pure S (Lf.run_ldA (cs := [Value.int .i64 y59, Value.slice y59_1.a y59_1.n y59_1.c, Value.int .i64 y59_2]) (S.ev rfl) ag28 ti28 (by rw [S.heap]; exact RowL.toRow ⟨c_38, c_39, c_40, trivial⟩)) rfl rfl trivial ?_
          clear S; intro aa S
          refine ol_cal S H isfn18 rfl rfl trivial ?_
          clear S H aa; intro u_11 aa ww h14 H S
          obtain ⟨r60, rfl, H⟩ := H
          refine OL.pure S (Lf.run_move (S.ev rfl)) rfl rfl trivial ?_
          clear S; intro aa S
          obtain ⟨u_12, e_6, y61, y61_1, y61_2, y61_3, y61_4, y61_5, y61_6, rfl, H⟩ := H
          refine OL.pure S (Lf.run_ex (S.ev rfl) e_6) rfl rfl trivial ?_
          clear S; intro aa S
          obtain ⟨u_13, e_7, x62, rfl, H⟩ := H
          refine OL.pure S (Lf.run_ex (S.ev rfl) e_7) rfl rfl trivial ?_
          clear S; intro aa S
          refine ol_alloc S H ti33 rfl rfl trivial ?_
          clear S H aa; intro p12 aa ww h15 H S
          refine ol_stoA S H rfl rfl ti33 trivial ?_
          clear S H aa; intro aa ww h16 H S
          refine OL.pure S (Lf.run_assign (S.ev rfl)) rfl rfl trivial ?_
          clear S; intro aa S
          refine OL.nil ?_
          refine W.seq ?_
          replace S := S.sub [(2, Value.pointer (some p2)), (3, Value.pointer (some p3)), (5, Value.pointer none), (7, Value.bool x43), (9, Value.int .i64 x50), (11, Value.int .i64 x56), (13, Value.int .i64 x62)] ⟨rfl, rfl, rfl, rfl, rfl, rfl, rfl, trivial⟩
          refine W.region ?_
          refine OL.pure S (Lf.run_move (S.ev rfl)) rfl rfl trivial ?_
          clear S; intro aa S
          obtain ⟨y65, y65_1, y65_2, c_35, c_36, c_37, H⟩ := H
          refine OL.pure S (Lf.run_ldA (cs := [Value.int .i64 y65, Value.slice y65_1.a y65_1.n y65_1.c, Value.int .i64 y65_2]) (S.ev rfl) ag28 ti28 (by rw [S.heap]; exact RowL.toRow ⟨c_35, c_36, c_37, trivial⟩)) rfl rfl trivial ?_
          clear S; intro aa S
          refine ol_cal S H isfn12 rfl rfl trivial ?_
          clear S H aa; intro u_14 aa ww h17 H S
          obtain ⟨r66, rfl, H⟩ := H
          refine OL.pure S (Lf.run_move (S.ev rfl)) rfl rfl trivial ?_
          clear S; intro aa S
          obtain ⟨u_15, e_8, y67, y67_1, y67_2, rfl, H⟩ := H
          refine OL.pure S (Lf.run_ex (S.ev rfl) e_8) rfl rfl trivial ?_
          clear S; intro aa S
          obtain ⟨u_16, e_9, x68, rfl, H⟩ := H
          refine OL.pure S (Lf.run_ex (S.ev rfl) e_9) rfl rfl trivial ?_
          clear S; intro aa S
          refine ol_alloc S H ti28 rfl rfl trivial ?_
          clear S H aa; intro p14 aa ww h18 H S
          refine ol_stoA S H rfl rfl ti28 trivial ?_
          clear S H aa; intro aa ww h19 H S
          refine OL.pure S (Lf.run_assign (S.ev rfl)) rfl rfl trivial ?_
          clear S; intro aa S
          refine OL.nil ?_
          refine W.seq ?_
          replace S := S.sub [(2, Value.pointer (some p2)), (3, Value.pointer (some p3)), (5, Value.pointer none), (7, Value.bool x43), (9, Value.int .i64 x50), (11, Value.int .i64 x56), (13, Value.int .i64 x62), (15, Value.int .i64 x68)] ⟨rfl, rfl, rfl, rfl, rfl, rfl, rfl, rfl, trivial⟩
          refine W.region ?_
          refine OL.pure S (Lf.run_move (S.ev rfl)) rfl rfl trivial ?_
          clear S; intro aa S
          obtain ⟨y71, y71_1, y71_2, c_32, c_33, c_34, H⟩ := H
          refine OL.pure S (Lf.run_ldA (cs := [Value.int .i64 y71, Value.slice y71_1.a y71_1.n y71_1.c, Value.int .i64 y71_2]) (S.ev rfl) ag28 ti28 (by rw [S.heap]; exact RowL.toRow ⟨c_32, c_33, c_34, trivial⟩)) rfl rfl trivial ?_
          clear S; intro aa S
          refine ol_cal S H isfn24 rfl rfl trivial ?_
          clear S H aa; intro u_17 aa ww h20 H S
          obtain ⟨r72, rfl, H⟩ := H
          refine OL.pure S (Lf.run_move (S.ev rfl)) rfl rfl trivial ?_
          clear S; intro aa S
          obtain ⟨u_18, e_10, y73, y73_1, y73_2, y73_3, y73_4, y73_5, y73_6, rfl, H⟩ := H
          refine OL.pure S (Lf.run_ex (S.ev rfl) e_10) rfl rfl trivial ?_
          clear S; intro aa S
          obtain ⟨u_19, e_11, x74, rfl, H⟩ := H
          refine OL.pure S (Lf.run_ex (S.ev rfl) e_11) rfl rfl trivial ?_
          clear S; intro aa S
          refine ol_alloc S H ti33 rfl rfl trivial ?_
          clear S H aa; intro p16 aa ww h21 H S
          refine ol_stoA S H rfl rfl ti33 trivial ?_
          clear S H aa; intro aa ww h22 H S
          refine OL.pure S (Lf.run_assign (S.ev rfl)) rfl rfl trivial ?_
          clear S; intro aa S
          refine OL.nil ?_
          refine W.seq ?_
          replace S := S.sub [(2, Value.pointer (some p2)), (3, Value.pointer (some p3)), (5, Value.pointer none), (7, Value.bool x43), (9, Value.int .i64 x50), (11, Value.int .i64 x56), (13, Value.int .i64 x62), (15, Value.int .i64 x68), (17, Value.int .i64 x74)] ⟨rfl, rfl, rfl, rfl, rfl, rfl, rfl, rfl, rfl, trivial⟩
          refine W.region ?_
          refine ol_cal S H isfn9 rfl rfl trivial ?_
          clear S H aa; intro u_20 aa ww h23 H S
          obtain ⟨x75, rfl, H⟩ := H
          refine OL.pure S (Lf.run_move (S.ev rfl)) rfl rfl trivial ?_
          clear S; intro aa S
          refine OL.cutN 3 (fun aa ww => St 133 ((79, Value.bool (x75 && (!x43))) :: [(2, Value.pointer (some p2)), (3, Value.pointer (some p3)), (5, Value.pointer none), (7, Value.bool x43), (9, Value.int .i64 x50), (11, Value.int .i64 x56), (13, Value.int .i64 x62), (15, Value.int .i64 x68), (17, Value.int .i64 x74), (75, Value.bool x75), (76, Value.bool x75)]) h23 w0 aa ww) ?_ ?_
          · rcases Bool.eq_false_or_eq_true x75 with hb_4 | hb_4
            · refine OL.pure S (Lf.run_move (S.ev rfl)) rfl rfl (GOk.mk rfl rfl hb_4) ?_
              clear S; intro aa S
              refine OL.pure S (Lf.run_not (S.ev rfl)) rfl rfl (GOk.mk rfl rfl hb_4) ?_
              clear S; intro aa S
              refine OL.pure S (Lf.run_pickT (S.ev rfl) hb_4 (S.ev rfl)) rfl rfl trivial ?_
              clear S; intro aa S
              refine OL.nil ?_
              exact (S.hd (by rw [hb_4, Bool.true_and])).sub _ ⟨rfl, rfl, rfl, rfl, rfl, rfl, rfl, rfl, rfl, rfl, rfl, rfl, trivial⟩
            · refine OL.not S rfl rfl (GNo.mk rfl rfl hb_4) ?_
              clear S; intro aa S
              refine OL.not S rfl rfl (GNo.mk rfl rfl hb_4) ?_
              clear S; intro aa S
              refine OL.pure S (Lf.run_pickF (S.ev rfl) hb_4 (S.ev rfl)) rfl rfl trivial ?_
              clear S; intro aa S
              refine OL.nil ?_
              exact (S.hd (by rw [hb_4, Bool.false_and])).sub _ ⟨rfl, rfl, rfl, rfl, rfl, rfl, rfl, rfl, rfl, rfl, rfl, rfl, trivial⟩
          · clear S aa
            intro aa ww S
            refine OL.pure S (Lf.run_move (S.ev rfl)) rfl rfl trivial ?_
            clear S; intro aa S
            refine OL.cutN 3 (fun aa ww => St 133 ((83, Value.bool ((x75 && (!x43)) && (x50 == 1))) :: [(2, Value.pointer (some p2)), (3, Value.pointer (some p3)), (5, Value.pointer none), (7, Value.bool x43), (9, Value.int .i64 x50), (11, Value.int .i64 x56), (13, Value.int .i64 x62), (15, Value.int .i64 x68), (17, Value.int .i64 x74), (75, Value.bool x75), (76, Value.bool x75), (79, Value.bool (x75 && (!x43))), (80, Value.bool (x75 && (!x43)))]) h23 w0 aa ww) ?_ ?_
            · rcases Bool.eq_false_or_eq_true (x75 && (!x43)) with hb_5 | hb_5
              · refine OL.pure S (Lf.run_move (S.ev rfl)) rfl rfl (GOk.mk rfl rfl hb_5) ?_
                clear S; intro aa S
                refine OL.pure S (Lf.run_eql (S.ev rfl) (S.ev rfl)) rfl rfl (GOk.mk rfl rfl hb_5) ?_
                clear S; intro aa S
                refine OL.pure S (Lf.run_pickT (S.ev rfl) hb_5 (S.ev rfl)) rfl rfl trivial ?_
                clear S; intro aa S
                refine OL.nil ?_
                exact (S.hd (by rw [hb_5, Bool.true_and])).sub _ ⟨rfl, rfl, rfl, rfl, rfl, rfl, rfl, rfl, rfl, rfl, rfl, rfl, rfl, rfl, trivial⟩
              · refine OL.not S rfl rfl (GNo.mk rfl rfl hb_5) ?_
                clear S; intro aa S
                refine OL.not S rfl rfl (GNo.mk rfl rfl hb_5) ?_
                clear S; intro aa S
                refine OL.pure S (Lf.run_pickF (S.ev rfl) hb_5 (S.ev rfl)) rfl rfl trivial ?_
                clear S; intro aa S
                refine OL.nil ?_
                exact (S.hd (by rw [hb_5, Bool.false_and])).sub _ ⟨rfl, rfl, rfl, rfl, rfl, rfl, rfl, rfl, rfl, rfl, rfl, rfl, rfl, rfl, trivial⟩
            · clear S aa
              intro aa ww S
              refine OL.pure S (Lf.run_move (S.ev rfl)) rfl rfl trivial ?_
              clear S; intro aa S
              refine OL.cutN 3 (fun aa ww => St 133 ((87, Value.bool (((x75 && (!x43)) && (x50 == 1)) && (x56 == 1))) :: [(2, Value.pointer (some p2)), (3, Value.pointer (some p3)), (5, Value.pointer none), (7, Value.bool x43), (9, Value.int .i64 x50), (11, Value.int .i64 x56), (13, Value.int .i64 x62), (15, Value.int .i64 x68), (17, Value.int .i64 x74), (75, Value.bool x75), (76, Value.bool x75), (79, Value.bool (x75 && (!x43))), (80, Value.bool (x75 && (!x43))), (83, Value.bool ((x75 && (!x43)) && (x50 == 1))), (84, Value.bool ((x75 && (!x43)) && (x50 == 1)))]) h23 w0 aa ww) ?_ ?_
              · rcases Bool.eq_false_or_eq_true ((x75 && (!x43)) && (x50 == 1)) with hb_6 | hb_6
                · refine OL.pure S (Lf.run_move (S.ev rfl)) rfl rfl (GOk.mk rfl rfl hb_6) ?_
                  clear S; intro aa S
                  refine OL.pure S (Lf.run_eql (S.ev rfl) (S.ev rfl)) rfl rfl (GOk.mk rfl rfl hb_6) ?_
                  clear S; intro aa S
                  refine OL.pure S (Lf.run_pickT (S.ev rfl) hb_6 (S.ev rfl)) rfl rfl trivial ?_
                  clear S; intro aa S
                  refine OL.nil ?_
                  exact (S.hd (by rw [hb_6, Bool.true_and])).sub _ ⟨rfl, rfl, rfl, rfl, rfl, rfl, rfl, rfl, rfl, rfl, rfl, rfl, rfl, rfl, rfl, rfl, trivial⟩
                · refine OL.not S rfl rfl (GNo.mk rfl rfl hb_6) ?_
                  clear S; intro aa S
                  refine OL.not S rfl rfl (GNo.mk rfl rfl hb_6) ?_
                  clear S; intro aa S
                  refine OL.pure S (Lf.run_pickF (S.ev rfl) hb_6 (S.ev rfl)) rfl rfl trivial ?_
                  clear S; intro aa S
                  refine OL.nil ?_
                  exact (S.hd (by rw [hb_6, Bool.false_and])).sub _ ⟨rfl, rfl, rfl, rfl, rfl, rfl, rfl, rfl, rfl, rfl, rfl, rfl, rfl, rfl, rfl, rfl, trivial⟩
              · clear S aa
                intro aa ww S
                refine OL.pure S (Lf.run_move (S.ev rfl)) rfl rfl trivial ?_
                clear S; intro aa S
                refine OL.cutN 3 (fun aa ww => St 133 ((91, Value.bool ((((x75 && (!x43)) && (x50 == 1)) && (x56 == 1)) && (x62 == 1))) :: [(2, Value.pointer (some p2)), (3, Value.pointer (some p3)), (5, Value.pointer none), (7, Value.bool x43), (9, Value.int .i64 x50), (11, Value.int .i64 x56), (13, Value.int .i64 x62), (15, Value.int .i64 x68), (17, Value.int .i64 x74), (75, Value.bool x75), (76, Value.bool x75), (79, Value.bool (x75 && (!x43))), (80, Value.bool (x75 && (!x43))), (83, Value.bool ((x75 && (!x43)) && (x50 == 1))), (84, Value.bool ((x75 && (!x43)) && (x50 == 1))), (87, Value.bool (((x75 && (!x43)) && (x50 == 1)) && (x56 == 1))), (88, Value.bool (((x75 && (!x43)) && (x50 == 1)) && (x56 == 1)))]) h23 w0 aa ww) ?_ ?_
                · rcases Bool.eq_false_or_eq_true (((x75 && (!x43)) && (x50 == 1)) && (x56 == 1)) with hb_7 | hb_7
                  · refine OL.pure S (Lf.run_move (S.ev rfl)) rfl rfl (GOk.mk rfl rfl hb_7) ?_
                    clear S; intro aa S
                    refine OL.pure S (Lf.run_eql (S.ev rfl) (S.ev rfl)) rfl rfl (GOk.mk rfl rfl hb_7) ?_
                    clear S; intro aa S
                    refine OL.pure S (Lf.run_pickT (S.ev rfl) hb_7 (S.ev rfl)) rfl rfl trivial ?_
                    clear S; intro aa S
                    refine OL.nil ?_
                    exact (S.hd (by rw [hb_7, Bool.true_and])).sub _ ⟨rfl, rfl, rfl, rfl, rfl, rfl, rfl, rfl, rfl, rfl, rfl, rfl, rfl, rfl, rfl, rfl, rfl, rfl, trivial⟩
                  · refine OL.not S rfl rfl (GNo.mk rfl rfl hb_7) ?_
                    clear S; intro aa S
                    refine OL.not S rfl rfl (GNo.mk rfl rfl hb_7) ?_
                    clear S; intro aa S
                    refine OL.pure S (Lf.run_pickF (S.ev rfl) hb_7 (S.ev rfl)) rfl rfl trivial ?_
                    clear S; intro aa S
                    refine OL.nil ?_
                    exact (S.hd (by rw [hb_7, Bool.false_and])).sub _ ⟨rfl, rfl, rfl, rfl, rfl, rfl, rfl, rfl, rfl, rfl, rfl, rfl, rfl, rfl, rfl, rfl, rfl, rfl, trivial⟩
                · clear S aa
                  intro aa ww S
                  refine OL.pure S (Lf.run_move (S.ev rfl)) rfl rfl trivial ?_
                  clear S; intro aa S
                  refine OL.cutN 3 (fun aa ww => St 133 ((95, Value.bool (((((x75 && (!x43)) && (x50 == 1)) && (x56 == 1)) && (x62 == 1)) && (x68 == 1))) :: [(2, Value.pointer (some p2)), (3, Value.pointer (some p3)), (5, Value.pointer none), (7, Value.bool x43), (9, Value.int .i64 x50), (11, Value.int .i64 x56), (13, Value.int .i64 x62), (15, Value.int .i64 x68), (17, Value.int .i64 x74), (75, Value.bool x75), (76, Value.bool x75), (79, Value.bool (x75 && (!x43))), (80, Value.bool (x75 && (!x43))), (83, Value.bool ((x75 && (!x43)) && (x50 == 1))), (84, Value.bool ((x75 && (!x43)) && (x50 == 1))), (87, Value.bool (((x75 && (!x43)) && (x50 == 1)) && (x56 == 1))), (88, Value.bool (((x75 && (!x43)) && (x50 == 1)) && (x56 == 1))), (91, Value.bool ((((x75 && (!x43)) && (x50 == 1)) && (x56 == 1)) && (x62 == 1))), (92, Value.bool ((((x75 && (!x43)) && (x50 == 1)) && (x56 == 1)) && (x62 == 1)))]) h23 w0 aa ww) ?_ ?_
                  · rcases Bool.eq_false_or_eq_true ((((x75 && (!x43)) && (x50 == 1)) && (x56 == 1)) && (x62 == 1)) with hb_8 | hb_8
                    · refine OL.pure S (Lf.run_move (S.ev rfl)) rfl rfl (GOk.mk rfl rfl hb_8) ?_
                      clear S; intro aa S
                      refine OL.pure S (Lf.run_eql (S.ev rfl) (S.ev rfl)) rfl rfl (GOk.mk rfl rfl hb_8) ?_
                      clear S; intro aa S
                      refine OL.pure S (Lf.run_pickT (S.ev rfl) hb_8 (S.ev rfl)) rfl rfl trivial ?_
                      clear S; intro aa S
                      refine OL.nil ?_
                      exact (S.hd (by rw [hb_8, Bool.true_and])).sub _ ⟨rfl, rfl, rfl, rfl, rfl, rfl, rfl, rfl, rfl, rfl, rfl, rfl, rfl, rfl, rfl, rfl, rfl, rfl, rfl, rfl, trivial⟩
                    · refine OL.not S rfl rfl (GNo.mk rfl rfl hb_8) ?_
                      clear S; intro aa S
                      refine OL.not S rfl rfl (GNo.mk rfl rfl hb_8) ?_
                      clear S; intro aa S
                      refine OL.pure S (Lf.run_pickF (S.ev rfl) hb_8 (S.ev rfl)) rfl rfl trivial ?_
                      clear S; intro aa S
                      refine OL.nil ?_
                      exact (S.hd (by rw [hb_8, Bool.false_and])).sub _ ⟨rfl, rfl, rfl, rfl, rfl, rfl, rfl, rfl, rfl, rfl, rfl, rfl, rfl, rfl, rfl, rfl, rfl, rfl, rfl, rfl, trivial⟩
                  · clear S aa
                    intro aa ww S
                    refine OL.pure S (Lf.run_move (S.ev rfl)) rfl rfl trivial ?_
                    clear S; intro aa S
                    refine OL.cutN 3 (fun aa ww => St 133 ((99, Value.bool ((((((x75 && (!x43)) && (x50 == 1)) && (x56 == 1)) && (x62 == 1)) && (x68 == 1)) && (x74 == 1))) :: [(2, Value.pointer (some p2)), (3, Value.pointer (some p3)), (5, Value.pointer none), (7, Value.bool x43), (9, Value.int .i64 x50), (11, Value.int .i64 x56), (13, Value.int .i64 x62), (15, Value.int .i64 x68), (17, Value.int .i64 x74), (75, Value.bool x75), (76, Value.bool x75), (79, Value.bool (x75 && (!x43))), (80, Value.bool (x75 && (!x43))), (83, Value.bool ((x75 && (!x43)) && (x50 == 1))), (84, Value.bool ((x75 && (!x43)) && (x50 == 1))), (87, Value.bool (((x75 && (!x43)) && (x50 == 1)) && (x56 == 1))), (88, Value.bool (((x75 && (!x43)) && (x50 == 1)) && (x56 == 1))), (91, Value.bool ((((x75 && (!x43)) && (x50 == 1)) && (x56 == 1)) && (x62 == 1))), (92, Value.bool ((((x75 && (!x43)) && (x50 == 1)) && (x56 == 1)) && (x62 == 1))), (95, Value.bool (((((x75 && (!x43)) && (x50 == 1)) && (x56 == 1)) && (x62 == 1)) && (x68 == 1))), (96, Value.bool (((((x75 && (!x43)) && (x50 == 1)) && (x56 == 1)) && (x62 == 1)) && (x68 == 1)))]) h23 w0 aa ww) ?_ ?_
                    · rcases Bool.eq_false_or_eq_true (((((x75 && (!x43)) && (x50 == 1)) && (x56 == 1)) && (x62 == 1)) && (x68 == 1)) with hb_9 | hb_9
                      · refine OL.pure S (Lf.run_move (S.ev rfl)) rfl rfl (GOk.mk rfl rfl hb_9) ?_
                        clear S; intro aa S
                        refine OL.pure S (Lf.run_eql (S.ev rfl) (S.ev rfl)) rfl rfl (GOk.mk rfl rfl hb_9) ?_
                        clear S; intro aa S
                        refine OL.pure S (Lf.run_pickT (S.ev rfl) hb_9 (S.ev rfl)) rfl rfl trivial ?_
                        clear S; intro aa S
                        refine OL.nil ?_
                        exact (S.hd (by rw [hb_9, Bool.true_and])).sub _ ⟨rfl, rfl, rfl, rfl, rfl, rfl, rfl, rfl, rfl, rfl, rfl, rfl, rfl, rfl, rfl, rfl, rfl, rfl, rfl, rfl, rfl, rfl, trivial⟩
                      · refine OL.not S rfl rfl (GNo.mk rfl rfl hb_9) ?_
                        clear S; intro aa S
                        refine OL.not S rfl rfl (GNo.mk rfl rfl hb_9) ?_
                        clear S; intro aa S
                        refine OL.pure S (Lf.run_pickF (S.ev rfl) hb_9 (S.ev rfl)) rfl rfl trivial ?_
                        clear S; intro aa S
                        refine OL.nil ?_
                        exact (S.hd (by rw [hb_9, Bool.false_and])).sub _ ⟨rfl, rfl, rfl, rfl, rfl, rfl, rfl, rfl, rfl, rfl, rfl, rfl, rfl, rfl, rfl, rfl, rfl, rfl, rfl, rfl, rfl, rfl, trivial⟩
                    · clear S aa
                      intro aa ww S
                      refine OL.pure S (Lf.run_move (S.ev rfl)) rfl rfl trivial ?_
                      clear S; intro aa S
                      obtain ⟨J_3, H, HK_3⟩ := H
                      refine OL.cutN 6 (fun aa ww => ∃ x106 h24, St 133 ((106, Value.bool x106) :: [(2, Value.pointer (some p2)), (3, Value.pointer (some p3)), (5, Value.pointer none), (7, Value.bool x43), (9, Value.int .i64 x50), (11, Value.int .i64 x56), (13, Value.int .i64 x62), (15, Value.int .i64 x68), (17, Value.int .i64 x74), (75, Value.bool x75), (76, Value.bool x75), (79, Value.bool (x75 && (!x43))), (80, Value.bool (x75 && (!x43))), (83, Value.bool ((x75 && (!x43)) && (x50 == 1))), (84, Value.bool ((x75 && (!x43)) && (x50 == 1))), (87, Value.bool (((x75 && (!x43)) && (x50 == 1)) && (x56 == 1))), (88, Value.bool (((x75 && (!x43)) && (x50 == 1)) && (x56 == 1))), (91, Value.bool ((((x75 && (!x43)) && (x50 == 1)) && (x56 == 1)) && (x62 == 1))), (92, Value.bool ((((x75 && (!x43)) && (x50 == 1)) && (x56 == 1)) && (x62 == 1))), (95, Value.bool (((((x75 && (!x43)) && (x50 == 1)) && (x56 == 1)) && (x62 == 1)) && (x68 == 1))), (96, Value.bool (((((x75 && (!x43)) && (x50 == 1)) && (x56 == 1)) && (x62 == 1)) && (x68 == 1))), (99, Value.bool ((((((x75 && (!x43)) && (x50 == 1)) && (x56 == 1)) && (x62 == 1)) && (x68 == 1)) && (x74 == 1))), (100, Value.bool ((((((x75 && (!x43)) && (x50 == 1)) && (x56 == 1)) && (x62 == 1)) && (x68 == 1)) && (x74 == 1)))]) h24 w0 aa ww ∧ J_3 x106 h24) ?_ ?_
                      · rcases Bool.eq_false_or_eq_true ((((((x75 && (!x43)) && (x50 == 1)) && (x56 == 1)) && (x62 == 1)) && (x68 == 1)) && (x74 == 1)) with hb_10 | hb_10
                        · replace H := H.1 hb_10
                          refine OL.pure S (Lf.run_move (S.ev rfl)) rfl rfl (GOk.mk rfl rfl hb_10) ?_
                          clear S; intro aa S
                          obtain ⟨y102, y102_1, y102_2, c_19, c_20, c_21, H⟩ := H
                          refine OL.pure S (Lf.run_ldA (cs := [Value.int .i64 y102, Value.slice y102_1.a y102_1.n y102_1.c, Value.int .i64 y102_2]) (S.ev rfl) ag28 ti28 (by rw [S.heap]; exact RowL.toRow ⟨c_19, c_20, c_21, trivial⟩)) rfl rfl (GOk.mk rfl rfl hb_10) ?_
                          clear S; intro aa S
                          obtain ⟨y103, y103_1, y103_2, y103_3, y103_4, y103_5, y103_6, c_12, c_13, c_14, c_15, c_16, c_17, c_18, H⟩ := H
                          refine OL.pure S (Lf.run_ldA (cs := [Value.int .i64 y103, Value.int .u64 y103_1, Value.string y103_2, Value.slice y103_3.a y103_3.n y103_3.c, Value.int .i64 y103_4, Value.slice y103_5.a y103_5.n y103_5.c, Value.int .i64 y103_6]) (S.ev rfl) ag33 ti33 (by rw [S.heap]; exact RowL.toRow ⟨c_12, c_13, c_14, c_15, c_16, c_17, c_18, trivial⟩)) rfl rfl (GOk.mk rfl rfl hb_10) ?_
                          clear S; intro aa S
                          refine ol_cal S H isfn17 rfl rfl (GOk.mk rfl rfl hb_10) ?_
                          clear S H aa; intro u_21 aa ww h25 H S
                          obtain ⟨x104, rfl, H⟩ := H
                          refine OL.pure S (Lf.run_eql (S.ev rfl) (S.ev rfl)) rfl rfl (GOk.mk rfl rfl hb_10) ?_
                          clear S; intro aa S
                          refine OL.pure S (Lf.run_pickT (S.ev rfl) hb_10 (S.ev rfl)) rfl rfl trivial ?_
                          clear S; intro aa S
                          refine OL.nil ?_
                          exact ⟨_, _, S.sub _ ⟨rfl, rfl, rfl, rfl, rfl, rfl, rfl, rfl, rfl, rfl, rfl, rfl, rfl, rfl, rfl, rfl, rfl, rfl, rfl, rfl, rfl, rfl, rfl, rfl, trivial⟩, H⟩
                        · replace H := H.2 hb_10
                          refine OL.not S rfl rfl (GNo.mk rfl rfl hb_10) ?_
                          clear S; intro aa S
                          refine OL.not S rfl rfl (GNo.mk rfl rfl hb_10) ?_
                          clear S; intro aa S
                          refine OL.not S rfl rfl (GNo.mk rfl rfl hb_10) ?_
                          clear S; intro aa S
                          refine OL.not S rfl rfl (GNo.mk rfl rfl hb_10) ?_
                          clear S; intro aa S
                          refine OL.not S rfl rfl (GNo.mk rfl rfl hb_10) ?_
                          clear S; intro aa S
                          refine OL.pure S (Lf.run_pickF (S.ev rfl) hb_10 (S.ev rfl)) rfl rfl trivial ?_
                          clear S; intro aa S
                          refine OL.nil ?_
                          exact ⟨_, _, S.sub _ ⟨rfl, rfl, rfl, rfl, rfl, rfl, rfl, rfl, rfl, rfl, rfl, rfl, rfl, rfl, rfl, rfl, rfl, rfl, rfl, rfl, rfl, rfl, rfl, rfl, trivial⟩, H⟩
                      · clear S aa
                        rintro aa ww ⟨x106, h24, S, HJ⟩
                        replace H := HK_3 _ _ HJ
                        clear HK_3 HJ
                        refine OL.pure S (Lf.run_move (S.ev rfl)) rfl rfl trivial ?_
                        clear S; intro aa S
                        obtain ⟨J_4, H, HK_4⟩ := H
                        refine OL.cutN 6 (fun aa ww => ∃ x113 h26, St 133 ((113, Value.bool x113) :: [(2, Value.pointer (some p2)), (3, Value.pointer (some p3)), (5, Value.pointer none), (7, Value.bool x43), (9, Value.int .i64 x50), (11, Value.int .i64 x56), (13, Value.int .i64 x62), (15, Value.int .i64 x68), (17, Value.int .i64 x74), (75, Value.bool x75), (76, Value.bool x75), (79, Value.bool (x75 && (!x43))), (80, Value.bool (x75 && (!x43))), (83, Value.bool ((x75 && (!x43)) && (x50 == 1))), (84, Value.bool ((x75 && (!x43)) && (x50 == 1))), (87, Value.bool (((x75 && (!x43)) && (x50 == 1)) && (x56 == 1))), (88, Value.bool (((x75 && (!x43)) && (x50 == 1)) && (x56 == 1))), (91, Value.bool ((((x75 && (!x43)) && (x50 == 1)) && (x56 == 1)) && (x62 == 1))), (92, Value.bool ((((x75 && (!x43)) && (x50 == 1)) && (x56 == 1)) && (x62 == 1))), (95, Value.bool (((((x75 && (!x43)) && (x50 == 1)) && (x56 == 1)) && (x62 == 1)) && (x68 == 1))), (96, Value.bool (((((x75 && (!x43)) && (x50 == 1)) && (x56 == 1)) && (x62 == 1)) && (x68 == 1))), (99, Value.bool ((((((x75 && (!x43)) && (x50 == 1)) && (x56 == 1)) && (x62 == 1)) && (x68 == 1)) && (x74 == 1))), (100, Value.bool ((((((x75 && (!x43)) && (x50 == 1)) && (x56 == 1)) && (x62 == 1)) && (x68 == 1)) && (x74 == 1))), (106, Value.bool x106), (107, Value.bool x106)]) h26 w0 aa ww ∧ J_4 x113 h26) ?_ ?_
                        · rcases Bool.eq_false_or_eq_true x106 with hb_11 | hb_11
                          · replace H := H.1 hb_11
                            refine OL.pure S (Lf.run_move (S.ev rfl)) rfl rfl (GOk.mk rfl rfl hb_11) ?_
                            clear S; intro aa S
                            refine OL.pure S (Lf.run_fa (S.ev rfl) fa28_0) rfl rfl (GOk.mk rfl rfl hb_11) ?_
                            clear S; intro aa S
                            obtain ⟨x110, c_22, H⟩ := H
                            refine OL.pure S (Lf.run_ld (S.ev rfl) fl3 (S.cl c_22)) rfl rfl (GOk.mk rfl rfl hb_11) ?_
                            clear S; intro aa S
                            refine ol_cal S H isfn14 rfl rfl (GOk.mk rfl rfl hb_11) ?_
                            clear S H aa; intro u_22 aa ww h27 H S
                            obtain ⟨x111, rfl, H⟩ := H
                            refine OL.pure S (Lf.run_eql (S.ev rfl) (S.ev rfl)) rfl rfl (GOk.mk rfl rfl hb_11) ?_
                            clear S; intro aa S
                            refine OL.pure S (Lf.run_pickT (S.ev rfl) hb_11 (S.ev rfl)) rfl rfl trivial ?_
                            clear S; intro aa S
                            refine OL.nil ?_
                            exact ⟨_, _, S.sub _ ⟨rfl, rfl, rfl, rfl, rfl, rfl, rfl, rfl, rfl, rfl, rfl, rfl, rfl, rfl, rfl, rfl, rfl, rfl, rfl, rfl, rfl, rfl, rfl, rfl, rfl, rfl, trivial⟩, H⟩
                          · replace H := H.2 hb_11
                            refine OL.not S rfl rfl (GNo.mk rfl rfl hb_11) ?_
                            clear S; intro aa S
                            refine OL.not S rfl rfl (GNo.mk rfl rfl hb_11) ?_
                            clear S; intro aa S
                            refine OL.not S rfl rfl (GNo.mk rfl rfl hb_11) ?_
                            clear S; intro aa S
                            refine OL.not S rfl rfl (GNo.mk rfl rfl hb_11) ?_
                            clear S; intro aa S
                            refine OL.not S rfl rfl (GNo.mk rfl rfl hb_11) ?_
                            clear S; intro aa S
                            refine OL.pure S (Lf.run_pickF (S.ev rfl) hb_11 (S.ev rfl)) rfl rfl trivial ?_
                            clear S; intro aa S
                            refine OL.nil ?_
                            exact ⟨_, _, S.sub _ ⟨rfl, rfl, rfl, rfl, rfl, rfl, rfl, rfl, rfl, rfl, rfl, rfl, rfl, rfl, rfl, rfl, rfl, rfl, rfl, rfl, rfl, rfl, rfl, rfl, rfl, rfl, trivial⟩, H⟩
                        · clear S aa
                          rintro aa ww ⟨x113, h26, S, HJ⟩
                          replace H := HK_4 _ _ HJ
                          clear HK_4 HJ
                          refine OL.pure S (Lf.run_move (S.ev rfl)) rfl rfl trivial ?_
                          clear S; intro aa S
                          obtain ⟨J_5, H, HK_5⟩ := H
                          refine OL.cutN 5 (fun aa ww => ∃ x119 h28, St 133 ((119, Value.bool x119) :: [(2, Value.pointer (some p2)), (3, Value.pointer (some p3)), (5, Value.pointer none), (7, Value.bool x43), (9, Value.int .i64 x50), (11, Value.int .i64 x56), (13, Value.int .i64 x62), (15, Value.int .i64 x68), (17, Value.int .i64 x74), (75, Value.bool x75), (76, Value.bool x75), (79, Value.bool (x75 && (!x43))), (80, Value.bool (x75 && (!x43))), (83, Value.bool ((x75 && (!x43)) && (x50 == 1))), (84, Value.bool ((x75 && (!x43)) && (x50 == 1))), (87, Value.bool (((x75 && (!x43)) && (x50 == 1)) && (x56 == 1))), (88, Value.bool (((x75 && (!x43)) && (x50 == 1)) && (x56 == 1))), (91, Value.bool ((((x75 && (!x43)) && (x50 == 1)) && (x56 == 1)) && (x62 == 1))), (92, Value.bool ((((x75 && (!x43)) && (x50 == 1)) && (x56 == 1)) && (x62 == 1))), (95, Value.bool (((((x75 && (!x43)) && (x50 == 1)) && (x56 == 1)) && (x62 == 1)) && (x68 == 1))), (96, Value.bool (((((x75 && (!x43)) && (x50 == 1)) && (x56 == 1)) && (x62 == 1)) && (x68 == 1))), (99, Value.bool ((((((x75 && (!x43)) && (x50 == 1)) && (x56 == 1)) && (x62 == 1)) && (x68 == 1)) && (x74 == 1))), (100, Value.bool ((((((x75 && (!x43)) && (x50 == 1)) && (x56 == 1)) && (x62 == 1)) && (x68 == 1)) && (x74 == 1))), (106, Value.bool x106), (107, Value.bool x106), (113, Value.bool x113), (114, Value.bool x113)]) h28 w0 aa ww ∧ J_5 x119 h28) ?_ ?_
                          · rcases Bool.eq_false_or_eq_true x113 with hb_12 | hb_12
                            · replace H := H.1 hb_12
                              refine OL.pure S (Lf.run_move (S.ev rfl)) rfl rfl (GOk.mk rfl rfl hb_12) ?_
                              clear S; intro aa S
                              obtain ⟨y116, y116_1, y116_2, y116_3, y116_4, y116_5, y116_6, c_24, c_25, c_26, c_27, c_28, c_29, c_30, H⟩ := H
                              refine OL.pure S (Lf.run_ldA (cs := [Value.int .i64 y116, Value.int .u64 y116_1, Value.string y116_2, Value.slice y116_3.a y116_3.n y116_3.c, Value.int .i64 y116_4, Value.slice y116_5.a y116_5.n y116_5.c, Value.int .i64 y116_6]) (S.ev rfl) ag33 ti33 (by rw [S.heap]; exact RowL.toRow ⟨c_24, c_25, c_26, c_27, c_28, c_29, c_30, trivial⟩)) rfl rfl (GOk.mk rfl rfl hb_12) ?_
                              clear S; intro aa S
                              refine ol_cal S H isfn25 rfl rfl (GOk.mk rfl rfl hb_12) ?_
                              clear S H aa; intro u_23 aa ww h29 H S
                              obtain ⟨x117, rfl, H⟩ := H
                              refine OL.pure S (Lf.run_eql (S.ev rfl) (S.ev rfl)) rfl rfl (GOk.mk rfl rfl hb_12) ?_
                              clear S; intro aa S
                              refine OL.pure S (Lf.run_pickT (S.ev rfl) hb_12 (S.ev rfl)) rfl rfl trivial ?_
                              clear S; intro aa S
                              refine OL.nil ?_
                              exact ⟨_, _, S.sub _ ⟨rfl, rfl, rfl, rfl, rfl, rfl, rfl, rfl, rfl, rfl, rfl, rfl, rfl, rfl, rfl, rfl, rfl, rfl, rfl, rfl, rfl, rfl, rfl, rfl, rfl, rfl, rfl, rfl, trivial⟩, H⟩
                            · replace H := H.2 hb_12
                              refine OL.not S rfl rfl (GNo.mk rfl rfl hb_12) ?_
                              clear S; intro aa S
                              refine OL.not S rfl rfl (GNo.mk rfl rfl hb_12) ?_
                              clear S; intro aa S
                              refine OL.not S rfl rfl (GNo.mk rfl rfl hb_12) ?_
                              clear S; intro aa S
                              refine OL.not S rfl rfl (GNo.mk rfl rfl hb_12) ?_
                              clear S; intro aa S
                              refine OL.pure S (Lf.run_pickF (S.ev rfl) hb_12 (S.ev rfl)) rfl rfl trivial ?_
                              clear S; intro aa S
                              refine OL.nil ?_
                              exact ⟨_, _, S.sub _ ⟨rfl, rfl, rfl, rfl, rfl, rfl, rfl, rfl, rfl, rfl, rfl, rfl, rfl, rfl, rfl, rfl, rfl, rfl, rfl, rfl, rfl, rfl, rfl, rfl, rfl, rfl, rfl, rfl, trivial⟩, H⟩
                          · clear S aa
                            rintro aa ww ⟨x119, h28, S, HJ⟩
                            replace H := HK_5 _ _ HJ
                            clear HK_5 HJ
                            refine OL.pure S (Lf.run_move (S.ev rfl)) rfl rfl trivial ?_
                            clear S; intro aa S
                            obtain ⟨J_6, H, HK_6⟩ := H
                            refine OL.cutN 4 (fun aa ww => ∃ x124 h30, St 133 ((124, Value.bool x124) :: [(2, Value.pointer (some p2)), (3, Value.pointer (some p3)), (5, Value.pointer none), (7, Value.bool x43), (9, Value.int .i64 x50), (11, Value.int .i64 x56), (13, Value.int .i64 x62), (15, Value.int .i64 x68), (17, Value.int .i64 x74), (75, Value.bool x75), (76, Value.bool x75), (79, Value.bool (x75 && (!x43))), (80, Value.bool (x75 && (!x43))), (83, Value.bool ((x75 && (!x43)) && (x50 == 1))), (84, Value.bool ((x75 && (!x43)) && (x50 == 1))), (87, Value.bool (((x75 && (!x43)) && (x50 == 1)) && (x56 == 1))), (88, Value.bool (((x75 && (!x43)) && (x50 == 1)) && (x56 == 1))), (91, Value.bool ((((x75 && (!x43)) && (x50 == 1)) && (x56 == 1)) && (x62 == 1))), (92, Value.bool ((((x75 && (!x43)) && (x50 == 1)) && (x56 == 1)) && (x62 == 1))), (95, Value.bool (((((x75 && (!x43)) && (x50 == 1)) && (x56 == 1)) && (x62 == 1)) && (x68 == 1))), (96, Value.bool (((((x75 && (!x43)) && (x50 == 1)) && (x56 == 1)) && (x62 == 1)) && (x68 == 1))), (99, Value.bool ((((((x75 && (!x43)) && (x50 == 1)) && (x56 == 1)) && (x62 == 1)) && (x68 == 1)) && (x74 == 1))), (100, Value.bool ((((((x75 && (!x43)) && (x50 == 1)) && (x56 == 1)) && (x62 == 1)) && (x68 == 1)) && (x74 == 1))), (106, Value.bool x106), (107, Value.bool x106), (113, Value.bool x113), (114, Value.bool x113), (119, Value.bool x119), (120, Value.bool x119)]) h30 w0 aa ww ∧ J_6 x124 h30) ?_ ?_
                            · rcases Bool.eq_false_or_eq_true x119 with hb_13 | hb_13
                              · replace H := H.1 hb_13
                                refine OL.pure S (Lf.run_move (S.ev rfl)) rfl rfl (GOk.mk rfl rfl hb_13) ?_
                                clear S; intro aa S
                                refine ol_cal S H isfn13 rfl rfl (GOk.mk rfl rfl hb_13) ?_
                                clear S H aa; intro u_24 aa ww h31 H S
                                obtain ⟨x122, rfl, H⟩ := H
                                refine OL.pure S (Lf.run_eql (S.ev rfl) (S.ev rfl)) rfl rfl (GOk.mk rfl rfl hb_13) ?_
                                clear S; intro aa S
                                refine OL.pure S (Lf.run_pickT (S.ev rfl) hb_13 (S.ev rfl)) rfl rfl trivial ?_
                                clear S; intro aa S
                                refine OL.nil ?_
                                exact ⟨_, _, S.sub _ ⟨rfl, rfl, rfl, rfl, rfl, rfl, rfl, rfl, rfl, rfl, rfl, rfl, rfl, rfl, rfl, rfl, rfl, rfl, rfl, rfl, rfl, rfl, rfl, rfl, rfl, rfl, rfl, rfl, rfl, rfl, trivial⟩, H⟩
                              · replace H := H.2 hb_13
                                refine OL.not S rfl rfl (GNo.mk rfl rfl hb_13) ?_
                                clear S; intro aa S
                                refine OL.not S rfl rfl (GNo.mk rfl rfl hb_13) ?_
                                clear S; intro aa S
                                refine OL.not S rfl rfl (GNo.mk rfl rfl hb_13) ?_
                                clear S; intro aa S
                                refine OL.pure S (Lf.run_pickF (S.ev rfl) hb_13 (S.ev rfl)) rfl rfl trivial ?_
                                clear S; intro aa S
                                refine OL.nil ?_
                                exact ⟨_, _, S.sub _ ⟨rfl, rfl, rfl, rfl, rfl, rfl, rfl, rfl, rfl, rfl, rfl, rfl, rfl, rfl, rfl, rfl, rfl, rfl, rfl, rfl, rfl, rfl, rfl, rfl, rfl, rfl, rfl, rfl, rfl, rfl, trivial⟩, H⟩
                            · clear S aa
                              rintro aa ww ⟨x124, h30, S, HJ⟩
                              replace H := HK_6 _ _ HJ
                              clear HK_6 HJ
                              refine OL.pure S (Lf.run_move (S.ev rfl)) rfl rfl trivial ?_
                              clear S; intro aa S
                              obtain ⟨J_7, H, HK_7⟩ := H
                              refine OL.cutN 7 (fun aa ww => ∃ x132 h32, St 133 ((132, Value.bool x132) :: [(2, Value.pointer (some p2)), (3, Value.pointer (some p3)), (5, Value.pointer none), (7, Value.bool x43), (9, Value.int .i64 x50), (11, Value.int .i64 x56), (13, Value.int .i64 x62), (15, Value.int .i64 x68), (17, Value.int .i64 x74), (75, Value.bool x75), (76, Value.bool x75), (79, Value.bool (x75 && (!x43))), (80, Value.bool (x75 && (!x43))), (83, Value.bool ((x75 && (!x43)) && (x50 == 1))), (84, Value.bool ((x75 && (!x43)) && (x50 == 1))), (87, Value.bool (((x75 && (!x43)) && (x50 == 1)) && (x56 == 1))), (88, Value.bool (((x75 && (!x43)) && (x50 == 1)) && (x56 == 1))), (91, Value.bool ((((x75 && (!x43)) && (x50 == 1)) && (x56 == 1)) && (x62 == 1))), (92, Value.bool ((((x75 && (!x43)) && (x50 == 1)) && (x56 == 1)) && (x62 == 1))), (95, Value.bool (((((x75 && (!x43)) && (x50 == 1)) && (x56 == 1)) && (x62 == 1)) && (x68 == 1))), (96, Value.bool (((((x75 && (!x43)) && (x50 == 1)) && (x56 == 1)) && (x62 == 1)) && (x68 == 1))), (99, Value.bool ((((((x75 && (!x43)) && (x50 == 1)) && (x56 == 1)) && (x62 == 1)) && (x68 == 1)) && (x74 == 1))), (100, Value.bool ((((((x75 && (!x43)) && (x50 == 1)) && (x56 == 1)) && (x62 == 1)) && (x68 == 1)) && (x74 == 1))), (106, Value.bool x106), (107, Value.bool x106), (113, Value.bool x113), (114, Value.bool x113), (119, Value.bool x119), (120, Value.bool x119), (124, Value.bool x124), (125, Value.bool x124)]) h32 w0 aa ww ∧ J_7 x132 h32) ?_ ?_
                              · rcases Bool.eq_false_or_eq_true x124 with hb_14 | hb_14
                                · replace H := H.1 hb_14
                                  refine OL.pure S (Lf.run_move (S.ev rfl)) rfl rfl (GOk.mk rfl rfl hb_14) ?_
                                  clear S; intro aa S
                                  refine OL.pure S (Lf.run_fa (S.ev rfl) fa28_0) rfl rfl (GOk.mk rfl rfl hb_14) ?_
                                  clear S; intro aa S
                                  obtain ⟨x128, c_31, H⟩ := H
                                  refine OL.pure S (Lf.run_ld (S.ev rfl) fl3 (S.cl c_31)) rfl rfl (GOk.mk rfl rfl hb_14) ?_
                                  clear S; intro aa S
                                  refine ol_cal S H isfn26 rfl rfl (GOk.mk rfl rfl hb_14) ?_
                                  clear S H aa; intro u_25 aa ww h33 H S
                                  obtain ⟨x129, rfl, H⟩ := H
                                  refine OL.pure S (Lf.run_lens (S.ev rfl) rfl Try.underlying69) rfl rfl (GOk.mk rfl rfl hb_14) ?_
                                  clear S; intro aa S
                                  refine OL.pure S (Lf.run_eql (S.ev rfl) (S.ev rfl)) rfl rfl (GOk.mk rfl rfl hb_14) ?_
                                  clear S; intro aa S
                                  refine OL.pure S (Lf.run_pickT (S.ev rfl) hb_14 (S.ev rfl)) rfl rfl trivial ?_
                                  clear S; intro aa S
                                  refine OL.nil ?_
                                  exact ⟨_, _, S.sub _ ⟨rfl, rfl, rfl, rfl, rfl, rfl, rfl, rfl, rfl, rfl, rfl, rfl, rfl, rfl, rfl, rfl, rfl, rfl, rfl, rfl, rfl, rfl, rfl, rfl, rfl, rfl, rfl, rfl, rfl, rfl, rfl, rfl, trivial⟩, H⟩
                                · replace H := H.2 hb_14
                                  refine OL.not S rfl rfl (GNo.mk rfl rfl hb_14) ?_
                                  clear S; intro aa S
                                  refine OL.not S rfl rfl (GNo.mk rfl rfl hb_14) ?_
                                  clear S; intro aa S
                                  refine OL.not S rfl rfl (GNo.mk rfl rfl hb_14) ?_
                                  clear S; intro aa S
                                  refine OL.not S rfl rfl (GNo.mk rfl rfl hb_14) ?_
                                  clear S; intro aa S
                                  refine OL.not S rfl rfl (GNo.mk rfl rfl hb_14) ?_
                                  clear S; intro aa S
                                  refine OL.not S rfl rfl (GNo.mk rfl rfl hb_14) ?_
                                  clear S; intro aa S
                                  refine OL.pure S (Lf.run_pickF (S.ev rfl) hb_14 (S.ev rfl)) rfl rfl trivial ?_
                                  clear S; intro aa S
                                  refine OL.nil ?_
                                  exact ⟨_, _, S.sub _ ⟨rfl, rfl, rfl, rfl, rfl, rfl, rfl, rfl, rfl, rfl, rfl, rfl, rfl, rfl, rfl, rfl, rfl, rfl, rfl, rfl, rfl, rfl, rfl, rfl, rfl, rfl, rfl, rfl, rfl, rfl, rfl, rfl, trivial⟩, H⟩
                              · clear S aa
                                rintro aa ww ⟨x132, h32, S, HJ⟩
                                replace H := HK_7 _ _ HJ
                                clear HK_7 HJ
                                refine OL.pure S (Lf.run_assign (S.ev rfl)) rfl rfl trivial ?_
                                clear S; intro aa S
                                refine OL.nil ?_
                                refine W.ret ?_
                                exact Ret.one S rfl rfl H

/-- chattel heap.New -/
def L8 (most0 : Int) (watch1 : Bool) (h : Heap) (R : Value → Heap → Prop) : Prop :=
  new 74 #[Value.slice (⟨none, 0, 0⟩ : Sv).a (⟨none, 0, 0⟩ : Sv).n (⟨none, 0, 0⟩ : Sv).c, Value.int .i64 0, Value.int .i64 0, Value.int .i64 most0, Value.bool watch1] h fun p8 h1 =>
  R (Value.pointer (some p8)) h1

set_option maxRecDepth 100000 in

theorem F8 {most0 watch1 h : _} {R : Value → Heap → Prop} (H : L8 most0 watch1 h R) : CallsH Try.prog 8 #[Value.int .i64 most0, Value.bool watch1] h R := by
  refine CallsH.enter (n := 9) Try.func8 rfl rfl rfl rfl ?_
  intro w0 aa ww S
  unfold L8 at H
  refine W.seq ?_
  replace S := S.sub [(0, Value.int .i64 most0), (1, Value.bool watch1)] ⟨rfl, rfl, trivial⟩
  refine W.region ?_
  refine OL.pure S (Lf.run_assign (S.ev rfl)) rfl rfl trivial ?_
  clear S; intro aa S
  refine OL.nil ?_
  refine W.seq ?_
  replace S := S.sub [(0, Value.int .i64 most0), (1, Value.bool watch1)] ⟨rfl, rfl, trivial⟩
  refine W.region ?_
  refine OL.pure S (Lf.run_move (S.ev rfl)) rfl rfl trivial ?_
  clear S; intro aa S
  refine OL.pure S (Lf.run_move (S.ev rfl)) rfl rfl trivial ?_
  clear S; intro aa S
  refine OL.pure S (Lf.run_build (cs := #[Value.slice (⟨none, 0, 0⟩ : Sv).a (⟨none, 0, 0⟩ : Sv).n (⟨none, 0, 0⟩ : Sv).c, Value.int .i64 0, Value.int .i64 0, Value.int .i64 most0, Value.bool watch1]) pl74 ti74 (parts_map S rfl) (by kernel_rfl)) rfl rfl trivial ?_
  clear S; intro aa S
  refine ol_box S H rfl rfl rfl trivial ?_
  clear S H aa; intro p8 aa ww h1 H S
  refine OL.pure S (Lf.run_assign (S.ev rfl)) rfl rfl trivial ?_
  clear S; intro aa S
  refine OL.nil ?_
  refine W.ret ?_
  exact Ret.one S rfl rfl H

/-- chattel chattellaw13.watched -/
def L9  (h : Heap) (R : Value → Heap → Prop) : Prop :=
  cal Try.prog 8 #[Value.int .i64 4, Value.bool true] h fun u h1 => asP u fun x12 =>
  cal Try.prog 11 #[Value.int .u64 7] h1 fun u_1 h2 => ∃ (y15 : Int) (y15_1 : Int) (y15_2 : ByteArray) (y15_3 : Sv) (y15_4 : Int) (y15_5 : Sv) (y15_6 : Int), u_1 = Value.agg #[Value.int .i64 y15, Value.int .u64 y15_1, Value.string y15_2, Value.slice y15_3.a y15_3.n y15_3.c, Value.int .i64 y15_4, Value.slice y15_5.a y15_5.n y15_5.c, Value.int .i64 y15_6] ∧
  cal Try.prog 10 #[Value.pointer x12, Value.agg #[Value.int .i64 y15, Value.int .u64 y15_1, Value.string y15_2, Value.slice y15_3.a y15_3.n y15_3.c, Value.int .i64 y15_4, Value.slice y15_5.a y15_5.n y15_5.c, Value.int .i64 y15_6]] h2 fun u_2 h3 => asTup u_2 fun r16 =>
  elt r16 0 fun u_3 => ∃ (y17 : Int) (y17_1 : Sv) (y17_2 : Int), u_3 = Value.agg #[Value.int .i64 y17, Value.slice y17_1.a y17_1.n y17_1.c, Value.int .i64 y17_2] ∧
  elt r16 1 fun u_4 => asB u_4 fun x18 =>
  new 28 #[Value.int .i64 0, Value.slice (⟨none, 0, 0⟩ : Sv).a (⟨none, 0, 0⟩ : Sv).n (⟨none, 0, 0⟩ : Sv).c, Value.int .i64 0] h3 fun p2 h4 =>
  stoA h4 p2 [Value.int .i64 y17, Value.slice y17_1.a y17_1.n y17_1.c, Value.int .i64 y17_2] fun h5 =>
  ifb (!x18) (
    R (Value.bool false) h5) (
    ∃ (y23 : Int) (y23_1 : Sv) (y23_2 : Int), cl h5 p2 = some (Value.int .i64 y23) ∧ cl h5 (p2.add 1) = some (Value.slice y23_1.a y23_1.n y23_1.c) ∧ cl h5 (p2.add 2) = some (Value.int .i64 y23_2) ∧
    cal Try.prog 12 #[Value.pointer x12, Value.agg #[Value.int .i64 y23, Value.slice y23_1.a y23_1.n y23_1.c, Value.int .i64 y23_2], Value.bool true] h5 fun u_5 h6 => asTup u_5 fun r24 =>
    elt r24 0 fun u_6 => ∃ (y25 : Int) (y25_1 : Sv) (y25_2 : Int), u_6 = Value.agg #[Value.int .i64 y25, Value.slice y25_1.a y25_1.n y25_1.c, Value.int .i64 y25_2] ∧
    elt r24 1 fun u_7 => asI .i64 u_7 fun x26 =>
    new 28 #[Value.int .i64 0, Value.slice (⟨none, 0, 0⟩ : Sv).a (⟨none, 0, 0⟩ : Sv).n (⟨none, 0, 0⟩ : Sv).c, Value.int .i64 0] h6 fun p4 h7 =>
    stoA h7 p4 [Value.int .i64 y25, Value.slice y25_1.a y25_1.n y25_1.c, Value.int .i64 y25_2] fun h8 =>
    ∃ (y29 : Int) (y29_1 : Sv) (y29_2 : Int), cl h8 p4 = some (Value.int .i64 y29) ∧ cl h8 (p4.add 1) = some (Value.slice y29_1.a y29_1.n y29_1.c) ∧ cl h8 (p4.add 2) = some (Value.int .i64 y29_2) ∧
    cal Try.prog 15 #[Value.pointer x12, Value.agg #[Value.int .i64 y29, Value.slice y29_1.a y29_1.n y29_1.c, Value.int .i64 y29_2]] h8 fun u_8 h9 => asTup u_8 fun r30 =>
    elt r30 0 fun u_9 => ∃ (y31 : Int) (y31_1 : Int) (y31_2 : ByteArray) (y31_3 : Sv) (y31_4 : Int) (y31_5 : Sv) (y31_6 : Int), u_9 = Value.agg #[Value.int .i64 y31, Value.int .u64 y31_1, Value.string y31_2, Value.slice y31_3.a y31_3.n y31_3.c, Value.int .i64 y31_4, Value.slice y31_5.a y31_5.n y31_5.c, Value.int .i64 y31_6] ∧
    elt r30 1 fun u_10 => asI .i64 u_10 fun x32 =>
    new 33 #[Value.int .i64 0, Value.int .u64 0, Value.string (⟨#[]⟩ : ByteArray), Value.slice (⟨none, 0, 0⟩ : Sv).a (⟨none, 0, 0⟩ : Sv).n (⟨none, 0, 0⟩ : Sv).c, Value.int .i64 0, Value.slice (⟨none, 0, 0⟩ : Sv).a (⟨none, 0, 0⟩ : Sv).n (⟨none, 0, 0⟩ : Sv).c, Value.int .i64 0] h9 fun p6 h10 =>
    stoA h10 p6 [Value.int .i64 y31, Value.int .u64 y31_1, Value.string y31_2, Value.slice y31_3.a y31_3.n y31_3.c, Value.int .i64 y31_4, Value.slice y31_5.a y31_5.n y31_5.c, Value.int .i64 y31_6] fun h11 =>
    ∃ (y35 : Int) (y35_1 : Sv) (y35_2 : Int), cl h11 p2 = some (Value.int .i64 y35) ∧ cl h11 (p2.add 1) = some (Value.slice y35_1.a y35_1.n y35_1.c) ∧ cl h11 (p2.add 2) = some (Value.int .i64 y35_2) ∧
    cal Try.prog 15 #[Value.pointer x12, Value.agg #[Value.int .i64 y35, Value.slice y35_1.a y35_1.n y35_1.c, Value.int .i64 y35_2]] h11 fun u_11 h12 => asTup u_11 fun r36 =>
    elt r36 0 fun u_12 => ∃ (y37 : Int) (y37_1 : Int) (y37_2 : ByteArray) (y37_3 : Sv) (y37_4 : Int) (y37_5 : Sv) (y37_6 : Int), u_12 = Value.agg #[Value.int .i64 y37, Value.int .u64 y37_1, Value.string y37_2, Value.slice y37_3.a y37_3.n y37_3.c, Value.int .i64 y37_4, Value.slice y37_5.a y37_5.n y37_5.c, Value.int .i64 y37_6] ∧
    elt r36 1 fun u_13 => asI .i64 u_13 fun x38 =>
    new 33 #[Value.int .i64 0, Value.int .u64 0, Value.string (⟨#[]⟩ : ByteArray), Value.slice (⟨none, 0, 0⟩ : Sv).a (⟨none, 0, 0⟩ : Sv).n (⟨none, 0, 0⟩ : Sv).c, Value.int .i64 0, Value.slice (⟨none, 0, 0⟩ : Sv).a (⟨none, 0, 0⟩ : Sv).n (⟨none, 0, 0⟩ : Sv).c, Value.int .i64 0] h12 fun p8 h13 =>
    stoA h13 p8 [Value.int .i64 y37, Value.int .u64 y37_1, Value.string y37_2, Value.slice y37_3.a y37_3.n y37_3.c, Value.int .i64 y37_4, Value.slice y37_5.a y37_5.n y37_5.c, Value.int .i64 y37_6] fun h14 =>
    ∃ (y41 : Int) (y41_1 : Sv) (y41_2 : Int), cl h14 p4 = some (Value.int .i64 y41) ∧ cl h14 (p4.add 1) = some (Value.slice y41_1.a y41_1.n y41_1.c) ∧ cl h14 (p4.add 2) = some (Value.int .i64 y41_2) ∧
    cal Try.prog 15 #[Value.pointer x12, Value.agg #[Value.int .i64 y41, Value.slice y41_1.a y41_1.n y41_1.c, Value.int .i64 y41_2]] h14 fun u_14 h15 => asTup u_14 fun r42 =>
    elt r42 0 fun u_15 => ∃ (y43 : Int) (y43_1 : Int) (y43_2 : ByteArray) (y43_3 : Sv) (y43_4 : Int) (y43_5 : Sv) (y43_6 : Int), u_15 = Value.agg #[Value.int .i64 y43, Value.int .u64 y43_1, Value.string y43_2, Value.slice y43_3.a y43_3.n y43_3.c, Value.int .i64 y43_4, Value.slice y43_5.a y43_5.n y43_5.c, Value.int .i64 y43_6] ∧
    elt r42 1 fun u_16 => asI .i64 u_16 fun x44 =>
    new 33 #[Value.int .i64 0, Value.int .u64 0, Value.string (⟨#[]⟩ : ByteArray), Value.slice (⟨none, 0, 0⟩ : Sv).a (⟨none, 0, 0⟩ : Sv).n (⟨none, 0, 0⟩ : Sv).c, Value.int .i64 0, Value.slice (⟨none, 0, 0⟩ : Sv).a (⟨none, 0, 0⟩ : Sv).n (⟨none, 0, 0⟩ : Sv).c, Value.int .i64 0] h15 fun p10 h16 =>
    stoA h16 p10 [Value.int .i64 y43, Value.int .u64 y43_1, Value.string y43_2, Value.slice y43_3.a y43_3.n y43_3.c, Value.int .i64 y43_4, Value.slice y43_5.a y43_5.n y43_5.c, Value.int .i64 y43_6] fun h17 =>
    ∃ J : Bool → Prop, (andr (((x26 == 0) && (x32 == 0)) && (x38 == 0)) (fun k =>
      ldI .u64 h17 (p6.add 1) fun x57 =>
      k (x57 == 7)) J) ∧ ∀ x59, J x59 →
    ∃ J_1 : Bool → Heap → Prop, (andj (x59 && (x44 == 2)) (fun k_1 =>
      cal Try.prog 13 #[Value.pointer x12] h17 fun u_17 h19 => asI .i64 u_17 fun x66 =>
      k_1 (x66 == 1) h19) h17 J_1) ∧ ∀ x68 h18, J_1 x68 h18 →
    R (Value.bool x68) h18)

set_option maxRecDepth 100000 in

theorem F9 {h : _} {R : Value → Heap → Prop} (H : L9 h R) : CallsH Try.prog 9 #[] h R := by
  refine CallsH.enter (n := 69) Try.func9 rfl rfl rfl rfl ?_
  intro w0 aa ww S
  unfold L9 at H
  refine W.seq ?_
  replace S := S.sub [] trivial
  refine W.region ?_
  refine OL.pure S (Lf.run_assign (S.ev rfl)) rfl rfl trivial ?_
  clear S; intro aa S
  refine OL.nil ?_
  refine W.seq ?_
  replace S := S.sub [] trivial
  refine W.region ?_
  refine ol_cal S H isfn8 rfl rfl trivial ?_
  clear S H aa; intro u aa ww h1 H S
  obtain ⟨x12, rfl, H⟩ := H
  refine OL.pure S (Lf.run_assign (S.ev rfl)) rfl rfl trivial ?_
  clear S; intro aa S
  refine OL.nil ?_
  refine W.seq ?_
  replace S := S.sub [(1, Value.pointer x12)] ⟨rfl, trivial⟩
  refine W.region ?_
  refine OL.pure S (Lf.run_move (S.ev rfl)) rfl rfl trivial ?_
  clear S; intro aa S
  refine ol_cal S H isfn11 rfl rfl trivial ?_
  clear S H aa; intro u_1 aa ww h2 H S
  obtain ⟨y15, y15_1, y15_2, y15_3, y15_4, y15_5, y15_6, rfl, H⟩ := H
  refine ol_cal S H isfn10 rfl rfl trivial ?_
  clear S H aa; intro u_2 aa ww h3 H S
  obtain ⟨r16, rfl, H⟩ := H
  refine OL.pure S (Lf.run_move (S.ev rfl)) rfl rfl trivial ?_
  clear S; intro aa S
  obtain ⟨u_3, e, y17, y17_1, y17_2, rfl, H⟩ := H
  refine OL.pure S (Lf.run_ex (S.ev rfl) e) rfl rfl trivial ?_
  clear S; intro aa S
  obtain ⟨u_4, e_1, x18, rfl, H⟩ := H
  refine OL.pure S (Lf.run_ex (S.ev rfl) e_1) rfl rfl trivial ?_
  clear S; intro aa S
  refine ol_alloc S H ti28 rfl rfl trivial ?_
  clear S H aa; intro p2 aa ww h4 H S
  refine ol_stoA S H rfl rfl ti28 trivial ?_
  clear S H aa; intro aa ww h5 H S
  refine OL.pure S (Lf.run_assign (S.ev rfl)) rfl rfl trivial ?_
  clear S; intro aa S
  refine OL.nil ?_
  refine W.seq ?_
  refine W.seq ?_
  replace S := S.sub [(1, Value.pointer x12), (2, Value.pointer (some p2)), (3, Value.bool x18)] ⟨rfl, rfl, rfl, trivial⟩
  refine W.region ?_
  refine OL.pure S (Lf.run_move (S.ev rfl)) rfl rfl trivial ?_
  clear S; intro aa S
  refine OL.pure S (Lf.run_not (S.ev rfl)) rfl rfl trivial ?_
  clear S; intro aa S
  refine OL.nil ?_
  refine W.cond S (b := (!x18)) rfl (fun hb => ?_) (fun hb => ?_)
  · replace H := H.1 hb
    refine W.seq ?_
    replace S := S.sub [] trivial
    refine W.region ?_
    refine OL.pure S (Lf.run_assign (S.ev rfl)) rfl rfl trivial ?_
    clear S; intro aa S
    refine OL.nil ?_
    refine W.ret ?_
    exact Ret.one S rfl rfl H
  · replace H := H.2 hb
    refine W.skip ?_
    refine W.seq ?_
    replace S := S.sub [(1, Value.pointer x12), (2, Value.pointer (some p2))] ⟨rfl, rfl, trivial⟩
    refine W.region ?_
    refine OL.pure S (Lf.run_move (S.ev rfl)) rfl rfl trivial ?_
    clear S; intro aa S
    obtain ⟨y23, y23_1, y23_2, c_14, c_15, c_16, H⟩ := H
    refine OL.pure S (Lf.run_ldA (cs := [Value.int .i64 y23, Value.slice y23_1.a y23_1.n y23_1.c, Value.int .i64 y23_2]) (S.ev rfl) ag28 ti28 (by rw [S.heap]; exact RowL.toRow ⟨c_14, c_15, c_16, trivial⟩)) rfl rfl trivial ?_
    clear S; intro aa S
    refine ol_cal S H isfn12 rfl rfl trivial ?_
    clear S H aa; intro u_5 aa ww h6 H S
    obtain ⟨r24, rfl, H⟩ := H
    refine OL.pure S (Lf.run_move (S.ev rfl)) rfl rfl trivial ?_
    clear S; intro aa S
    obtain ⟨u_6, e_2, y25, y25_1, y25_2, rfl, H⟩ := H
    refine OL.pure S (Lf.run_ex (S.ev rfl) e_2) rfl rfl trivial ?_
    clear S; intro aa S
    obtain ⟨u_7, e_3, x26, rfl, H⟩ := H
    refine OL.pure S (Lf.run_ex (S.ev rfl) e_3) rfl rfl trivial ?_
    clear S; intro aa S
    refine ol_alloc S H ti28 rfl rfl trivial ?_
    clear S H aa; intro p4 aa ww h7 H S
    refine ol_stoA S H rfl rfl ti28 trivial ?_
    clear S H aa; intro aa ww h8 H S
    refine OL.pure S (Lf.run_assign (S.ev rfl)) rfl rfl trivial ?_
    clear S; intro aa S
    refine OL.nil ?_
    refine W.seq ?_
    replace S := S.sub [(1, Value.pointer x12), (2, Value.pointer (some p2)), (4, Value.pointer (some p4)), (5, Value.int .i64 x26)] ⟨rfl, rfl, rfl, rfl, trivial⟩
    refine W.region ?_
    refine OL.pure S (Lf.run_move (S.ev rfl)) rfl rfl trivial ?_
    clear S; intro aa S
    obtain ⟨y29, y29_1, y29_2, c_11, c_12, c_13, H⟩ := H
    refine OL.pure S (Lf.run_ldA (cs := [Value.int .i64 y29, Value.slice y29_1.a y29_1.n y29_1.c, Value.int .i64 y29_2]) (S.ev rfl) ag28 ti28 (by rw [S.heap]; exact RowL.toRow ⟨c_11, c_12, c_13, trivial⟩)) rfl rfl trivial ?_
    clear S; intro aa S
    refine ol_cal S H isfn15 rfl rfl trivial ?_
    clear S H aa; intro u_8 aa ww h9 H S
    obtain ⟨r30, rfl, H⟩ := H
    refine OL.pure S (Lf.run_move (S.ev rfl)) rfl rfl trivial ?_
    clear S; intro aa S
    obtain ⟨u_9, e_4, y31, y31_1, y31_2, y31_3, y31_4, y31_5, y31_6, rfl, H⟩ := H
    refine OL.pure S (Lf.run_ex (S.ev rfl) e_4) rfl rfl trivial ?_
    clear S; intro aa S
    obtain ⟨u_10, e_5, x32, rfl, H⟩ := H
    refine OL.pure S (Lf.run_ex (S.ev rfl) e_5) rfl rfl trivial ?_
    clear S; intro aa S
    refine ol_alloc S H ti33 rfl rfl trivial ?_
    clear S H aa; intro p6 aa ww h10 H S
    refine ol_stoA S H rfl rfl ti33 trivial ?_
    clear S H aa; intro aa ww h11 H S
    refine OL.pure S (Lf.run_assign (S.ev rfl)) rfl rfl trivial ?_
    clear S; intro aa S
    refine OL.nil ?_
    refine W.seq ?_
    replace S := S.sub [(1, Value.pointer x12), (2, Value.pointer (some p2)), (4, Value.pointer (some p4)), (5, Value.int .i64 x26), (6, Value.pointer (some p6)), (7, Value.int .i64 x32)] ⟨rfl, rfl, rfl, rfl, rfl, rfl, trivial⟩
    refine W.region ?_
    refine OL.pure S (Lf.run_move (S.ev rfl)) rfl rfl trivial ?_
    clear S; intro aa S
    obtain ⟨y35, y35_1, y35_2, c_8, c_9, c_10, H⟩ := H
    refine OL.pure S (Lf.run_ldA (cs := [Value.int .i64 y35, Value.slice y35_1.a y35_1.n y35_1.c, Value.int .i64 y35_2]) (S.ev rfl) ag28 ti28 (by rw [S.heap]; exact RowL.toRow ⟨c_8, c_9, c_10, trivial⟩)) rfl rfl trivial ?_
    clear S; intro aa S
    refine ol_cal S H isfn15 rfl rfl trivial ?_
    clear S H aa; intro u_11 aa ww h12 H S
    obtain ⟨r36, rfl, H⟩ := H
    refine OL.pure S (Lf.run_move (S.ev rfl)) rfl rfl trivial ?_
    clear S; intro aa S
    obtain ⟨u_12, e_6, y37, y37_1, y37_2, y37_3, y37_4, y37_5, y37_6, rfl, H⟩ := H
    refine OL.pure S (Lf.run_ex (S.ev rfl) e_6) rfl rfl trivial ?_
    clear S; intro aa S
    obtain ⟨u_13, e_7, x38, rfl, H⟩ := H
    refine OL.pure S (Lf.run_ex (S.ev rfl) e_7) rfl rfl trivial ?_
    clear S; intro aa S
    refine ol_alloc S H ti33 rfl rfl trivial ?_
    clear S H aa; intro p8 aa ww h13 H S
    refine ol_stoA S H rfl rfl ti33 trivial ?_
    clear S H aa; intro aa ww h14 H S
    refine OL.pure S (Lf.run_assign (S.ev rfl)) rfl rfl trivial ?_
    clear S; intro aa S
    refine OL.nil ?_
    refine W.seq ?_
    replace S := S.sub [(1, Value.pointer x12), (4, Value.pointer (some p4)), (5, Value.int .i64 x26), (6, Value.pointer (some p6)), (7, Value.int .i64 x32), (9, Value.int .i64 x38)] ⟨rfl, rfl, rfl, rfl, rfl, rfl, trivial⟩
    refine W.region ?_
    refine OL.pure S (Lf.run_move (S.ev rfl)) rfl rfl trivial ?_
    clear S; intro aa S
    obtain ⟨y41, y41_1, y41_2, c_5, c_6, c_7, H⟩ := H
    refine OL.pure S (Lf.run_ldA (cs := [Value.int .i64 y41, Value.slice y41_1.a y41_1.n y41_1.c, Value.int .i64 y41_2]) (S.ev rfl) ag28 ti28 (by rw [S.heap]; exact RowL.toRow ⟨c_5, c_6, c_7, trivial⟩)) rfl rfl trivial ?_
    clear S; intro aa S
    refine ol_cal S H isfn15 rfl rfl trivial ?_
    clear S H aa; intro u_14 aa ww h15 H S
    obtain ⟨r42, rfl, H⟩ := H
    refine OL.pure S (Lf.run_move (S.ev rfl)) rfl rfl trivial ?_
    clear S; intro aa S
    obtain ⟨u_15, e_8, y43, y43_1, y43_2, y43_3, y43_4, y43_5, y43_6, rfl, H⟩ := H
    refine OL.pure S (Lf.run_ex (S.ev rfl) e_8) rfl rfl trivial ?_
    clear S; intro aa S
    obtain ⟨u_16, e_9, x44, rfl, H⟩ := H
    refine OL.pure S (Lf.run_ex (S.ev rfl) e_9) rfl rfl trivial ?_
    clear S; intro aa S
    refine ol_alloc S H ti33 rfl rfl trivial ?_
    clear S H aa; intro p10 aa ww h16 H S
    refine ol_stoA S H rfl rfl ti33 trivial ?_
    clear S H aa; intro aa ww h17 H S
    refine OL.pure S (Lf.run_assign (S.ev rfl)) rfl rfl trivial ?_
    clear S; intro aa S
    refine OL.nil ?_
    refine W.seq ?_
    replace S := S.sub [(1, Value.pointer x12), (5, Value.int .i64 x26), (6, Value.pointer (some p6)), (7, Value.int .i64 x32), (9, Value.int .i64 x38), (11, Value.int .i64 x44)] ⟨rfl, rfl, rfl, rfl, rfl, rfl, trivial⟩
    refine W.region ?_
    refine OL.pure S (Lf.run_move (S.ev rfl)) rfl rfl trivial ?_
    clear S; intro aa S
    refine OL.pure S (Lf.run_eql (S.ev rfl) (S.ev rfl)) rfl rfl trivial ?_
    clear S; intro aa S
    refine OL.pure S (Lf.run_move (S.ev rfl)) rfl rfl trivial ?_
    clear S; intro aa S
    refine OL.cutN 3 (fun aa ww => St 69 ((50, Value.bool ((x26 == 0) && (x32 == 0))) :: [(1, Value.pointer x12), (5, Value.int .i64 x26), (6, Value.pointer (some p6)), (7, Value.int .i64 x32), (9, Value.int .i64 x38), (11, Value.int .i64 x44), (45, Value.int .i64 x26), (46, Value.bool (x26 == 0)), (47, Value.bool (x26 == 0))]) h17 w0 aa ww) ?_ ?_
    · rcases Bool.eq_false_or_eq_true (x26 == 0) with hb_1 | hb_1
      · refine OL.pure S (Lf.run_move (S.ev rfl)) rfl rfl (GOk.mk rfl rfl hb_1) ?_
        clear S; intro aa S
        refine OL.pure S (Lf.run_eql (S.ev rfl) (S.ev rfl)) rfl rfl (GOk.mk rfl rfl hb_1) ?_
        clear S; intro aa S
        refine OL.pure S (Lf.run_pickT (S.ev rfl) hb_1 (S.ev rfl)) rfl rfl trivial ?_
        clear S; intro aa S
        refine OL.nil ?_
        exact (S.hd (by rw [hb_1, Bool.true_and])).sub _ ⟨rfl, rfl, rfl, rfl, rfl, rfl, rfl, rfl, rfl, rfl, trivial⟩
      · refine OL.not S rfl rfl (GNo.mk rfl rfl hb_1) ?_
        clear S; intro aa S
        refine OL.not S rfl rfl (GNo.mk rfl rfl hb_1) ?_
        clear S; intro aa S
        refine OL.pure S (Lf.run_pickF (S.ev rfl) hb_1 (S.ev rfl)) rfl rfl trivial ?_
        clear S; intro aa S
        refine OL.nil ?_
        exact (S.hd (by rw [hb_1, Bool.false_and])).sub _ ⟨rfl, rfl, rfl, rfl, rfl, rfl, rfl, rfl, rfl, rfl, trivial⟩
    · clear S aa
      intro aa ww S
      refine OL.pure S (Lf.run_move (S.ev rfl)) rfl rfl trivial ?_
      clear S; intro aa S
      refine OL.cutN 3 (fun aa ww => St 69 ((54, Value.bool (((x26 == 0) && (x32 == 0)) && (x38 == 0))) :: [(1, Value.pointer x12), (5, Value.int .i64 x26), (6, Value.pointer (some p6)), (7, Value.int .i64 x32), (9, Value.int .i64 x38), (11, Value.int .i64 x44), (45, Value.int .i64 x26), (46, Value.bool (x26 == 0)), (47, Value.bool (x26 == 0)), (50, Value.bool ((x26 == 0) && (x32 == 0))), (51, Value.bool ((x26 == 0) && (x32 == 0)))]) h17 w0 aa ww) ?_ ?_
      · rcases Bool.eq_false_or_eq_true ((x26 == 0) && (x32 == 0)) with hb_2 | hb_2
        · refine OL.pure S (Lf.run_move (S.ev rfl)) rfl rfl (GOk.mk rfl rfl hb_2) ?_
          clear S; intro aa S
          refine OL.pure S (Lf.run_eql (S.ev rfl) (S.ev rfl)) rfl rfl (GOk.mk rfl rfl hb_2) ?_
          clear S; intro aa S
          refine OL.pure S (Lf.run_pickT (S.ev rfl) hb_2 (S.ev rfl)) rfl rfl trivial ?_
          clear S; intro aa S
          refine OL.nil ?_
          exact (S.hd (by rw [hb_2, Bool.true_and])).sub _ ⟨rfl, rfl, rfl, rfl, rfl, rfl, rfl, rfl, rfl, rfl, rfl, rfl, trivial⟩
        · refine OL.not S rfl rfl (GNo.mk rfl rfl hb_2) ?_
          clear S; intro aa S
          refine OL.not S rfl rfl (GNo.mk rfl rfl hb_2) ?_
          clear S; intro aa S
          refine OL.pure S (Lf.run_pickF (S.ev rfl) hb_2 (S.ev rfl)) rfl rfl trivial ?_
          clear S; intro aa S
          refine OL.nil ?_
          exact (S.hd (by rw [hb_2, Bool.false_and])).sub _ ⟨rfl, rfl, rfl, rfl, rfl, rfl, rfl, rfl, rfl, rfl, rfl, rfl, trivial⟩
      · clear S aa
        intro aa ww S
        refine OL.pure S (Lf.run_move (S.ev rfl)) rfl rfl trivial ?_
        clear S; intro aa S
        obtain ⟨J, H, HK⟩ := H
        refine OL.cutN 4 (fun aa ww => ∃ x59, St 69 ((59, Value.bool x59) :: [(1, Value.pointer x12), (5, Value.int .i64 x26), (6, Value.pointer (some p6)), (7, Value.int .i64 x32), (9, Value.int .i64 x38), (11, Value.int .i64 x44), (45, Value.int .i64 x26), (46, Value.bool (x26 == 0)), (47, Value.bool (x26 == 0)), (50, Value.bool ((x26 == 0) && (x32 == 0))), (51, Value.bool ((x26 == 0) && (x32 == 0))), (54, Value.bool (((x26 == 0) && (x32 == 0)) && (x38 == 0))), (55, Value.bool (((x26 == 0) && (x32 == 0)) && (x38 == 0)))]) h17 w0 aa ww ∧ J x59) ?_ ?_
        · rcases Bool.eq_false_or_eq_true (((x26 == 0) && (x32 == 0)) && (x38 == 0)) with hb_3 | hb_3
          · replace H := H.1 hb_3
            refine OL.pure S (Lf.run_fa (S.ev rfl) fa33_1) rfl rfl (GOk.mk rfl rfl hb_3) ?_
            clear S; intro aa S
            obtain ⟨x57, c_4, H⟩ := H
            refine OL.pure S (Lf.run_ld (S.ev rfl) fl22 (S.cl c_4)) rfl rfl (GOk.mk rfl rfl hb_3) ?_
            clear S; intro aa S
            refine OL.pure S (Lf.run_eql (S.ev rfl) (S.ev rfl)) rfl rfl (GOk.mk rfl rfl hb_3) ?_
            clear S; intro aa S
            refine OL.pure S (Lf.run_pickT (S.ev rfl) hb_3 (S.ev rfl)) rfl rfl trivial ?_
            clear S; intro aa S
            refine OL.nil ?_
            exact ⟨_, S.sub _ ⟨rfl, rfl, rfl, rfl, rfl, rfl, rfl, rfl, rfl, rfl, rfl, rfl, rfl, rfl, trivial⟩, H⟩
          · replace H := H.2 hb_3
            refine OL.not S rfl rfl (GNo.mk rfl rfl hb_3) ?_
            clear S; intro aa S
            refine OL.not S rfl rfl (GNo.mk rfl rfl hb_3) ?_
            clear S; intro aa S
            refine OL.not S rfl rfl (GNo.mk rfl rfl hb_3) ?_
            clear S; intro aa S
            refine OL.pure S (Lf.run_pickF (S.ev rfl) hb_3 (S.ev rfl)) rfl rfl trivial ?_
            clear S; intro aa S
            refine OL.nil ?_
            exact ⟨_, S.sub _ ⟨rfl, rfl, rfl, rfl, rfl, rfl, rfl, rfl, rfl, rfl, rfl, rfl, rfl, rfl, trivial⟩, H⟩
        · clear S aa
          rintro aa ww ⟨x59, S, HJ⟩
          replace H := HK _ HJ
          clear HK HJ
          refine OL.pure S (Lf.run_move (S.ev rfl)) rfl rfl trivial ?_
          clear S; intro aa S
          refine OL.cutN 3 (fun aa ww => St 69 ((63, Value.bool (x59 && (x44 == 2))) :: [(1, Value.pointer x12), (5, Value.int .i64 x26), (6, Value.pointer (some p6)), (7, Value.int .i64 x32), (9, Value.int .i64 x38), (11, Value.int .i64 x44), (45, Value.int .i64 x26), (46, Value.bool (x26 == 0)), (47, Value.bool (x26 == 0)), (50, Value.bool ((x26 == 0) && (x32 == 0))), (51, Value.bool ((x26 == 0) && (x32 == 0))), (54, Value.bool (((x26 == 0) && (x32 == 0)) && (x38 == 0))), (55, Value.bool (((x26 == 0) && (x32 == 0)) && (x38 == 0))), (59, Value.bool x59), (60, Value.bool x59)]) h17 w0 aa ww) ?_ ?_
          · rcases Bool.eq_false_or_eq_true x59 with hb_4 | hb_4
            · refine OL.pure S (Lf.run_move (S.ev rfl)) rfl rfl (GOk.mk rfl rfl hb_4) ?_
              clear S; intro aa S
              refine OL.pure S (Lf.run_eql (S.ev rfl) (S.ev rfl)) rfl rfl (GOk.mk rfl rfl hb_4) ?_
              clear S; intro aa S
              refine OL.pure S (Lf.run_pickT (S.ev rfl) hb_4 (S.ev rfl)) rfl rfl trivial ?_
              clear S; intro aa S
              refine OL.nil ?_
              exact (S.hd (by rw [hb_4, Bool.true_and])).sub _ ⟨rfl, rfl, rfl, rfl, rfl, rfl, rfl, rfl, rfl, rfl, rfl, rfl, rfl, rfl, rfl, rfl, trivial⟩
            · refine OL.not S rfl rfl (GNo.mk rfl rfl hb_4) ?_
              clear S; intro aa S
              refine OL.not S rfl rfl (GNo.mk rfl rfl hb_4) ?_
              clear S; intro aa S
              refine OL.pure S (Lf.run_pickF (S.ev rfl) hb_4 (S.ev rfl)) rfl rfl trivial ?_
              clear S; intro aa S
              refine OL.nil ?_
              exact (S.hd (by rw [hb_4, Bool.false_and])).sub _ ⟨rfl, rfl, rfl, rfl, rfl, rfl, rfl, rfl, rfl, rfl, rfl, rfl, rfl, rfl, rfl, rfl, trivial⟩
          · clear S aa
            intro aa ww S
            refine OL.pure S (Lf.run_move (S.ev rfl)) rfl rfl trivial ?_
            clear S; intro aa S
            obtain ⟨J_1, H, HK_1⟩ := H
            refine OL.cutN 4 (fun aa ww => ∃ x68 h18, St 69 ((68, Value.bool x68) :: [(1, Value.pointer x12), (5, Value.int .i64 x26), (6, Value.pointer (some p6)), (7, Value.int .i64 x32), (9, Value.int .i64 x38), (11, Value.int .i64 x44), (45, Value.int .i64 x26), (46, Value.bool (x26 == 0)), (47, Value.bool (x26 == 0)), (50, Value.bool ((x26 == 0) && (x32 == 0))), (51, Value.bool ((x26 == 0) && (x32 == 0))), (54, Value.bool (((x26 == 0) && (x32 == 0)) && (x38 == 0))), (55, Value.bool (((x26 == 0) && (x32 == 0)) && (x38 == 0))), (59, Value.bool x59), (60, Value.bool x59), (63, Value.bool (x59 && (x44 == 2))), (64, Value.bool (x59 && (x44 == 2)))]) h18 w0 aa ww ∧ J_1 x68 h18) ?_ ?_
            · rcases Bool.eq_false_or_eq_true (x59 && (x44 == 2)) with hb_5 | hb_5
              · replace H := H.1 hb_5
                refine OL.pure S (Lf.run_move (S.ev rfl)) rfl rfl (GOk.mk rfl rfl hb_5) ?_
                clear S; intro aa S
                refine ol_cal S H isfn13 rfl rfl (GOk.mk rfl rfl hb_5) ?_
                clear S H aa; intro u_17 aa ww h19 H S
                obtain ⟨x66, rfl, H⟩ := H
                refine OL.pure S (Lf.run_eql (S.ev rfl) (S.ev rfl)) rfl rfl (GOk.mk rfl rfl hb_5) ?_
                clear S; intro aa S
                refine OL.pure S (Lf.run_pickT (S.ev rfl) hb_5 (S.ev rfl)) rfl rfl trivial ?_
                clear S; intro aa S
                refine OL.nil ?_
                exact ⟨_, _, S.sub _ ⟨rfl, rfl, rfl, rfl, rfl, rfl, rfl, rfl, rfl, rfl, rfl, rfl, rfl, rfl, rfl, rfl, rfl, rfl, trivial⟩, H⟩
              · replace H := H.2 hb_5
                refine OL.not S rfl rfl (GNo.mk rfl rfl hb_5) ?_
                clear S; intro aa S
                refine OL.not S rfl rfl (GNo.mk rfl rfl hb_5) ?_
                clear S; intro aa S
                refine OL.not S rfl rfl (GNo.mk rfl rfl hb_5) ?_
                clear S; intro aa S
                refine OL.pure S (Lf.run_pickF (S.ev rfl) hb_5 (S.ev rfl)) rfl rfl trivial ?_
                clear S; intro aa S
                refine OL.nil ?_
                exact ⟨_, _, S.sub _ ⟨rfl, rfl, rfl, rfl, rfl, rfl, rfl, rfl, rfl, rfl, rfl, rfl, rfl, rfl, rfl, rfl, rfl, rfl, trivial⟩, H⟩
            · clear S aa
              rintro aa ww ⟨x68, h18, S, HJ⟩
              replace H := HK_1 _ _ HJ
              clear HK_1 HJ
              refine OL.pure S (Lf.run_assign (S.ev rfl)) rfl rfl trivial ?_
              clear S; intro aa S
              refine OL.nil ?_
              refine W.ret ?_
              exact Ret.one S rfl rfl H

/-- (*chattel heap.Heap).Alloc -/
def L10 (vh0 : Option Addr) (v1 : Int) (v1_1 : Int) (v1_2 : ByteArray) (v1_3 : Sv) (v1_4 : Int) (v1_5 : Sv) (v1_6 : Int) (h : Heap) (R : Value → Heap → Prop) : Prop :=
  new 33 #[Value.int .i64 v1, Value.int .u64 v1_1, Value.string v1_2, Value.slice v1_3.a v1_3.n v1_3.c, Value.int .i64 v1_4, Value.slice v1_5.a v1_5.n v1_5.c, Value.int .i64 v1_6] h fun p3 h1 =>
  new 28 #[Value.int .i64 0, Value.slice (⟨none, 0, 0⟩ : Sv).a (⟨none, 0, 0⟩ : Sv).n (⟨none, 0, 0⟩ : Sv).c, Value.int .i64 0] h1 fun p4 h2 =>
  ∃ J : Bool → Prop, (
    ifb (Option.isNone vh0) (
      J true) (
      nn vh0 fun p11 =>
      ldI .i64 h2 (p11.add 2) fun x13 =>
      nn vh0 fun p15 =>
      ldI .i64 h2 (p15.add 3) fun x17 =>
      J (decide (x17 ≤ x13)))) ∧ (∀ x19, J x19 →
  ifb x19 (
    stoA h2 p4 [Value.int .i64 0, Value.slice (⟨none, 0, 0⟩ : Sv).a (⟨none, 0, 0⟩ : Sv).n (⟨none, 0, 0⟩ : Sv).c, Value.int .i64 0] fun h3 =>
    ∃ (y : Int) (y_1 : Sv) (y_2 : Int), cl h3 p4 = some (Value.int .i64 y) ∧ cl h3 (p4.add 1) = some (Value.slice y_1.a y_1.n y_1.c) ∧ cl h3 (p4.add 2) = some (Value.int .i64 y_2) ∧
    R (.tuple #[Value.agg #[Value.int .i64 y, Value.slice y_1.a y_1.n y_1.c, Value.int .i64 y_2], Value.bool false]) h3) (
    nn vh0 fun p22 =>
    ldI .i64 h2 (p22.add 1) fun x24 =>
    nn vh0 fun p26 =>
    sto h2 (p26.add 1) (Value.int .i64 (IntKind.i64.wrap (x24 + 1))) fun h4 =>
    nn vh0 fun p29 =>
    ldI .i64 h4 (p29.add 2) fun x31 =>
    nn vh0 fun p33 =>
    sto h4 (p33.add 2) (Value.int .i64 (IntKind.i64.wrap (x31 + 1))) fun h5 =>
    ∃ (y35 : Int) (y35_1 : Int) (y35_2 : ByteArray) (y35_3 : Sv) (y35_4 : Int) (y35_5 : Sv) (y35_6 : Int), cl h5 p3 = some (Value.int .i64 y35) ∧ cl h5 (p3.add 1) = some (Value.int .u64 y35_1) ∧ cl h5 (p3.add 2) = some (Value.string y35_2) ∧ cl h5 (p3.add 3) = some (Value.slice y35_3.a y35_3.n y35_3.c) ∧ cl h5 (p3.add 4) = some (Value.int .i64 y35_4) ∧ cl h5 (p3.add 5) = some (Value.slice y35_5.a y35_5.n y35_5.c) ∧ cl h5 (p3.add 6) = some (Value.int .i64 y35_6) ∧
    cal Try.prog 27 #[Value.agg #[Value.int .i64 y35, Value.int .u64 y35_1, Value.string y35_2, Value.slice y35_3.a y35_3.n y35_3.c, Value.int .i64 y35_4, Value.slice y35_5.a y35_5.n y35_5.c, Value.int .i64 y35_6]] h5 fun u h6 => ∃ (y36 : Int) (y36_1 : Int) (y36_2 : ByteArray) (y36_3 : Sv) (y36_4 : Int) (y36_5 : Sv) (y36_6 : Int), u = Value.agg #[Value.int .i64 y36, Value.int .u64 y36_1, Value.string y36_2, Value.slice y36_3.a y36_3.n y36_3.c, Value.int .i64 y36_4, Value.slice y36_5.a y36_5.n y36_5.c, Value.int .i64 y36_6] ∧
    new 78 #[Value.bool true, Value.int .i64 y36, Value.int .u64 y36_1, Value.string y36_2, Value.slice y36_3.a y36_3.n y36_3.c, Value.int .i64 y36_4, Value.slice y36_5.a y36_5.n y36_5.c, Value.int .i64 y36_6, Value.slice (⟨none, 0, 0⟩ : Sv).a (⟨none, 0, 0⟩ : Sv).n (⟨none, 0, 0⟩ : Sv).c] h6 fun p38 h7 =>
    ∃ J_1 : Heap → Prop, (
      nn vh0 fun p40 =>
      ldB h7 (p40.add 4) fun x42 =>
      ifb x42 (
        nn vh0 fun p45 =>
        ldI .i64 h7 (p45.add 1) fun x47 =>
        newS 80 #[Value.int .i64 x47, Value.slice (⟨none, 0, 0⟩ : Sv).a (⟨none, 0, 0⟩ : Sv).n (⟨none, 0, 0⟩ : Sv).c, Value.bool true] 1 h7 fun s49 h8 =>
        sto h8 (p38.add 8) (Value.slice s49.a s49.n s49.c) fun h9 =>
        J_1 h9) (
        J_1 h7)) ∧ (∀ h10, J_1 h10 →
    nn vh0 fun p54 =>
    ldS h10 p54 fun x56 =>
    newS 75 #[Value.pointer (some p38)] 1 h10 fun s58 h11 =>
    appS 75 (Value.pointer none).cells 1 8 h11 x56 s58 fun s59 h12 =>
    nn vh0 fun p60 =>
    sto h12 p60 (Value.slice s59.a s59.n s59.c) fun h13 =>
    nn vh0 fun p63 =>
    ldS h13 p63 fun x65 =>
    nn vh0 fun p69 =>
    ldI .i64 h13 (p69.add 1) fun x71 =>
    stoA h13 p4 [Value.int .i64 (IntKind.i64.wrap (((x65.n : Nat) : Int) - 1)), Value.slice (⟨none, 0, 0⟩ : Sv).a (⟨none, 0, 0⟩ : Sv).n (⟨none, 0, 0⟩ : Sv).c, Value.int .i64 x71] fun h14 =>
    ∃ (y_3 : Int) (y_4 : Sv) (y_5 : Int), cl h14 p4 = some (Value.int .i64 y_3) ∧ cl h14 (p4.add 1) = some (Value.slice y_4.a y_4.n y_4.c) ∧ cl h14 (p4.add 2) = some (Value.int .i64 y_5) ∧
    R (.tuple #[Value.agg #[Value.int .i64 y_3, Value.slice y_4.a y_4.n y_4.c, Value.int .i64 y_5], Value.bool true]) h14)))

set_option maxRecDepth 100000 in

theorem F10 {vh0 v1 v1_1 v1_2 v1_3 v1_4 v1_5 v1_6 h : _} {R : Value → Heap → Prop} (H : L10 vh0 v1 v1_1 v1_2 v1_3 v1_4 v1_5 v1_6 h R) : CallsH Try.prog 10 #[Value.pointer vh0, Value.agg #[Value.int .i64 v1, Value.int .u64 v1_1, Value.string v1_2, Value.slice v1_3.a v1_3.n v1_3.c, Value.int .i64 v1_4, Value.slice v1_5.a v1_5.n v1_5.c, Value.int .i64 v1_6]] h R := by
  refine CallsH.enter (n := 73) Try.func10 rfl rfl rfl rfl ?_
  intro w0 aa ww S
  unfold L10 at H
  refine W.seq ?_
  replace S := S.sub [(0, Value.pointer vh0), (1, Value.agg #[Value.int .i64 v1, Value.int .u64 v1_1, Value.string v1_2, Value.slice v1_3.a v1_3.n v1_3.c, Value.int .i64 v1_4, Value.slice v1_5.a v1_5.n v1_5.c, Value.int .i64 v1_6])] ⟨rfl, rfl, trivial⟩
  refine W.region ?_
  refine ol_box S H rfl rfl rfl trivial ?_
  clear S H aa; intro p3 aa ww h1 H S
  refine ol_alloc S H ti28 rfl rfl trivial ?_
  clear S H aa; intro p4 aa ww h2 H S
  refine OL.pure S (Lf.run_assign (S.ev rfl)) rfl rfl trivial ?_
  clear S; intro aa S
  refine OL.nil ?_
  refine W.seq ?_
  refine W.seq ?_
  replace S := S.sub [(0, Value.pointer vh0), (3, Value.pointer (some p3)), (4, Value.pointer (some p4))] ⟨rfl, rfl, rfl, trivial⟩
  obtain ⟨J, H, HK⟩ := H
  refine W.mono (N' := fun aa ww => ∃ x19, St 73 [(0, Value.pointer vh0), (3, Value.pointer (some p3)), (4, Value.pointer (some p4)), (19, Value.bool x19)] h2 w0 aa ww ∧ J x19) ?_ ?_
  · refine W.regionD S (by kernel_rfl) ?_
    clear S; intro ww S
    refine AN.pure 0 S rfl (by kernel_rfl) (fun _ => Lf.run_move (S.ev rfl)) rfl rfl trivial ?_
    clear S; intro aa S
    refine AN.pure 1 S rfl (by kernel_rfl) (fun _ => Lf.run_eqlpn Try.underlying23 (S.ev rfl) (S.ev rfl)) rfl rfl trivial ?_
    clear S; intro aa S
    refine AN.pure 2 S rfl (by kernel_rfl) (fun _ => Lf.run_move (S.ev rfl)) rfl rfl trivial ?_
    clear S; intro aa S
    rcases Bool.eq_false_or_eq_true (Option.isNone vh0) with hb | hb
    · replace H := H.1 hb
      refine AN.not 3 S rfl (by kernel_rfl) rfl rfl (GNo.mk rfl rfl hb) ?_
      clear S; intro aa S
      refine AN.not 4 S rfl (by kernel_rfl) rfl rfl (GNo.mk rfl rfl hb) ?_
      clear S; intro aa S
      refine AN.not 5 S rfl (by kernel_rfl) rfl rfl (GNo.mk rfl rfl hb) ?_
      clear S; intro aa S
      refine AN.not 6 S rfl (by kernel_rfl) rfl rfl (GNo.mk rfl rfl hb) ?_
      clear S; intro aa S
      refine AN.not 7 S rfl (by kernel_rfl) rfl rfl (GNo.mk rfl rfl hb) ?_
      clear S; intro aa S
      refine AN.not 8 S rfl (by kernel_rfl) rfl rfl (GNo.mk rfl rfl hb) ?_
      clear S; intro aa S
      refine AN.not 9 S rfl (by kernel_rfl) rfl rfl (GNo.mk rfl rfl hb) ?_
      clear S; intro aa S
      refine AN.not 10 S rfl (by kernel_rfl) rfl rfl (GNo.mk rfl rfl hb) ?_
      clear S; intro aa S
      refine AN.not 11 S rfl (by kernel_rfl) rfl rfl (GNo.mk rfl rfl hb) ?_
      clear S; intro aa S
      refine AN.pure 12 S rfl (by kernel_rfl) (fun _ => run_pickT (S.ev rfl) hb (S.ev rfl)) rfl rfl trivial ?_
      clear S; intro aa S
      refine AN.done (by kernel_rfl) ?_
      exact ⟨true, S.sub _ ⟨rfl, rfl, rfl, rfl, trivial⟩, H⟩
    · replace H := H.2 hb
      refine AN.pure 3 S rfl (by kernel_rfl) (fun _ => Lf.run_move (S.ev rfl)) rfl rfl (GOk.mk rfl rfl hb) ?_
      clear S; intro aa S
      obtain ⟨p11, e, H⟩ := H
      refine AN.pure 4 S rfl (by kernel_rfl) (fun _ => Lf.run_nc' (S.ev rfl) e) rfl rfl (GOk.mk rfl rfl hb) ?_
      clear S; intro aa S
      refine AN.pure 5 S rfl (by kernel_rfl) (fun _ => Lf.run_fa (S.ev rfl) fa74_2) rfl rfl (GOk.mk rfl rfl hb) ?_
      clear S; intro aa S
      obtain ⟨x13, c, H⟩ := H
      refine AN.load 6 S rfl (by kernel_rfl) (fun _ hx => Lf.run_ld (S.ev rfl) fl3 (hx.cell _ _ (S.cl c))) rfl rfl (GOk.mk rfl rfl hb) ?_
      clear S; intro aa S
      refine AN.pure 7 S rfl (by kernel_rfl) (fun _ => Lf.run_move (S.ev rfl)) rfl rfl (GOk.mk rfl rfl hb) ?_
      clear S; intro aa S
      obtain ⟨p15, e_1, H⟩ := H
      refine AN.pure 8 S rfl (by kernel_rfl) (fun _ => Lf.run_nc' (S.ev rfl) e_1) rfl rfl (GOk.mk rfl rfl hb) ?_
      clear S; intro aa S
      refine AN.pure 9 S rfl (by kernel_rfl) (fun _ => Lf.run_fa (S.ev rfl) fa74_3) rfl rfl (GOk.mk rfl rfl hb) ?_
      clear S; intro aa S
      obtain ⟨x17, c_1, H⟩ := H
      refine AN.load 10 S rfl (by kernel_rfl) (fun _ hx => Lf.run_ld (S.ev rfl) fl3 (hx.cell _ _ (S.cl c_1))) rfl rfl (GOk.mk rfl rfl hb) ?_
      clear S; intro aa S
      refine AN.pure 11 S rfl (by kernel_rfl) (fun _ => Lf.run_geq (S.ev rfl) (S.ev rfl)) rfl rfl (GOk.mk rfl rfl hb) ?_
      clear S; intro aa S
      refine AN.pure 12 S rfl (by kernel_rfl) (fun _ => run_pickF (S.ev rfl) hb (S.ev rfl)) rfl rfl trivial ?_
      clear S; intro aa S
      refine AN.done (by kernel_rfl) ?_
      exact ⟨(decide (x17 ≤ x13)), S.sub _ ⟨rfl, rfl, rfl, rfl, trivial⟩, H⟩
  · clear H S aa
    rintro aa ww ⟨x19, S, HJ⟩
    have H := HK _ HJ
    clear HK HJ
    refine W.cond S (b := x19) rfl (fun hb_1 => ?_) (fun hb_1 => ?_)
    · replace H := H.1 hb_1
      refine W.seq ?_
      replace S := S.sub [(4, Value.pointer (some p4))] ⟨rfl, trivial⟩
      refine W.region ?_
      refine OL.pure S (Lf.run_build (cs := #[Value.int .i64 0, Value.slice (⟨none, 0, 0⟩ : Sv).a (⟨none, 0, 0⟩ : Sv).n (⟨none, 0, 0⟩ : Sv).c, Value.int .i64 0]) pl28 ti28 (parts_map S rfl) (by kernel_rfl)) rfl rfl trivial ?_
      clear S; intro aa S
      refine ol_stoA S H rfl rfl ti28 trivial ?_
      clear S H aa; intro aa ww h3 H S
      refine OL.pure S (Lf.run_assign (S.ev rfl)) rfl rfl trivial ?_
      clear S; intro aa S
      refine OL.nil ?_
      refine W.ret ?_
      obtain ⟨y, y_1, y_2, c_2, c_3, c_4, H⟩ := H
      exact Ret.gen S rfl (RV.cellA (cs := [Value.int .i64 y, Value.slice y_1.a y_1.n y_1.c, Value.int .i64 y_2]) rfl ag28 ti28 ⟨c_2, c_3, c_4, trivial⟩ (RV.tmp rfl RV.nil)) rfl H
    · replace H := H.2 hb_1
      refine W.skip ?_
      refine W.seq ?_
      replace S := S.sub [(0, Value.pointer vh0), (3, Value.pointer (some p3)), (4, Value.pointer (some p4))] ⟨rfl, rfl, rfl, trivial⟩
      refine W.region ?_
      refine OL.pure S (Lf.run_move (S.ev rfl)) rfl rfl trivial ?_
      clear S; intro aa S
      obtain ⟨p22, e_2, H⟩ := H
      refine OL.pure S (Lf.run_nc' (S.ev rfl) e_2) rfl rfl trivial ?_
      clear S; intro aa S
      refine OL.pure S (Lf.run_fa (S.ev rfl) fa74_1) rfl rfl trivial ?_
      clear S; intro aa S
      obtain ⟨x24, c_5, H⟩ := H
      refine OL.pure S (Lf.run_ld (S.ev rfl) fl3 (S.cl c_5)) rfl rfl trivial ?_
      clear S; intro aa S
      refine OL.pure S (Lf.run_add (S.ev rfl) (S.ev rfl)) rfl rfl trivial ?_
      clear S; intro aa S
      obtain ⟨p26, e_3, H⟩ := H
      refine OL.pure S (Lf.run_nc' (S.ev rfl) e_3) rfl rfl trivial ?_
      clear S; intro aa S
      refine OL.pure S (Lf.run_fa (S.ev rfl) fa74_1) rfl rfl trivial ?_
      clear S; intro aa S
      refine ol_sto S H rfl rfl rfl ti3 trivial ?_
      clear S H aa; intro aa ww h4 H S
      refine OL.nil ?_
      refine W.seq ?_
      replace S := S.sub [(0, Value.pointer vh0), (3, Value.pointer (some p3)), (4, Value.pointer (some p4))] ⟨rfl, rfl, rfl, trivial⟩
      refine W.region ?_
      refine OL.pure S (Lf.run_move (S.ev rfl)) rfl rfl trivial ?_
      clear S; intro aa S
      obtain ⟨p29, e_4, H⟩ := H
      refine OL.pure S (Lf.run_nc' (S.ev rfl) e_4) rfl rfl trivial ?_
      clear S; intro aa S
      refine OL.pure S (Lf.run_fa (S.ev rfl) fa74_2) rfl rfl trivial ?_
      clear S; intro aa S
      obtain ⟨x31, c_6, H⟩ := H
      refine OL.pure S (Lf.run_ld (S.ev rfl) fl3 (S.cl c_6)) rfl rfl trivial ?_
      clear S; intro aa S
      refine OL.pure S (Lf.run_add (S.ev rfl) (S.ev rfl)) rfl rfl trivial ?_
      clear S; intro aa S
      obtain ⟨p33, e_5, H⟩ := H
      refine OL.pure S (Lf.run_nc' (S.ev rfl) e_5) rfl rfl trivial ?_
      clear S; intro aa S
      refine OL.pure S (Lf.run_fa (S.ev rfl) fa74_2) rfl rfl trivial ?_
      clear S; intro aa S
      refine ol_sto S H rfl rfl rfl ti3 trivial ?_
      clear S H aa; intro aa ww h5 H S
      refine OL.nil ?_
      refine W.seq ?_
      replace S := S.sub [(0, Value.pointer vh0), (3, Value.pointer (some p3)), (4, Value.pointer (some p4))] ⟨rfl, rfl, rfl, trivial⟩
      refine W.region ?_
      obtain ⟨y35, y35_1, y35_2, y35_3, y35_4, y35_5, y35_6, c_16, c_17, c_18, c_19, c_20, c_21, c_22, H⟩ := H
      refine OL.pure S (Lf.run_ldA (cs := [Value.int .i64 y35, Value.int .u64 y35_1, Value.string y35_2, Value.slice y35_3.a y35_3.n y35_3.c, Value.int .i64 y35_4, Value.slice y35_5.a y35_5.n y35_5.c, Value.int .i64 y35_6]) (S.ev rfl) ag33 ti33 (by rw [S.heap]; exact RowL.toRow ⟨c_16, c_17, c_18, c_19, c_20, c_21, c_22, trivial⟩)) rfl rfl trivial ?_
      clear S; intro aa S
      refine ol_cal S H isfn27 rfl rfl trivial ?_
      clear S H aa; intro u aa ww h6 H S
      obtain ⟨y36, y36_1, y36_2, y36_3, y36_4, y36_5, y36_6, rfl, H⟩ := H
      refine OL.pure S (Lf.run_build (cs := #[Value.bool true, Value.int .i64 y36, Value.int .u64 y36_1, Value.string y36_2, Value.slice y36_3.a y36_3.n y36_3.c, Value.int .i64 y36_4, Value.slice y36_5.a y36_5.n y36_5.c, Value.int .i64 y36_6, Value.slice (⟨none, 0, 0⟩ : Sv).a (⟨none, 0, 0⟩ : Sv).n (⟨none, 0, 0⟩ : Sv).c]) pl78 ti78 (parts_map S rfl) (by kernel_rfl)) rfl rfl trivial ?_
      clear S; intro aa S
      refine ol_box S H rfl rfl rfl trivial ?_
      clear S H aa; intro p38 aa ww h7 H S
      refine OL.pure S (Lf.run_assign (S.ev rfl)) rfl rfl trivial ?_
      clear S; intro aa S
      refine OL.nil ?_
      obtain ⟨J_1, H, HK_1⟩ := H
      refine W.seqJ (fun aa ww => ∃ h10, St 73 [(0, Value.pointer vh0), (4, Value.pointer (some p4)), (6, Value.pointer (some p38))] h10 w0 aa ww ∧ J_1 h10) ?_ ?_
      · clear HK_1
        refine W.seq ?_
        replace S := S.sub [(0, Value.pointer vh0), (4, Value.pointer (some p4)), (6, Value.pointer (some p38))] ⟨rfl, rfl, rfl, trivial⟩
        refine W.region ?_
        refine OL.pure S (Lf.run_move (S.ev rfl)) rfl rfl trivial ?_
        clear S; intro aa S
        obtain ⟨p40, e_6, H⟩ := H
        refine OL.pure S (Lf.run_nc' (S.ev rfl) e_6) rfl rfl trivial ?_
        clear S; intro aa S
        refine OL.pure S (Lf.run_fa (S.ev rfl) fa74_4) rfl rfl trivial ?_
        clear S; intro aa S
        obtain ⟨x42, c_8, H⟩ := H
        refine OL.pure S (Lf.run_ld (S.ev rfl) fl4 (S.cl c_8)) rfl rfl trivial ?_
        clear S; intro aa S
        refine OL.nil ?_
        refine W.cond S (b := x42) rfl (fun hb_2 => ?_) (fun hb_2 => ?_)
        · replace H := H.1 hb_2
          replace S := S.sub [(0, Value.pointer vh0), (4, Value.pointer (some p4)), (6, Value.pointer (some p38))] ⟨rfl, rfl, rfl, trivial⟩
          refine W.region ?_
          refine OL.pure S (Lf.run_move (S.ev rfl)) rfl rfl trivial ?_
          clear S; intro aa S
          refine OL.pure S (Lf.run_move (S.ev rfl)) rfl rfl trivial ?_
          clear S; intro aa S
          obtain ⟨p45, e_7, H⟩ := H
          refine OL.pure S (Lf.run_nc' (S.ev rfl) e_7) rfl rfl trivial ?_
          clear S; intro aa S
          refine OL.pure S (Lf.run_fa (S.ev rfl) fa74_1) rfl rfl trivial ?_
          clear S; intro aa S
          obtain ⟨x47, c_9, H⟩ := H
          refine OL.pure S (Lf.run_ld (S.ev rfl) fl3 (S.cl c_9)) rfl rfl trivial ?_
          clear S; intro aa S
          refine OL.pure S (Lf.run_build (cs := #[Value.int .i64 x47, Value.slice (⟨none, 0, 0⟩ : Sv).a (⟨none, 0, 0⟩ : Sv).n (⟨none, 0, 0⟩ : Sv).c, Value.bool true]) pl80 ti80 (parts_map S rfl) (by kernel_rfl)) rfl rfl trivial ?_
          clear S; intro aa S
          refine ol_newS S H Try.underlying69 ti80 (by decide) (parts_map S rfl) (by kernel_rfl) (by decide) rfl trivial ?_
          clear S H aa; intro s49 aa ww h8 H S
          refine OL.pure S (Lf.run_nc (S.ev rfl)) rfl rfl trivial ?_
          clear S; intro aa S
          refine OL.pure S (Lf.run_fa (S.ev rfl) fa78_2) rfl rfl trivial ?_
          clear S; intro aa S
          refine ol_sto S H rfl rfl rfl ti69 trivial ?_
          clear S H aa; intro aa ww h9 H S
          refine OL.nil ?_
          exact ⟨h9, S.sub _ ⟨rfl, rfl, rfl, trivial⟩, H⟩
        · replace H := H.2 hb_2
          refine W.skip ?_
          exact ⟨h7, S.sub _ ⟨rfl, rfl, rfl, trivial⟩, H⟩
      · clear H S aa
        rintro aa ww ⟨h10, S, HJ⟩
        have H := HK_1 _ HJ
        clear HK_1 HJ
        refine W.seq ?_
        replace S := S.sub [(0, Value.pointer vh0), (4, Value.pointer (some p4)), (6, Value.pointer (some p38))] ⟨rfl, rfl, rfl, trivial⟩
        refine W.region ?_
        refine OL.pure S (Lf.run_move (S.ev rfl)) rfl rfl trivial ?_
        clear S; intro aa S
        refine OL.pure S (Lf.run_move (S.ev rfl)) rfl rfl trivial ?_
        clear S; intro aa S
        obtain ⟨p54, e_8, H⟩ := H
        refine OL.pure S (Lf.run_nc' (S.ev rfl) e_8) rfl rfl trivial ?_
        clear S; intro aa S
        refine OL.pure S (Lf.run_fa (S.ev rfl) fa74_0) rfl rfl trivial ?_
        clear S; intro aa S
        obtain ⟨x56, c_10, H⟩ := H
        refine OL.pure S (Lf.run_ld (S.ev rfl) fl72 (S.cl c_10)) rfl rfl trivial ?_
        clear S; intro aa S
        refine OL.pure S (Lf.run_move (S.ev rfl)) rfl rfl trivial ?_
        clear S; intro aa S
        refine ol_newS S H Try.underlying72 ti75 (by decide) (parts_map S rfl) (by kernel_rfl) (by decide) rfl trivial ?_
        clear S H aa; intro s58 aa ww h11 H S
        refine ol_appS S H Try.underlying72 ti75 rfl rfl rfl trivial ?_
        clear S H aa; intro s59 aa ww h12 H S
        obtain ⟨p60, e_9, H⟩ := H
        refine OL.pure S (Lf.run_nc' (S.ev rfl) e_9) rfl rfl trivial ?_
        clear S; intro aa S
        refine OL.pure S (Lf.run_fa (S.ev rfl) fa74_0) rfl rfl trivial ?_
        clear S; intro aa S
        refine ol_sto S H rfl rfl rfl ti72 trivial ?_
        clear S H aa; intro aa ww h13 H S
        refine OL.nil ?_
        refine W.seq ?_
        replace S := S.sub [(0, Value.pointer vh0), (4, Value.pointer (some p4))] ⟨rfl, rfl, trivial⟩
        refine W.regionD S (by kernel_rfl) ?_
        clear S; intro ww S
        refine AN.pure 0 S rfl (by kernel_rfl) (fun _ => Lf.run_move (S.ev rfl)) rfl rfl trivial ?_
        clear S; intro aa S
        obtain ⟨p63, e_10, H⟩ := H
        refine AN.pure 1 S rfl (by kernel_rfl) (fun _ => Lf.run_nc' (S.ev rfl) e_10) rfl rfl trivial ?_
        clear S; intro aa S
        refine AN.pure 2 S rfl (by kernel_rfl) (fun _ => Lf.run_fa (S.ev rfl) fa74_0) rfl rfl trivial ?_
        clear S; intro aa S
        obtain ⟨x65, c_11, H⟩ := H
        refine AN.load 3 S rfl (by kernel_rfl) (fun _ hx => Lf.run_ld (S.ev rfl) fl72 (hx.cell _ _ (S.cl c_11))) rfl rfl trivial ?_
        clear S; intro aa S
        refine AN.pure 4 S rfl (by kernel_rfl) (fun _ => Lf.run_lens (S.ev rfl) rfl Try.underlying72) rfl rfl trivial ?_
        clear S; intro aa S
        refine AN.pure 5 S rfl (by kernel_rfl) (fun _ => Lf.run_sub (S.ev rfl) (S.ev rfl)) rfl rfl trivial ?_
        clear S; intro aa S
        refine AN.pure 6 S rfl (by kernel_rfl) (fun _ => Lf.run_move (S.ev rfl)) rfl rfl trivial ?_
        clear S; intro aa S
        obtain ⟨p69, e_11, H⟩ := H
        refine AN.pure 7 S rfl (by kernel_rfl) (fun _ => Lf.run_nc' (S.ev rfl) e_11) rfl rfl trivial ?_
        clear S; intro aa S
        refine AN.pure 8 S rfl (by kernel_rfl) (fun _ => Lf.run_fa (S.ev rfl) fa74_1) rfl rfl trivial ?_
        clear S; intro aa S
        obtain ⟨x71, c_12, H⟩ := H
        refine AN.load 9 S rfl (by kernel_rfl) (fun _ hx => Lf.run_ld (S.ev rfl) fl3 (hx.cell _ _ (S.cl c_12))) rfl rfl trivial ?_
        clear S; intro aa S
        refine AN.pure 10 S rfl (by kernel_rfl) (fun _ => Lf.run_build (cs := #[Value.int .i64 (IntKind.i64.wrap (((x65.n : Nat) : Int) - 1)), Value.slice (⟨none, 0, 0⟩ : Sv).a (⟨none, 0, 0⟩ : Sv).n (⟨none, 0, 0⟩ : Sv).c, Value.int .i64 x71]) pl28 ti28 (parts_map S rfl) (by kernel_rfl)) rfl rfl trivial ?_
        clear S; intro aa S
        refine AN.eff 11 rfl (by kernel_rfl) ?_
        refine ol_stoA S H rfl rfl ti28 trivial ?_
        clear S H aa; intro aa ww h14 H S
        refine OL.nil ?_
        refine AN.pure 12 S rfl (by kernel_rfl) (fun _ => Lf.run_assign (S.ev rfl)) rfl rfl trivial ?_
        clear S; intro aa S
        refine AN.done (by kernel_rfl) ?_
        refine W.ret ?_
        obtain ⟨y_3, y_4, y_5, c_13, c_14, c_15, H⟩ := H
        exact Ret.gen S rfl (RV.cellA (cs := [Value.int .i64 y_3, Value.slice y_4.a y_4.n y_4.c, Value.int .i64 y_5]) rfl ag28 ti28 ⟨c_13, c_14, c_15, trivial⟩ (RV.tmp rfl RV.nil)) rfl H

/-- chattel chattellaw13.num -/
def L11 (n0 : Int) (h : Heap) (R : Value → Heap → Prop) : Prop :=
  new 33 #[Value.int .i64 0, Value.int .u64 0, Value.string (⟨#[]⟩ : ByteArray), Value.slice (⟨none, 0, 0⟩ : Sv).a (⟨none, 0, 0⟩ : Sv).n (⟨none, 0, 0⟩ : Sv).c, Value.int .i64 0, Value.slice (⟨none, 0, 0⟩ : Sv).a (⟨none, 0, 0⟩ : Sv).n (⟨none, 0, 0⟩ : Sv).c, Value.int .i64 0] h fun p2 h1 =>
  stoA h1 p2 [Value.int .i64 2, Value.int .u64 n0, Value.string (⟨#[]⟩ : ByteArray), Value.slice (⟨none, 0, 0⟩ : Sv).a (⟨none, 0, 0⟩ : Sv).n (⟨none, 0, 0⟩ : Sv).c, Value.int .i64 0, Value.slice (⟨none, 0, 0⟩ : Sv).a (⟨none, 0, 0⟩ : Sv).n (⟨none, 0, 0⟩ : Sv).c, Value.int .i64 0] fun h2 =>
  ∃ (y : Int) (y_1 : Int) (y_2 : ByteArray) (y_3 : Sv) (y_4 : Int) (y_5 : Sv) (y_6 : Int), cl h2 p2 = some (Value.int .i64 y) ∧ cl h2 (p2.add 1) = some (Value.int .u64 y_1) ∧ cl h2 (p2.add 2) = some (Value.string y_2) ∧ cl h2 (p2.add 3) = some (Value.slice y_3.a y_3.n y_3.c) ∧ cl h2 (p2.add 4) = some (Value.int .i64 y_4) ∧ cl h2 (p2.add 5) = some (Value.slice y_5.a y_5.n y_5.c) ∧ cl h2 (p2.add 6) = some (Value.int .i64 y_6) ∧
  R (Value.agg #[Value.int .i64 y, Value.int .u64 y_1, Value.string y_2, Value.slice y_3.a y_3.n y_3.c, Value.int .i64 y_4, Value.slice y_5.a y_5.n y_5.c, Value.int .i64 y_6]) h2

set_option maxRecDepth 100000 in

theorem F11 {n0 h : _} {R : Value → Heap → Prop} (H : L11 n0 h R) : CallsH Try.prog 11 #[Value.int .u64 n0] h R := by
  refine CallsH.enter (n := 5) Try.func11 rfl rfl rfl rfl ?_
  intro w0 aa ww S
  unfold L11 at H
  refine W.seq ?_
  replace S := S.sub [(0, Value.int .u64 n0)] ⟨rfl, trivial⟩
  refine W.region ?_
  refine ol_alloc S H ti33 rfl rfl trivial ?_
  clear S H aa; intro p2 aa ww h1 H S
  refine OL.nil ?_
  refine W.seq ?_
  replace S := S.sub [(0, Value.int .u64 n0), (2, Value.pointer (some p2))] ⟨rfl, rfl, trivial⟩
  refine W.region ?_
  refine OL.pure S (Lf.run_move (S.ev rfl)) rfl rfl trivial ?_
  clear S; intro aa S
  refine OL.pure S (Lf.run_build (cs := #[Value.int .i64 2, Value.int .u64 n0, Value.string (⟨#[]⟩ : ByteArray), Value.slice (⟨none, 0, 0⟩ : Sv).a (⟨none, 0, 0⟩ : Sv).n (⟨none, 0, 0⟩ : Sv).c, Value.int .i64 0, Value.slice (⟨none, 0, 0⟩ : Sv).a (⟨none, 0, 0⟩ : Sv).n (⟨none, 0, 0⟩ : Sv).c, Value.int .i64 0]) pl33 ti33 (parts_map S rfl) (by kernel_rfl)) rfl rfl trivial ?_
  clear S; intro aa S
  refine ol_stoA S H rfl rfl ti33 trivial ?_
  clear S H aa; intro aa ww h2 H S
  refine OL.nil ?_
  refine W.ret ?_
  obtain ⟨y, y_1, y_2, y_3, y_4, y_5, y_6, c, c_1, c_2, c_3, c_4, c_5, c_6, H⟩ := H
  exact Ret.gen S rfl (RV.cellA (cs := [Value.int .i64 y, Value.int .u64 y_1, Value.string y_2, Value.slice y_3.a y_3.n y_3.c, Value.int .i64 y_4, Value.slice y_5.a y_5.n y_5.c, Value.int .i64 y_6]) rfl ag33 ti33 ⟨c, c_1, c_2, c_3, c_4, c_5, c_6, trivial⟩ RV.nil) rfl H

end Go.Proofs.Ytggacajnmgligaa

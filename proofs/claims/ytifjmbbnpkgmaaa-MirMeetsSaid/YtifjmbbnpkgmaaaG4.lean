/- Lifted by program off the elaborated code: each Go function, read as a proposition over typed variables and the heap. -/
import Derived.Test.YtifjmbbnpkgmaaaG0
namespace Go.Proofs.Ytifjmbbnpkgmaaa
open Go Go.Lf
set_option linter.unusedVariables false
set_option maxRecDepth 100000

/-- chattel mir.rightText -/
def L40 (r0 : Int) (r0_1 : Sv) (r0_2 : Int) (r0_3 : Sv) (r0_4 : Bool) (r0_5 : ByteArray) (r0_6 : Int) (r0_7 : Sv) (h : Heap) (R : Value → Heap → Prop) : Prop :=
  new 56 #[Value.int .i64 r0, Value.slice r0_1.a r0_1.n r0_1.c, Value.int .i64 r0_2, Value.slice r0_3.a r0_3.n r0_3.c, Value.bool r0_4, Value.string r0_5, Value.int .i64 r0_6, Value.slice r0_7.a r0_7.n r0_7.c] h fun p1 h1 =>
  ∃ Sq : Heap → Prop, Sq h1 ∧ (
    ldI .i64 h1 p1 fun x9 =>
    hlT Sq (p1.add 5) fun x13 =>
    hlI .i64 Sq (p1.add 6) fun x17 =>
    cal Try.prog 27 #[Value.int .i64 x9] h1 fun u h2 => asT u fun x10 =>
    Sq h2 ∧
    ((x10.size : Nat) : Int) + (((⟨#[32]⟩ : ByteArray).size : Nat) : Int) ≤ 9223372036854775807 ∧
    (((x10 ++ (⟨#[32]⟩ : ByteArray)).size : Nat) : Int) + ((x13.size : Nat) : Int) ≤ 9223372036854775807 ∧
    ((((x10 ++ (⟨#[32]⟩ : ByteArray)) ++ x13).size : Nat) : Int) + (((⟨#[32]⟩ : ByteArray).size : Nat) : Int) ≤ 9223372036854775807 ∧
    cal Try.prog 27 #[Value.int .i64 x17] h2 fun u_1 h3 => asT u_1 fun x18 =>
    Sq h3 ∧
    (((((x10 ++ (⟨#[32]⟩ : ByteArray)) ++ x13) ++ (⟨#[32]⟩ : ByteArray)).size : Nat) : Int) + ((x18.size : Nat) : Int) ≤ 9223372036854775807 ∧
    ldS h3 (p1.add 1) fun x21 =>
    ∃ (I : ByteArray → Int → Heap → Prop) (m : ByteArray → Int → Heap → Nat), I ((((x10 ++ (⟨#[32]⟩ : ByteArray)) ++ x13) ++ (⟨#[32]⟩ : ByteArray)) ++ x18) 0 h3 ∧ ∀ s3 x23 h4, I s3 x23 h4 →
    ifb (decide (x23 < ((x21.n : Nat) : Int))) (
      ixS x21 x23 fun q25 =>
      ∃ (y26 : Int) (y26_1 : Int) (y26_2 : Sv) (y26_3 : Int) (y26_4 : Int), cl h4 (q25.add ((x23 : Int).toNat * 5)) = some (Value.int .i64 y26) ∧ cl h4 ((q25.add ((x23 : Int).toNat * 5)).add 1) = some (Value.int .i64 y26_1) ∧ cl h4 ((q25.add ((x23 : Int).toNat * 5)).add 2) = some (Value.slice y26_2.a y26_2.n y26_2.c) ∧ cl h4 ((q25.add ((x23 : Int).toNat * 5)).add 3) = some (Value.int .i64 y26_3) ∧ cl h4 ((q25.add ((x23 : Int).toNat * 5)).add 4) = some (Value.int .u64 y26_4) ∧
      new 59 #[Value.int .i64 0, Value.int .i64 0, Value.slice (⟨none, 0, 0⟩ : Sv).a (⟨none, 0, 0⟩ : Sv).n (⟨none, 0, 0⟩ : Sv).c, Value.int .i64 0, Value.int .u64 0] h4 fun p5 h5 =>
      stoA h5 p5 [Value.int .i64 y26, Value.int .i64 y26_1, Value.slice y26_2.a y26_2.n y26_2.c, Value.int .i64 y26_3, Value.int .u64 y26_4] fun h6 =>
      ∃ (y28 : Int) (y28_1 : Int) (y28_2 : Sv) (y28_3 : Int) (y28_4 : Int), cl h6 p5 = some (Value.int .i64 y28) ∧ cl h6 (p5.add 1) = some (Value.int .i64 y28_1) ∧ cl h6 (p5.add 2) = some (Value.slice y28_2.a y28_2.n y28_2.c) ∧ cl h6 (p5.add 3) = some (Value.int .i64 y28_3) ∧ cl h6 (p5.add 4) = some (Value.int .u64 y28_4) ∧
      cal Try.prog 41 #[Value.agg #[Value.int .i64 y28, Value.int .i64 y28_1, Value.slice y28_2.a y28_2.n y28_2.c, Value.int .i64 y28_3, Value.int .u64 y28_4]] h6 fun u_2 h7 => asT u_2 fun x29 =>
      (((⟨#[44, 32]⟩ : ByteArray).size : Nat) : Int) + ((x29.size : Nat) : Int) ≤ 9223372036854775807 ∧
      ((s3.size : Nat) : Int) + ((((⟨#[44, 32]⟩ : ByteArray) ++ x29).size : Nat) : Int) ≤ 9223372036854775807 ∧
      I (s3 ++ ((⟨#[44, 32]⟩ : ByteArray) ++ x29)) (IntKind.i64.wrap (x23 + 1)) h7 ∧ m (s3 ++ ((⟨#[44, 32]⟩ : ByteArray) ++ x29)) (IntKind.i64.wrap (x23 + 1)) h7 < m s3 x23 h4) (
      ∃ J : ByteArray → Heap → Prop, (
        ldI .i64 h4 p1 fun x34 =>
        ifb (x34 == 2) (
          ∃ (y38 : Int) (y38_1 : Sv), cl h4 (p1.add 2) = some (Value.int .i64 y38) ∧ cl h4 ((p1.add 2).add 1) = some (Value.slice y38_1.a y38_1.n y38_1.c) ∧
          cal Try.prog 39 #[Value.agg #[Value.int .i64 y38, Value.slice y38_1.a y38_1.n y38_1.c]] h4 fun u_3 h8 => asT u_3 fun x39 =>
          (((⟨#[32]⟩ : ByteArray).size : Nat) : Int) + ((x39.size : Nat) : Int) ≤ 9223372036854775807 ∧
          ((s3.size : Nat) : Int) + ((((⟨#[32]⟩ : ByteArray) ++ x39).size : Nat) : Int) ≤ 9223372036854775807 ∧
          ldB h8 (p1.add 4) fun x43 =>
          ifb x43 (
            (((s3 ++ ((⟨#[32]⟩ : ByteArray) ++ x39)).size : Nat) : Int) + (((⟨#[32, 109, 117, 116]⟩ : ByteArray).size : Nat) : Int) ≤ 9223372036854775807 ∧
            J ((s3 ++ ((⟨#[32]⟩ : ByteArray) ++ x39)) ++ (⟨#[32, 109, 117, 116]⟩ : ByteArray)) h8) (
            J (s3 ++ ((⟨#[32]⟩ : ByteArray) ++ x39)) h8)) (
          J s3 h4)) ∧ (∀ s3_1 h9, J s3_1 h9 →
      ldS h9 (p1.add 7) fun x47 =>
      ∃ (I_1 : ByteArray → Int → Heap → Prop) (m_1 : ByteArray → Int → Heap → Nat), I_1 s3_1 0 h9 ∧ ∀ s3_2 x49 h10, I_1 s3_2 x49 h10 →
      ifb (decide (x49 < ((x47.n : Nat) : Int))) (
        ixS x47 x49 fun q51 =>
        ∃ (y52 : Int) (y52_1 : ByteArray) (y52_2 : Bool) (y52_3 : Int) (y52_4 : Sv) (y52_5 : Sv), cl h10 (q51.add ((x49 : Int).toNat * 6)) = some (Value.int .i64 y52) ∧ cl h10 ((q51.add ((x49 : Int).toNat * 6)).add 1) = some (Value.string y52_1) ∧ cl h10 ((q51.add ((x49 : Int).toNat * 6)).add 2) = some (Value.bool y52_2) ∧ cl h10 ((q51.add ((x49 : Int).toNat * 6)).add 3) = some (Value.int .i64 y52_3) ∧ cl h10 ((q51.add ((x49 : Int).toNat * 6)).add 4) = some (Value.slice y52_4.a y52_4.n y52_4.c) ∧ cl h10 ((q51.add ((x49 : Int).toNat * 6)).add 5) = some (Value.slice y52_5.a y52_5.n y52_5.c) ∧
        new 49 #[Value.int .i64 0, Value.string (⟨#[]⟩ : ByteArray), Value.bool false, Value.int .i64 0, Value.slice (⟨none, 0, 0⟩ : Sv).a (⟨none, 0, 0⟩ : Sv).n (⟨none, 0, 0⟩ : Sv).c, Value.slice (⟨none, 0, 0⟩ : Sv).a (⟨none, 0, 0⟩ : Sv).n (⟨none, 0, 0⟩ : Sv).c] h10 fun p7 h11 =>
        stoA h11 p7 [Value.int .i64 y52, Value.string y52_1, Value.bool y52_2, Value.int .i64 y52_3, Value.slice y52_4.a y52_4.n y52_4.c, Value.slice y52_5.a y52_5.n y52_5.c] fun h12 =>
        ∃ (y54 : Int) (y54_1 : ByteArray) (y54_2 : Bool) (y54_3 : Int) (y54_4 : Sv) (y54_5 : Sv), cl h12 p7 = some (Value.int .i64 y54) ∧ cl h12 (p7.add 1) = some (Value.string y54_1) ∧ cl h12 (p7.add 2) = some (Value.bool y54_2) ∧ cl h12 (p7.add 3) = some (Value.int .i64 y54_3) ∧ cl h12 (p7.add 4) = some (Value.slice y54_4.a y54_4.n y54_4.c) ∧ cl h12 (p7.add 5) = some (Value.slice y54_5.a y54_5.n y54_5.c) ∧
        cal Try.prog 28 #[Value.agg #[Value.int .i64 y54, Value.string y54_1, Value.bool y54_2, Value.int .i64 y54_3, Value.slice y54_4.a y54_4.n y54_4.c, Value.slice y54_5.a y54_5.n y54_5.c]] h12 fun u_4 h13 => asT u_4 fun x55 =>
        (((⟨#[32, 60]⟩ : ByteArray).size : Nat) : Int) + ((x55.size : Nat) : Int) ≤ 9223372036854775807 ∧
        ((((⟨#[32, 60]⟩ : ByteArray) ++ x55).size : Nat) : Int) + (((⟨#[62]⟩ : ByteArray).size : Nat) : Int) ≤ 9223372036854775807 ∧
        ((s3_2.size : Nat) : Int) + (((((⟨#[32, 60]⟩ : ByteArray) ++ x55) ++ (⟨#[62]⟩ : ByteArray)).size : Nat) : Int) ≤ 9223372036854775807 ∧
        I_1 (s3_2 ++ (((⟨#[32, 60]⟩ : ByteArray) ++ x55) ++ (⟨#[62]⟩ : ByteArray))) (IntKind.i64.wrap (x49 + 1)) h13 ∧ m_1 (s3_2 ++ (((⟨#[32, 60]⟩ : ByteArray) ++ x55) ++ (⟨#[62]⟩ : ByteArray))) (IntKind.i64.wrap (x49 + 1)) h13 < m_1 s3_2 x49 h10) (
        R (Value.string s3_2) h10))))

set_option maxRecDepth 100000 in

theorem F40 {r0 r0_1 r0_2 r0_3 r0_4 r0_5 r0_6 r0_7 h : _} {R : Value → Heap → Prop} (H : L40 r0 r0_1 r0_2 r0_3 r0_4 r0_5 r0_6 r0_7 h R) : CallsH Try.prog 40 #[Value.agg #[Value.int .i64 r0, Value.slice r0_1.a r0_1.n r0_1.c, Value.int .i64 r0_2, Value.slice r0_3.a r0_3.n r0_3.c, Value.bool r0_4, Value.string r0_5, Value.int .i64 r0_6, Value.slice r0_7.a r0_7.n r0_7.c]] h R := by
  refine CallsH.enter (n := 61) Try.func40 rfl rfl rfl rfl ?_
  intro w0 aa ww S
  unfold L40 at H
  refine W.seq ?_
  replace S := S.sub [(0, Value.agg #[Value.int .i64 r0, Value.slice r0_1.a r0_1.n r0_1.c, Value.int .i64 r0_2, Value.slice r0_3.a r0_3.n r0_3.c, Value.bool r0_4, Value.string r0_5, Value.int .i64 r0_6, Value.slice r0_7.a r0_7.n r0_7.c])] ⟨rfl, trivial⟩
  refine W.region ?_
  refine ol_box S H rfl rfl rfl trivial ?_
  clear S H aa; intro p1 aa ww h1 H S
  refine OL.pure S (Lf.run_assign (S.ev rfl)) rfl rfl trivial ?_
  clear S; intro aa S
  refine OL.nil ?_
  refine W.seq ?_
  replace S := S.sub [(1, Value.pointer (some p1))] ⟨rfl, trivial⟩
  obtain ⟨Sq, HS, H⟩ := H
  refine W.regionN [5, 9] [2, 10] Sq S (by kernel_rfl) ?_
  clear S; intro ww S
  refine BN.pure 0 S (fun _ => HS) rfl (by kernel_rfl) (by kernel_rfl) (fun _ => Lf.run_fa (S.ev rfl) fa56_0) rfl rfl trivial ?_
  clear S; intro aa S
  obtain ⟨x9, c, H⟩ := H
  refine BN.load 1 S (fun _ => HS) rfl (by kernel_rfl) (by kernel_rfl) (fun _ hx => Lf.run_ld (S.ev rfl) fl3 (hx.cell _ _ (S.cl c))) rfl rfl trivial ?_
  clear S; intro aa S
  refine BN.pure 4 S (fun _ => HS) rfl (by kernel_rfl) (by kernel_rfl) (fun _ => Lf.run_fa (S.ev rfl) fa56_4) rfl rfl trivial ?_
  clear S; intro aa S
  refine BN.pure 8 S (fun _ => HS) rfl (by kernel_rfl) (by kernel_rfl) (fun _ => Lf.run_fa (S.ev rfl) fa56_5) rfl rfl trivial ?_
  clear S; intro aa S
  obtain ⟨x13, c_1, H⟩ := H
  refine BN.held 5 S HS rfl (by kernel_rfl) (fun _ hq => Lf.run_ld (S.ev rfl) fl9 (c_1 _ hq)) rfl rfl trivial ?_
  clear S; intro aa S
  obtain ⟨x17, c_2, H⟩ := H
  refine BN.held 9 S HS rfl (by kernel_rfl) (fun _ hq => Lf.run_ld (S.ev rfl) fl3 (c_2 _ hq)) rfl rfl trivial ?_
  clear S; intro aa S
  refine BN.eff 2 rfl (by kernel_rfl) ?_
  refine ol_cal S H isfn27 rfl rfl trivial ?_
  clear S H aa; intro u aa ww h2 H S
  obtain ⟨x10, rfl, H⟩ := H
  refine OL.nil ?_
  clear HS; obtain ⟨HS, H⟩ := H
  refine ⟨fun _ => by rw [S.heap]; exact HS, ?_⟩
  obtain ⟨c_3, H⟩ := H
  refine BN.pure 3 S (fun _ => HS) rfl (by kernel_rfl) (by kernel_rfl) (fun _ => Lf.run_addt (S.ev rfl) (S.ev rfl) c_3) rfl rfl trivial ?_
  clear S; intro aa S
  obtain ⟨c_4, H⟩ := H
  refine BN.pure 6 S (fun _ => HS) rfl (by kernel_rfl) (by kernel_rfl) (fun _ => Lf.run_addt (S.ev rfl) (S.ev rfl) c_4) rfl rfl trivial ?_
  clear S; intro aa S
  obtain ⟨c_5, H⟩ := H
  refine BN.pure 7 S (fun _ => HS) rfl (by kernel_rfl) (by kernel_rfl) (fun _ => Lf.run_addt (S.ev rfl) (S.ev rfl) c_5) rfl rfl trivial ?_
  clear S; intro aa S
  refine BN.eff 10 rfl (by kernel_rfl) ?_
  refine ol_cal S H isfn27 rfl rfl trivial ?_
  clear S H aa; intro u_1 aa ww h3 H S
  obtain ⟨x18, rfl, H⟩ := H
  refine OL.nil ?_
  clear HS; obtain ⟨HS, H⟩ := H
  refine ⟨fun _ => by rw [S.heap]; exact HS, ?_⟩
  obtain ⟨c_6, H⟩ := H
  refine BN.pure 11 S (fun _ => HS) rfl (by kernel_rfl) (by kernel_rfl) (fun _ => Lf.run_addt (S.ev rfl) (S.ev rfl) c_6) rfl rfl trivial ?_
  clear S; intro aa S
  refine BN.pure 12 S (fun _ => HS) rfl (by kernel_rfl) (by kernel_rfl) (fun _ => Lf.run_assign (S.ev rfl)) rfl rfl trivial ?_
  clear S; intro aa S
  refine BN.done (by kernel_rfl) ?_
  refine W.seq ?_
  refine W.seq ?_
  replace S := S.sub [(1, Value.pointer (some p1)), (3, Value.string ((((x10 ++ (⟨#[32]⟩ : ByteArray)) ++ x13) ++ (⟨#[32]⟩ : ByteArray)) ++ x18))] ⟨rfl, rfl, trivial⟩
  refine W.region ?_
  refine OL.pure S (Lf.run_fa (S.ev rfl) fa56_1) rfl rfl trivial ?_
  clear S; intro aa S
  obtain ⟨x21, c_7, H⟩ := H
  refine OL.pure S (Lf.run_ld (S.ev rfl) fl54 (S.cl c_7)) rfl rfl trivial ?_
  clear S; intro aa S
  refine OL.pure S (Lf.run_lens (S.ev rfl) rfl Try.underlying54) rfl rfl trivial ?_
  clear S; intro aa S
  refine OL.pure S (Lf.run_move (S.ev rfl)) rfl rfl trivial ?_
  clear S; intro aa S
  refine OL.nil ?_
  refine W.block ?_
  obtain ⟨I, m, H, HB_1⟩ := H
  refine W.loopS (σ := ByteArray × Int × Heap) (fun s aa ww => St 61 [(1, Value.pointer (some p1)), (3, Value.string s.1), (21, Value.slice x21.a x21.n x21.c), (22, Value.int .i64 ((x21.n : Nat) : Int)), (23, Value.int .i64 s.2.1)] s.2.2 w0 aa ww ∧ I s.1 s.2.1 s.2.2) (fun s => m s.1 s.2.1 s.2.2) (((((x10 ++ (⟨#[32]⟩ : ByteArray)) ++ x13) ++ (⟨#[32]⟩ : ByteArray)) ++ x18), 0, h3) ⟨S.sub _ ⟨rfl, rfl, rfl, rfl, rfl, trivial⟩, H⟩ ?_
  clear H S aa
  rintro ⟨s3, x23, h4⟩ aa ww ⟨S, HI⟩
  replace S : St 61 [(1, Value.pointer (some p1)), (3, Value.string s3), (21, Value.slice x21.a x21.n x21.c), (22, Value.int .i64 ((x21.n : Nat) : Int)), (23, Value.int .i64 x23)] h4 w0 aa ww := S
  have H := HB_1 s3 x23 h4 HI
  clear HI
  refine W.seq ?_
  replace S := S.sub [(1, Value.pointer (some p1)), (3, Value.string s3), (21, Value.slice x21.a x21.n x21.c), (22, Value.int .i64 ((x21.n : Nat) : Int)), (23, Value.int .i64 x23)] ⟨rfl, rfl, rfl, rfl, rfl, trivial⟩
  refine W.region ?_
  refine OL.pure S (Lf.run_lss (S.ev rfl) (S.ev rfl)) rfl rfl trivial ?_
  clear S; intro aa S
  refine OL.nil ?_
  refine W.seq ?_
  refine W.cond S (b := (decide (x23 < ((x21.n : Nat) : Int)))) rfl (fun hb => ?_) (fun hb => ?_)
  · replace H := H.1 hb
    refine W.skip ?_
    refine W.seq ?_
    refine W.block ?_
    refine W.seq ?_
    replace S := S.sub [(1, Value.pointer (some p1)), (3, Value.string s3), (21, Value.slice x21.a x21.n x21.c), (22, Value.int .i64 ((x21.n : Nat) : Int)), (23, Value.int .i64 x23)] ⟨rfl, rfl, rfl, rfl, rfl, trivial⟩
    refine W.region ?_
    obtain ⟨q25, e, e_1, e_2, H⟩ := H
    refine OL.pure S (Lf.run_ixs (S.ev rfl) (S.ev rfl) Try.underlying54 ti59 e e_1 e_2) rfl rfl trivial ?_
    clear S; intro aa S
    obtain ⟨y26, y26_1, y26_2, y26_3, y26_4, c_17, c_18, c_19, c_20, c_21, H⟩ := H
    refine OL.pure S (Lf.run_ldA (cs := [Value.int .i64 y26, Value.int .i64 y26_1, Value.slice y26_2.a y26_2.n y26_2.c, Value.int .i64 y26_3, Value.int .u64 y26_4]) (S.ev rfl) ag59 ti59 (by rw [S.heap]; exact RowL.toRow ⟨c_17, c_18, c_19, c_20, c_21, trivial⟩)) rfl rfl trivial ?_
    clear S; intro aa S
    refine ol_alloc S H ti59 rfl rfl trivial ?_
    clear S H aa; intro p5 aa ww h5 H S
    refine ol_stoA S H rfl rfl ti59 trivial ?_
    clear S H aa; intro aa ww h6 H S
    refine OL.nil ?_
    replace S := S.sub [(1, Value.pointer (some p1)), (3, Value.string s3), (5, Value.pointer (some p5)), (21, Value.slice x21.a x21.n x21.c), (22, Value.int .i64 ((x21.n : Nat) : Int)), (23, Value.int .i64 x23)] ⟨rfl, rfl, rfl, rfl, rfl, rfl, trivial⟩
    refine W.region ?_
    refine OL.pure S (Lf.run_move (S.ev rfl)) rfl rfl trivial ?_
    clear S; intro aa S
    obtain ⟨y28, y28_1, y28_2, y28_3, y28_4, c_12, c_13, c_14, c_15, c_16, H⟩ := H
    refine OL.pure S (Lf.run_ldA (cs := [Value.int .i64 y28, Value.int .i64 y28_1, Value.slice y28_2.a y28_2.n y28_2.c, Value.int .i64 y28_3, Value.int .u64 y28_4]) (S.ev rfl) ag59 ti59 (by rw [S.heap]; exact RowL.toRow ⟨c_12, c_13, c_14, c_15, c_16, trivial⟩)) rfl rfl trivial ?_
    clear S; intro aa S
    refine ol_cal S H isfn41 rfl rfl trivial ?_
    clear S H aa; intro u_2 aa ww h7 H S
    obtain ⟨x29, rfl, H⟩ := H
    obtain ⟨c_10, H⟩ := H
    refine OL.pure S (Lf.run_addt (S.ev rfl) (S.ev rfl) c_10) rfl rfl trivial ?_
    clear S; intro aa S
    obtain ⟨c_11, H⟩ := H
    refine OL.pure S (Lf.run_addt (S.ev rfl) (S.ev rfl) c_11) rfl rfl trivial ?_
    clear S; intro aa S
    refine OL.pure S (Lf.run_assign (S.ev rfl)) rfl rfl trivial ?_
    clear S; intro aa S
    refine OL.nil ?_
    replace S := S.sub [(1, Value.pointer (some p1)), (3, Value.string (s3 ++ ((⟨#[44, 32]⟩ : ByteArray) ++ x29))), (21, Value.slice x21.a x21.n x21.c), (22, Value.int .i64 ((x21.n : Nat) : Int)), (23, Value.int .i64 x23)] ⟨rfl, rfl, rfl, rfl, rfl, trivial⟩
    refine W.region ?_
    refine OL.pure S (Lf.run_add (S.ev rfl) (S.ev rfl)) rfl rfl trivial ?_
    clear S; intro aa S
    refine OL.pure S (Lf.run_move (S.ev rfl)) rfl rfl trivial ?_
    clear S; intro aa S
    refine OL.nil ?_
    exact ⟨((s3 ++ ((⟨#[44, 32]⟩ : ByteArray) ++ x29)), (IntKind.i64.wrap (x23 + 1)), h7), ⟨S.sub _ ⟨rfl, rfl, rfl, rfl, rfl, trivial⟩, H.1⟩, H.2⟩
  · replace H := H.2 hb
    refine W.exit_ ?_
    refine xhit ?_
    obtain ⟨J, H, HK⟩ := H
    refine W.seqJ (fun aa ww => ∃ s3_1 h9, St 61 [(1, Value.pointer (some p1)), (3, Value.string s3_1)] h9 w0 aa ww ∧ J s3_1 h9) ?_ ?_
    · clear HK
      refine W.seq ?_
      replace S := S.sub [(1, Value.pointer (some p1)), (3, Value.string s3)] ⟨rfl, rfl, trivial⟩
      refine W.region ?_
      refine OL.pure S (Lf.run_fa (S.ev rfl) fa56_0) rfl rfl trivial ?_
      clear S; intro aa S
      obtain ⟨x34, c_22, H⟩ := H
      refine OL.pure S (Lf.run_ld (S.ev rfl) fl3 (S.cl c_22)) rfl rfl trivial ?_
      clear S; intro aa S
      refine OL.pure S (Lf.run_eql (S.ev rfl) (S.ev rfl)) rfl rfl trivial ?_
      clear S; intro aa S
      refine OL.nil ?_
      refine W.cond S (b := (x34 == 2)) rfl (fun hb_1 => ?_) (fun hb_1 => ?_)
      · replace H := H.1 hb_1
        refine W.seq ?_
        replace S := S.sub [(1, Value.pointer (some p1)), (3, Value.string s3)] ⟨rfl, rfl, trivial⟩
        refine W.region ?_
        refine OL.pure S (Lf.run_move (S.ev rfl)) rfl rfl trivial ?_
        clear S; intro aa S
        refine OL.pure S (Lf.run_fa (S.ev rfl) fa56_2) rfl rfl trivial ?_
        clear S; intro aa S
        obtain ⟨y38, y38_1, c_28, c_29, H⟩ := H
        refine OL.pure S (Lf.run_ldA (cs := [Value.int .i64 y38, Value.slice y38_1.a y38_1.n y38_1.c]) (S.ev rfl) ag24 ti24 (by rw [S.heap]; exact RowL.toRow ⟨c_28, c_29, trivial⟩)) rfl rfl trivial ?_
        clear S; intro aa S
        refine ol_cal S H isfn39 rfl rfl trivial ?_
        clear S H aa; intro u_3 aa ww h8 H S
        obtain ⟨x39, rfl, H⟩ := H
        obtain ⟨c_24, H⟩ := H
        refine OL.pure S (Lf.run_addt (S.ev rfl) (S.ev rfl) c_24) rfl rfl trivial ?_
        clear S; intro aa S
        obtain ⟨c_25, H⟩ := H
        refine OL.pure S (Lf.run_addt (S.ev rfl) (S.ev rfl) c_25) rfl rfl trivial ?_
        clear S; intro aa S
        refine OL.pure S (Lf.run_assign (S.ev rfl)) rfl rfl trivial ?_
        clear S; intro aa S
        refine OL.nil ?_
        refine W.seq ?_
        replace S := S.sub [(1, Value.pointer (some p1)), (3, Value.string (s3 ++ ((⟨#[32]⟩ : ByteArray) ++ x39)))] ⟨rfl, rfl, trivial⟩
        refine W.region ?_
        refine OL.pure S (Lf.run_fa (S.ev rfl) fa56_3) rfl rfl trivial ?_
        clear S; intro aa S
        obtain ⟨x43, c_26, H⟩ := H
        refine OL.pure S (Lf.run_ld (S.ev rfl) fl4 (S.cl c_26)) rfl rfl trivial ?_
        clear S; intro aa S
        refine OL.nil ?_
        refine W.cond S (b := x43) rfl (fun hb_2 => ?_) (fun hb_2 => ?_)
        · replace H := H.1 hb_2
          replace S := S.sub [(1, Value.pointer (some p1)), (3, Value.string (s3 ++ ((⟨#[32]⟩ : ByteArray) ++ x39)))] ⟨rfl, rfl, trivial⟩
          refine W.region ?_
          refine OL.pure S (Lf.run_move (S.ev rfl)) rfl rfl trivial ?_
          clear S; intro aa S
          obtain ⟨c_27, H⟩ := H
          refine OL.pure S (Lf.run_addt (S.ev rfl) (S.ev rfl) c_27) rfl rfl trivial ?_
          clear S; intro aa S
          refine OL.pure S (Lf.run_assign (S.ev rfl)) rfl rfl trivial ?_
          clear S; intro aa S
          refine OL.nil ?_
          exact ⟨((s3 ++ ((⟨#[32]⟩ : ByteArray) ++ x39)) ++ (⟨#[32, 109, 117, 116]⟩ : ByteArray)), h8, S.sub _ ⟨rfl, rfl, trivial⟩, H⟩
        · replace H := H.2 hb_2
          refine W.skip ?_
          exact ⟨(s3 ++ ((⟨#[32]⟩ : ByteArray) ++ x39)), h8, S.sub _ ⟨rfl, rfl, trivial⟩, H⟩
      · replace H := H.2 hb_1
        refine W.skip ?_
        exact ⟨s3, h4, S.sub _ ⟨rfl, rfl, trivial⟩, H⟩
    · clear H S aa
      rintro aa ww ⟨s3_1, h9, S, HJ⟩
      have H := HK _ _ HJ
      clear HK HJ
      refine W.seq ?_
      refine W.seq ?_
      replace S := S.sub [(1, Value.pointer (some p1)), (3, Value.string s3_1)] ⟨rfl, rfl, trivial⟩
      refine W.region ?_
      refine OL.pure S (Lf.run_fa (S.ev rfl) fa56_6) rfl rfl trivial ?_
      clear S; intro aa S
      obtain ⟨x47, c_30, H⟩ := H
      refine OL.pure S (Lf.run_ld (S.ev rfl) fl47 (S.cl c_30)) rfl rfl trivial ?_
      clear S; intro aa S
      refine OL.pure S (Lf.run_lens (S.ev rfl) rfl Try.underlying47) rfl rfl trivial ?_
      clear S; intro aa S
      refine OL.pure S (Lf.run_move (S.ev rfl)) rfl rfl trivial ?_
      clear S; intro aa S
      refine OL.nil ?_
      refine W.block ?_
      obtain ⟨I_1, m_1, H, HB⟩ := H
      refine W.loopS (σ := ByteArray × Int × Heap) (fun s aa ww => St 61 [(3, Value.string s.1), (47, Value.slice x47.a x47.n x47.c), (48, Value.int .i64 ((x47.n : Nat) : Int)), (49, Value.int .i64 s.2.1)] s.2.2 w0 aa ww ∧ I_1 s.1 s.2.1 s.2.2) (fun s => m_1 s.1 s.2.1 s.2.2) (s3_1, 0, h9) ⟨S.sub _ ⟨rfl, rfl, rfl, rfl, trivial⟩, H⟩ ?_
      clear H S aa
      rintro ⟨s3_2, x49, h10⟩ aa ww ⟨S, HI⟩
      replace S : St 61 [(3, Value.string s3_2), (47, Value.slice x47.a x47.n x47.c), (48, Value.int .i64 ((x47.n : Nat) : Int)), (49, Value.int .i64 x49)] h10 w0 aa ww := S
      have H := HB s3_2 x49 h10 HI
      clear HI
      refine W.seq ?_
      replace S := S.sub [(3, Value.string s3_2), (47, Value.slice x47.a x47.n x47.c), (48, Value.int .i64 ((x47.n : Nat) : Int)), (49, Value.int .i64 x49)] ⟨rfl, rfl, rfl, rfl, trivial⟩
      refine W.region ?_
      refine OL.pure S (Lf.run_lss (S.ev rfl) (S.ev rfl)) rfl rfl trivial ?_
      clear S; intro aa S
      refine OL.nil ?_
      refine W.seq ?_
      refine W.cond S (b := (decide (x49 < ((x47.n : Nat) : Int)))) rfl (fun hb_3 => ?_) (fun hb_3 => ?_)
      · replace H := H.1 hb_3
        refine W.skip ?_
        refine W.seq ?_
        refine W.block ?_
        refine W.seq ?_
        replace S := S.sub [(3, Value.string s3_2), (47, Value.slice x47.a x47.n x47.c), (48, Value.int .i64 ((x47.n : Nat) : Int)), (49, Value.int .i64 x49)] ⟨rfl, rfl, rfl, rfl, trivial⟩
        refine W.region ?_
        obtain ⟨q51, e_3, e_4, e_5, H⟩ := H
        refine OL.pure S (Lf.run_ixs (S.ev rfl) (S.ev rfl) Try.underlying47 ti49 e_3 e_4 e_5) rfl rfl trivial ?_
        clear S; intro aa S
        obtain ⟨y52, y52_1, y52_2, y52_3, y52_4, y52_5, c_42, c_43, c_44, c_45, c_46, c_47, H⟩ := H
        refine OL.pure S (Lf.run_ldA (cs := [Value.int .i64 y52, Value.string y52_1, Value.bool y52_2, Value.int .i64 y52_3, Value.slice y52_4.a y52_4.n y52_4.c, Value.slice y52_5.a y52_5.n y52_5.c]) (S.ev rfl) ag49 ti49 (by rw [S.heap]; exact RowL.toRow ⟨c_42, c_43, c_44, c_45, c_46, c_47, trivial⟩)) rfl rfl trivial ?_
        clear S; intro aa S
        refine ol_alloc S H ti49 rfl rfl trivial ?_
        clear S H aa; intro p7 aa ww h11 H S
        refine ol_stoA S H rfl rfl ti49 trivial ?_
        clear S H aa; intro aa ww h12 H S
        refine OL.nil ?_
        replace S := S.sub [(3, Value.string s3_2), (7, Value.pointer (some p7)), (47, Value.slice x47.a x47.n x47.c), (48, Value.int .i64 ((x47.n : Nat) : Int)), (49, Value.int .i64 x49)] ⟨rfl, rfl, rfl, rfl, rfl, trivial⟩
        refine W.region ?_
        refine OL.pure S (Lf.run_move (S.ev rfl)) rfl rfl trivial ?_
        clear S; intro aa S
        obtain ⟨y54, y54_1, y54_2, y54_3, y54_4, y54_5, c_36, c_37, c_38, c_39, c_40, c_41, H⟩ := H
        refine OL.pure S (Lf.run_ldA (cs := [Value.int .i64 y54, Value.string y54_1, Value.bool y54_2, Value.int .i64 y54_3, Value.slice y54_4.a y54_4.n y54_4.c, Value.slice y54_5.a y54_5.n y54_5.c]) (S.ev rfl) ag49 ti49 (by rw [S.heap]; exact RowL.toRow ⟨c_36, c_37, c_38, c_39, c_40, c_41, trivial⟩)) rfl rfl trivial ?_
        clear S; intro aa S
        refine ol_cal S H isfn28 rfl rfl trivial ?_
        clear S H aa; intro u_4 aa ww h13 H S
        obtain ⟨x55, rfl, H⟩ := H
        obtain ⟨c_33, H⟩ := H
        refine OL.pure S (Lf.run_addt (S.ev rfl) (S.ev rfl) c_33) rfl rfl trivial ?_
        clear S; intro aa S
        obtain ⟨c_34, H⟩ := H
        refine OL.pure S (Lf.run_addt (S.ev rfl) (S.ev rfl) c_34) rfl rfl trivial ?_
        clear S; intro aa S
        obtain ⟨c_35, H⟩ := H
        refine OL.pure S (Lf.run_addt (S.ev rfl) (S.ev rfl) c_35) rfl rfl trivial ?_
        clear S; intro aa S
        refine OL.pure S (Lf.run_assign (S.ev rfl)) rfl rfl trivial ?_
        clear S; intro aa S
        refine OL.nil ?_
        replace S := S.sub [(3, Value.string (s3_2 ++ (((⟨#[32, 60]⟩ : ByteArray) ++ x55) ++ (⟨#[62]⟩ : ByteArray)))), (47, Value.slice x47.a x47.n x47.c), (48, Value.int .i64 ((x47.n : Nat) : Int)), (49, Value.int .i64 x49)] ⟨rfl, rfl, rfl, rfl, trivial⟩
        refine W.region ?_
        refine OL.pure S (Lf.run_add (S.ev rfl) (S.ev rfl)) rfl rfl trivial ?_
        clear S; intro aa S
        refine OL.pure S (Lf.run_move (S.ev rfl)) rfl rfl trivial ?_
        clear S; intro aa S
        refine OL.nil ?_
        exact ⟨((s3_2 ++ (((⟨#[32, 60]⟩ : ByteArray) ++ x55) ++ (⟨#[62]⟩ : ByteArray))), (IntKind.i64.wrap (x49 + 1)), h13), ⟨S.sub _ ⟨rfl, rfl, rfl, rfl, trivial⟩, H.1⟩, H.2⟩
      · replace H := H.2 hb_3
        refine W.exit_ ?_
        refine xhit ?_
        refine W.seq ?_
        replace S := S.sub [(3, Value.string s3_2)] ⟨rfl, trivial⟩
        refine W.region ?_
        refine OL.pure S (Lf.run_move (S.ev rfl)) rfl rfl trivial ?_
        clear S; intro aa S
        refine OL.pure S (Lf.run_assign (S.ev rfl)) rfl rfl trivial ?_
        clear S; intro aa S
        refine OL.nil ?_
        refine W.ret ?_
        exact Ret.one S rfl rfl H

/-- chattel mir.operandText -/
def L41 (o0 : Int) (o0_1 : Int) (o0_2 : Sv) (o0_3 : Int) (o0_4 : Int) (h : Heap) (R : Value → Heap → Prop) : Prop :=
  new 59 #[Value.int .i64 o0, Value.int .i64 o0_1, Value.slice o0_2.a o0_2.n o0_2.c, Value.int .i64 o0_3, Value.int .u64 o0_4] h fun p1 h1 =>
  ldI .i64 h1 p1 fun x4 =>
  ifb (x4 == 1) (
    ∃ Sq : Heap → Prop, Sq h1 ∧ (
      ldI .i64 h1 (p1.add 3) fun x7 =>
      hlI .u64 Sq (p1.add 4) fun x12 =>
      cal Try.prog 27 #[Value.int .i64 x7] h1 fun u h2 => asT u fun x8 =>
      Sq h2 ∧
      (((⟨#[99, 111, 110, 115, 116, 32]⟩ : ByteArray).size : Nat) : Int) + ((x8.size : Nat) : Int) ≤ 9223372036854775807 ∧
      ((((⟨#[99, 111, 110, 115, 116, 32]⟩ : ByteArray) ++ x8).size : Nat) : Int) + (((⟨#[32]⟩ : ByteArray).size : Nat) : Int) ≤ 9223372036854775807 ∧
      cal Try.prog 47 #[Value.int .u64 x12] h2 fun u_1 h3 => asT u_1 fun x13 =>
      (((((⟨#[99, 111, 110, 115, 116, 32]⟩ : ByteArray) ++ x8) ++ (⟨#[32]⟩ : ByteArray)).size : Nat) : Int) + ((x13.size : Nat) : Int) ≤ 9223372036854775807 ∧
      R (Value.string ((((⟨#[99, 111, 110, 115, 116, 32]⟩ : ByteArray) ++ x8) ++ (⟨#[32]⟩ : ByteArray)) ++ x13)) h3)) (
    ∃ Sq_1 : Heap → Prop, Sq_1 h1 ∧ (
      ldI .i64 h1 p1 fun x16 =>
      ∃ (y20 : Int) (y20_1 : Sv), hld Sq_1 (p1.add 1) (Value.int .i64 y20) ∧ hld Sq_1 ((p1.add 1).add 1) (Value.slice y20_1.a y20_1.n y20_1.c) ∧
      cal Try.prog 27 #[Value.int .i64 x16] h1 fun u_2 h4 => asT u_2 fun x17 =>
      Sq_1 h4 ∧
      ((x17.size : Nat) : Int) + (((⟨#[32]⟩ : ByteArray).size : Nat) : Int) ≤ 9223372036854775807 ∧
      cal Try.prog 39 #[Value.agg #[Value.int .i64 y20, Value.slice y20_1.a y20_1.n y20_1.c]] h4 fun u_3 h5 => asT u_3 fun x21 =>
      (((x17 ++ (⟨#[32]⟩ : ByteArray)).size : Nat) : Int) + ((x21.size : Nat) : Int) ≤ 9223372036854775807 ∧
      R (Value.string ((x17 ++ (⟨#[32]⟩ : ByteArray)) ++ x21)) h5))

set_option maxRecDepth 100000 in

theorem F41 {o0 o0_1 o0_2 o0_3 o0_4 h : _} {R : Value → Heap → Prop} (H : L41 o0 o0_1 o0_2 o0_3 o0_4 h R) : CallsH Try.prog 41 #[Value.agg #[Value.int .i64 o0, Value.int .i64 o0_1, Value.slice o0_2.a o0_2.n o0_2.c, Value.int .i64 o0_3, Value.int .u64 o0_4]] h R := by
  refine CallsH.enter (n := 23) Try.func41 rfl rfl rfl rfl ?_
  intro w0 aa ww S
  unfold L41 at H
  refine W.seq ?_
  replace S := S.sub [(0, Value.agg #[Value.int .i64 o0, Value.int .i64 o0_1, Value.slice o0_2.a o0_2.n o0_2.c, Value.int .i64 o0_3, Value.int .u64 o0_4])] ⟨rfl, trivial⟩
  refine W.region ?_
  refine ol_box S H rfl rfl rfl trivial ?_
  clear S H aa; intro p1 aa ww h1 H S
  refine OL.pure S (Lf.run_assign (S.ev rfl)) rfl rfl trivial ?_
  clear S; intro aa S
  refine OL.nil ?_
  refine W.seq ?_
  refine W.seq ?_
  replace S := S.sub [(1, Value.pointer (some p1))] ⟨rfl, trivial⟩
  refine W.region ?_
  refine OL.pure S (Lf.run_fa (S.ev rfl) fa59_0) rfl rfl trivial ?_
  clear S; intro aa S
  obtain ⟨x4, c, H⟩ := H
  refine OL.pure S (Lf.run_ld (S.ev rfl) fl3 (S.cl c)) rfl rfl trivial ?_
  clear S; intro aa S
  refine OL.pure S (Lf.run_eql (S.ev rfl) (S.ev rfl)) rfl rfl trivial ?_
  clear S; intro aa S
  refine OL.nil ?_
  refine W.cond S (b := (x4 == 1)) rfl (fun hb => ?_) (fun hb => ?_)
  · replace H := H.1 hb
    refine W.seq ?_
    replace S := S.sub [(1, Value.pointer (some p1))] ⟨rfl, trivial⟩
    obtain ⟨Sq, HS, H⟩ := H
    refine W.regionN [6] [2, 7] Sq S (by kernel_rfl) ?_
    clear S; intro ww S
    refine BN.pure 0 S (fun _ => HS) rfl (by kernel_rfl) (by kernel_rfl) (fun _ => Lf.run_fa (S.ev rfl) fa59_2) rfl rfl trivial ?_
    clear S; intro aa S
    obtain ⟨x7, c_1, H⟩ := H
    refine BN.load 1 S (fun _ => HS) rfl (by kernel_rfl) (by kernel_rfl) (fun _ hx => Lf.run_ld (S.ev rfl) fl3 (hx.cell _ _ (S.cl c_1))) rfl rfl trivial ?_
    clear S; intro aa S
    refine BN.pure 5 S (fun _ => HS) rfl (by kernel_rfl) (by kernel_rfl) (fun _ => Lf.run_fa (S.ev rfl) fa59_3) rfl rfl trivial ?_
    clear S; intro aa S
    obtain ⟨x12, c_2, H⟩ := H
    refine BN.held 6 S HS rfl (by kernel_rfl) (fun _ hq => Lf.run_ld (S.ev rfl) fl57 (c_2 _ hq)) rfl rfl trivial ?_
    clear S; intro aa S
    refine BN.eff 2 rfl (by kernel_rfl) ?_
    refine ol_cal S H isfn27 rfl rfl trivial ?_
    clear S H aa; intro u aa ww h2 H S
    obtain ⟨x8, rfl, H⟩ := H
    refine OL.nil ?_
    clear HS; obtain ⟨HS, H⟩ := H
    refine ⟨fun _ => by rw [S.heap]; exact HS, ?_⟩
    obtain ⟨c_3, H⟩ := H
    refine BN.pure 3 S (fun _ => HS) rfl (by kernel_rfl) (by kernel_rfl) (fun _ => Lf.run_addt (S.ev rfl) (S.ev rfl) c_3) rfl rfl trivial ?_
    clear S; intro aa S
    obtain ⟨c_4, H⟩ := H
    refine BN.pure 4 S (fun _ => HS) rfl (by kernel_rfl) (by kernel_rfl) (fun _ => Lf.run_addt (S.ev rfl) (S.ev rfl) c_4) rfl rfl trivial ?_
    clear S; intro aa S
    refine BN.eff 7 rfl (by kernel_rfl) ?_
    refine ol_cal S H isfn47 rfl rfl trivial ?_
    clear S H aa; intro u_1 aa ww h3 H S
    obtain ⟨x13, rfl, H⟩ := H
    refine OL.nil ?_
    refine ⟨noNeed (by kernel_rfl), ?_⟩
    obtain ⟨c_5, H⟩ := H
    refine BN.pure 8 S (noNeed (by kernel_rfl)) rfl (by kernel_rfl) (by kernel_rfl) (fun _ => Lf.run_addt (S.ev rfl) (S.ev rfl) c_5) rfl rfl trivial ?_
    clear S; intro aa S
    refine BN.pure 9 S (noNeed (by kernel_rfl)) rfl (by kernel_rfl) (by kernel_rfl) (fun _ => Lf.run_assign (S.ev rfl)) rfl rfl trivial ?_
    clear S; intro aa S
    refine BN.done (by kernel_rfl) ?_
    refine W.ret ?_
    exact Ret.one S rfl rfl H
  · replace H := H.2 hb
    refine W.skip ?_
    refine W.seq ?_
    replace S := S.sub [(1, Value.pointer (some p1))] ⟨rfl, trivial⟩
    obtain ⟨Sq_1, HS_1, H⟩ := H
    refine W.regionN [5] [2, 6] Sq_1 S (by kernel_rfl) ?_
    clear S; intro ww S
    refine BN.pure 0 S (fun _ => HS_1) rfl (by kernel_rfl) (by kernel_rfl) (fun _ => Lf.run_fa (S.ev rfl) fa59_0) rfl rfl trivial ?_
    clear S; intro aa S
    obtain ⟨x16, c_6, H⟩ := H
    refine BN.load 1 S (fun _ => HS_1) rfl (by kernel_rfl) (by kernel_rfl) (fun _ hx => Lf.run_ld (S.ev rfl) fl3 (hx.cell _ _ (S.cl c_6))) rfl rfl trivial ?_
    clear S; intro aa S
    refine BN.pure 4 S (fun _ => HS_1) rfl (by kernel_rfl) (by kernel_rfl) (fun _ => Lf.run_fa (S.ev rfl) fa59_1) rfl rfl trivial ?_
    clear S; intro aa S
    obtain ⟨y20, y20_1, c_10, c_11, H⟩ := H
    refine BN.held 5 S HS_1 rfl (by kernel_rfl) (fun _ hq => Lf.run_ldA (cs := [Value.int .i64 y20, Value.slice y20_1.a y20_1.n y20_1.c]) (S.ev rfl) ag24 ti24 (hlRow hq fun h_ hs_ => ⟨c_10 h_ hs_, c_11 h_ hs_, trivial⟩)) rfl rfl trivial ?_
    clear S; intro aa S
    refine BN.eff 2 rfl (by kernel_rfl) ?_
    refine ol_cal S H isfn27 rfl rfl trivial ?_
    clear S H aa; intro u_2 aa ww h4 H S
    obtain ⟨x17, rfl, H⟩ := H
    refine OL.nil ?_
    clear HS_1; obtain ⟨HS_1, H⟩ := H
    refine ⟨fun _ => by rw [S.heap]; exact HS_1, ?_⟩
    obtain ⟨c_8, H⟩ := H
    refine BN.pure 3 S (fun _ => HS_1) rfl (by kernel_rfl) (by kernel_rfl) (fun _ => Lf.run_addt (S.ev rfl) (S.ev rfl) c_8) rfl rfl trivial ?_
    clear S; intro aa S
    refine BN.eff 6 rfl (by kernel_rfl) ?_
    refine ol_cal S H isfn39 rfl rfl trivial ?_
    clear S H aa; intro u_3 aa ww h5 H S
    obtain ⟨x21, rfl, H⟩ := H
    refine OL.nil ?_
    refine ⟨noNeed (by kernel_rfl), ?_⟩
    obtain ⟨c_9, H⟩ := H
    refine BN.pure 7 S (noNeed (by kernel_rfl)) rfl (by kernel_rfl) (by kernel_rfl) (fun _ => Lf.run_addt (S.ev rfl) (S.ev rfl) c_9) rfl rfl trivial ?_
    clear S; intro aa S
    refine BN.pure 8 S (noNeed (by kernel_rfl)) rfl (by kernel_rfl) (by kernel_rfl) (fun _ => Lf.run_assign (S.ev rfl)) rfl rfl trivial ?_
    clear S; intro aa S
    refine BN.done (by kernel_rfl) ?_
    refine W.ret ?_
    exact Ret.one S rfl rfl H

/-- chattel mir.place$1 -/
def L42 (x0 : Int) (h : Heap) (R : Value → Heap → Prop) : Prop :=
  R (Value.bool (decide (x0 < (-1)))) h

set_option maxRecDepth 100000 in

theorem F42 {x0 h : _} {R : Value → Heap → Prop} (H : L42 x0 h R) : CallsH Try.prog 42 #[Value.int .i64 x0] h R := by
  refine CallsH.enter (n := 5) Try.func42 rfl rfl rfl rfl ?_
  intro w0 aa ww S
  unfold L42 at H
  refine W.seq ?_
  replace S := S.sub [(0, Value.int .i64 x0)] ⟨rfl, trivial⟩
  refine W.region ?_
  refine OL.pure S (Lf.run_assign (S.ev rfl)) rfl rfl trivial ?_
  clear S; intro aa S
  refine OL.nil ?_
  refine W.seq ?_
  replace S := S.sub [(0, Value.int .i64 x0)] ⟨rfl, trivial⟩
  refine W.region ?_
  refine OL.pure S (Lf.run_move (S.ev rfl)) rfl rfl trivial ?_
  clear S; intro aa S
  refine OL.pure S (Lf.run_lss (S.ev rfl) (S.ev rfl)) rfl rfl trivial ?_
  clear S; intro aa S
  refine OL.pure S (Lf.run_assign (S.ev rfl)) rfl rfl trivial ?_
  clear S; intro aa S
  refine OL.nil ?_
  refine W.ret ?_
  exact Ret.one S rfl rfl H

/-- chattel mir.count -/
def L43 (kind0 : Int) (h : Heap) (R : Value → Heap → Prop) : Prop :=
  ∃ J : Bool → Prop, (
    ifb (kind0 == 2) (
      J (kind0 == 2)) (
      J (kind0 == 10))) ∧ (∀ x4, J x4 →
  ifb x4 (
    R (Value.int .i64 0) h) (
    ∃ J_1 : Bool → Prop, (
      ifb (kind0 == 1) (
        J_1 (kind0 == 1)) (
        ifb (kind0 == 4) (
          J_1 (kind0 == 4)) (
          ifb (kind0 == 5) (
            J_1 (kind0 == 5)) (
            ifb (kind0 == 6) (
              J_1 (kind0 == 6)) (
              J_1 (kind0 == 11)))))) ∧ (∀ x7, J_1 x7 →
    ifb x7 (
      R (Value.int .i64 1) h) (
      ifb (kind0 == 3) (
        R (Value.int .i64 2) h) (
        ∃ J_2 : Bool → Prop, (
          ifb (kind0 == 7) (
            J_2 (kind0 == 7)) (
            ifb (kind0 == 8) (
              J_2 (kind0 == 8)) (
              J_2 (kind0 == 9)))) ∧ (∀ x15, J_2 x15 →
        ifb x15 (
          R (Value.int .i64 (-1)) h) (
          R (Value.int .i64 (-2)) h)))))))

set_option maxRecDepth 100000 in

theorem F43 {kind0 h : _} {R : Value → Heap → Prop} (H : L43 kind0 h R) : CallsH Try.prog 43 #[Value.int .i64 kind0] h R := by
  refine CallsH.enter (n := 19) Try.func43 rfl rfl rfl rfl ?_
  intro w0 aa ww S
  unfold L43 at H
  refine W.seq ?_
  replace S := S.sub [(0, Value.int .i64 kind0)] ⟨rfl, trivial⟩
  refine W.region ?_
  refine OL.pure S (Lf.run_assign (S.ev rfl)) rfl rfl trivial ?_
  clear S; intro aa S
  refine OL.nil ?_
  refine W.seq ?_
  refine W.seq ?_
  replace S := S.sub [(0, Value.int .i64 kind0)] ⟨rfl, trivial⟩
  refine W.region ?_
  refine OL.pure S (Lf.run_move (S.ev rfl)) rfl rfl trivial ?_
  clear S; intro aa S
  refine OL.nil ?_
  refine W.block ?_
  obtain ⟨J, H, HK⟩ := H
  refine W.seqJ (fun aa ww => ∃ x4, St 19 [(3, Value.int .i64 kind0), (4, Value.bool x4)] h w0 aa ww ∧ J x4) ?_ ?_
  · clear HK
    refine W.seq ?_
    replace S := S.sub [(3, Value.int .i64 kind0)] ⟨rfl, trivial⟩
    refine W.region ?_
    refine OL.pure S (Lf.run_eql (S.ev rfl) (S.ev rfl)) rfl rfl trivial ?_
    clear S; intro aa S
    refine OL.pure S (Lf.run_assign (S.ev rfl)) rfl rfl trivial ?_
    clear S; intro aa S
    refine OL.nil ?_
    refine W.cond S (b := (kind0 == 2)) rfl (fun hb => ?_) (fun hb => ?_)
    · replace H := H.1 hb
      refine W.skip ?_
      exact ⟨(kind0 == 2), S.sub _ ⟨rfl, rfl, trivial⟩, H⟩
    · replace H := H.2 hb
      replace S := S.sub [(3, Value.int .i64 kind0)] ⟨rfl, trivial⟩
      refine W.region ?_
      refine OL.pure S (Lf.run_eql (S.ev rfl) (S.ev rfl)) rfl rfl trivial ?_
      clear S; intro aa S
      refine OL.pure S (Lf.run_assign (S.ev rfl)) rfl rfl trivial ?_
      clear S; intro aa S
      refine OL.nil ?_
      exact ⟨(kind0 == 10), S.sub _ ⟨rfl, rfl, trivial⟩, H⟩
  · clear H S aa
    rintro aa ww ⟨x4, S, HJ⟩
    have H := HK _ HJ
    clear HK HJ
    refine W.cond S (b := x4) rfl (fun hb_1 => ?_) (fun hb_1 => ?_)
    · replace H := H.1 hb_1
      refine W.seq ?_
      replace S := S.sub [] trivial
      refine W.region ?_
      refine OL.pure S (Lf.run_assign (S.ev rfl)) rfl rfl trivial ?_
      clear S; intro aa S
      refine OL.nil ?_
      refine W.ret ?_
      exact Ret.one S rfl rfl H
    · replace H := H.2 hb_1
      obtain ⟨J_1, H, HK_1⟩ := H
      refine W.seqJ (fun aa ww => ∃ x7, St 19 [(3, Value.int .i64 kind0), (7, Value.bool x7)] h w0 aa ww ∧ J_1 x7) ?_ ?_
      · clear HK_1
        refine W.seq ?_
        replace S := S.sub [(3, Value.int .i64 kind0)] ⟨rfl, trivial⟩
        refine W.region ?_
        refine OL.pure S (Lf.run_eql (S.ev rfl) (S.ev rfl)) rfl rfl trivial ?_
        clear S; intro aa S
        refine OL.pure S (Lf.run_assign (S.ev rfl)) rfl rfl trivial ?_
        clear S; intro aa S
        refine OL.nil ?_
        refine W.cond S (b := (kind0 == 1)) rfl (fun hb_2 => ?_) (fun hb_2 => ?_)
        · replace H := H.1 hb_2
          refine W.skip ?_
          exact ⟨(kind0 == 1), S.sub _ ⟨rfl, rfl, trivial⟩, H⟩
        · replace H := H.2 hb_2
          refine W.seq ?_
          replace S := S.sub [(3, Value.int .i64 kind0)] ⟨rfl, trivial⟩
          refine W.region ?_
          refine OL.pure S (Lf.run_eql (S.ev rfl) (S.ev rfl)) rfl rfl trivial ?_
          clear S; intro aa S
          refine OL.pure S (Lf.run_assign (S.ev rfl)) rfl rfl trivial ?_
          clear S; intro aa S
          refine OL.nil ?_
          refine W.cond S (b := (kind0 == 4)) rfl (fun hb_3 => ?_) (fun hb_3 => ?_)
          · replace H := H.1 hb_3
            refine W.skip ?_
            exact ⟨(kind0 == 4), S.sub _ ⟨rfl, rfl, trivial⟩, H⟩
          · replace H := H.2 hb_3
            refine W.seq ?_
            replace S := S.sub [(3, Value.int .i64 kind0)] ⟨rfl, trivial⟩
            refine W.region ?_
            refine OL.pure S (Lf.run_eql (S.ev rfl) (S.ev rfl)) rfl rfl trivial ?_
            clear S; intro aa S
            refine OL.pure S (Lf.run_assign (S.ev rfl)) rfl rfl trivial ?_
            clear S; intro aa S
            refine OL.nil ?_
            refine W.cond S (b := (kind0 == 5)) rfl (fun hb_4 => ?_) (fun hb_4 => ?_)
            · replace H := H.1 hb_4
              refine W.skip ?_
              exact ⟨(kind0 == 5), S.sub _ ⟨rfl, rfl, trivial⟩, H⟩
            · replace H := H.2 hb_4
              refine W.seq ?_
              replace S := S.sub [(3, Value.int .i64 kind0)] ⟨rfl, trivial⟩
              refine W.region ?_
              refine OL.pure S (Lf.run_eql (S.ev rfl) (S.ev rfl)) rfl rfl trivial ?_
              clear S; intro aa S
              refine OL.pure S (Lf.run_assign (S.ev rfl)) rfl rfl trivial ?_
              clear S; intro aa S
              refine OL.nil ?_
              refine W.cond S (b := (kind0 == 6)) rfl (fun hb_5 => ?_) (fun hb_5 => ?_)
              · replace H := H.1 hb_5
                refine W.skip ?_
                exact ⟨(kind0 == 6), S.sub _ ⟨rfl, rfl, trivial⟩, H⟩
              · replace H := H.2 hb_5
                replace S := S.sub [(3, Value.int .i64 kind0)] ⟨rfl, trivial⟩
                refine W.region ?_
                refine OL.pure S (Lf.run_eql (S.ev rfl) (S.ev rfl)) rfl rfl trivial ?_
                clear S; intro aa S
                refine OL.pure S (Lf.run_assign (S.ev rfl)) rfl rfl trivial ?_
                clear S; intro aa S
                refine OL.nil ?_
                exact ⟨(kind0 == 11), S.sub _ ⟨rfl, rfl, trivial⟩, H⟩
      · clear H S aa
        rintro aa ww ⟨x7, S, HJ⟩
        have H := HK_1 _ HJ
        clear HK_1 HJ
        refine W.cond S (b := x7) rfl (fun hb_6 => ?_) (fun hb_6 => ?_)
        · replace H := H.1 hb_6
          refine W.seq ?_
          replace S := S.sub [] trivial
          refine W.region ?_
          refine OL.pure S (Lf.run_assign (S.ev rfl)) rfl rfl trivial ?_
          clear S; intro aa S
          refine OL.nil ?_
          refine W.ret ?_
          exact Ret.one S rfl rfl H
        · replace H := H.2 hb_6
          refine W.seq ?_
          replace S := S.sub [(3, Value.int .i64 kind0)] ⟨rfl, trivial⟩
          refine W.region ?_
          refine OL.pure S (Lf.run_eql (S.ev rfl) (S.ev rfl)) rfl rfl trivial ?_
          clear S; intro aa S
          refine OL.pure S (Lf.run_assign (S.ev rfl)) rfl rfl trivial ?_
          clear S; intro aa S
          refine OL.nil ?_
          refine W.cond S (b := (kind0 == 3)) rfl (fun hb_7 => ?_) (fun hb_7 => ?_)
          · replace H := H.1 hb_7
            refine W.seq ?_
            replace S := S.sub [] trivial
            refine W.region ?_
            refine OL.pure S (Lf.run_assign (S.ev rfl)) rfl rfl trivial ?_
            clear S; intro aa S
            refine OL.nil ?_
            refine W.ret ?_
            exact Ret.one S rfl rfl H
          · replace H := H.2 hb_7
            obtain ⟨J_2, H, HK_2⟩ := H
            refine W.seqJ (fun aa ww => ∃ x15, St 19 [(15, Value.bool x15)] h w0 aa ww ∧ J_2 x15) ?_ ?_
            · clear HK_2
              refine W.seq ?_
              replace S := S.sub [(3, Value.int .i64 kind0)] ⟨rfl, trivial⟩
              refine W.region ?_
              refine OL.pure S (Lf.run_eql (S.ev rfl) (S.ev rfl)) rfl rfl trivial ?_
              clear S; intro aa S
              refine OL.pure S (Lf.run_assign (S.ev rfl)) rfl rfl trivial ?_
              clear S; intro aa S
              refine OL.nil ?_
              refine W.cond S (b := (kind0 == 7)) rfl (fun hb_8 => ?_) (fun hb_8 => ?_)
              · replace H := H.1 hb_8
                refine W.skip ?_
                exact ⟨(kind0 == 7), S.sub _ ⟨rfl, trivial⟩, H⟩
              · replace H := H.2 hb_8
                refine W.seq ?_
                replace S := S.sub [(3, Value.int .i64 kind0)] ⟨rfl, trivial⟩
                refine W.region ?_
                refine OL.pure S (Lf.run_eql (S.ev rfl) (S.ev rfl)) rfl rfl trivial ?_
                clear S; intro aa S
                refine OL.pure S (Lf.run_assign (S.ev rfl)) rfl rfl trivial ?_
                clear S; intro aa S
                refine OL.nil ?_
                refine W.cond S (b := (kind0 == 8)) rfl (fun hb_9 => ?_) (fun hb_9 => ?_)
                · replace H := H.1 hb_9
                  refine W.skip ?_
                  exact ⟨(kind0 == 8), S.sub _ ⟨rfl, trivial⟩, H⟩
                · replace H := H.2 hb_9
                  replace S := S.sub [(3, Value.int .i64 kind0)] ⟨rfl, trivial⟩
                  refine W.region ?_
                  refine OL.pure S (Lf.run_eql (S.ev rfl) (S.ev rfl)) rfl rfl trivial ?_
                  clear S; intro aa S
                  refine OL.pure S (Lf.run_assign (S.ev rfl)) rfl rfl trivial ?_
                  clear S; intro aa S
                  refine OL.nil ?_
                  exact ⟨(kind0 == 9), S.sub _ ⟨rfl, trivial⟩, H⟩
            · clear H S aa
              rintro aa ww ⟨x15, S, HJ⟩
              have H := HK_2 _ HJ
              clear HK_2 HJ
              refine W.cond S (b := x15) rfl (fun hb_10 => ?_) (fun hb_10 => ?_)
              · replace H := H.1 hb_10
                refine W.seq ?_
                replace S := S.sub [] trivial
                refine W.region ?_
                refine OL.pure S (Lf.run_assign (S.ev rfl)) rfl rfl trivial ?_
                clear S; intro aa S
                refine OL.nil ?_
                refine W.ret ?_
                exact Ret.one S rfl rfl H
              · replace H := H.2 hb_10
                refine W.skip ?_
                refine W.seq ?_
                replace S := S.sub [] trivial
                refine W.region ?_
                refine OL.pure S (Lf.run_assign (S.ev rfl)) rfl rfl trivial ?_
                clear S; intro aa S
                refine OL.nil ?_
                refine W.ret ?_
                exact Ret.one S rfl rfl H

/-- slices.ContainsFunc[[]chattel api.Operand,chattel api.Operand] -/
def L44 (s0 : Sv) (f1 : Value) (h : Heap) (R : Value → Heap → Prop) : Prop :=
  cal Try.prog 48 #[Value.slice s0.a s0.n s0.c, f1] h fun u h1 => asI .i64 u fun x7 =>
  R (Value.bool (decide (0 ≤ x7))) h1

set_option maxRecDepth 100000 in

theorem F44 {s0 f1 h : _} {R : Value → Heap → Prop} (H : L44 s0 f1 h R) : CallsH Try.prog 44 #[Value.slice s0.a s0.n s0.c, f1] h R := by
  refine CallsH.enter (n := 9) Try.func44 rfl rfl rfl rfl ?_
  intro w0 aa ww S
  unfold L44 at H
  refine W.seq ?_
  replace S := S.sub [(0, Value.slice s0.a s0.n s0.c), (1, f1)] ⟨rfl, rfl, trivial⟩
  refine W.region ?_
  refine OL.pure S (Lf.run_assign (S.ev rfl)) rfl rfl trivial ?_
  clear S; intro aa S
  refine OL.nil ?_
  refine W.seq ?_
  replace S := S.sub [(0, Value.slice s0.a s0.n s0.c), (1, f1)] ⟨rfl, rfl, trivial⟩
  refine W.region ?_
  refine OL.pure S (Lf.run_move (S.ev rfl)) rfl rfl trivial ?_
  clear S; intro aa S
  refine OL.pure S (Lf.run_move (S.ev rfl)) rfl rfl trivial ?_
  clear S; intro aa S
  refine ol_cal S H isfn48 rfl rfl trivial ?_
  clear S H aa; intro u aa ww h1 H S
  obtain ⟨x7, rfl, H⟩ := H
  refine OL.pure S (Lf.run_geq (S.ev rfl) (S.ev rfl)) rfl rfl trivial ?_
  clear S; intro aa S
  refine OL.pure S (Lf.run_assign (S.ev rfl)) rfl rfl trivial ?_
  clear S; intro aa S
  refine OL.nil ?_
  refine W.ret ?_
  exact Ret.one S rfl rfl H

/-- chattel mir.right$1 -/
def L45 (o0 : Int) (o0_1 : Int) (o0_2 : Sv) (o0_3 : Int) (o0_4 : Int) (x1 : Addr) (h : Heap) (R : Value → Heap → Prop) : Prop :=
  new 59 #[Value.int .i64 o0, Value.int .i64 o0_1, Value.slice o0_2.a o0_2.n o0_2.c, Value.int .i64 o0_3, Value.int .u64 o0_4] h fun p2 h1 =>
  ldP h1 x1 fun x4 =>
  ∃ (y5 : Int) (y5_1 : Int) (y5_2 : Sv) (y5_3 : Int) (y5_4 : Int), cl h1 p2 = some (Value.int .i64 y5) ∧ cl h1 (p2.add 1) = some (Value.int .i64 y5_1) ∧ cl h1 (p2.add 2) = some (Value.slice y5_2.a y5_2.n y5_2.c) ∧ cl h1 (p2.add 3) = some (Value.int .i64 y5_3) ∧ cl h1 (p2.add 4) = some (Value.int .u64 y5_4) ∧
  cal Try.prog 36 #[Value.pointer x4, Value.agg #[Value.int .i64 y5, Value.int .i64 y5_1, Value.slice y5_2.a y5_2.n y5_2.c, Value.int .i64 y5_3, Value.int .u64 y5_4]] h1 fun u h2 => asB u fun x6 =>
  R (Value.bool (!x6)) h2

set_option maxRecDepth 100000 in

theorem F45 {o0 o0_1 o0_2 o0_3 o0_4 x1 h : _} {R : Value → Heap → Prop} (H : L45 o0 o0_1 o0_2 o0_3 o0_4 x1 h R) : CallsH Try.prog 45 #[Value.agg #[Value.int .i64 o0, Value.int .i64 o0_1, Value.slice o0_2.a o0_2.n o0_2.c, Value.int .i64 o0_3, Value.int .u64 o0_4], Value.pointer (some x1)] h R := by
  refine CallsH.enter (n := 8) Try.func45 rfl rfl rfl rfl ?_
  intro w0 aa ww S
  unfold L45 at H
  refine W.seq ?_
  replace S := S.sub [(0, Value.agg #[Value.int .i64 o0, Value.int .i64 o0_1, Value.slice o0_2.a o0_2.n o0_2.c, Value.int .i64 o0_3, Value.int .u64 o0_4]), (1, Value.pointer (some x1))] ⟨rfl, rfl, trivial⟩
  refine W.region ?_
  refine ol_box S H rfl rfl rfl trivial ?_
  clear S H aa; intro p2 aa ww h1 H S
  refine OL.pure S (Lf.run_assign (S.ev rfl)) rfl rfl trivial ?_
  clear S; intro aa S
  refine OL.nil ?_
  refine W.seq ?_
  replace S := S.sub [(1, Value.pointer (some x1)), (2, Value.pointer (some p2))] ⟨rfl, rfl, trivial⟩
  refine W.region ?_
  obtain ⟨x4, c, H⟩ := H
  refine OL.pure S (Lf.run_ld (S.ev rfl) fl37 (S.cl c)) rfl rfl trivial ?_
  clear S; intro aa S
  obtain ⟨y5, y5_1, y5_2, y5_3, y5_4, c_2, c_3, c_4, c_5, c_6, H⟩ := H
  refine OL.pure S (Lf.run_ldA (cs := [Value.int .i64 y5, Value.int .i64 y5_1, Value.slice y5_2.a y5_2.n y5_2.c, Value.int .i64 y5_3, Value.int .u64 y5_4]) (S.ev rfl) ag59 ti59 (by rw [S.heap]; exact RowL.toRow ⟨c_2, c_3, c_4, c_5, c_6, trivial⟩)) rfl rfl trivial ?_
  clear S; intro aa S
  refine ol_cal S H isfn36 rfl rfl trivial ?_
  clear S H aa; intro u aa ww h2 H S
  obtain ⟨x6, rfl, H⟩ := H
  refine OL.pure S (Lf.run_not (S.ev rfl)) rfl rfl trivial ?_
  clear S; intro aa S
  refine OL.pure S (Lf.run_assign (S.ev rfl)) rfl rfl trivial ?_
  clear S; intro aa S
  refine OL.nil ?_
  refine W.ret ?_
  exact Ret.one S rfl rfl H

/-- chattel num.dec -/
def L46 (n0 : Int) (h : Heap) (R : Value → Heap → Prop) : Prop :=
  new 89 #[Value.int .u8 0, Value.int .u8 0, Value.int .u8 0, Value.int .u8 0, Value.int .u8 0, Value.int .u8 0, Value.int .u8 0, Value.int .u8 0, Value.int .u8 0, Value.int .u8 0, Value.int .u8 0, Value.int .u8 0, Value.int .u8 0, Value.int .u8 0, Value.int .u8 0, Value.int .u8 0, Value.int .u8 0, Value.int .u8 0, Value.int .u8 0, Value.int .u8 0] h fun p3 h1 =>
  ∃ (I : Int → Int → Heap → Prop) (m : Int → Int → Heap → Nat), I n0 20 h1 ∧ ∀ n0_1 i4 h2, I n0_1 i4 h2 →
  ixA 20 (IntKind.i64.wrap (i4 - 1)) (
  sto h2 (p3.add (((IntKind.i64.wrap (i4 - 1)) : Int).toNat * 1)) (Value.int .u8 (IntKind.u8.wrap (IntKind.u64.wrap (48 + ((n0_1 : Int).tmod 10))))) fun h3 =>
  ifb ((IntKind.u64.wrap ((n0_1 : Int).tdiv 10)) == 0) (
    slA p3 20 1 (IntKind.i64.wrap (i4 - 1)) ((20 : Nat) : Int) fun s18 =>
    cvT h3 s18 fun s19 =>
    R (Value.string s19) h3) (
    I (IntKind.u64.wrap ((n0_1 : Int).tdiv 10)) (IntKind.i64.wrap (i4 - 1)) h3 ∧ m (IntKind.u64.wrap ((n0_1 : Int).tdiv 10)) (IntKind.i64.wrap (i4 - 1)) h3 < m n0_1 i4 h2))

set_option maxRecDepth 100000 in

theorem F46 {n0 h : _} {R : Value → Heap → Prop} (H : L46 n0 h R) : CallsH Try.prog 46 #[Value.int .u64 n0] h R := by
  refine CallsH.enter (n := 20) Try.func46 rfl rfl rfl rfl ?_
  intro w0 aa ww S
  unfold L46 at H
  refine W.seq ?_
  replace S := S.sub [(0, Value.int .u64 n0)] ⟨rfl, trivial⟩
  refine W.region ?_
  refine OL.pure S (Lf.run_assign (S.ev rfl)) rfl rfl trivial ?_
  clear S; intro aa S
  refine OL.nil ?_
  refine W.seq ?_
  replace S := S.sub [(0, Value.int .u64 n0)] ⟨rfl, trivial⟩
  refine W.region ?_
  refine ol_alloc S H ti89 rfl rfl trivial ?_
  clear S H aa; intro p3 aa ww h1 H S
  refine OL.nil ?_
  refine W.seq ?_
  replace S := S.sub [(0, Value.int .u64 n0), (3, Value.pointer (some p3))] ⟨rfl, rfl, trivial⟩
  refine W.region ?_
  refine OL.pure S (Lf.run_assign (S.ev rfl)) rfl rfl trivial ?_
  clear S; intro aa S
  refine OL.nil ?_
  refine W.block ?_
  obtain ⟨I, m, H, HB⟩ := H
  refine W.loopS (σ := Int × Int × Heap) (fun s aa ww => St 20 [(0, Value.int .u64 s.1), (3, Value.pointer (some p3)), (4, Value.int .i64 s.2.1)] s.2.2 w0 aa ww ∧ I s.1 s.2.1 s.2.2) (fun s => m s.1 s.2.1 s.2.2) (n0, 20, h1) ⟨S.sub _ ⟨rfl, rfl, rfl, trivial⟩, H⟩ ?_
  clear H S aa
  rintro ⟨n0_1, i4, h2⟩ aa ww ⟨S, HI⟩
  replace S : St 20 [(0, Value.int .u64 n0_1), (3, Value.pointer (some p3)), (4, Value.int .i64 i4)] h2 w0 aa ww := S
  have H := HB n0_1 i4 h2 HI
  clear HI
  refine W.block ?_
  refine W.seq ?_
  replace S := S.sub [(0, Value.int .u64 n0_1), (3, Value.pointer (some p3)), (4, Value.int .i64 i4)] ⟨rfl, rfl, rfl, trivial⟩
  refine W.region ?_
  refine OL.pure S (Lf.run_move (S.ev rfl)) rfl rfl trivial ?_
  clear S; intro aa S
  refine OL.pure S (Lf.run_sub (S.ev rfl) (S.ev rfl)) rfl rfl trivial ?_
  clear S; intro aa S
  refine OL.pure S (Lf.run_assign (S.ev rfl)) rfl rfl trivial ?_
  clear S; intro aa S
  refine OL.nil ?_
  refine W.seq ?_
  replace S := S.sub [(0, Value.int .u64 n0_1), (3, Value.pointer (some p3)), (4, Value.int .i64 (IntKind.i64.wrap (i4 - 1)))] ⟨rfl, rfl, rfl, trivial⟩
  refine W.region ?_
  refine OL.pure S (Lf.run_move (S.ev rfl)) rfl rfl trivial ?_
  clear S; intro aa S
  refine OL.pure S (Lf.run_move (S.ev rfl)) rfl rfl trivial ?_
  clear S; intro aa S
  refine OL.pure S (Lf.run_rem (S.ev rfl) (S.ev rfl) (by decide)) rfl rfl trivial ?_
  clear S; intro aa S
  refine OL.pure S (Lf.run_add (S.ev rfl) (S.ev rfl)) rfl rfl trivial ?_
  clear S; intro aa S
  refine OL.pure S (Lf.run_cvi Try.underlying57 Try.underlying5 (S.ev rfl)) rfl rfl trivial ?_
  clear S; intro aa S
  obtain ⟨e, e_1, H⟩ := H
  refine OL.pure S (Lf.run_ixa (S.ev rfl) (S.ev rfl) Try.underlying89 ti5 e e_1) rfl rfl trivial ?_
  clear S; intro aa S
  refine ol_sto S H rfl rfl rfl ti5 trivial ?_
  clear S H aa; intro aa ww h3 H S
  refine OL.nil ?_
  refine W.seq ?_
  replace S := S.sub [(0, Value.int .u64 n0_1), (3, Value.pointer (some p3)), (4, Value.int .i64 (IntKind.i64.wrap (i4 - 1)))] ⟨rfl, rfl, rfl, trivial⟩
  refine W.region ?_
  refine OL.pure S (Lf.run_move (S.ev rfl)) rfl rfl trivial ?_
  clear S; intro aa S
  refine OL.pure S (Lf.run_quo (S.ev rfl) (S.ev rfl) (by decide)) rfl rfl trivial ?_
  clear S; intro aa S
  refine OL.pure S (Lf.run_assign (S.ev rfl)) rfl rfl trivial ?_
  clear S; intro aa S
  refine OL.nil ?_
  refine W.seq ?_
  replace S := S.sub [(0, Value.int .u64 (IntKind.u64.wrap ((n0_1 : Int).tdiv 10))), (3, Value.pointer (some p3)), (4, Value.int .i64 (IntKind.i64.wrap (i4 - 1)))] ⟨rfl, rfl, rfl, trivial⟩
  refine W.region ?_
  refine OL.pure S (Lf.run_move (S.ev rfl)) rfl rfl trivial ?_
  clear S; intro aa S
  refine OL.pure S (Lf.run_eql (S.ev rfl) (S.ev rfl)) rfl rfl trivial ?_
  clear S; intro aa S
  refine OL.nil ?_
  refine W.cond S (b := ((IntKind.u64.wrap ((n0_1 : Int).tdiv 10)) == 0)) rfl (fun hb => ?_) (fun hb => ?_)
  · replace H := H.1 hb
    refine W.seq ?_
    replace S := S.sub [(3, Value.pointer (some p3)), (4, Value.int .i64 (IntKind.i64.wrap (i4 - 1)))] ⟨rfl, rfl, trivial⟩
    refine W.region ?_
    refine OL.pure S (Lf.run_move (S.ev rfl)) rfl rfl trivial ?_
    clear S; intro aa S
    obtain ⟨s18, c, c_1, c_2, c_3, H⟩ := slA_ex H
    refine OL.pure S (Lf.run_saSN Try.underlying89 ti5 (S.ev rfl) (S.ev rfl) c c_1 c_3) rfl rfl trivial ?_
    clear S; intro aa S
    obtain ⟨bs, c_4, c_5, H⟩ := H
    refine OL.pure S (Lf.run_cvT Try.underlying90 Try.underlying9 Try.underlying5 (S.ev rfl) c_4 (by rw [S.heap]; exact c_5)) rfl rfl trivial ?_
    clear S; intro aa S
    generalize (⟨bs.toArray⟩ : ByteArray) = s19 at H S
    refine OL.pure S (Lf.run_assign (S.ev rfl)) rfl rfl trivial ?_
    clear S; intro aa S
    refine OL.nil ?_
    refine W.ret ?_
    exact Ret.one S rfl rfl H
  · replace H := H.2 hb
    refine W.skip ?_
    exact ⟨((IntKind.u64.wrap ((n0_1 : Int).tdiv 10)), (IntKind.i64.wrap (i4 - 1)), h3), ⟨S.sub _ ⟨rfl, rfl, rfl, trivial⟩, H.1⟩, H.2⟩

/-- chattel num.Hex -/
def L47 (a0 : Int) (h : Heap) (R : Value → Heap → Prop) : Prop :=
  mkS 5 (Value.int .u8 0).cells 1 1 16 16 h fun s5 h1 =>
  ∃ (I : Int → Heap → Prop) (m : Int → Heap → Nat), I 0 h1 ∧ ∀ x8 h2, I x8 h2 →
  ifb (decide (x8 < ((s5.n : Nat) : Int))) (
    (0 ≤ (IntKind.i64.wrap (60 - (IntKind.i64.wrap (4 * x8))))) ∧
    cal Try.prog 49 #[Value.int .u8 (IntKind.u8.wrap (bitsI .and .u64 ((a0 : Int).fdiv (2 ^ (min ((IntKind.i64.wrap (60 - (IntKind.i64.wrap (4 * x8)))) : Int).toNat IntKind.u64.bits))) 15))] h2 fun u h3 => asI .u8 u fun x20 =>
    ixS s5 x8 fun q21 =>
    sto h3 (q21.add ((x8 : Int).toNat * 1)) (Value.int .u8 x20) fun h4 =>
    I (IntKind.i64.wrap (x8 + 1)) h4 ∧ m (IntKind.i64.wrap (x8 + 1)) h4 < m x8 h2) (
    cvT h2 s5 fun s24 =>
    R (Value.string s24) h2)

set_option maxRecDepth 100000 in

theorem F47 {a0 h : _} {R : Value → Heap → Prop} (H : L47 a0 h R) : CallsH Try.prog 47 #[Value.int .u64 a0] h R := by
  refine CallsH.enter (n := 25) Try.func47 rfl rfl rfl rfl ?_
  intro w0 aa ww S
  unfold L47 at H
  refine W.seq ?_
  replace S := S.sub [(0, Value.int .u64 a0)] ⟨rfl, trivial⟩
  refine W.region ?_
  refine OL.pure S (Lf.run_assign (S.ev rfl)) rfl rfl trivial ?_
  clear S; intro aa S
  refine OL.nil ?_
  refine W.seq ?_
  replace S := S.sub [(0, Value.int .u64 a0)] ⟨rfl, trivial⟩
  refine W.region ?_
  refine ol_mkS S H Try.underlying90 ti5 rfl rfl rfl trivial ?_
  clear S H aa; intro s5 aa ww h1 H S
  refine OL.pure S (Lf.run_assign (S.ev rfl)) rfl rfl trivial ?_
  clear S; intro aa S
  refine OL.nil ?_
  refine W.seq ?_
  refine W.seq ?_
  replace S := S.sub [(0, Value.int .u64 a0), (3, Value.slice s5.a s5.n s5.c)] ⟨rfl, rfl, trivial⟩
  refine W.region ?_
  refine OL.pure S (Lf.run_move (S.ev rfl)) rfl rfl trivial ?_
  clear S; intro aa S
  refine OL.pure S (Lf.run_lens (S.ev rfl) rfl Try.underlying90) rfl rfl trivial ?_
  clear S; intro aa S
  refine OL.pure S (Lf.run_move (S.ev rfl)) rfl rfl trivial ?_
  clear S; intro aa S
  refine OL.nil ?_
  refine W.block ?_
  obtain ⟨I, m, H, HB⟩ := H
  refine W.loopS (σ := Int × Heap) (fun s aa ww => St 25 [(0, Value.int .u64 a0), (3, Value.slice s5.a s5.n s5.c), (7, Value.int .i64 ((s5.n : Nat) : Int)), (8, Value.int .i64 s.1)] s.2 w0 aa ww ∧ I s.1 s.2) (fun s => m s.1 s.2) (0, h1) ⟨S.sub _ ⟨rfl, rfl, rfl, rfl, trivial⟩, H⟩ ?_
  clear H S aa
  rintro ⟨x8, h2⟩ aa ww ⟨S, HI⟩
  replace S : St 25 [(0, Value.int .u64 a0), (3, Value.slice s5.a s5.n s5.c), (7, Value.int .i64 ((s5.n : Nat) : Int)), (8, Value.int .i64 x8)] h2 w0 aa ww := S
  have H := HB x8 h2 HI
  clear HI
  refine W.seq ?_
  replace S := S.sub [(0, Value.int .u64 a0), (3, Value.slice s5.a s5.n s5.c), (7, Value.int .i64 ((s5.n : Nat) : Int)), (8, Value.int .i64 x8)] ⟨rfl, rfl, rfl, rfl, trivial⟩
  refine W.region ?_
  refine OL.pure S (Lf.run_lss (S.ev rfl) (S.ev rfl)) rfl rfl trivial ?_
  clear S; intro aa S
  refine OL.nil ?_
  refine W.seq ?_
  refine W.cond S (b := (decide (x8 < ((s5.n : Nat) : Int)))) rfl (fun hb => ?_) (fun hb => ?_)
  · replace H := H.1 hb
    refine W.skip ?_
    refine W.seq ?_
    refine W.block ?_
    refine W.seq ?_
    replace S := S.sub [(0, Value.int .u64 a0), (3, Value.slice s5.a s5.n s5.c), (7, Value.int .i64 ((s5.n : Nat) : Int)), (8, Value.int .i64 x8)] ⟨rfl, rfl, rfl, rfl, trivial⟩
    refine W.region ?_
    refine OL.pure S (Lf.run_move (S.ev rfl)) rfl rfl trivial ?_
    clear S; intro aa S
    refine OL.pure S (Lf.run_assign (S.ev rfl)) rfl rfl trivial ?_
    clear S; intro aa S
    refine OL.nil ?_
    replace S := S.sub [(0, Value.int .u64 a0), (3, Value.slice s5.a s5.n s5.c), (4, Value.int .i64 x8), (7, Value.int .i64 ((s5.n : Nat) : Int)), (8, Value.int .i64 x8)] ⟨rfl, rfl, rfl, rfl, rfl, trivial⟩
    refine W.region ?_
    refine OL.pure S (Lf.run_move (S.ev rfl)) rfl rfl trivial ?_
    clear S; intro aa S
    refine OL.pure S (Lf.run_move (S.ev rfl)) rfl rfl trivial ?_
    clear S; intro aa S
    refine OL.pure S (Lf.run_move (S.ev rfl)) rfl rfl trivial ?_
    clear S; intro aa S
    refine OL.pure S (Lf.run_move (S.ev rfl)) rfl rfl trivial ?_
    clear S; intro aa S
    refine OL.pure S (Lf.run_mul (S.ev rfl) (S.ev rfl)) rfl rfl trivial ?_
    clear S; intro aa S
    refine OL.pure S (Lf.run_sub (S.ev rfl) (S.ev rfl)) rfl rfl trivial ?_
    clear S; intro aa S
    obtain ⟨c, H⟩ := H
    refine OL.pure S (Lf.run_shr (S.ev rfl) (S.ev rfl) c) rfl rfl trivial ?_
    clear S; intro aa S
    refine OL.pure S (Lf.run_bits (op := .and) (by simp) (S.ev rfl) (S.ev rfl)) rfl rfl trivial ?_
    clear S; intro aa S
    refine OL.pure S (Lf.run_cvi Try.underlying57 Try.underlying5 (S.ev rfl)) rfl rfl trivial ?_
    clear S; intro aa S
    refine ol_cal S H isfn49 rfl rfl trivial ?_
    clear S H aa; intro u aa ww h3 H S
    obtain ⟨x20, rfl, H⟩ := H
    obtain ⟨q21, e, e_1, e_2, H⟩ := H
    refine OL.pure S (Lf.run_ixs (S.ev rfl) (S.ev rfl) Try.underlying90 ti5 e e_1 e_2) rfl rfl trivial ?_
    clear S; intro aa S
    refine ol_sto S H rfl rfl rfl ti5 trivial ?_
    clear S H aa; intro aa ww h4 H S
    refine OL.nil ?_
    replace S := S.sub [(0, Value.int .u64 a0), (3, Value.slice s5.a s5.n s5.c), (7, Value.int .i64 ((s5.n : Nat) : Int)), (8, Value.int .i64 x8)] ⟨rfl, rfl, rfl, rfl, trivial⟩
    refine W.region ?_
    refine OL.pure S (Lf.run_add (S.ev rfl) (S.ev rfl)) rfl rfl trivial ?_
    clear S; intro aa S
    refine OL.pure S (Lf.run_move (S.ev rfl)) rfl rfl trivial ?_
    clear S; intro aa S
    refine OL.nil ?_
    exact ⟨((IntKind.i64.wrap (x8 + 1)), h4), ⟨S.sub _ ⟨rfl, rfl, rfl, rfl, trivial⟩, H.1⟩, H.2⟩
  · replace H := H.2 hb
    refine W.exit_ ?_
    refine xhit ?_
    refine W.seq ?_
    replace S := S.sub [(3, Value.slice s5.a s5.n s5.c)] ⟨rfl, trivial⟩
    refine W.region ?_
    refine OL.pure S (Lf.run_move (S.ev rfl)) rfl rfl trivial ?_
    clear S; intro aa S
    obtain ⟨bs, c_1, c_2, H⟩ := H
    refine OL.pure S (Lf.run_cvT Try.underlying90 Try.underlying9 Try.underlying5 (S.ev rfl) c_1 (by rw [S.heap]; exact c_2)) rfl rfl trivial ?_
    clear S; intro aa S
    generalize (⟨bs.toArray⟩ : ByteArray) = s24 at H S
    refine OL.pure S (Lf.run_assign (S.ev rfl)) rfl rfl trivial ?_
    clear S; intro aa S
    refine OL.nil ?_
    refine W.ret ?_
    exact Ret.one S rfl rfl H

/-- slices.IndexFunc[[]chattel api.Operand,chattel api.Operand] -/
def L48 (s0 : Sv) (f1 : Value) (h : Heap) (R : Value → Heap → Prop) : Prop :=
  ∃ (I : Int → Heap → Prop) (m : Int → Heap → Nat), I 0 h ∧ ∀ x8 h1, I x8 h1 →
  ifb (decide (x8 < ((s0.n : Nat) : Int))) (
    ixS s0 x8 fun q14 =>
    ∃ (y15 : Int) (y15_1 : Int) (y15_2 : Sv) (y15_3 : Int) (y15_4 : Int), cl h1 (q14.add ((x8 : Int).toNat * 5)) = some (Value.int .i64 y15) ∧ cl h1 ((q14.add ((x8 : Int).toNat * 5)).add 1) = some (Value.int .i64 y15_1) ∧ cl h1 ((q14.add ((x8 : Int).toNat * 5)).add 2) = some (Value.slice y15_2.a y15_2.n y15_2.c) ∧ cl h1 ((q14.add ((x8 : Int).toNat * 5)).add 3) = some (Value.int .i64 y15_3) ∧ cl h1 ((q14.add ((x8 : Int).toNat * 5)).add 4) = some (Value.int .u64 y15_4) ∧
    calV Try.prog f1 #[Value.agg #[Value.int .i64 y15, Value.int .i64 y15_1, Value.slice y15_2.a y15_2.n y15_2.c, Value.int .i64 y15_3, Value.int .u64 y15_4]] h1 fun u h2 => asB u fun x16 =>
    ifb x16 (
      R (Value.int .i64 x8) h2) (
      I (IntKind.i64.wrap (x8 + 1)) h2 ∧ m (IntKind.i64.wrap (x8 + 1)) h2 < m x8 h1)) (
    R (Value.int .i64 (-1)) h1)

set_option maxRecDepth 100000 in

theorem F48 {s0 f1 h : _} {R : Value → Heap → Prop} (H : L48 s0 f1 h R) : CallsH Try.prog 48 #[Value.slice s0.a s0.n s0.c, f1] h R := by
  refine CallsH.enter (n := 19) Try.func48 rfl rfl rfl rfl ?_
  intro w0 aa ww S
  unfold L48 at H
  refine W.seq ?_
  replace S := S.sub [(0, Value.slice s0.a s0.n s0.c), (1, f1)] ⟨rfl, rfl, trivial⟩
  refine W.region ?_
  refine OL.pure S (Lf.run_assign (S.ev rfl)) rfl rfl trivial ?_
  clear S; intro aa S
  refine OL.nil ?_
  refine W.seq ?_
  refine W.seq ?_
  replace S := S.sub [(0, Value.slice s0.a s0.n s0.c), (1, f1)] ⟨rfl, rfl, trivial⟩
  refine W.region ?_
  refine OL.pure S (Lf.run_move (S.ev rfl)) rfl rfl trivial ?_
  clear S; intro aa S
  refine OL.pure S (Lf.run_lens (S.ev rfl) rfl Try.underlying54) rfl rfl trivial ?_
  clear S; intro aa S
  refine OL.pure S (Lf.run_move (S.ev rfl)) rfl rfl trivial ?_
  clear S; intro aa S
  refine OL.nil ?_
  refine W.block ?_
  obtain ⟨I, m, H, HB⟩ := H
  refine W.loopS (σ := Int × Heap) (fun s aa ww => St 19 [(0, Value.slice s0.a s0.n s0.c), (1, f1), (7, Value.int .i64 ((s0.n : Nat) : Int)), (8, Value.int .i64 s.1)] s.2 w0 aa ww ∧ I s.1 s.2) (fun s => m s.1 s.2) (0, h) ⟨S.sub _ ⟨rfl, rfl, rfl, rfl, trivial⟩, H⟩ ?_
  clear H S aa
  rintro ⟨x8, h1⟩ aa ww ⟨S, HI⟩
  replace S : St 19 [(0, Value.slice s0.a s0.n s0.c), (1, f1), (7, Value.int .i64 ((s0.n : Nat) : Int)), (8, Value.int .i64 x8)] h1 w0 aa ww := S
  have H := HB x8 h1 HI
  clear HI
  refine W.seq ?_
  replace S := S.sub [(0, Value.slice s0.a s0.n s0.c), (1, f1), (7, Value.int .i64 ((s0.n : Nat) : Int)), (8, Value.int .i64 x8)] ⟨rfl, rfl, rfl, rfl, trivial⟩
  refine W.region ?_
  refine OL.pure S (Lf.run_lss (S.ev rfl) (S.ev rfl)) rfl rfl trivial ?_
  clear S; intro aa S
  refine OL.nil ?_
  refine W.seq ?_
  refine W.cond S (b := (decide (x8 < ((s0.n : Nat) : Int)))) rfl (fun hb => ?_) (fun hb => ?_)
  · replace H := H.1 hb
    refine W.skip ?_
    refine W.seq ?_
    refine W.block ?_
    refine W.seq ?_
    replace S := S.sub [(0, Value.slice s0.a s0.n s0.c), (1, f1), (7, Value.int .i64 ((s0.n : Nat) : Int)), (8, Value.int .i64 x8)] ⟨rfl, rfl, rfl, rfl, trivial⟩
    refine W.region ?_
    refine OL.pure S (Lf.run_move (S.ev rfl)) rfl rfl trivial ?_
    clear S; intro aa S
    refine OL.pure S (Lf.run_assign (S.ev rfl)) rfl rfl trivial ?_
    clear S; intro aa S
    refine OL.nil ?_
    refine W.seq ?_
    replace S := S.sub [(0, Value.slice s0.a s0.n s0.c), (1, f1), (5, Value.int .i64 x8), (7, Value.int .i64 ((s0.n : Nat) : Int)), (8, Value.int .i64 x8)] ⟨rfl, rfl, rfl, rfl, rfl, trivial⟩
    refine W.region ?_
    refine OL.pure S (Lf.run_move (S.ev rfl)) rfl rfl trivial ?_
    clear S; intro aa S
    refine OL.pure S (Lf.run_move (S.ev rfl)) rfl rfl trivial ?_
    clear S; intro aa S
    refine OL.pure S (Lf.run_move (S.ev rfl)) rfl rfl trivial ?_
    clear S; intro aa S
    obtain ⟨q14, e, e_1, e_2, H⟩ := H
    refine OL.pure S (Lf.run_ixs (S.ev rfl) (S.ev rfl) Try.underlying54 ti59 e e_1 e_2) rfl rfl trivial ?_
    clear S; intro aa S
    obtain ⟨y15, y15_1, y15_2, y15_3, y15_4, c_1, c_2, c_3, c_4, c_5, H⟩ := H
    refine OL.pure S (Lf.run_ldA (cs := [Value.int .i64 y15, Value.int .i64 y15_1, Value.slice y15_2.a y15_2.n y15_2.c, Value.int .i64 y15_3, Value.int .u64 y15_4]) (S.ev rfl) ag59 ti59 (by rw [S.heap]; exact RowL.toRow ⟨c_1, c_2, c_3, c_4, c_5, trivial⟩)) rfl rfl trivial ?_
    clear S; intro aa S
    refine ol_calV S H rfl rfl rfl trivial ?_
    clear S H aa; intro u aa ww h2 H S
    obtain ⟨x16, rfl, H⟩ := H
    refine OL.nil ?_
    refine W.cond S (b := x16) rfl (fun hb_1 => ?_) (fun hb_1 => ?_)
    · replace H := H.1 hb_1
      refine W.seq ?_
      replace S := S.sub [(5, Value.int .i64 x8)] ⟨rfl, trivial⟩
      refine W.region ?_
      refine OL.pure S (Lf.run_move (S.ev rfl)) rfl rfl trivial ?_
      clear S; intro aa S
      refine OL.pure S (Lf.run_assign (S.ev rfl)) rfl rfl trivial ?_
      clear S; intro aa S
      refine OL.nil ?_
      refine W.ret ?_
      exact Ret.one S rfl rfl H
    · replace H := H.2 hb_1
      refine W.skip ?_
      replace S := S.sub [(0, Value.slice s0.a s0.n s0.c), (1, f1), (7, Value.int .i64 ((s0.n : Nat) : Int)), (8, Value.int .i64 x8)] ⟨rfl, rfl, rfl, rfl, trivial⟩
      refine W.region ?_
      refine OL.pure S (Lf.run_add (S.ev rfl) (S.ev rfl)) rfl rfl trivial ?_
      clear S; intro aa S
      refine OL.pure S (Lf.run_move (S.ev rfl)) rfl rfl trivial ?_
      clear S; intro aa S
      refine OL.nil ?_
      exact ⟨((IntKind.i64.wrap (x8 + 1)), h2), ⟨S.sub _ ⟨rfl, rfl, rfl, rfl, trivial⟩, H.1⟩, H.2⟩
  · replace H := H.2 hb
    refine W.exit_ ?_
    refine xhit ?_
    refine W.seq ?_
    replace S := S.sub [] trivial
    refine W.region ?_
    refine OL.pure S (Lf.run_assign (S.ev rfl)) rfl rfl trivial ?_
    clear S; intro aa S
    refine OL.nil ?_
    refine W.ret ?_
    exact Ret.one S rfl rfl H

/-- chattel num.digit -/
def L49 (c0 : Int) (h : Heap) (R : Value → Heap → Prop) : Prop :=
  ifb (decide (c0 < 10)) (
    R (Value.int .u8 (IntKind.u8.wrap (48 + c0))) h) (
    R (Value.int .u8 (IntKind.u8.wrap ((IntKind.u8.wrap (97 + c0)) - 10))) h)

set_option maxRecDepth 100000 in

theorem F49 {c0 h : _} {R : Value → Heap → Prop} (H : L49 c0 h R) : CallsH Try.prog 49 #[Value.int .u8 c0] h R := by
  refine CallsH.enter (n := 10) Try.func49 rfl rfl rfl rfl ?_
  intro w0 aa ww S
  unfold L49 at H
  refine W.seq ?_
  replace S := S.sub [(0, Value.int .u8 c0)] ⟨rfl, trivial⟩
  refine W.region ?_
  refine OL.pure S (Lf.run_assign (S.ev rfl)) rfl rfl trivial ?_
  clear S; intro aa S
  refine OL.nil ?_
  refine W.seq ?_
  refine W.seq ?_
  replace S := S.sub [(0, Value.int .u8 c0)] ⟨rfl, trivial⟩
  refine W.region ?_
  refine OL.pure S (Lf.run_move (S.ev rfl)) rfl rfl trivial ?_
  clear S; intro aa S
  refine OL.pure S (Lf.run_lss (S.ev rfl) (S.ev rfl)) rfl rfl trivial ?_
  clear S; intro aa S
  refine OL.nil ?_
  refine W.cond S (b := (decide (c0 < 10))) rfl (fun hb => ?_) (fun hb => ?_)
  · replace H := H.1 hb
    refine W.seq ?_
    replace S := S.sub [(0, Value.int .u8 c0)] ⟨rfl, trivial⟩
    refine W.region ?_
    refine OL.pure S (Lf.run_move (S.ev rfl)) rfl rfl trivial ?_
    clear S; intro aa S
    refine OL.pure S (Lf.run_add (S.ev rfl) (S.ev rfl)) rfl rfl trivial ?_
    clear S; intro aa S
    refine OL.pure S (Lf.run_assign (S.ev rfl)) rfl rfl trivial ?_
    clear S; intro aa S
    refine OL.nil ?_
    refine W.ret ?_
    exact Ret.one S rfl rfl H
  · replace H := H.2 hb
    refine W.skip ?_
    refine W.seq ?_
    replace S := S.sub [(0, Value.int .u8 c0)] ⟨rfl, trivial⟩
    refine W.region ?_
    refine OL.pure S (Lf.run_move (S.ev rfl)) rfl rfl trivial ?_
    clear S; intro aa S
    refine OL.pure S (Lf.run_add (S.ev rfl) (S.ev rfl)) rfl rfl trivial ?_
    clear S; intro aa S
    refine OL.pure S (Lf.run_sub (S.ev rfl) (S.ev rfl)) rfl rfl trivial ?_
    clear S; intro aa S
    refine OL.pure S (Lf.run_assign (S.ev rfl)) rfl rfl trivial ?_
    clear S; intro aa S
    refine OL.nil ?_
    refine W.ret ?_
    exact Ret.one S rfl rfl H

end Go.Proofs.Ytifjmbbnpkgmaaa

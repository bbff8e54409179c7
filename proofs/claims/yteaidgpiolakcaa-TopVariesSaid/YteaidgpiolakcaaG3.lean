/- Lifted by program off the elaborated code: each Go function, read as a proposition over typed variables and the heap. -/
import Derived.Test.YteaidgpiolakcaaG0
import Derived.Test.YteaidgpiolakcaaLiftY
namespace Go.Proofs.Yteaidgpiolakcaa
open Go Go.Lf
set_option linter.unusedVariables false
set_option maxRecDepth 100000

/-- (*chattel vary.finder).slots -/
def L29 (f0 : Option Addr) (x1 : Int) (x1_1 : ByteArray) (x1_2 : Bool) (x1_3 : Int) (x1_4 : Sv) (x1_5 : Sv) (way2 : Int) (h : Heap) (R : Value → Heap → Prop) : Prop :=
  new 32 #[Value.int .i64 x1, Value.string x1_1, Value.bool x1_2, Value.int .i64 x1_3, Value.slice x1_4.a x1_4.n x1_4.c, Value.slice x1_5.a x1_5.n x1_5.c] h fun p4 h1 =>
  ldS h1 (p4.add 4) fun x11 =>
  ∃ (I : Int → Heap → Prop) (m : Int → Heap → Nat), I 0 h1 ∧ ∀ x13 h2, I x13 h2 →
  ifb (decide (x13 < ((x11.n : Nat) : Int))) (
    ixS x11 x13 fun q16 =>
    ldI .i64 h2 (q16.add ((x13 : Int).toNat * 1)) fun x17 =>
    nn f0 fun p22 =>
    ldM h2 (p22.add 4) fun x24 =>
    ldT h2 (p4.add 1) fun x26 =>
    cal Try.prog 27 #[Value.map x24, Value.string x26, Value.int .i64 x13] h2 fun u h3 => asI .i64 u fun x28 =>
    cal Try.prog 26 #[Value.int .i64 way2, Value.int .i64 x28] h3 fun u_1 h4 => asI .i64 u_1 fun x29 =>
    cal Try.prog 28 #[Value.pointer f0, Value.int .i64 x17, Value.int .i64 x29] h4 fun u_2 h5 =>
    I (IntKind.i64.wrap (x13 + 1)) h5 ∧ m (IntKind.i64.wrap (x13 + 1)) h5 < m x13 h2) (
    ldS h2 (p4.add 5) fun x33 =>
    ∃ (I_1 : Int → Heap → Prop) (m_1 : Int → Heap → Nat), I_1 0 h2 ∧ ∀ x35 h6, I_1 x35 h6 →
    ifb (decide (x35 < ((x33.n : Nat) : Int))) (
      ixS x33 x35 fun q38 =>
      ∃ (y39 : Int) (y39_1 : ByteArray) (y39_2 : Bool) (y39_3 : Int) (y39_4 : Sv) (y39_5 : Sv), cl h6 (q38.add ((x35 : Int).toNat * 6)) = some (Value.int .i64 y39) ∧ cl h6 ((q38.add ((x35 : Int).toNat * 6)).add 1) = some (Value.string y39_1) ∧ cl h6 ((q38.add ((x35 : Int).toNat * 6)).add 2) = some (Value.bool y39_2) ∧ cl h6 ((q38.add ((x35 : Int).toNat * 6)).add 3) = some (Value.int .i64 y39_3) ∧ cl h6 ((q38.add ((x35 : Int).toNat * 6)).add 4) = some (Value.slice y39_4.a y39_4.n y39_4.c) ∧ cl h6 ((q38.add ((x35 : Int).toNat * 6)).add 5) = some (Value.slice y39_5.a y39_5.n y39_5.c) ∧
      new 32 #[Value.int .i64 0, Value.string (⟨#[]⟩ : ByteArray), Value.bool false, Value.int .i64 0, Value.slice (⟨none, 0, 0⟩ : Sv).a (⟨none, 0, 0⟩ : Sv).n (⟨none, 0, 0⟩ : Sv).c, Value.slice (⟨none, 0, 0⟩ : Sv).a (⟨none, 0, 0⟩ : Sv).n (⟨none, 0, 0⟩ : Sv).c] h6 fun p9 h7 =>
      stoA h7 p9 [Value.int .i64 y39, Value.string y39_1, Value.bool y39_2, Value.int .i64 y39_3, Value.slice y39_4.a y39_4.n y39_4.c, Value.slice y39_5.a y39_5.n y39_5.c] fun h8 =>
      ∃ Sq : Heap → Prop, Sq h8 ∧ (
        nn f0 fun p44 =>
        ldS h8 (p4.add 4) fun x50 =>
        ldM h8 (p44.add 4) fun x46 =>
        ldT h8 (p4.add 1) fun x48 =>
        ∃ (y41 : Int) (y41_1 : ByteArray) (y41_2 : Bool) (y41_3 : Int) (y41_4 : Sv) (y41_5 : Sv), hld Sq p9 (Value.int .i64 y41) ∧ hld Sq (p9.add 1) (Value.string y41_1) ∧ hld Sq (p9.add 2) (Value.bool y41_2) ∧ hld Sq (p9.add 3) (Value.int .i64 y41_3) ∧ hld Sq (p9.add 4) (Value.slice y41_4.a y41_4.n y41_4.c) ∧ hld Sq (p9.add 5) (Value.slice y41_5.a y41_5.n y41_5.c) ∧
        cal Try.prog 27 #[Value.map x46, Value.string x48, Value.int .i64 (IntKind.i64.wrap (((x50.n : Nat) : Int) + x35))] h8 fun u_3 h9 => asI .i64 u_3 fun x54 =>
        Sq h9 ∧
        cal Try.prog 26 #[Value.int .i64 way2, Value.int .i64 x54] h9 fun u_4 h10 => asI .i64 u_4 fun x55 =>
        Sq h10 ∧
        cal Try.prog 23 #[Value.pointer f0, Value.agg #[Value.int .i64 y41, Value.string y41_1, Value.bool y41_2, Value.int .i64 y41_3, Value.slice y41_4.a y41_4.n y41_4.c, Value.slice y41_5.a y41_5.n y41_5.c], Value.int .i64 x55] h10 fun u_5 h11 =>
        I_1 (IntKind.i64.wrap (x35 + 1)) h11 ∧ m_1 (IntKind.i64.wrap (x35 + 1)) h11 < m_1 x35 h6)) (
      R (.tuple #[]) h6))

set_option maxRecDepth 100000 in

theorem F29 {f0 x1 x1_1 x1_2 x1_3 x1_4 x1_5 way2 h : _} {R : Value → Heap → Prop} (H : L29 f0 x1 x1_1 x1_2 x1_3 x1_4 x1_5 way2 h R) : CallsH Try.prog 29 #[Value.pointer f0, Value.agg #[Value.int .i64 x1, Value.string x1_1, Value.bool x1_2, Value.int .i64 x1_3, Value.slice x1_4.a x1_4.n x1_4.c, Value.slice x1_5.a x1_5.n x1_5.c], Value.int .i64 way2] h R := by
  refine CallsH.enter (n := 58) Try.func29 rfl rfl rfl rfl ?_
  intro w0 aa ww S
  unfold L29 at H
  refine W.seq ?_
  replace S := S.sub [(0, Value.pointer f0), (1, Value.agg #[Value.int .i64 x1, Value.string x1_1, Value.bool x1_2, Value.int .i64 x1_3, Value.slice x1_4.a x1_4.n x1_4.c, Value.slice x1_5.a x1_5.n x1_5.c]), (2, Value.int .i64 way2)] ⟨rfl, rfl, rfl, trivial⟩
  refine W.region ?_
  refine ol_box S H rfl rfl rfl trivial ?_
  clear S H aa; intro p4 aa ww h1 H S
  refine OL.nil ?_
  refine W.seq ?_
  refine W.seq ?_
  replace S := S.sub [(0, Value.pointer f0), (2, Value.int .i64 way2), (4, Value.pointer (some p4))] ⟨rfl, rfl, rfl, trivial⟩
  refine W.region ?_
  refine OL.pure S (Lf.run_fa (S.ev rfl) fa32_4) rfl rfl trivial ?_
  clear S; intro aa S
  obtain ⟨x11, c, H⟩ := H
  refine OL.pure S (Lf.run_ld (S.ev rfl) fl30 (S.cl c)) rfl rfl trivial ?_
  clear S; intro aa S
  refine OL.pure S (Lf.run_lens (S.ev rfl) rfl Try.underlying30) rfl rfl trivial ?_
  clear S; intro aa S
  refine OL.pure S (Lf.run_move (S.ev rfl)) rfl rfl trivial ?_
  clear S; intro aa S
  refine OL.nil ?_
  refine W.block ?_
  obtain ⟨I, m, H, HB_1⟩ := H
  refine W.loopS (σ := Int × Heap) (fun s aa ww => St 58 [(0, Value.pointer f0), (2, Value.int .i64 way2), (4, Value.pointer (some p4)), (11, Value.slice x11.a x11.n x11.c), (12, Value.int .i64 ((x11.n : Nat) : Int)), (13, Value.int .i64 s.1)] s.2 w0 aa ww ∧ I s.1 s.2) (fun s => m s.1 s.2) (0, h1) ⟨S.sub _ ⟨rfl, rfl, rfl, rfl, rfl, rfl, trivial⟩, H⟩ ?_
  clear H S aa
  rintro ⟨x13, h2⟩ aa ww ⟨S, HI⟩
  replace S : St 58 [(0, Value.pointer f0), (2, Value.int .i64 way2), (4, Value.pointer (some p4)), (11, Value.slice x11.a x11.n x11.c), (12, Value.int .i64 ((x11.n : Nat) : Int)), (13, Value.int .i64 x13)] h2 w0 aa ww := S
  have H := HB_1 x13 h2 HI
  clear HI
  refine W.seq ?_
  replace S := S.sub [(0, Value.pointer f0), (2, Value.int .i64 way2), (4, Value.pointer (some p4)), (11, Value.slice x11.a x11.n x11.c), (12, Value.int .i64 ((x11.n : Nat) : Int)), (13, Value.int .i64 x13)] ⟨rfl, rfl, rfl, rfl, rfl, rfl, trivial⟩
  refine W.region ?_
  refine OL.pure S (Lf.run_lss (S.ev rfl) (S.ev rfl)) rfl rfl trivial ?_
  clear S; intro aa S
  refine OL.nil ?_
  refine W.seq ?_
  refine W.cond S (b := (decide (x13 < ((x11.n : Nat) : Int)))) rfl (fun hb => ?_) (fun hb => ?_)
  · replace H := H.1 hb
    refine W.skip ?_
    refine W.seq ?_
    refine W.block ?_
    refine W.seq ?_
    replace S := S.sub [(0, Value.pointer f0), (2, Value.int .i64 way2), (4, Value.pointer (some p4)), (11, Value.slice x11.a x11.n x11.c), (12, Value.int .i64 ((x11.n : Nat) : Int)), (13, Value.int .i64 x13)] ⟨rfl, rfl, rfl, rfl, rfl, rfl, trivial⟩
    refine W.region ?_
    refine OL.pure S (Lf.run_move (S.ev rfl)) rfl rfl trivial ?_
    clear S; intro aa S
    obtain ⟨q16, e, e_1, e_2, H⟩ := H
    refine OL.pure S (Lf.run_ixs (S.ev rfl) (S.ev rfl) Try.underlying30 ti3 e e_1 e_2) rfl rfl trivial ?_
    clear S; intro aa S
    obtain ⟨x17, c_1, H⟩ := H
    refine OL.pure S (Lf.run_ld (S.ev rfl) fl3 (S.cl c_1)) rfl rfl trivial ?_
    clear S; intro aa S
    refine OL.pure S (Lf.run_assign (S.ev rfl)) rfl rfl trivial ?_
    clear S; intro aa S
    refine OL.pure S (Lf.run_assign (S.ev rfl)) rfl rfl trivial ?_
    clear S; intro aa S
    refine OL.nil ?_
    replace S := S.sub [(0, Value.pointer f0), (2, Value.int .i64 way2), (4, Value.pointer (some p4)), (6, Value.int .i64 x13), (7, Value.int .i64 x17), (11, Value.slice x11.a x11.n x11.c), (12, Value.int .i64 ((x11.n : Nat) : Int)), (13, Value.int .i64 x13)] ⟨rfl, rfl, rfl, rfl, rfl, rfl, rfl, rfl, trivial⟩
    refine W.regionD S (by kernel_rfl) ?_
    clear S; intro ww S
    refine AN.pure 0 S rfl (by kernel_rfl) (fun _ => Lf.run_move (S.ev rfl)) rfl rfl trivial ?_
    clear S; intro aa S
    refine AN.pure 1 S rfl (by kernel_rfl) (fun _ => Lf.run_move (S.ev rfl)) rfl rfl trivial ?_
    clear S; intro aa S
    refine AN.pure 2 S rfl (by kernel_rfl) (fun _ => Lf.run_move (S.ev rfl)) rfl rfl trivial ?_
    clear S; intro aa S
    refine AN.pure 3 S rfl (by kernel_rfl) (fun _ => Lf.run_move (S.ev rfl)) rfl rfl trivial ?_
    clear S; intro aa S
    obtain ⟨p22, e_3, H⟩ := H
    refine AN.pure 4 S rfl (by kernel_rfl) (fun _ => Lf.run_nc' (S.ev rfl) e_3) rfl rfl trivial ?_
    clear S; intro aa S
    refine AN.pure 5 S rfl (by kernel_rfl) (fun _ => Lf.run_fa (S.ev rfl) fa66_1) rfl rfl trivial ?_
    clear S; intro aa S
    obtain ⟨x24, c_2, H⟩ := H
    refine AN.load 6 S rfl (by kernel_rfl) (fun _ hx => Lf.run_ld (S.ev rfl) fl37 (hx.cell _ _ (S.cl c_2))) rfl rfl trivial ?_
    clear S; intro aa S
    refine AN.pure 7 S rfl (by kernel_rfl) (fun _ => Lf.run_fa (S.ev rfl) fa32_1) rfl rfl trivial ?_
    clear S; intro aa S
    obtain ⟨x26, c_3, H⟩ := H
    refine AN.load 8 S rfl (by kernel_rfl) (fun _ hx => Lf.run_ld (S.ev rfl) fl9 (hx.cell _ _ (S.cl c_3))) rfl rfl trivial ?_
    clear S; intro aa S
    refine AN.pure 9 S rfl (by kernel_rfl) (fun _ => Lf.run_move (S.ev rfl)) rfl rfl trivial ?_
    clear S; intro aa S
    refine AN.eff 10 rfl (by kernel_rfl) ?_
    refine ol_cal S H isfn27 rfl rfl trivial ?_
    clear S H aa; intro u aa ww h3 H S
    obtain ⟨x28, rfl, H⟩ := H
    refine OL.nil ?_
    refine AN.eff 11 rfl (by kernel_rfl) ?_
    refine ol_cal S H isfn26 rfl rfl trivial ?_
    clear S H aa; intro u_1 aa ww h4 H S
    obtain ⟨x29, rfl, H⟩ := H
    refine OL.nil ?_
    refine AN.eff 12 rfl (by kernel_rfl) ?_
    refine ol_cal S H isfn28 rfl rfl trivial ?_
    clear S H aa; intro u_2 aa ww h5 H S
    refine OL.nil ?_
    refine AN.done (by kernel_rfl) ?_
    replace S := S.sub [(0, Value.pointer f0), (2, Value.int .i64 way2), (4, Value.pointer (some p4)), (11, Value.slice x11.a x11.n x11.c), (12, Value.int .i64 ((x11.n : Nat) : Int)), (13, Value.int .i64 x13)] ⟨rfl, rfl, rfl, rfl, rfl, rfl, trivial⟩
    refine W.region ?_
    refine OL.pure S (Lf.run_add (S.ev rfl) (S.ev rfl)) rfl rfl trivial ?_
    clear S; intro aa S
    refine OL.pure S (Lf.run_move (S.ev rfl)) rfl rfl trivial ?_
    clear S; intro aa S
    refine OL.nil ?_
    exact ⟨((IntKind.i64.wrap (x13 + 1)), h5), ⟨S.sub _ ⟨rfl, rfl, rfl, rfl, rfl, rfl, trivial⟩, H.1⟩, H.2⟩
  · replace H := H.2 hb
    refine W.exit_ ?_
    refine xhit ?_
    refine W.seq ?_
    replace S := S.sub [(0, Value.pointer f0), (2, Value.int .i64 way2), (4, Value.pointer (some p4))] ⟨rfl, rfl, rfl, trivial⟩
    refine W.region ?_
    refine OL.pure S (Lf.run_fa (S.ev rfl) fa32_5) rfl rfl trivial ?_
    clear S; intro aa S
    obtain ⟨x33, c_4, H⟩ := H
    refine OL.pure S (Lf.run_ld (S.ev rfl) fl22 (S.cl c_4)) rfl rfl trivial ?_
    clear S; intro aa S
    refine OL.pure S (Lf.run_lens (S.ev rfl) rfl Try.underlying22) rfl rfl trivial ?_
    clear S; intro aa S
    refine OL.pure S (Lf.run_move (S.ev rfl)) rfl rfl trivial ?_
    clear S; intro aa S
    refine OL.nil ?_
    refine W.block ?_
    obtain ⟨I_1, m_1, H, HB⟩ := H
    refine W.loopS (σ := Int × Heap) (fun s aa ww => St 58 [(0, Value.pointer f0), (2, Value.int .i64 way2), (4, Value.pointer (some p4)), (33, Value.slice x33.a x33.n x33.c), (34, Value.int .i64 ((x33.n : Nat) : Int)), (35, Value.int .i64 s.1)] s.2 w0 aa ww ∧ I_1 s.1 s.2) (fun s => m_1 s.1 s.2) (0, h2) ⟨S.sub _ ⟨rfl, rfl, rfl, rfl, rfl, rfl, trivial⟩, H⟩ ?_
    clear H S aa
    rintro ⟨x35, h6⟩ aa ww ⟨S, HI⟩
    replace S : St 58 [(0, Value.pointer f0), (2, Value.int .i64 way2), (4, Value.pointer (some p4)), (33, Value.slice x33.a x33.n x33.c), (34, Value.int .i64 ((x33.n : Nat) : Int)), (35, Value.int .i64 x35)] h6 w0 aa ww := S
    have H := HB x35 h6 HI
    clear HI
    refine W.seq ?_
    replace S := S.sub [(0, Value.pointer f0), (2, Value.int .i64 way2), (4, Value.pointer (some p4)), (33, Value.slice x33.a x33.n x33.c), (34, Value.int .i64 ((x33.n : Nat) : Int)), (35, Value.int .i64 x35)] ⟨rfl, rfl, rfl, rfl, rfl, rfl, trivial⟩
    refine W.region ?_
    refine OL.pure S (Lf.run_lss (S.ev rfl) (S.ev rfl)) rfl rfl trivial ?_
    clear S; intro aa S
    refine OL.nil ?_
    refine W.seq ?_
    refine W.cond S (b := (decide (x35 < ((x33.n : Nat) : Int)))) rfl (fun hb_1 => ?_) (fun hb_1 => ?_)
    · replace H := H.1 hb_1
      refine W.skip ?_
      refine W.seq ?_
      refine W.block ?_
      refine W.seq ?_
      replace S := S.sub [(0, Value.pointer f0), (2, Value.int .i64 way2), (4, Value.pointer (some p4)), (33, Value.slice x33.a x33.n x33.c), (34, Value.int .i64 ((x33.n : Nat) : Int)), (35, Value.int .i64 x35)] ⟨rfl, rfl, rfl, rfl, rfl, rfl, trivial⟩
      refine W.region ?_
      refine OL.pure S (Lf.run_move (S.ev rfl)) rfl rfl trivial ?_
      clear S; intro aa S
      obtain ⟨q38, e_4, e_5, e_6, H⟩ := H
      refine OL.pure S (Lf.run_ixs (S.ev rfl) (S.ev rfl) Try.underlying22 ti32 e_4 e_5 e_6) rfl rfl trivial ?_
      clear S; intro aa S
      obtain ⟨y39, y39_1, y39_2, y39_3, y39_4, y39_5, c_16, c_17, c_18, c_19, c_20, c_21, H⟩ := H
      refine OL.pure S (Lf.run_ldA (cs := [Value.int .i64 y39, Value.string y39_1, Value.bool y39_2, Value.int .i64 y39_3, Value.slice y39_4.a y39_4.n y39_4.c, Value.slice y39_5.a y39_5.n y39_5.c]) (S.ev rfl) ag32 ti32 (by rw [S.heap]; exact RowL.toRow ⟨c_16, c_17, c_18, c_19, c_20, c_21, trivial⟩)) rfl rfl trivial ?_
      clear S; intro aa S
      refine ol_alloc S H ti32 rfl rfl trivial ?_
      clear S H aa; intro p9 aa ww h7 H S
      refine OL.pure S (Lf.run_assign (S.ev rfl)) rfl rfl trivial ?_
      clear S; intro aa S
      refine ol_stoA S H rfl rfl ti32 trivial ?_
      clear S H aa; intro aa ww h8 H S
      refine OL.nil ?_
      replace S := S.sub [(0, Value.pointer f0), (2, Value.int .i64 way2), (4, Value.pointer (some p4)), (8, Value.int .i64 x35), (9, Value.pointer (some p9)), (33, Value.slice x33.a x33.n x33.c), (34, Value.int .i64 ((x33.n : Nat) : Int)), (35, Value.int .i64 x35)] ⟨rfl, rfl, rfl, rfl, rfl, rfl, rfl, rfl, trivial⟩
      obtain ⟨Sq, HS, H⟩ := H
      refine W.regionN [1] [14, 15, 16] Sq S (by kernel_rfl) ?_
      clear S; intro ww S
      refine BN.pure 0 S (fun _ => HS) rfl (by kernel_rfl) (by kernel_rfl) (fun _ => Lf.run_move (S.ev rfl)) rfl rfl trivial ?_
      clear S; intro aa S
      refine BN.pure 2 S (fun _ => HS) rfl (by kernel_rfl) (by kernel_rfl) (fun _ => Lf.run_move (S.ev rfl)) rfl rfl trivial ?_
      clear S; intro aa S
      refine BN.pure 3 S (fun _ => HS) rfl (by kernel_rfl) (by kernel_rfl) (fun _ => Lf.run_move (S.ev rfl)) rfl rfl trivial ?_
      clear S; intro aa S
      obtain ⟨p44, e_7, H⟩ := H
      refine BN.pure 4 S (fun _ => HS) rfl (by kernel_rfl) (by kernel_rfl) (fun _ => Lf.run_nc' (S.ev rfl) e_7) rfl rfl trivial ?_
      clear S; intro aa S
      refine BN.pure 5 S (fun _ => HS) rfl (by kernel_rfl) (by kernel_rfl) (fun _ => Lf.run_fa (S.ev rfl) fa66_1) rfl rfl trivial ?_
      clear S; intro aa S
      refine BN.pure 7 S (fun _ => HS) rfl (by kernel_rfl) (by kernel_rfl) (fun _ => Lf.run_fa (S.ev rfl) fa32_1) rfl rfl trivial ?_
      clear S; intro aa S
      refine BN.pure 9 S (fun _ => HS) rfl (by kernel_rfl) (by kernel_rfl) (fun _ => Lf.run_fa (S.ev rfl) fa32_4) rfl rfl trivial ?_
      clear S; intro aa S
      obtain ⟨x50, c_6, H⟩ := H
      refine BN.load 10 S (fun _ => HS) rfl (by kernel_rfl) (by kernel_rfl) (fun _ hx => Lf.run_ld (S.ev rfl) fl30 (hx.cell _ _ (S.cl c_6))) rfl rfl trivial ?_
      clear S; intro aa S
      refine BN.pure 11 S (fun _ => HS) rfl (by kernel_rfl) (by kernel_rfl) (fun _ => Lf.run_lens (S.ev rfl) rfl Try.underlying30) rfl rfl trivial ?_
      clear S; intro aa S
      obtain ⟨x46, c_7, H⟩ := H
      refine BN.load 6 S (fun _ => HS) rfl (by kernel_rfl) (by kernel_rfl) (fun _ hx => Lf.run_ld (S.ev rfl) fl37 (hx.cell _ _ (S.cl c_7))) rfl rfl trivial ?_
      clear S; intro aa S
      obtain ⟨x48, c_8, H⟩ := H
      refine BN.load 8 S (fun _ => HS) rfl (by kernel_rfl) (by kernel_rfl) (fun _ hx => Lf.run_ld (S.ev rfl) fl9 (hx.cell _ _ (S.cl c_8))) rfl rfl trivial ?_
      clear S; intro aa S
      refine BN.pure 12 S (fun _ => HS) rfl (by kernel_rfl) (by kernel_rfl) (fun _ => Lf.run_move (S.ev rfl)) rfl rfl trivial ?_
      clear S; intro aa S
      refine BN.pure 13 S (fun _ => HS) rfl (by kernel_rfl) (by kernel_rfl) (fun _ => Lf.run_add (S.ev rfl) (S.ev rfl)) rfl rfl trivial ?_
      clear S; intro aa S
      obtain ⟨y41, y41_1, y41_2, y41_3, y41_4, y41_5, c_10, c_11, c_12, c_13, c_14, c_15, H⟩ := H
      refine BN.held 1 S HS rfl (by kernel_rfl) (fun _ hq => Lf.run_ldA (cs := [Value.int .i64 y41, Value.string y41_1, Value.bool y41_2, Value.int .i64 y41_3, Value.slice y41_4.a y41_4.n y41_4.c, Value.slice y41_5.a y41_5.n y41_5.c]) (S.ev rfl) ag32 ti32 (hlRow hq fun h_ hs_ => ⟨c_10 h_ hs_, c_11 h_ hs_, c_12 h_ hs_, c_13 h_ hs_, c_14 h_ hs_, c_15 h_ hs_, trivial⟩)) rfl rfl trivial ?_
      clear S; intro aa S
      refine BN.eff 14 rfl (by kernel_rfl) ?_
      refine ol_cal S H isfn27 rfl rfl trivial ?_
      clear S H aa; intro u_3 aa ww h9 H S
      obtain ⟨x54, rfl, H⟩ := H
      refine OL.nil ?_
      clear HS; obtain ⟨HS, H⟩ := H
      refine ⟨fun _ => by rw [S.heap]; exact HS, ?_⟩
      refine BN.eff 15 rfl (by kernel_rfl) ?_
      refine ol_cal S H isfn26 rfl rfl trivial ?_
      clear S H aa; intro u_4 aa ww h10 H S
      obtain ⟨x55, rfl, H⟩ := H
      refine OL.nil ?_
      clear HS; obtain ⟨HS, H⟩ := H
      refine ⟨fun _ => by rw [S.heap]; exact HS, ?_⟩
      refine BN.eff 16 rfl (by kernel_rfl) ?_
      refine ol_cal S H isfn23 rfl rfl trivial ?_
      clear S H aa; intro u_5 aa ww h11 H S
      refine OL.nil ?_
      refine ⟨noNeed (by kernel_rfl), ?_⟩
      refine BN.done (by kernel_rfl) ?_
      replace S := S.sub [(0, Value.pointer f0), (2, Value.int .i64 way2), (4, Value.pointer (some p4)), (33, Value.slice x33.a x33.n x33.c), (34, Value.int .i64 ((x33.n : Nat) : Int)), (35, Value.int .i64 x35)] ⟨rfl, rfl, rfl, rfl, rfl, rfl, trivial⟩
      refine W.region ?_
      refine OL.pure S (Lf.run_add (S.ev rfl) (S.ev rfl)) rfl rfl trivial ?_
      clear S; intro aa S
      refine OL.pure S (Lf.run_move (S.ev rfl)) rfl rfl trivial ?_
      clear S; intro aa S
      refine OL.nil ?_
      exact ⟨((IntKind.i64.wrap (x35 + 1)), h11), ⟨S.sub _ ⟨rfl, rfl, rfl, rfl, rfl, rfl, trivial⟩, H.1⟩, H.2⟩
    · replace H := H.2 hb_1
      refine W.exit_ ?_
      refine xhit ?_
      exact Ret.none S rfl H

end Go.Proofs.Yteaidgpiolakcaa

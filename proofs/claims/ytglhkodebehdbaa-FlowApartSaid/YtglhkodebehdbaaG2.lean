/- Lifted by program off the elaborated code: each Go function, read as a proposition over typed variables and the heap. -/
import Derived.Test.YtglhkodebehdbaaG0
namespace Go.Proofs.Ytglhkodebehdbaa
open Go Go.Lf
set_option linter.unusedVariables false

/-- chattel chattellaw15.FlowApart -/
def L6 (p0 : Sv) (p0_1 : Int) (p0_2 : Sv) (p0_3 : Sv) (p0_4 : Sv) (e1 : Int) (h : Heap) (R : Value → Heap → Prop) : Prop :=
  new 25 #[Value.slice p0.a p0.n p0.c, Value.int .i64 p0_1, Value.slice p0_2.a p0_2.n p0_2.c, Value.slice p0_3.a p0_3.n p0_3.c, Value.slice p0_4.a p0_4.n p0_4.c] h fun p2 h1 =>
  new 3 #[Value.int .i64 e1] h1 fun p3 h2 =>
  cal Try.prog 9 #[] h2 fun u h3 => asB u fun x16 =>
  ∃ J : Bool → Heap → Prop, (orj (!x16) (fun k =>
    ∃ (y19 : Sv) (y19_1 : Int) (y19_2 : Sv) (y19_3 : Sv) (y19_4 : Sv), cl h3 p2 = some (Value.slice y19.a y19.n y19.c) ∧ cl h3 (p2.add 1) = some (Value.int .i64 y19_1) ∧ cl h3 (p2.add 2) = some (Value.slice y19_2.a y19_2.n y19_2.c) ∧ cl h3 (p2.add 3) = some (Value.slice y19_3.a y19_3.n y19_3.c) ∧ cl h3 (p2.add 4) = some (Value.slice y19_4.a y19_4.n y19_4.c) ∧
    cal Try.prog 10 #[Value.agg #[Value.slice y19.a y19.n y19.c, Value.int .i64 y19_1, Value.slice y19_2.a y19_2.n y19_2.c, Value.slice y19_3.a y19_3.n y19_3.c, Value.slice y19_4.a y19_4.n y19_4.c]] h3 fun u_1 h5 => asB u_1 fun x20 =>
    k (!x20) h5) h3 J) ∧ ∀ x22 h4, J x22 h4 →
  ∃ J_1 : Bool → Prop, (orr x22 (fun k_1 =>
    ldI .i64 h4 p3 fun x24 =>
    k_1 (decide (x24 < 0))) J_1) ∧ ∀ x26, J_1 x26 →
  ∃ J_2 : Bool → Prop, (orr x26 (fun k_2 =>
    ldI .i64 h4 p3 fun x28 =>
    ldI .i64 h4 (p2.add 1) fun x30 =>
    k_2 (decide (x30 ≤ x28))) J_2) ∧ ∀ x32, J_2 x32 →
  ∃ J_3 : Bool → Heap → Prop, (orj x32 (fun k_3 =>
    ∃ (y34 : Sv) (y34_1 : Int) (y34_2 : Sv) (y34_3 : Sv) (y34_4 : Sv), cl h4 p2 = some (Value.slice y34.a y34.n y34.c) ∧ cl h4 (p2.add 1) = some (Value.int .i64 y34_1) ∧ cl h4 (p2.add 2) = some (Value.slice y34_2.a y34_2.n y34_2.c) ∧ cl h4 (p2.add 3) = some (Value.slice y34_3.a y34_3.n y34_3.c) ∧ cl h4 (p2.add 4) = some (Value.slice y34_4.a y34_4.n y34_4.c) ∧
    cal Try.prog 11 #[Value.agg #[Value.slice y34.a y34.n y34.c, Value.int .i64 y34_1, Value.slice y34_2.a y34_2.n y34_2.c, Value.slice y34_3.a y34_3.n y34_3.c, Value.slice y34_4.a y34_4.n y34_4.c]] h4 fun u_2 h7 => asI .i64 u_2 fun x35 =>
    k_3 (x35 != 0) h7) h4 J_3) ∧ ∀ x37 h6, J_3 x37 h6 →
  ifb x37 (
    cal Try.prog 9 #[] h6 fun u_3 h8 => asB u_3 fun x38 =>
    R (Value.bool x38) h8) (
    ∃ J_4 : Addr → Heap → Prop, (
      ∃ Sq : Heap → Prop, Sq h6 ∧ (
        hlS Sq p2 fun x41 =>
        hlS Sq (p2.add 2) fun x44 =>
        hlS Sq (p2.add 3) fun x48 =>
        hlS Sq (p2.add 4) fun x52 =>
        (
          calV Try.prog (Value.func (.func 18) #[] #[Value.pointer (some p3)]) #[Value.slice x44.a x44.n x44.c] h6 fun u_4 h9 => asS u_4 fun x45 =>
          Sq h9 ∧
          (
            calV Try.prog (Value.func (.func 18) #[] #[Value.pointer (some p3)]) #[Value.slice x48.a x48.n x48.c] h9 fun u_5 h10 => asS u_5 fun x49 =>
            Sq h10 ∧
            (
              newS 23 #[Value.slice x52.a x52.n x52.c] 1 h10 fun s53 h11 =>
              Sq h11 ∧
              (
                calV Try.prog (Value.func (.func 18) #[] #[Value.pointer (some p3)]) #[Value.slice s53.a s53.n s53.c] h11 fun u_6 h12 => asS u_6 fun x54 =>
                Sq h12 ∧
                ixS x54 0 fun q55 =>
                ∃ Sq_1 : Heap → Prop, (∀ h, Sq_1 h → Sq h) ∧ Sq_1 h12 ∧
                hlS Sq_1 q55 fun x56 =>
                new 25 #[Value.slice (⟨none, 0, 0⟩ : Sv).a (⟨none, 0, 0⟩ : Sv).n (⟨none, 0, 0⟩ : Sv).c, Value.int .i64 0, Value.slice (⟨none, 0, 0⟩ : Sv).a (⟨none, 0, 0⟩ : Sv).n (⟨none, 0, 0⟩ : Sv).c, Value.slice (⟨none, 0, 0⟩ : Sv).a (⟨none, 0, 0⟩ : Sv).n (⟨none, 0, 0⟩ : Sv).c, Value.slice (⟨none, 0, 0⟩ : Sv).a (⟨none, 0, 0⟩ : Sv).n (⟨none, 0, 0⟩ : Sv).c] h12 fun p6 h13 =>
                Sq_1 h13 ∧
                stoA h13 p6 [Value.slice x41.a x41.n x41.c, Value.int .i64 1, Value.slice x45.a x45.n x45.c, Value.slice x49.a x49.n x49.c, Value.slice x56.a x56.n x56.c] fun h14 =>
                J_4 p6 h14) ∧ (
                new 25 #[Value.slice (⟨none, 0, 0⟩ : Sv).a (⟨none, 0, 0⟩ : Sv).n (⟨none, 0, 0⟩ : Sv).c, Value.int .i64 0, Value.slice (⟨none, 0, 0⟩ : Sv).a (⟨none, 0, 0⟩ : Sv).n (⟨none, 0, 0⟩ : Sv).c, Value.slice (⟨none, 0, 0⟩ : Sv).a (⟨none, 0, 0⟩ : Sv).n (⟨none, 0, 0⟩ : Sv).c, Value.slice (⟨none, 0, 0⟩ : Sv).a (⟨none, 0, 0⟩ : Sv).n (⟨none, 0, 0⟩ : Sv).c] h11 fun p6_1 h15 =>
                Sq h15 ∧
                calV Try.prog (Value.func (.func 18) #[] #[Value.pointer (some p3)]) #[Value.slice s53.a s53.n s53.c] h15 fun u_7 h16 => asS u_7 fun x54_1 =>
                Sq h16 ∧
                ixS x54_1 0 fun q55_1 =>
                ldS h16 q55_1 fun x56_1 =>
                stoA h16 p6_1 [Value.slice x41.a x41.n x41.c, Value.int .i64 1, Value.slice x45.a x45.n x45.c, Value.slice x49.a x49.n x49.c, Value.slice x56_1.a x56_1.n x56_1.c] fun h17 =>
                J_4 p6_1 h17)) ∧ (
              new 25 #[Value.slice (⟨none, 0, 0⟩ : Sv).a (⟨none, 0, 0⟩ : Sv).n (⟨none, 0, 0⟩ : Sv).c, Value.int .i64 0, Value.slice (⟨none, 0, 0⟩ : Sv).a (⟨none, 0, 0⟩ : Sv).n (⟨none, 0, 0⟩ : Sv).c, Value.slice (⟨none, 0, 0⟩ : Sv).a (⟨none, 0, 0⟩ : Sv).n (⟨none, 0, 0⟩ : Sv).c, Value.slice (⟨none, 0, 0⟩ : Sv).a (⟨none, 0, 0⟩ : Sv).n (⟨none, 0, 0⟩ : Sv).c] h10 fun p6_2 h18 =>
              Sq h18 ∧
              newS 23 #[Value.slice x52.a x52.n x52.c] 1 h18 fun s53_1 h19 =>
              Sq h19 ∧
              calV Try.prog (Value.func (.func 18) #[] #[Value.pointer (some p3)]) #[Value.slice s53_1.a s53_1.n s53_1.c] h19 fun u_8 h20 => asS u_8 fun x54_2 =>
              Sq h20 ∧
              ixS x54_2 0 fun q55_2 =>
              ldS h20 q55_2 fun x56_2 =>
              stoA h20 p6_2 [Value.slice x41.a x41.n x41.c, Value.int .i64 1, Value.slice x45.a x45.n x45.c, Value.slice x49.a x49.n x49.c, Value.slice x56_2.a x56_2.n x56_2.c] fun h21 =>
              J_4 p6_2 h21)) ∧ (
            newS 23 #[Value.slice x52.a x52.n x52.c] 1 h9 fun s53_2 h22 =>
            Sq h22 ∧
            (
              calV Try.prog (Value.func (.func 18) #[] #[Value.pointer (some p3)]) #[Value.slice x48.a x48.n x48.c] h22 fun u_9 h23 => asS u_9 fun x49_1 =>
              Sq h23 ∧
              (
                calV Try.prog (Value.func (.func 18) #[] #[Value.pointer (some p3)]) #[Value.slice s53_2.a s53_2.n s53_2.c] h23 fun u_10 h24 => asS u_10 fun x54_3 =>
                Sq h24 ∧
                ixS x54_3 0 fun q55_3 =>
                ∃ Sq_2 : Heap → Prop, (∀ h, Sq_2 h → Sq h) ∧ Sq_2 h24 ∧
                hlS Sq_2 q55_3 fun x56_3 =>
                new 25 #[Value.slice (⟨none, 0, 0⟩ : Sv).a (⟨none, 0, 0⟩ : Sv).n (⟨none, 0, 0⟩ : Sv).c, Value.int .i64 0, Value.slice (⟨none, 0, 0⟩ : Sv).a (⟨none, 0, 0⟩ : Sv).n (⟨none, 0, 0⟩ : Sv).c, Value.slice (⟨none, 0, 0⟩ : Sv).a (⟨none, 0, 0⟩ : Sv).n (⟨none, 0, 0⟩ : Sv).c, Value.slice (⟨none, 0, 0⟩ : Sv).a (⟨none, 0, 0⟩ : Sv).n (⟨none, 0, 0⟩ : Sv).c] h24 fun p6_3 h25 =>
                Sq_2 h25 ∧
                stoA h25 p6_3 [Value.slice x41.a x41.n x41.c, Value.int .i64 1, Value.slice x45.a x45.n x45.c, Value.slice x49_1.a x49_1.n x49_1.c, Value.slice x56_3.a x56_3.n x56_3.c] fun h26 =>
                J_4 p6_3 h26) ∧ (
                new 25 #[Value.slice (⟨none, 0, 0⟩ : Sv).a (⟨none, 0, 0⟩ : Sv).n (⟨none, 0, 0⟩ : Sv).c, Value.int .i64 0, Value.slice (⟨none, 0, 0⟩ : Sv).a (⟨none, 0, 0⟩ : Sv).n (⟨none, 0, 0⟩ : Sv).c, Value.slice (⟨none, 0, 0⟩ : Sv).a (⟨none, 0, 0⟩ : Sv).n (⟨none, 0, 0⟩ : Sv).c, Value.slice (⟨none, 0, 0⟩ : Sv).a (⟨none, 0, 0⟩ : Sv).n (⟨none, 0, 0⟩ : Sv).c] h23 fun p6_4 h27 =>
                Sq h27 ∧
                calV Try.prog (Value.func (.func 18) #[] #[Value.pointer (some p3)]) #[Value.slice s53_2.a s53_2.n s53_2.c] h27 fun u_11 h28 => asS u_11 fun x54_4 =>
                Sq h28 ∧
                ixS x54_4 0 fun q55_4 =>
                ldS h28 q55_4 fun x56_4 =>
                stoA h28 p6_4 [Value.slice x41.a x41.n x41.c, Value.int .i64 1, Value.slice x45.a x45.n x45.c, Value.slice x49_1.a x49_1.n x49_1.c, Value.slice x56_4.a x56_4.n x56_4.c] fun h29 =>
                J_4 p6_4 h29)) ∧ (
              new 25 #[Value.slice (⟨none, 0, 0⟩ : Sv).a (⟨none, 0, 0⟩ : Sv).n (⟨none, 0, 0⟩ : Sv).c, Value.int .i64 0, Value.slice (⟨none, 0, 0⟩ : Sv).a (⟨none, 0, 0⟩ : Sv).n (⟨none, 0, 0⟩ : Sv).c, Value.slice (⟨none, 0, 0⟩ : Sv).a (⟨none, 0, 0⟩ : Sv).n (⟨none, 0, 0⟩ : Sv).c, Value.slice (⟨none, 0, 0⟩ : Sv).a (⟨none, 0, 0⟩ : Sv).n (⟨none, 0, 0⟩ : Sv).c] h22 fun p6_5 h30 =>
              Sq h30 ∧
              calV Try.prog (Value.func (.func 18) #[] #[Value.pointer (some p3)]) #[Value.slice x48.a x48.n x48.c] h30 fun u_12 h31 => asS u_12 fun x49_2 =>
              Sq h31 ∧
              calV Try.prog (Value.func (.func 18) #[] #[Value.pointer (some p3)]) #[Value.slice s53_2.a s53_2.n s53_2.c] h31 fun u_13 h32 => asS u_13 fun x54_5 =>
              Sq h32 ∧
              ixS x54_5 0 fun q55_5 =>
              ldS h32 q55_5 fun x56_5 =>
              stoA h32 p6_5 [Value.slice x41.a x41.n x41.c, Value.int .i64 1, Value.slice x45.a x45.n x45.c, Value.slice x49_2.a x49_2.n x49_2.c, Value.slice x56_5.a x56_5.n x56_5.c] fun h33 =>
              J_4 p6_5 h33)) ∧ (
            new 25 #[Value.slice (⟨none, 0, 0⟩ : Sv).a (⟨none, 0, 0⟩ : Sv).n (⟨none, 0, 0⟩ : Sv).c, Value.int .i64 0, Value.slice (⟨none, 0, 0⟩ : Sv).a (⟨none, 0, 0⟩ : Sv).n (⟨none, 0, 0⟩ : Sv).c, Value.slice (⟨none, 0, 0⟩ : Sv).a (⟨none, 0, 0⟩ : Sv).n (⟨none, 0, 0⟩ : Sv).c, Value.slice (⟨none, 0, 0⟩ : Sv).a (⟨none, 0, 0⟩ : Sv).n (⟨none, 0, 0⟩ : Sv).c] h9 fun p6_6 h34 =>
            Sq h34 ∧
            (
              calV Try.prog (Value.func (.func 18) #[] #[Value.pointer (some p3)]) #[Value.slice x48.a x48.n x48.c] h34 fun u_14 h35 => asS u_14 fun x49_3 =>
              Sq h35 ∧
              newS 23 #[Value.slice x52.a x52.n x52.c] 1 h35 fun s53_3 h36 =>
              Sq h36 ∧
              calV Try.prog (Value.func (.func 18) #[] #[Value.pointer (some p3)]) #[Value.slice s53_3.a s53_3.n s53_3.c] h36 fun u_15 h37 => asS u_15 fun x54_6 =>
              Sq h37 ∧
              ixS x54_6 0 fun q55_6 =>
              ldS h37 q55_6 fun x56_6 =>
              stoA h37 p6_6 [Value.slice x41.a x41.n x41.c, Value.int .i64 1, Value.slice x45.a x45.n x45.c, Value.slice x49_3.a x49_3.n x49_3.c, Value.slice x56_6.a x56_6.n x56_6.c] fun h38 =>
              J_4 p6_6 h38) ∧ (
              newS 23 #[Value.slice x52.a x52.n x52.c] 1 h34 fun s53_4 h39 =>
              Sq h39 ∧
              calV Try.prog (Value.func (.func 18) #[] #[Value.pointer (some p3)]) #[Value.slice x48.a x48.n x48.c] h39 fun u_16 h40 => asS u_16 fun x49_4 =>
              Sq h40 ∧
              calV Try.prog (Value.func (.func 18) #[] #[Value.pointer (some p3)]) #[Value.slice s53_4.a s53_4.n s53_4.c] h40 fun u_17 h41 => asS u_17 fun x54_7 =>
              Sq h41 ∧
              ixS x54_7 0 fun q55_7 =>
              ldS h41 q55_7 fun x56_7 =>
              stoA h41 p6_6 [Value.slice x41.a x41.n x41.c, Value.int .i64 1, Value.slice x45.a x45.n x45.c, Value.slice x49_4.a x49_4.n x49_4.c, Value.slice x56_7.a x56_7.n x56_7.c] fun h42 =>
              J_4 p6_6 h42))) ∧ (
          newS 23 #[Value.slice x52.a x52.n x52.c] 1 h6 fun s53_5 h43 =>
          Sq h43 ∧
          (
            calV Try.prog (Value.func (.func 18) #[] #[Value.pointer (some p3)]) #[Value.slice x44.a x44.n x44.c] h43 fun u_18 h44 => asS u_18 fun x45_1 =>
            Sq h44 ∧
            (
              calV Try.prog (Value.func (.func 18) #[] #[Value.pointer (some p3)]) #[Value.slice x48.a x48.n x48.c] h44 fun u_19 h45 => asS u_19 fun x49_5 =>
              Sq h45 ∧
              (
                calV Try.prog (Value.func (.func 18) #[] #[Value.pointer (some p3)]) #[Value.slice s53_5.a s53_5.n s53_5.c] h45 fun u_20 h46 => asS u_20 fun x54_8 =>
                Sq h46 ∧
                ixS x54_8 0 fun q55_8 =>
                ∃ Sq_3 : Heap → Prop, (∀ h, Sq_3 h → Sq h) ∧ Sq_3 h46 ∧
                hlS Sq_3 q55_8 fun x56_8 =>
                new 25 #[Value.slice (⟨none, 0, 0⟩ : Sv).a (⟨none, 0, 0⟩ : Sv).n (⟨none, 0, 0⟩ : Sv).c, Value.int .i64 0, Value.slice (⟨none, 0, 0⟩ : Sv).a (⟨none, 0, 0⟩ : Sv).n (⟨none, 0, 0⟩ : Sv).c, Value.slice (⟨none, 0, 0⟩ : Sv).a (⟨none, 0, 0⟩ : Sv).n (⟨none, 0, 0⟩ : Sv).c, Value.slice (⟨none, 0, 0⟩ : Sv).a (⟨none, 0, 0⟩ : Sv).n (⟨none, 0, 0⟩ : Sv).c] h46 fun p6_7 h47 =>
                Sq_3 h47 ∧
                stoA h47 p6_7 [Value.slice x41.a x41.n x41.c, Value.int .i64 1, Value.slice x45_1.a x45_1.n x45_1.c, Value.slice x49_5.a x49_5.n x49_5.c, Value.slice x56_8.a x56_8.n x56_8.c] fun h48 =>
                J_4 p6_7 h48) ∧ (
                new 25 #[Value.slice (⟨none, 0, 0⟩ : Sv).a (⟨none, 0, 0⟩ : Sv).n (⟨none, 0, 0⟩ : Sv).c, Value.int .i64 0, Value.slice (⟨none, 0, 0⟩ : Sv).a (⟨none, 0, 0⟩ : Sv).n (⟨none, 0, 0⟩ : Sv).c, Value.slice (⟨none, 0, 0⟩ : Sv).a (⟨none, 0, 0⟩ : Sv).n (⟨none, 0, 0⟩ : Sv).c, Value.slice (⟨none, 0, 0⟩ : Sv).a (⟨none, 0, 0⟩ : Sv).n (⟨none, 0, 0⟩ : Sv).c] h45 fun p6_8 h49 =>
                Sq h49 ∧
                calV Try.prog (Value.func (.func 18) #[] #[Value.pointer (some p3)]) #[Value.slice s53_5.a s53_5.n s53_5.c] h49 fun u_21 h50 => asS u_21 fun x54_9 =>
                Sq h50 ∧
                ixS x54_9 0 fun q55_9 =>
                ldS h50 q55_9 fun x56_9 =>
                stoA h50 p6_8 [Value.slice x41.a x41.n x41.c, Value.int .i64 1, Value.slice x45_1.a x45_1.n x45_1.c, Value.slice x49_5.a x49_5.n x49_5.c, Value.slice x56_9.a x56_9.n x56_9.c] fun h51 =>
                J_4 p6_8 h51)) ∧ (
              new 25 #[Value.slice (⟨none, 0, 0⟩ : Sv).a (⟨none, 0, 0⟩ : Sv).n (⟨none, 0, 0⟩ : Sv).c, Value.int .i64 0, Value.slice (⟨none, 0, 0⟩ : Sv).a (⟨none, 0, 0⟩ : Sv).n (⟨none, 0, 0⟩ : Sv).c, Value.slice (⟨none, 0, 0⟩ : Sv).a (⟨none, 0, 0⟩ : Sv).n (⟨none, 0, 0⟩ : Sv).c, Value.slice (⟨none, 0, 0⟩ : Sv).a (⟨none, 0, 0⟩ : Sv).n (⟨none, 0, 0⟩ : Sv).c] h44 fun p6_9 h52 =>
              Sq h52 ∧
              calV Try.prog (Value.func (.func 18) #[] #[Value.pointer (some p3)]) #[Value.slice x48.a x48.n x48.c] h52 fun u_22 h53 => asS u_22 fun x49_6 =>
              Sq h53 ∧
              calV Try.prog (Value.func (.func 18) #[] #[Value.pointer (some p3)]) #[Value.slice s53_5.a s53_5.n s53_5.c] h53 fun u_23 h54 => asS u_23 fun x54_10 =>
              Sq h54 ∧
              ixS x54_10 0 fun q55_10 =>
              ldS h54 q55_10 fun x56_10 =>
              stoA h54 p6_9 [Value.slice x41.a x41.n x41.c, Value.int .i64 1, Value.slice x45_1.a x45_1.n x45_1.c, Value.slice x49_6.a x49_6.n x49_6.c, Value.slice x56_10.a x56_10.n x56_10.c] fun h55 =>
              J_4 p6_9 h55)) ∧ (
            new 25 #[Value.slice (⟨none, 0, 0⟩ : Sv).a (⟨none, 0, 0⟩ : Sv).n (⟨none, 0, 0⟩ : Sv).c, Value.int .i64 0, Value.slice (⟨none, 0, 0⟩ : Sv).a (⟨none, 0, 0⟩ : Sv).n (⟨none, 0, 0⟩ : Sv).c, Value.slice (⟨none, 0, 0⟩ : Sv).a (⟨none, 0, 0⟩ : Sv).n (⟨none, 0, 0⟩ : Sv).c, Value.slice (⟨none, 0, 0⟩ : Sv).a (⟨none, 0, 0⟩ : Sv).n (⟨none, 0, 0⟩ : Sv).c] h43 fun p6_10 h56 =>
            Sq h56 ∧
            calV Try.prog (Value.func (.func 18) #[] #[Value.pointer (some p3)]) #[Value.slice x44.a x44.n x44.c] h56 fun u_24 h57 => asS u_24 fun x45_2 =>
            Sq h57 ∧
            calV Try.prog (Value.func (.func 18) #[] #[Value.pointer (some p3)]) #[Value.slice x48.a x48.n x48.c] h57 fun u_25 h58 => asS u_25 fun x49_7 =>
            Sq h58 ∧
            calV Try.prog (Value.func (.func 18) #[] #[Value.pointer (some p3)]) #[Value.slice s53_5.a s53_5.n s53_5.c] h58 fun u_26 h59 => asS u_26 fun x54_11 =>
            Sq h59 ∧
            ixS x54_11 0 fun q55_11 =>
            ldS h59 q55_11 fun x56_11 =>
            stoA h59 p6_10 [Value.slice x41.a x41.n x41.c, Value.int .i64 1, Value.slice x45_2.a x45_2.n x45_2.c, Value.slice x49_7.a x49_7.n x49_7.c, Value.slice x56_11.a x56_11.n x56_11.c] fun h60 =>
            J_4 p6_10 h60)) ∧ (
          new 25 #[Value.slice (⟨none, 0, 0⟩ : Sv).a (⟨none, 0, 0⟩ : Sv).n (⟨none, 0, 0⟩ : Sv).c, Value.int .i64 0, Value.slice (⟨none, 0, 0⟩ : Sv).a (⟨none, 0, 0⟩ : Sv).n (⟨none, 0, 0⟩ : Sv).c, Value.slice (⟨none, 0, 0⟩ : Sv).a (⟨none, 0, 0⟩ : Sv).n (⟨none, 0, 0⟩ : Sv).c, Value.slice (⟨none, 0, 0⟩ : Sv).a (⟨none, 0, 0⟩ : Sv).n (⟨none, 0, 0⟩ : Sv).c] h6 fun p6_11 h61 =>
          Sq h61 ∧
          (
            calV Try.prog (Value.func (.func 18) #[] #[Value.pointer (some p3)]) #[Value.slice x44.a x44.n x44.c] h61 fun u_27 h62 => asS u_27 fun x45_3 =>
            Sq h62 ∧
            (
              calV Try.prog (Value.func (.func 18) #[] #[Value.pointer (some p3)]) #[Value.slice x48.a x48.n x48.c] h62 fun u_28 h63 => asS u_28 fun x49_8 =>
              Sq h63 ∧
              newS 23 #[Value.slice x52.a x52.n x52.c] 1 h63 fun s53_6 h64 =>
              Sq h64 ∧
              calV Try.prog (Value.func (.func 18) #[] #[Value.pointer (some p3)]) #[Value.slice s53_6.a s53_6.n s53_6.c] h64 fun u_29 h65 => asS u_29 fun x54_12 =>
              Sq h65 ∧
              ixS x54_12 0 fun q55_12 =>
              ldS h65 q55_12 fun x56_12 =>
              stoA h65 p6_11 [Value.slice x41.a x41.n x41.c, Value.int .i64 1, Value.slice x45_3.a x45_3.n x45_3.c, Value.slice x49_8.a x49_8.n x49_8.c, Value.slice x56_12.a x56_12.n x56_12.c] fun h66 =>
              J_4 p6_11 h66) ∧ (
              newS 23 #[Value.slice x52.a x52.n x52.c] 1 h62 fun s53_7 h67 =>
              Sq h67 ∧
              calV Try.prog (Value.func (.func 18) #[] #[Value.pointer (some p3)]) #[Value.slice x48.a x48.n x48.c] h67 fun u_30 h68 => asS u_30 fun x49_9 =>
              Sq h68 ∧
              calV Try.prog (Value.func (.func 18) #[] #[Value.pointer (some p3)]) #[Value.slice s53_7.a s53_7.n s53_7.c] h68 fun u_31 h69 => asS u_31 fun x54_13 =>
              Sq h69 ∧
              ixS x54_13 0 fun q55_13 =>
              ldS h69 q55_13 fun x56_13 =>
              stoA h69 p6_11 [Value.slice x41.a x41.n x41.c, Value.int .i64 1, Value.slice x45_3.a x45_3.n x45_3.c, Value.slice x49_9.a x49_9.n x49_9.c, Value.slice x56_13.a x56_13.n x56_13.c] fun h70 =>
              J_4 p6_11 h70)) ∧ (
            newS 23 #[Value.slice x52.a x52.n x52.c] 1 h61 fun s53_8 h71 =>
            Sq h71 ∧
            calV Try.prog (Value.func (.func 18) #[] #[Value.pointer (some p3)]) #[Value.slice x44.a x44.n x44.c] h71 fun u_32 h72 => asS u_32 fun x45_4 =>
            Sq h72 ∧
            calV Try.prog (Value.func (.func 18) #[] #[Value.pointer (some p3)]) #[Value.slice x48.a x48.n x48.c] h72 fun u_33 h73 => asS u_33 fun x49_10 =>
            Sq h73 ∧
            calV Try.prog (Value.func (.func 18) #[] #[Value.pointer (some p3)]) #[Value.slice s53_8.a s53_8.n s53_8.c] h73 fun u_34 h74 => asS u_34 fun x54_14 =>
            Sq h74 ∧
            ixS x54_14 0 fun q55_14 =>
            ldS h74 q55_14 fun x56_14 =>
            stoA h74 p6_11 [Value.slice x41.a x41.n x41.c, Value.int .i64 1, Value.slice x45_4.a x45_4.n x45_4.c, Value.slice x49_10.a x49_10.n x49_10.c, Value.slice x56_14.a x56_14.n x56_14.c] fun h75 =>
            J_4 p6_11 h75)))) ∧ (∀ q6 h76, J_4 q6 h76 →
    ∃ (y59 : Sv) (y59_1 : Int) (y59_2 : Sv) (y59_3 : Sv) (y59_4 : Sv), cl h76 p2 = some (Value.slice y59.a y59.n y59.c) ∧ cl h76 (p2.add 1) = some (Value.int .i64 y59_1) ∧ cl h76 (p2.add 2) = some (Value.slice y59_2.a y59_2.n y59_2.c) ∧ cl h76 (p2.add 3) = some (Value.slice y59_3.a y59_3.n y59_3.c) ∧ cl h76 (p2.add 4) = some (Value.slice y59_4.a y59_4.n y59_4.c) ∧
    cal Try.prog 12 #[Value.agg #[Value.slice y59.a y59.n y59.c, Value.int .i64 y59_1, Value.slice y59_2.a y59_2.n y59_2.c, Value.slice y59_3.a y59_3.n y59_3.c, Value.slice y59_4.a y59_4.n y59_4.c]] h76 fun u_35 h77 => asTup u_35 fun r60 =>
    elt r60 0 fun u_36 => asP u_36 fun x61 =>
    elt r60 1 fun u_37 => asI .i64 u_37 fun x62 =>
    ∃ (y64 : Sv) (y64_1 : Int) (y64_2 : Sv) (y64_3 : Sv) (y64_4 : Sv), cl h77 q6 = some (Value.slice y64.a y64.n y64.c) ∧ cl h77 (q6.add 1) = some (Value.int .i64 y64_1) ∧ cl h77 (q6.add 2) = some (Value.slice y64_2.a y64_2.n y64_2.c) ∧ cl h77 (q6.add 3) = some (Value.slice y64_3.a y64_3.n y64_3.c) ∧ cl h77 (q6.add 4) = some (Value.slice y64_4.a y64_4.n y64_4.c) ∧
    cal Try.prog 12 #[Value.agg #[Value.slice y64.a y64.n y64.c, Value.int .i64 y64_1, Value.slice y64_2.a y64_2.n y64_2.c, Value.slice y64_3.a y64_3.n y64_3.c, Value.slice y64_4.a y64_4.n y64_4.c]] h77 fun u_38 h78 => asTup u_38 fun r65 =>
    elt r65 0 fun u_39 => asP u_39 fun x66 =>
    elt r65 1 fun u_40 => asI .i64 u_40 fun x67 =>
    ∃ (y69 : Sv) (y69_1 : Int) (y69_2 : Sv) (y69_3 : Sv) (y69_4 : Sv), cl h78 p2 = some (Value.slice y69.a y69.n y69.c) ∧ cl h78 (p2.add 1) = some (Value.int .i64 y69_1) ∧ cl h78 (p2.add 2) = some (Value.slice y69_2.a y69_2.n y69_2.c) ∧ cl h78 (p2.add 3) = some (Value.slice y69_3.a y69_3.n y69_3.c) ∧ cl h78 (p2.add 4) = some (Value.slice y69_4.a y69_4.n y69_4.c) ∧
    cal Try.prog 19 #[Value.agg #[Value.slice y69.a y69.n y69.c, Value.int .i64 y69_1, Value.slice y69_2.a y69_2.n y69_2.c, Value.slice y69_3.a y69_3.n y69_3.c, Value.slice y69_4.a y69_4.n y69_4.c]] h78 fun u_41 h79 => asTup u_41 fun r70 =>
    elt r70 0 fun u_42 => asP u_42 fun x71 =>
    elt r70 1 fun u_43 => asI .i64 u_43 fun x72 =>
    ∃ (y74 : Sv) (y74_1 : Int) (y74_2 : Sv) (y74_3 : Sv) (y74_4 : Sv), cl h79 q6 = some (Value.slice y74.a y74.n y74.c) ∧ cl h79 (q6.add 1) = some (Value.int .i64 y74_1) ∧ cl h79 (q6.add 2) = some (Value.slice y74_2.a y74_2.n y74_2.c) ∧ cl h79 (q6.add 3) = some (Value.slice y74_3.a y74_3.n y74_3.c) ∧ cl h79 (q6.add 4) = some (Value.slice y74_4.a y74_4.n y74_4.c) ∧
    cal Try.prog 19 #[Value.agg #[Value.slice y74.a y74.n y74.c, Value.int .i64 y74_1, Value.slice y74_2.a y74_2.n y74_2.c, Value.slice y74_3.a y74_3.n y74_3.c, Value.slice y74_4.a y74_4.n y74_4.c]] h79 fun u_44 h80 => asTup u_44 fun r75 =>
    elt r75 0 fun u_45 => asP u_45 fun x76 =>
    elt r75 1 fun u_46 => asI .i64 u_46 fun x77 =>
    ifb ((((x62 != 0) || (x67 != 0)) || (x72 != 0)) || (x77 != 0)) (
      R (Value.bool false) h80) (
      ∃ (I : Int → Heap → Prop) (m : Int → Heap → Nat), I 0 h80 ∧ ∀ k15 h81, I k15 h81 →
      ldS h81 p2 fun x94 =>
      ifb (decide (k15 < ((x94.n : Nat) : Int))) (
        ldI .i64 h81 p3 fun x101 =>
        cal Try.prog 14 #[Value.pointer x61, Value.int .i64 k15, Value.int .i64 x101] h81 fun u_47 h82 => asB u_47 fun x102 =>
        cal Try.prog 14 #[Value.pointer x66, Value.int .i64 k15, Value.int .i64 0] h82 fun u_48 h83 => asB u_48 fun x105 =>
        ∃ J_5 : Bool → Heap → Prop, (orj (x102 != x105) (fun k_4 =>
          ldI .i64 h83 p3 fun x110 =>
          cal Try.prog 14 #[Value.pointer x71, Value.int .i64 k15, Value.int .i64 x110] h83 fun u_49 h85 => asB u_49 fun x111 =>
          cal Try.prog 14 #[Value.pointer x76, Value.int .i64 k15, Value.int .i64 0] h85 fun u_50 h86 => asB u_50 fun x114 =>
          k_4 (x111 != x114) h86) h83 J_5) ∧ ∀ x116 h84, J_5 x116 h84 →
        ifb x116 (
          R (Value.bool false) h84) (
          I (IntKind.i64.wrap (k15 + 1)) h84 ∧ m (IntKind.i64.wrap (k15 + 1)) h84 < m k15 h81)) (
        R (Value.bool true) h81))))

set_option maxRecDepth 100000 in

theorem F6 {p0 p0_1 p0_2 p0_3 p0_4 e1 h : _} {R : Value → Heap → Prop} (H : L6 p0 p0_1 p0_2 p0_3 p0_4 e1 h R) : CallsH Try.prog 6 #[Value.agg #[Value.slice p0.a p0.n p0.c, Value.int .i64 p0_1, Value.slice p0_2.a p0_2.n p0_2.c, Value.slice p0_3.a p0_3.n p0_3.c, Value.slice p0_4.a p0_4.n p0_4.c], Value.int .i64 e1] h R := by
  refine CallsH.enter (n := 117) Try.func6 rfl rfl rfl rfl ?_
  intro w0 aa ww S
  unfold L6 at H
  refine W.seq ?_
  replace S := S.sub [(0, Value.agg #[Value.slice p0.a p0.n p0.c, Value.int .i64 p0_1, Value.slice p0_2.a p0_2.n p0_2.c, Value.slice p0_3.a p0_3.n p0_3.c, Value.slice p0_4.a p0_4.n p0_4.c]), (1, Value.int .i64 e1)] ⟨rfl, rfl, trivial⟩
  refine W.region ?_
  refine ol_box S H rfl rfl rfl trivial ?_
  clear S H aa; intro p2 aa ww h1 H S
  refine ol_box S H rfl rfl rfl trivial ?_
  clear S H aa; intro p3 aa ww h2 H S
  refine OL.pure S (Lf.run_assign (S.ev rfl)) rfl rfl trivial ?_
  clear S; intro aa S
  refine OL.nil ?_
  refine W.seq ?_
  refine W.seq ?_
  replace S := S.sub [(2, Value.pointer (some p2)), (3, Value.pointer (some p3))] ⟨rfl, rfl, trivial⟩
  refine W.region ?_
  refine ol_cal S H isfn9 rfl rfl trivial ?_
  clear S H aa; intro u aa ww h3 H S
  obtain ⟨x16, rfl, H⟩ := H
  refine OL.pure S (Lf.run_not (S.ev rfl)) rfl rfl trivial ?_
  clear S; intro aa S
  refine OL.pure S (Lf.run_move (S.ev rfl)) rfl rfl trivial ?_
  clear S; intro aa S
  obtain ⟨J, H, HK⟩ := H
  refine OL.cutN 4 (fun aa ww => ∃ x22 h4, St 117 ((22, Value.bool x22) :: [(2, Value.pointer (some p2)), (3, Value.pointer (some p3)), (16, Value.bool x16), (17, Value.bool (!x16)), (18, Value.bool (!x16))]) h4 w0 aa ww ∧ J x22 h4) ?_ ?_
  · rcases Bool.eq_false_or_eq_true (!x16) with hb | hb
    · replace H := H.1 hb
      refine OL.not S rfl rfl (GNo.mk rfl rfl hb) ?_
      clear S; intro aa S
      refine OL.not S rfl rfl (GNo.mk rfl rfl hb) ?_
      clear S; intro aa S
      refine OL.not S rfl rfl (GNo.mk rfl rfl hb) ?_
      clear S; intro aa S
      refine OL.pure S (Lf.run_pickT (S.ev rfl) hb (S.ev rfl)) rfl rfl trivial ?_
      clear S; intro aa S
      refine OL.nil ?_
      exact ⟨_, _, S.sub _ ⟨rfl, rfl, rfl, rfl, rfl, rfl, trivial⟩, H⟩
    · replace H := H.2 hb
      obtain ⟨y19, y19_1, y19_2, y19_3, y19_4, c_1, c_2, c_3, c_4, c_5, H⟩ := H
      refine OL.pure S (Lf.run_ldA (cs := [Value.slice y19.a y19.n y19.c, Value.int .i64 y19_1, Value.slice y19_2.a y19_2.n y19_2.c, Value.slice y19_3.a y19_3.n y19_3.c, Value.slice y19_4.a y19_4.n y19_4.c]) (S.ev rfl) ag25 ti25 (by rw [S.heap]; exact RowL.toRow ⟨c_1, c_2, c_3, c_4, c_5, trivial⟩)) rfl rfl (GOk.mk rfl rfl hb) ?_
      clear S; intro aa S
      refine ol_cal S H isfn10 rfl rfl (GOk.mk rfl rfl hb) ?_
      clear S H aa; intro u_1 aa ww h5 H S
      obtain ⟨x20, rfl, H⟩ := H
      refine OL.pure S (Lf.run_not (S.ev rfl)) rfl rfl (GOk.mk rfl rfl hb) ?_
      clear S; intro aa S
      refine OL.pure S (Lf.run_pickF (S.ev rfl) hb (S.ev rfl)) rfl rfl trivial ?_
      clear S; intro aa S
      refine OL.nil ?_
      exact ⟨_, _, S.sub _ ⟨rfl, rfl, rfl, rfl, rfl, rfl, trivial⟩, H⟩
  · clear S aa
    rintro aa ww ⟨x22, h4, S, HJ⟩
    replace H := HK _ _ HJ
    clear HK HJ
    refine OL.pure S (Lf.run_move (S.ev rfl)) rfl rfl trivial ?_
    clear S; intro aa S
    obtain ⟨J_1, H, HK_1⟩ := H
    refine OL.cutN 3 (fun aa ww => ∃ x26, St 117 ((26, Value.bool x26) :: [(2, Value.pointer (some p2)), (3, Value.pointer (some p3)), (16, Value.bool x16), (17, Value.bool (!x16)), (18, Value.bool (!x16)), (22, Value.bool x22), (23, Value.bool x22)]) h4 w0 aa ww ∧ J_1 x26) ?_ ?_
    · rcases Bool.eq_false_or_eq_true x22 with hb_1 | hb_1
      · replace H := H.1 hb_1
        refine OL.not S rfl rfl (GNo.mk rfl rfl hb_1) ?_
        clear S; intro aa S
        refine OL.not S rfl rfl (GNo.mk rfl rfl hb_1) ?_
        clear S; intro aa S
        refine OL.pure S (Lf.run_pickT (S.ev rfl) hb_1 (S.ev rfl)) rfl rfl trivial ?_
        clear S; intro aa S
        refine OL.nil ?_
        exact ⟨_, S.sub _ ⟨rfl, rfl, rfl, rfl, rfl, rfl, rfl, rfl, trivial⟩, H⟩
      · replace H := H.2 hb_1
        obtain ⟨x24, c_6, H⟩ := H
        refine OL.pure S (Lf.run_ld (S.ev rfl) fl3 (S.cl c_6)) rfl rfl (GOk.mk rfl rfl hb_1) ?_
        clear S; intro aa S
        refine OL.pure S (Lf.run_lss (S.ev rfl) (S.ev rfl)) rfl rfl (GOk.mk rfl rfl hb_1) ?_
        clear S; intro aa S
        refine OL.pure S (Lf.run_pickF (S.ev rfl) hb_1 (S.ev rfl)) rfl rfl trivial ?_
        clear S; intro aa S
        refine OL.nil ?_
        exact ⟨_, S.sub _ ⟨rfl, rfl, rfl, rfl, rfl, rfl, rfl, rfl, trivial⟩, H⟩
    · clear S aa
      rintro aa ww ⟨x26, S, HJ⟩
      replace H := HK_1 _ HJ
      clear HK_1 HJ
      refine OL.pure S (Lf.run_move (S.ev rfl)) rfl rfl trivial ?_
      clear S; intro aa S
      obtain ⟨J_2, H, HK_2⟩ := H
      refine OL.cutN 5 (fun aa ww => ∃ x32, St 117 ((32, Value.bool x32) :: [(2, Value.pointer (some p2)), (3, Value.pointer (some p3)), (16, Value.bool x16), (17, Value.bool (!x16)), (18, Value.bool (!x16)), (22, Value.bool x22), (23, Value.bool x22), (26, Value.bool x26), (27, Value.bool x26)]) h4 w0 aa ww ∧ J_2 x32) ?_ ?_
      · rcases Bool.eq_false_or_eq_true x26 with hb_2 | hb_2
        · replace H := H.1 hb_2
          refine OL.not S rfl rfl (GNo.mk rfl rfl hb_2) ?_
          clear S; intro aa S
          refine OL.not S rfl rfl (GNo.mk rfl rfl hb_2) ?_
          clear S; intro aa S
          refine OL.not S rfl rfl (GNo.mk rfl rfl hb_2) ?_
          clear S; intro aa S
          refine OL.not S rfl rfl (GNo.mk rfl rfl hb_2) ?_
          clear S; intro aa S
          refine OL.pure S (Lf.run_pickT (S.ev rfl) hb_2 (S.ev rfl)) rfl rfl trivial ?_
          clear S; intro aa S
          refine OL.nil ?_
          exact ⟨_, S.sub _ ⟨rfl, rfl, rfl, rfl, rfl, rfl, rfl, rfl, rfl, rfl, trivial⟩, H⟩
        · replace H := H.2 hb_2
          obtain ⟨x28, c_7, H⟩ := H
          refine OL.pure S (Lf.run_ld (S.ev rfl) fl3 (S.cl c_7)) rfl rfl (GOk.mk rfl rfl hb_2) ?_
          clear S; intro aa S
          refine OL.pure S (Lf.run_fa (S.ev rfl) fa25_1) rfl rfl (GOk.mk rfl rfl hb_2) ?_
          clear S; intro aa S
          obtain ⟨x30, c_8, H⟩ := H
          refine OL.pure S (Lf.run_ld (S.ev rfl) fl3 (S.cl c_8)) rfl rfl (GOk.mk rfl rfl hb_2) ?_
          clear S; intro aa S
          refine OL.pure S (Lf.run_geq (S.ev rfl) (S.ev rfl)) rfl rfl (GOk.mk rfl rfl hb_2) ?_
          clear S; intro aa S
          refine OL.pure S (Lf.run_pickF (S.ev rfl) hb_2 (S.ev rfl)) rfl rfl trivial ?_
          clear S; intro aa S
          refine OL.nil ?_
          exact ⟨_, S.sub _ ⟨rfl, rfl, rfl, rfl, rfl, rfl, rfl, rfl, rfl, rfl, trivial⟩, H⟩
      · clear S aa
        rintro aa ww ⟨x32, S, HJ⟩
        replace H := HK_2 _ HJ
        clear HK_2 HJ
        refine OL.pure S (Lf.run_move (S.ev rfl)) rfl rfl trivial ?_
        clear S; intro aa S
        obtain ⟨J_3, H, HK_3⟩ := H
        refine OL.cutN 4 (fun aa ww => ∃ x37 h6, St 117 ((37, Value.bool x37) :: [(2, Value.pointer (some p2)), (3, Value.pointer (some p3)), (16, Value.bool x16), (17, Value.bool (!x16)), (18, Value.bool (!x16)), (22, Value.bool x22), (23, Value.bool x22), (26, Value.bool x26), (27, Value.bool x26), (32, Value.bool x32), (33, Value.bool x32)]) h6 w0 aa ww ∧ J_3 x37 h6) ?_ ?_
        · rcases Bool.eq_false_or_eq_true x32 with hb_3 | hb_3
          · replace H := H.1 hb_3
            refine OL.not S rfl rfl (GNo.mk rfl rfl hb_3) ?_
            clear S; intro aa S
            refine OL.not S rfl rfl (GNo.mk rfl rfl hb_3) ?_
            clear S; intro aa S
            refine OL.not S rfl rfl (GNo.mk rfl rfl hb_3) ?_
            clear S; intro aa S
            refine OL.pure S (Lf.run_pickT (S.ev rfl) hb_3 (S.ev rfl)) rfl rfl trivial ?_
            clear S; intro aa S
            refine OL.nil ?_
            exact ⟨_, _, S.sub _ ⟨rfl, rfl, rfl, rfl, rfl, rfl, rfl, rfl, rfl, rfl, rfl, rfl, trivial⟩, H⟩
          · replace H := H.2 hb_3
            obtain ⟨y34, y34_1, y34_2, y34_3, y34_4, c_10, c_11, c_12, c_13, c_14, H⟩ := H
            refine OL.pure S (Lf.run_ldA (cs := [Value.slice y34.a y34.n y34.c, Value.int .i64 y34_1, Value.slice y34_2.a y34_2.n y34_2.c, Value.slice y34_3.a y34_3.n y34_3.c, Value.slice y34_4.a y34_4.n y34_4.c]) (S.ev rfl) ag25 ti25 (by rw [S.heap]; exact RowL.toRow ⟨c_10, c_11, c_12, c_13, c_14, trivial⟩)) rfl rfl (GOk.mk rfl rfl hb_3) ?_
            clear S; intro aa S
            refine ol_cal S H isfn11 rfl rfl (GOk.mk rfl rfl hb_3) ?_
            clear S H aa; intro u_2 aa ww h7 H S
            obtain ⟨x35, rfl, H⟩ := H
            refine OL.pure S (Lf.run_neq (S.ev rfl) (S.ev rfl)) rfl rfl (GOk.mk rfl rfl hb_3) ?_
            clear S; intro aa S
            refine OL.pure S (Lf.run_pickF (S.ev rfl) hb_3 (S.ev rfl)) rfl rfl trivial ?_
            clear S; intro aa S
            refine OL.nil ?_
            exact ⟨_, _, S.sub _ ⟨rfl, rfl, rfl, rfl, rfl, rfl, rfl, rfl, rfl, rfl, rfl, rfl, trivial⟩, H⟩
        · clear S aa
          rintro aa ww ⟨x37, h6, S, HJ⟩
          replace H := HK_3 _ _ HJ
          clear HK_3 HJ
          refine OL.nil ?_
          refine W.cond S (b := x37) rfl (fun hb_4 => ?_) (fun hb_4 => ?_)
          · replace H := H.1 hb_4
            refine W.seq ?_
            replace S := S.sub [] trivial
            refine W.region ?_
            refine ol_cal S H isfn9 rfl rfl trivial ?_
            clear S H aa; intro u_3 aa ww h8 H S
            obtain ⟨x38, rfl, H⟩ := H
            refine OL.pure S (Lf.run_assign (S.ev rfl)) rfl rfl trivial ?_
            clear S; intro aa S
            refine OL.nil ?_
            refine W.ret ?_
            exact Ret.one S rfl rfl H
          · replace H := H.2 hb_4
            refine W.skip ?_
            refine W.seq ?_
            replace S := S.sub [(2, Value.pointer (some p2)), (3, Value.pointer (some p3))] ⟨rfl, rfl, trivial⟩
            refine W.region ?_
            refine OL.pure S (Lf.run_mf (evs_map S rfl)) rfl rfl trivial ?_
            clear S; intro aa S
            refine OL.pure S (Lf.run_assign (S.ev rfl)) rfl rfl trivial ?_
            clear S; intro aa S
            refine OL.nil ?_
            refine W.seq ?_
            replace S := S.sub [(2, Value.pointer (some p2)), (3, Value.pointer (some p3)), (5, (Value.func (.func 18) #[] #[Value.pointer (some p3)]))] ⟨rfl, rfl, rfl, trivial⟩
            obtain ⟨J_4, H, HK_4⟩ := H
            refine W.mono (N' := fun aa ww => ∃ q6 h76, St 117 [(2, Value.pointer (some p2)), (3, Value.pointer (some p3)), (6, Value.pointer (some q6))] h76 w0 aa ww ∧ J_4 q6 h76) ?_ ?_
            · obtain ⟨Sq, HS, H⟩ := H
              refine W.regionN [1, 4, 8, 12, 16] [5, 9, 13, 14, 18, 19] Sq S (by kernel_rfl) ?_
              clear S; intro ww S
              refine BN.pure 0 S (fun _ => HS) rfl (by kernel_rfl) (by kernel_rfl) (fun _ => Lf.run_fa (S.ev rfl) fa25_0) rfl rfl trivial ?_
              clear S; intro aa S
              refine BN.pure 2 S (fun _ => HS) rfl (by kernel_rfl) (by kernel_rfl) (fun _ => Lf.run_move (S.ev rfl)) rfl rfl trivial ?_
              clear S; intro aa S
              refine BN.pure 3 S (fun _ => HS) rfl (by kernel_rfl) (by kernel_rfl) (fun _ => Lf.run_fa (S.ev rfl) fa25_2) rfl rfl trivial ?_
              clear S; intro aa S
              refine BN.pure 6 S (fun _ => HS) rfl (by kernel_rfl) (by kernel_rfl) (fun _ => Lf.run_move (S.ev rfl)) rfl rfl trivial ?_
              clear S; intro aa S
              refine BN.pure 7 S (fun _ => HS) rfl (by kernel_rfl) (by kernel_rfl) (fun _ => Lf.run_fa (S.ev rfl) fa25_3) rfl rfl trivial ?_
              clear S; intro aa S
              refine BN.pure 10 S (fun _ => HS) rfl (by kernel_rfl) (by kernel_rfl) (fun _ => Lf.run_move (S.ev rfl)) rfl rfl trivial ?_
              clear S; intro aa S
              refine BN.pure 11 S (fun _ => HS) rfl (by kernel_rfl) (by kernel_rfl) (fun _ => Lf.run_fa (S.ev rfl) fa25_4) rfl rfl trivial ?_
              clear S; intro aa S
              obtain ⟨x41, c_15, H⟩ := H
              refine BN.held 1 S HS rfl (by kernel_rfl) (fun _ hq => Lf.run_ld (S.ev rfl) fl22 (c_15 _ hq)) rfl rfl trivial ?_
              clear S; intro aa S
              obtain ⟨x44, c_16, H⟩ := H
              refine BN.held 4 S HS rfl (by kernel_rfl) (fun _ hq => Lf.run_ld (S.ev rfl) fl22 (c_16 _ hq)) rfl rfl trivial ?_
              clear S; intro aa S
              obtain ⟨x48, c_17, H⟩ := H
              refine BN.held 8 S HS rfl (by kernel_rfl) (fun _ hq => Lf.run_ld (S.ev rfl) fl22 (c_17 _ hq)) rfl rfl trivial ?_
              clear S; intro aa S
              obtain ⟨x52, c_18, H⟩ := H
              refine BN.held 12 S HS rfl (by kernel_rfl) (fun _ hq => Lf.run_ld (S.ev rfl) fl23 (c_18 _ hq)) rfl rfl trivial ?_
              clear S; intro aa S
              refine BN.effs [5, 13, 18] (by kernel_rfl) rfl ⟨⟨_, rfl, ?_⟩, ⟨_, rfl, ?_⟩, ⟨_, rfl, ?_⟩, trivial⟩
              · replace H := H.1
                refine ol_calV S H rfl rfl rfl trivial ?_
                clear S H aa; intro u_4 aa ww h9 H S
                obtain ⟨x45, rfl, H⟩ := H
                refine OL.nil ?_
                clear HS; obtain ⟨HS, H⟩ := H
                refine ⟨fun _ => by rw [S.heap]; exact HS, ?_⟩
                refine BN.effs [9, 13, 18] (by kernel_rfl) rfl ⟨⟨_, rfl, ?_⟩, ⟨_, rfl, ?_⟩, ⟨_, rfl, ?_⟩, trivial⟩
                · replace H := H.1
                  refine ol_calV S H rfl rfl rfl trivial ?_
                  clear S H aa; intro u_5 aa ww h10 H S
                  obtain ⟨x49, rfl, H⟩ := H
                  refine OL.nil ?_
                  clear HS; obtain ⟨HS, H⟩ := H
                  refine ⟨fun _ => by rw [S.heap]; exact HS, ?_⟩
                  refine BN.effs [13, 18] (by kernel_rfl) rfl ⟨⟨_, rfl, ?_⟩, ⟨_, rfl, ?_⟩, trivial⟩
                  · replace H := H.1
                    refine ol_newS S H Try.underlying22 ti23 (by decide) (parts_map S rfl) (by kernel_rfl) (by decide) rfl trivial ?_
                    clear S H aa; intro s53 aa ww h11 H S
                    refine OL.nil ?_
                    clear HS; obtain ⟨HS, H⟩ := H
                    refine ⟨fun _ => by rw [S.heap]; exact HS, ?_⟩
                    refine BN.effs [14, 18] (by kernel_rfl) rfl ⟨⟨_, rfl, ?_⟩, ⟨_, rfl, ?_⟩, trivial⟩
                    · replace H := H.1
                      refine ol_calV S H rfl rfl rfl trivial ?_
                      clear S H aa; intro u_6 aa ww h12 H S
                      obtain ⟨x54, rfl, H⟩ := H
                      refine OL.nil ?_
                      clear HS; obtain ⟨HS, H⟩ := H
                      refine ⟨fun _ => by rw [S.heap]; exact HS, ?_⟩
                      obtain ⟨q55, e, e_1, e_2, H⟩ := H
                      refine BN.pure 15 S (fun _ => HS) rfl (by kernel_rfl) (by kernel_rfl) (fun _ => Lf.run_ixs (S.ev rfl) (S.ev rfl) Try.underlying22 ti23 e e_1 e_2) rfl rfl trivial ?_
                      clear S; intro aa S
                      clear HS; obtain ⟨Sq_1, HI, HS, H⟩ := H
                      refine BN.stronger HI ?_
                      obtain ⟨x56, c_19, H⟩ := H
                      refine BN.held 16 S HS rfl (by kernel_rfl) (fun _ hq => Lf.run_ld (S.ev rfl) fl23 (c_19 _ hq)) rfl rfl trivial ?_
                      clear S; intro aa S
                      refine BN.pure 17 S (fun _ => HS) rfl (by kernel_rfl) (by kernel_rfl) (fun _ => Lf.run_build (cs := #[Value.slice x41.a x41.n x41.c, Value.int .i64 1, Value.slice x45.a x45.n x45.c, Value.slice x49.a x49.n x49.c, Value.slice x56.a x56.n x56.c]) pl25 ti25 (parts_map S rfl) (by kernel_rfl)) rfl rfl trivial ?_
                      clear S; intro aa S
                      refine BN.eff 18 rfl (by kernel_rfl) ?_
                      refine ol_alloc S H ti25 rfl rfl trivial ?_
                      clear S H aa; intro p6 aa ww h13 H S
                      refine OL.nil ?_
                      clear HS; obtain ⟨HS, H⟩ := H
                      refine ⟨fun _ => by rw [S.heap]; exact HS, ?_⟩
                      refine BN.eff 19 rfl (by kernel_rfl) ?_
                      refine ol_stoA S H rfl rfl ti25 trivial ?_
                      clear S H aa; intro aa ww h14 H S
                      refine OL.nil ?_
                      refine ⟨noNeed (by kernel_rfl), ?_⟩
                      refine BN.done (by kernel_rfl) ?_
                      exact ⟨p6, h14, S.sub _ ⟨rfl, rfl, rfl, trivial⟩, H⟩
                    · replace H := H.2
                      refine ol_alloc S H ti25 rfl rfl trivial ?_
                      clear S H aa; intro p6_1 aa ww h15 H S
                      refine OL.nil ?_
                      clear HS; obtain ⟨HS, H⟩ := H
                      refine ⟨fun _ => by rw [S.heap]; exact HS, ?_⟩
                      refine BN.eff 14 rfl (by kernel_rfl) ?_
                      refine ol_calV S H rfl rfl rfl trivial ?_
                      clear S H aa; intro u_7 aa ww h16 H S
                      obtain ⟨x54_1, rfl, H⟩ := H
                      refine OL.nil ?_
                      clear HS; obtain ⟨HS, H⟩ := H
                      refine ⟨fun _ => by rw [S.heap]; exact HS, ?_⟩
                      obtain ⟨q55_1, e_3, e_4, e_5, H⟩ := H
                      refine BN.pure 15 S (fun _ => HS) rfl (by kernel_rfl) (by kernel_rfl) (fun _ => Lf.run_ixs (S.ev rfl) (S.ev rfl) Try.underlying22 ti23 e_3 e_4 e_5) rfl rfl trivial ?_
                      clear S; intro aa S
                      obtain ⟨x56_1, c_20, H⟩ := H
                      refine BN.load 16 S (fun _ => HS) rfl (by kernel_rfl) (by kernel_rfl) (fun _ hx => Lf.run_ld (S.ev rfl) fl23 (hx.cell _ _ (S.cl c_20))) rfl rfl trivial ?_
                      clear S; intro aa S
                      refine BN.pure 17 S (fun _ => HS) rfl (by kernel_rfl) (by kernel_rfl) (fun _ => Lf.run_build (cs := #[Value.slice x41.a x41.n x41.c, Value.int .i64 1, Value.slice x45.a x45.n x45.c, Value.slice x49.a x49.n x49.c, Value.slice x56_1.a x56_1.n x56_1.c]) pl25 ti25 (parts_map S rfl) (by kernel_rfl)) rfl rfl trivial ?_
                      clear S; intro aa S
                      refine BN.eff 19 rfl (by kernel_rfl) ?_
                      refine ol_stoA S H rfl rfl ti25 trivial ?_
                      clear S H aa; intro aa ww h17 H S
                      refine OL.nil ?_
                      refine ⟨noNeed (by kernel_rfl), ?_⟩
                      refine BN.done (by kernel_rfl) ?_
                      exact ⟨p6_1, h17, S.sub _ ⟨rfl, rfl, rfl, trivial⟩, H⟩
                  · replace H := H.2
                    refine ol_alloc S H ti25 rfl rfl trivial ?_
                    clear S H aa; intro p6_2 aa ww h18 H S
                    refine OL.nil ?_
                    clear HS; obtain ⟨HS, H⟩ := H
                    refine ⟨fun _ => by rw [S.heap]; exact HS, ?_⟩
                    refine BN.eff 13 rfl (by kernel_rfl) ?_
                    refine ol_newS S H Try.underlying22 ti23 (by decide) (parts_map S rfl) (by kernel_rfl) (by decide) rfl trivial ?_
                    clear S H aa; intro s53_1 aa ww h19 H S
                    refine OL.nil ?_
                    clear HS; obtain ⟨HS, H⟩ := H
                    refine ⟨fun _ => by rw [S.heap]; exact HS, ?_⟩
                    refine BN.eff 14 rfl (by kernel_rfl) ?_
                    refine ol_calV S H rfl rfl rfl trivial ?_
                    clear S H aa; intro u_8 aa ww h20 H S
                    obtain ⟨x54_2, rfl, H⟩ := H
                    refine OL.nil ?_
                    clear HS; obtain ⟨HS, H⟩ := H
                    refine ⟨fun _ => by rw [S.heap]; exact HS, ?_⟩
                    obtain ⟨q55_2, e_6, e_7, e_8, H⟩ := H
                    refine BN.pure 15 S (fun _ => HS) rfl (by kernel_rfl) (by kernel_rfl) (fun _ => Lf.run_ixs (S.ev rfl) (S.ev rfl) Try.underlying22 ti23 e_6 e_7 e_8) rfl rfl trivial ?_
                    clear S; intro aa S
                    obtain ⟨x56_2, c_21, H⟩ := H
                    refine BN.load 16 S (fun _ => HS) rfl (by kernel_rfl) (by kernel_rfl) (fun _ hx => Lf.run_ld (S.ev rfl) fl23 (hx.cell _ _ (S.cl c_21))) rfl rfl trivial ?_
                    clear S; intro aa S
                    refine BN.pure 17 S (fun _ => HS) rfl (by kernel_rfl) (by kernel_rfl) (fun _ => Lf.run_build (cs := #[Value.slice x41.a x41.n x41.c, Value.int .i64 1, Value.slice x45.a x45.n x45.c, Value.slice x49.a x49.n x49.c, Value.slice x56_2.a x56_2.n x56_2.c]) pl25 ti25 (parts_map S rfl) (by kernel_rfl)) rfl rfl trivial ?_
                    clear S; intro aa S
                    refine BN.eff 19 rfl (by kernel_rfl) ?_
                    refine ol_stoA S H rfl rfl ti25 trivial ?_
                    clear S H aa; intro aa ww h21 H S
                    refine OL.nil ?_
                    refine ⟨noNeed (by kernel_rfl), ?_⟩
                    refine BN.done (by kernel_rfl) ?_
                    exact ⟨p6_2, h21, S.sub _ ⟨rfl, rfl, rfl, trivial⟩, H⟩
                · replace H := H.2.1
                  refine ol_newS S H Try.underlying22 ti23 (by decide) (parts_map S rfl) (by kernel_rfl) (by decide) rfl trivial ?_
                  clear S H aa; intro s53_2 aa ww h22 H S
                  refine OL.nil ?_
                  clear HS; obtain ⟨HS, H⟩ := H
                  refine ⟨fun _ => by rw [S.heap]; exact HS, ?_⟩
                  refine BN.effs [9, 18] (by kernel_rfl) rfl ⟨⟨_, rfl, ?_⟩, ⟨_, rfl, ?_⟩, trivial⟩
                  · replace H := H.1
                    refine ol_calV S H rfl rfl rfl trivial ?_
                    clear S H aa; intro u_9 aa ww h23 H S
                    obtain ⟨x49_1, rfl, H⟩ := H
                    refine OL.nil ?_
                    clear HS; obtain ⟨HS, H⟩ := H
                    refine ⟨fun _ => by rw [S.heap]; exact HS, ?_⟩
                    refine BN.effs [14, 18] (by kernel_rfl) rfl ⟨⟨_, rfl, ?_⟩, ⟨_, rfl, ?_⟩, trivial⟩
                    · replace H := H.1
                      refine ol_calV S H rfl rfl rfl trivial ?_
                      clear S H aa; intro u_10 aa ww h24 H S
                      obtain ⟨x54_3, rfl, H⟩ := H
                      refine OL.nil ?_
                      clear HS; obtain ⟨HS, H⟩ := H
                      refine ⟨fun _ => by rw [S.heap]; exact HS, ?_⟩
                      obtain ⟨q55_3, e_9, e_10, e_11, H⟩ := H
                      refine BN.pure 15 S (fun _ => HS) rfl (by kernel_rfl) (by kernel_rfl) (fun _ => Lf.run_ixs (S.ev rfl) (S.ev rfl) Try.underlying22 ti23 e_9 e_10 e_11) rfl rfl trivial ?_
                      clear S; intro aa S
                      clear HS; obtain ⟨Sq_2, HI_1, HS, H⟩ := H
                      refine BN.stronger HI_1 ?_
                      obtain ⟨x56_3, c_22, H⟩ := H
                      refine BN.held 16 S HS rfl (by kernel_rfl) (fun _ hq => Lf.run_ld (S.ev rfl) fl23 (c_22 _ hq)) rfl rfl trivial ?_
                      clear S; intro aa S
                      refine BN.pure 17 S (fun _ => HS) rfl (by kernel_rfl) (by kernel_rfl) (fun _ => Lf.run_build (cs := #[Value.slice x41.a x41.n x41.c, Value.int .i64 1, Value.slice x45.a x45.n x45.c, Value.slice x49_1.a x49_1.n x49_1.c, Value.slice x56_3.a x56_3.n x56_3.c]) pl25 ti25 (parts_map S rfl) (by kernel_rfl)) rfl rfl trivial ?_
                      clear S; intro aa S
                      refine BN.eff 18 rfl (by kernel_rfl) ?_
                      refine ol_alloc S H ti25 rfl rfl trivial ?_
                      clear S H aa; intro p6_3 aa ww h25 H S
                      refine OL.nil ?_
                      clear HS; obtain ⟨HS, H⟩ := H
                      refine ⟨fun _ => by rw [S.heap]; exact HS, ?_⟩
                      refine BN.eff 19 rfl (by kernel_rfl) ?_
                      refine ol_stoA S H rfl rfl ti25 trivial ?_
                      clear S H aa; intro aa ww h26 H S
                      refine OL.nil ?_
                      refine ⟨noNeed (by kernel_rfl), ?_⟩
                      refine BN.done (by kernel_rfl) ?_
                      exact ⟨p6_3, h26, S.sub _ ⟨rfl, rfl, rfl, trivial⟩, H⟩
                    · replace H := H.2
                      refine ol_alloc S H ti25 rfl rfl trivial ?_
                      clear S H aa; intro p6_4 aa ww h27 H S
                      refine OL.nil ?_
                      clear HS; obtain ⟨HS, H⟩ := H
                      refine ⟨fun _ => by rw [S.heap]; exact HS, ?_⟩
                      refine BN.eff 14 rfl (by kernel_rfl) ?_
                      refine ol_calV S H rfl rfl rfl trivial ?_
                      clear S H aa; intro u_11 aa ww h28 H S
                      obtain ⟨x54_4, rfl, H⟩ := H
                      refine OL.nil ?_
                      clear HS; obtain ⟨HS, H⟩ := H
                      refine ⟨fun _ => by rw [S.heap]; exact HS, ?_⟩
                      obtain ⟨q55_4, e_12, e_13, e_14, H⟩ := H
                      refine BN.pure 15 S (fun _ => HS) rfl (by kernel_rfl) (by kernel_rfl) (fun _ => Lf.run_ixs (S.ev rfl) (S.ev rfl) Try.underlying22 ti23 e_12 e_13 e_14) rfl rfl trivial ?_
                      clear S; intro aa S
                      obtain ⟨x56_4, c_23, H⟩ := H
                      refine BN.load 16 S (fun _ => HS) rfl (by kernel_rfl) (by kernel_rfl) (fun _ hx => Lf.run_ld (S.ev rfl) fl23 (hx.cell _ _ (S.cl c_23))) rfl rfl trivial ?_
                      clear S; intro aa S
                      refine BN.pure 17 S (fun _ => HS) rfl (by kernel_rfl) (by kernel_rfl) (fun _ => Lf.run_build (cs := #[Value.slice x41.a x41.n x41.c, Value.int .i64 1, Value.slice x45.a x45.n x45.c, Value.slice x49_1.a x49_1.n x49_1.c, Value.slice x56_4.a x56_4.n x56_4.c]) pl25 ti25 (parts_map S rfl) (by kernel_rfl)) rfl rfl trivial ?_
                      clear S; intro aa S
                      refine BN.eff 19 rfl (by kernel_rfl) ?_
                      refine ol_stoA S H rfl rfl ti25 trivial ?_
                      clear S H aa; intro aa ww h29 H S
                      refine OL.nil ?_
                      refine ⟨noNeed (by kernel_rfl), ?_⟩
                      refine BN.done (by kernel_rfl) ?_
                      exact ⟨p6_4, h29, S.sub _ ⟨rfl, rfl, rfl, trivial⟩, H⟩
                  · replace H := H.2
                    refine ol_alloc S H ti25 rfl rfl trivial ?_
                    clear S H aa; intro p6_5 aa ww h30 H S
                    refine OL.nil ?_
                    clear HS; obtain ⟨HS, H⟩ := H
                    refine ⟨fun _ => by rw [S.heap]; exact HS, ?_⟩
                    refine BN.eff 9 rfl (by kernel_rfl) ?_
                    refine ol_calV S H rfl rfl rfl trivial ?_
                    clear S H aa; intro u_12 aa ww h31 H S
                    obtain ⟨x49_2, rfl, H⟩ := H
                    refine OL.nil ?_
                    clear HS; obtain ⟨HS, H⟩ := H
                    refine ⟨fun _ => by rw [S.heap]; exact HS, ?_⟩
                    refine BN.eff 14 rfl (by kernel_rfl) ?_
                    refine ol_calV S H rfl rfl rfl trivial ?_
                    clear S H aa; intro u_13 aa ww h32 H S
                    obtain ⟨x54_5, rfl, H⟩ := H
                    refine OL.nil ?_
                    clear HS; obtain ⟨HS, H⟩ := H
                    refine ⟨fun _ => by rw [S.heap]; exact HS, ?_⟩
                    obtain ⟨q55_5, e_15, e_16, e_17, H⟩ := H
                    refine BN.pure 15 S (fun _ => HS) rfl (by kernel_rfl) (by kernel_rfl) (fun _ => Lf.run_ixs (S.ev rfl) (S.ev rfl) Try.underlying22 ti23 e_15 e_16 e_17) rfl rfl trivial ?_
                    clear S; intro aa S
                    obtain ⟨x56_5, c_24, H⟩ := H
                    refine BN.load 16 S (fun _ => HS) rfl (by kernel_rfl) (by kernel_rfl) (fun _ hx => Lf.run_ld (S.ev rfl) fl23 (hx.cell _ _ (S.cl c_24))) rfl rfl trivial ?_
                    clear S; intro aa S
                    refine BN.pure 17 S (fun _ => HS) rfl (by kernel_rfl) (by kernel_rfl) (fun _ => Lf.run_build (cs := #[Value.slice x41.a x41.n x41.c, Value.int .i64 1, Value.slice x45.a x45.n x45.c, Value.slice x49_2.a x49_2.n x49_2.c, Value.slice x56_5.a x56_5.n x56_5.c]) pl25 ti25 (parts_map S rfl) (by kernel_rfl)) rfl rfl trivial ?_
                    clear S; intro aa S
                    refine BN.eff 19 rfl (by kernel_rfl) ?_
                    refine ol_stoA S H rfl rfl ti25 trivial ?_
                    clear S H aa; intro aa ww h33 H S
                    refine OL.nil ?_
                    refine ⟨noNeed (by kernel_rfl), ?_⟩
                    refine BN.done (by kernel_rfl) ?_
                    exact ⟨p6_5, h33, S.sub _ ⟨rfl, rfl, rfl, trivial⟩, H⟩
                · replace H := H.2.2
                  refine ol_alloc S H ti25 rfl rfl trivial ?_
                  clear S H aa; intro p6_6 aa ww h34 H S
                  refine OL.nil ?_
                  clear HS; obtain ⟨HS, H⟩ := H
                  refine ⟨fun _ => by rw [S.heap]; exact HS, ?_⟩
                  refine BN.effs [9, 13] (by kernel_rfl) rfl ⟨⟨_, rfl, ?_⟩, ⟨_, rfl, ?_⟩, trivial⟩
                  · replace H := H.1
                    refine ol_calV S H rfl rfl rfl trivial ?_
                    clear S H aa; intro u_14 aa ww h35 H S
                    obtain ⟨x49_3, rfl, H⟩ := H
                    refine OL.nil ?_
                    clear HS; obtain ⟨HS, H⟩ := H
                    refine ⟨fun _ => by rw [S.heap]; exact HS, ?_⟩
                    refine BN.eff 13 rfl (by kernel_rfl) ?_
                    refine ol_newS S H Try.underlying22 ti23 (by decide) (parts_map S rfl) (by kernel_rfl) (by decide) rfl trivial ?_
                    clear S H aa; intro s53_3 aa ww h36 H S
                    refine OL.nil ?_
                    clear HS; obtain ⟨HS, H⟩ := H
                    refine ⟨fun _ => by rw [S.heap]; exact HS, ?_⟩
                    refine BN.eff 14 rfl (by kernel_rfl) ?_
                    refine ol_calV S H rfl rfl rfl trivial ?_
                    clear S H aa; intro u_15 aa ww h37 H S
                    obtain ⟨x54_6, rfl, H⟩ := H
                    refine OL.nil ?_
                    clear HS; obtain ⟨HS, H⟩ := H
                    refine ⟨fun _ => by rw [S.heap]; exact HS, ?_⟩
                    obtain ⟨q55_6, e_18, e_19, e_20, H⟩ := H
                    refine BN.pure 15 S (fun _ => HS) rfl (by kernel_rfl) (by kernel_rfl) (fun _ => Lf.run_ixs (S.ev rfl) (S.ev rfl) Try.underlying22 ti23 e_18 e_19 e_20) rfl rfl trivial ?_
                    clear S; intro aa S
                    obtain ⟨x56_6, c_25, H⟩ := H
                    refine BN.load 16 S (fun _ => HS) rfl (by kernel_rfl) (by kernel_rfl) (fun _ hx => Lf.run_ld (S.ev rfl) fl23 (hx.cell _ _ (S.cl c_25))) rfl rfl trivial ?_
                    clear S; intro aa S
                    refine BN.pure 17 S (fun _ => HS) rfl (by kernel_rfl) (by kernel_rfl) (fun _ => Lf.run_build (cs := #[Value.slice x41.a x41.n x41.c, Value.int .i64 1, Value.slice x45.a x45.n x45.c, Value.slice x49_3.a x49_3.n x49_3.c, Value.slice x56_6.a x56_6.n x56_6.c]) pl25 ti25 (parts_map S rfl) (by kernel_rfl)) rfl rfl trivial ?_
                    clear S; intro aa S
                    refine BN.eff 19 rfl (by kernel_rfl) ?_
                    refine ol_stoA S H rfl rfl ti25 trivial ?_
                    clear S H aa; intro aa ww h38 H S
                    refine OL.nil ?_
                    refine ⟨noNeed (by kernel_rfl), ?_⟩
                    refine BN.done (by kernel_rfl) ?_
                    exact ⟨p6_6, h38, S.sub _ ⟨rfl, rfl, rfl, trivial⟩, H⟩
                  · replace H := H.2
                    refine ol_newS S H Try.underlying22 ti23 (by decide) (parts_map S rfl) (by kernel_rfl) (by decide) rfl trivial ?_
                    clear S H aa; intro s53_4 aa ww h39 H S
                    refine OL.nil ?_
                    clear HS; obtain ⟨HS, H⟩ := H
                    refine ⟨fun _ => by rw [S.heap]; exact HS, ?_⟩
                    refine BN.eff 9 rfl (by kernel_rfl) ?_
                    refine ol_calV S H rfl rfl rfl trivial ?_
                    clear S H aa; intro u_16 aa ww h40 H S
                    obtain ⟨x49_4, rfl, H⟩ := H
                    refine OL.nil ?_
                    clear HS; obtain ⟨HS, H⟩ := H
                    refine ⟨fun _ => by rw [S.heap]; exact HS, ?_⟩
                    refine BN.eff 14 rfl (by kernel_rfl) ?_
                    refine ol_calV S H rfl rfl rfl trivial ?_
                    clear S H aa; intro u_17 aa ww h41 H S
                    obtain ⟨x54_7, rfl, H⟩ := H
                    refine OL.nil ?_
                    clear HS; obtain ⟨HS, H⟩ := H
                    refine ⟨fun _ => by rw [S.heap]; exact HS, ?_⟩
                    obtain ⟨q55_7, e_21, e_22, e_23, H⟩ := H
                    refine BN.pure 15 S (fun _ => HS) rfl (by kernel_rfl) (by kernel_rfl) (fun _ => Lf.run_ixs (S.ev rfl) (S.ev rfl) Try.underlying22 ti23 e_21 e_22 e_23) rfl rfl trivial ?_
                    clear S; intro aa S
                    obtain ⟨x56_7, c_26, H⟩ := H
                    refine BN.load 16 S (fun _ => HS) rfl (by kernel_rfl) (by kernel_rfl) (fun _ hx => Lf.run_ld (S.ev rfl) fl23 (hx.cell _ _ (S.cl c_26))) rfl rfl trivial ?_
                    clear S; intro aa S
                    refine BN.pure 17 S (fun _ => HS) rfl (by kernel_rfl) (by kernel_rfl) (fun _ => Lf.run_build (cs := #[Value.slice x41.a x41.n x41.c, Value.int .i64 1, Value.slice x45.a x45.n x45.c, Value.slice x49_4.a x49_4.n x49_4.c, Value.slice x56_7.a x56_7.n x56_7.c]) pl25 ti25 (parts_map S rfl) (by kernel_rfl)) rfl rfl trivial ?_
                    clear S; intro aa S
                    refine BN.eff 19 rfl (by kernel_rfl) ?_
                    refine ol_stoA S H rfl rfl ti25 trivial ?_
                    clear S H aa; intro aa ww h42 H S
                    refine OL.nil ?_
                    refine ⟨noNeed (by kernel_rfl), ?_⟩
                    refine BN.done (by kernel_rfl) ?_
                    exact ⟨p6_6, h42, S.sub _ ⟨rfl, rfl, rfl, trivial⟩, H⟩
              · replace H := H.2.1
                refine ol_newS S H Try.underlying22 ti23 (by decide) (parts_map S rfl) (by kernel_rfl) (by decide) rfl trivial ?_
                clear S H aa; intro s53_5 aa ww h43 H S
                refine OL.nil ?_
                clear HS; obtain ⟨HS, H⟩ := H
                refine ⟨fun _ => by rw [S.heap]; exact HS, ?_⟩
                refine BN.effs [5, 18] (by kernel_rfl) rfl ⟨⟨_, rfl, ?_⟩, ⟨_, rfl, ?_⟩, trivial⟩
                · replace H := H.1
                  refine ol_calV S H rfl rfl rfl trivial ?_
                  clear S H aa; intro u_18 aa ww h44 H S
                  obtain ⟨x45_1, rfl, H⟩ := H
                  refine OL.nil ?_
                  clear HS; obtain ⟨HS, H⟩ := H
                  refine ⟨fun _ => by rw [S.heap]; exact HS, ?_⟩
                  refine BN.effs [9, 18] (by kernel_rfl) rfl ⟨⟨_, rfl, ?_⟩, ⟨_, rfl, ?_⟩, trivial⟩
                  · replace H := H.1
                    refine ol_calV S H rfl rfl rfl trivial ?_
                    clear S H aa; intro u_19 aa ww h45 H S
                    obtain ⟨x49_5, rfl, H⟩ := H
                    refine OL.nil ?_
                    clear HS; obtain ⟨HS, H⟩ := H
                    refine ⟨fun _ => by rw [S.heap]; exact HS, ?_⟩
                    refine BN.effs [14, 18] (by kernel_rfl) rfl ⟨⟨_, rfl, ?_⟩, ⟨_, rfl, ?_⟩, trivial⟩
                    · replace H := H.1
                      refine ol_calV S H rfl rfl rfl trivial ?_
                      clear S H aa; intro u_20 aa ww h46 H S
                      obtain ⟨x54_8, rfl, H⟩ := H
                      refine OL.nil ?_
                      clear HS; obtain ⟨HS, H⟩ := H
                      refine ⟨fun _ => by rw [S.heap]; exact HS, ?_⟩
                      obtain ⟨q55_8, e_24, e_25, e_26, H⟩ := H
                      refine BN.pure 15 S (fun _ => HS) rfl (by kernel_rfl) (by kernel_rfl) (fun _ => Lf.run_ixs (S.ev rfl) (S.ev rfl) Try.underlying22 ti23 e_24 e_25 e_26) rfl rfl trivial ?_
                      clear S; intro aa S
                      clear HS; obtain ⟨Sq_3, HI_2, HS, H⟩ := H
                      refine BN.stronger HI_2 ?_
                      obtain ⟨x56_8, c_27, H⟩ := H
                      refine BN.held 16 S HS rfl (by kernel_rfl) (fun _ hq => Lf.run_ld (S.ev rfl) fl23 (c_27 _ hq)) rfl rfl trivial ?_
                      clear S; intro aa S
                      refine BN.pure 17 S (fun _ => HS) rfl (by kernel_rfl) (by kernel_rfl) (fun _ => Lf.run_build (cs := #[Value.slice x41.a x41.n x41.c, Value.int .i64 1, Value.slice x45_1.a x45_1.n x45_1.c, Value.slice x49_5.a x49_5.n x49_5.c, Value.slice x56_8.a x56_8.n x56_8.c]) pl25 ti25 (parts_map S rfl) (by kernel_rfl)) rfl rfl trivial ?_
                      clear S; intro aa S
                      refine BN.eff 18 rfl (by kernel_rfl) ?_
                      refine ol_alloc S H ti25 rfl rfl trivial ?_
                      clear S H aa; intro p6_7 aa ww h47 H S
                      refine OL.nil ?_
                      clear HS; obtain ⟨HS, H⟩ := H
                      refine ⟨fun _ => by rw [S.heap]; exact HS, ?_⟩
                      refine BN.eff 19 rfl (by kernel_rfl) ?_
                      refine ol_stoA S H rfl rfl ti25 trivial ?_
                      clear S H aa; intro aa ww h48 H S
                      refine OL.nil ?_
                      refine ⟨noNeed (by kernel_rfl), ?_⟩
                      refine BN.done (by kernel_rfl) ?_
                      exact ⟨p6_7, h48, S.sub _ ⟨rfl, rfl, rfl, trivial⟩, H⟩
                    · replace H := H.2
                      refine ol_alloc S H ti25 rfl rfl trivial ?_
                      clear S H aa; intro p6_8 aa ww h49 H S
                      refine OL.nil ?_
                      clear HS; obtain ⟨HS, H⟩ := H
                      refine ⟨fun _ => by rw [S.heap]; exact HS, ?_⟩
                      refine BN.eff 14 rfl (by kernel_rfl) ?_
                      refine ol_calV S H rfl rfl rfl trivial ?_
                      clear S H aa; intro u_21 aa ww h50 H S
                      obtain ⟨x54_9, rfl, H⟩ := H
                      refine OL.nil ?_
                      clear HS; obtain ⟨HS, H⟩ := H
                      refine ⟨fun _ => by rw [S.heap]; exact HS, ?_⟩
                      obtain ⟨q55_9, e_27, e_28, e_29, H⟩ := H
                      refine BN.pure 15 S (fun _ => HS) rfl (by kernel_rfl) (by kernel_rfl) (fun _ => Lf.run_ixs (S.ev rfl) (S.ev rfl) Try.underlying22 ti23 e_27 e_28 e_29) rfl rfl trivial ?_
                      clear S; intro aa S
                      obtain ⟨x56_9, c_28, H⟩ := H
                      refine BN.load 16 S (fun _ => HS) rfl (by kernel_rfl) (by kernel_rfl) (fun _ hx => Lf.run_ld (S.ev rfl) fl23 (hx.cell _ _ (S.cl c_28))) rfl rfl trivial ?_
                      clear S; intro aa S
                      refine BN.pure 17 S (fun _ => HS) rfl (by kernel_rfl) (by kernel_rfl) (fun _ => Lf.run_build (cs := #[Value.slice x41.a x41.n x41.c, Value.int .i64 1, Value.slice x45_1.a x45_1.n x45_1.c, Value.slice x49_5.a x49_5.n x49_5.c, Value.slice x56_9.a x56_9.n x56_9.c]) pl25 ti25 (parts_map S rfl) (by kernel_rfl)) rfl rfl trivial ?_
                      clear S; intro aa S
                      refine BN.eff 19 rfl (by kernel_rfl) ?_
                      refine ol_stoA S H rfl rfl ti25 trivial ?_
                      clear S H aa; intro aa ww h51 H S
                      refine OL.nil ?_
                      refine ⟨noNeed (by kernel_rfl), ?_⟩
                      refine BN.done (by kernel_rfl) ?_
                      exact ⟨p6_8, h51, S.sub _ ⟨rfl, rfl, rfl, trivial⟩, H⟩
                  · replace H := H.2
                    refine ol_alloc S H ti25 rfl rfl trivial ?_
                    clear S H aa; intro p6_9 aa ww h52 H S
                    refine OL.nil ?_
                    clear HS; obtain ⟨HS, H⟩ := H
                    refine ⟨fun _ => by rw [S.heap]; exact HS, ?_⟩
                    refine BN.eff 9 rfl (by kernel_rfl) ?_
                    refine ol_calV S H rfl rfl rfl trivial ?_
                    clear S H aa; intro u_22 aa ww h53 H S
                    obtain ⟨x49_6, rfl, H⟩ := H
                    refine OL.nil ?_
                    clear HS; obtain ⟨HS, H⟩ := H
                    refine ⟨fun _ => by rw [S.heap]; exact HS, ?_⟩
                    refine BN.eff 14 rfl (by kernel_rfl) ?_
                    refine ol_calV S H rfl rfl rfl trivial ?_
                    clear S H aa; intro u_23 aa ww h54 H S
                    obtain ⟨x54_10, rfl, H⟩ := H
                    refine OL.nil ?_
                    clear HS; obtain ⟨HS, H⟩ := H
                    refine ⟨fun _ => by rw [S.heap]; exact HS, ?_⟩
                    obtain ⟨q55_10, e_30, e_31, e_32, H⟩ := H
                    refine BN.pure 15 S (fun _ => HS) rfl (by kernel_rfl) (by kernel_rfl) (fun _ => Lf.run_ixs (S.ev rfl) (S.ev rfl) Try.underlying22 ti23 e_30 e_31 e_32) rfl rfl trivial ?_
                    clear S; intro aa S
                    obtain ⟨x56_10, c_29, H⟩ := H
                    refine BN.load 16 S (fun _ => HS) rfl (by kernel_rfl) (by kernel_rfl) (fun _ hx => Lf.run_ld (S.ev rfl) fl23 (hx.cell _ _ (S.cl c_29))) rfl rfl trivial ?_
                    clear S; intro aa S
                    refine BN.pure 17 S (fun _ => HS) rfl (by kernel_rfl) (by kernel_rfl) (fun _ => Lf.run_build (cs := #[Value.slice x41.a x41.n x41.c, Value.int .i64 1, Value.slice x45_1.a x45_1.n x45_1.c, Value.slice x49_6.a x49_6.n x49_6.c, Value.slice x56_10.a x56_10.n x56_10.c]) pl25 ti25 (parts_map S rfl) (by kernel_rfl)) rfl rfl trivial ?_
                    clear S; intro aa S
                    refine BN.eff 19 rfl (by kernel_rfl) ?_
                    refine ol_stoA S H rfl rfl ti25 trivial ?_
                    clear S H aa; intro aa ww h55 H S
                    refine OL.nil ?_
                    refine ⟨noNeed (by kernel_rfl), ?_⟩
                    refine BN.done (by kernel_rfl) ?_
                    exact ⟨p6_9, h55, S.sub _ ⟨rfl, rfl, rfl, trivial⟩, H⟩
                · replace H := H.2
                  refine ol_alloc S H ti25 rfl rfl trivial ?_
                  clear S H aa; intro p6_10 aa ww h56 H S
                  refine OL.nil ?_
                  clear HS; obtain ⟨HS, H⟩ := H
                  refine ⟨fun _ => by rw [S.heap]; exact HS, ?_⟩
                  refine BN.eff 5 rfl (by kernel_rfl) ?_
                  refine ol_calV S H rfl rfl rfl trivial ?_
                  clear S H aa; intro u_24 aa ww h57 H S
                  obtain ⟨x45_2, rfl, H⟩ := H
                  refine OL.nil ?_
                  clear HS; obtain ⟨HS, H⟩ := H
                  refine ⟨fun _ => by rw [S.heap]; exact HS, ?_⟩
                  refine BN.eff 9 rfl (by kernel_rfl) ?_
                  refine ol_calV S H rfl rfl rfl trivial ?_
                  clear S H aa; intro u_25 aa ww h58 H S
                  obtain ⟨x49_7, rfl, H⟩ := H
                  refine OL.nil ?_
                  clear HS; obtain ⟨HS, H⟩ := H
                  refine ⟨fun _ => by rw [S.heap]; exact HS, ?_⟩
                  refine BN.eff 14 rfl (by kernel_rfl) ?_
                  refine ol_calV S H rfl rfl rfl trivial ?_
                  clear S H aa; intro u_26 aa ww h59 H S
                  obtain ⟨x54_11, rfl, H⟩ := H
                  refine OL.nil ?_
                  clear HS; obtain ⟨HS, H⟩ := H
                  refine ⟨fun _ => by rw [S.heap]; exact HS, ?_⟩
                  obtain ⟨q55_11, e_33, e_34, e_35, H⟩ := H
                  refine BN.pure 15 S (fun _ => HS) rfl (by kernel_rfl) (by kernel_rfl) (fun _ => Lf.run_ixs (S.ev rfl) (S.ev rfl) Try.underlying22 ti23 e_33 e_34 e_35) rfl rfl trivial ?_
                  clear S; intro aa S
                  obtain ⟨x56_11, c_30, H⟩ := H
                  refine BN.load 16 S (fun _ => HS) rfl (by kernel_rfl) (by kernel_rfl) (fun _ hx => Lf.run_ld (S.ev rfl) fl23 (hx.cell _ _ (S.cl c_30))) rfl rfl trivial ?_
                  clear S; intro aa S
                  refine BN.pure 17 S (fun _ => HS) rfl (by kernel_rfl) (by kernel_rfl) (fun _ => Lf.run_build (cs := #[Value.slice x41.a x41.n x41.c, Value.int .i64 1, Value.slice x45_2.a x45_2.n x45_2.c, Value.slice x49_7.a x49_7.n x49_7.c, Value.slice x56_11.a x56_11.n x56_11.c]) pl25 ti25 (parts_map S rfl) (by kernel_rfl)) rfl rfl trivial ?_
                  clear S; intro aa S
                  refine BN.eff 19 rfl (by kernel_rfl) ?_
                  refine ol_stoA S H rfl rfl ti25 trivial ?_
                  clear S H aa; intro aa ww h60 H S
                  refine OL.nil ?_
                  refine ⟨noNeed (by kernel_rfl), ?_⟩
                  refine BN.done (by kernel_rfl) ?_
                  exact ⟨p6_10, h60, S.sub _ ⟨rfl, rfl, rfl, trivial⟩, H⟩
              · replace H := H.2.2
                refine ol_alloc S H ti25 rfl rfl trivial ?_
                clear S H aa; intro p6_11 aa ww h61 H S
                refine OL.nil ?_
                clear HS; obtain ⟨HS, H⟩ := H
                refine ⟨fun _ => by rw [S.heap]; exact HS, ?_⟩
                refine BN.effs [5, 13] (by kernel_rfl) rfl ⟨⟨_, rfl, ?_⟩, ⟨_, rfl, ?_⟩, trivial⟩
                · replace H := H.1
                  refine ol_calV S H rfl rfl rfl trivial ?_
                  clear S H aa; intro u_27 aa ww h62 H S
                  obtain ⟨x45_3, rfl, H⟩ := H
                  refine OL.nil ?_
                  clear HS; obtain ⟨HS, H⟩ := H
                  refine ⟨fun _ => by rw [S.heap]; exact HS, ?_⟩
                  refine BN.effs [9, 13] (by kernel_rfl) rfl ⟨⟨_, rfl, ?_⟩, ⟨_, rfl, ?_⟩, trivial⟩
                  · replace H := H.1
                    refine ol_calV S H rfl rfl rfl trivial ?_
                    clear S H aa; intro u_28 aa ww h63 H S
                    obtain ⟨x49_8, rfl, H⟩ := H
                    refine OL.nil ?_
                    clear HS; obtain ⟨HS, H⟩ := H
                    refine ⟨fun _ => by rw [S.heap]; exact HS, ?_⟩
                    refine BN.eff 13 rfl (by kernel_rfl) ?_
                    refine ol_newS S H Try.underlying22 ti23 (by decide) (parts_map S rfl) (by kernel_rfl) (by decide) rfl trivial ?_
                    clear S H aa; intro s53_6 aa ww h64 H S
                    refine OL.nil ?_
                    clear HS; obtain ⟨HS, H⟩ := H
                    refine ⟨fun _ => by rw [S.heap]; exact HS, ?_⟩
                    refine BN.eff 14 rfl (by kernel_rfl) ?_
                    refine ol_calV S H rfl rfl rfl trivial ?_
                    clear S H aa; intro u_29 aa ww h65 H S
                    obtain ⟨x54_12, rfl, H⟩ := H
                    refine OL.nil ?_
                    clear HS; obtain ⟨HS, H⟩ := H
                    refine ⟨fun _ => by rw [S.heap]; exact HS, ?_⟩
                    obtain ⟨q55_12, e_36, e_37, e_38, H⟩ := H
                    refine BN.pure 15 S (fun _ => HS) rfl (by kernel_rfl) (by kernel_rfl) (fun _ => Lf.run_ixs (S.ev rfl) (S.ev rfl) Try.underlying22 ti23 e_36 e_37 e_38) rfl rfl trivial ?_
                    clear S; intro aa S
                    obtain ⟨x56_12, c_31, H⟩ := H
                    refine BN.load 16 S (fun _ => HS) rfl (by kernel_rfl) (by kernel_rfl) (fun _ hx => Lf.run_ld (S.ev rfl) fl23 (hx.cell _ _ (S.cl c_31))) rfl rfl trivial ?_
                    clear S; intro aa S
                    refine BN.pure 17 S (fun _ => HS) rfl (by kernel_rfl) (by kernel_rfl) (fun _ => Lf.run_build (cs := #[Value.slice x41.a x41.n x41.c, Value.int .i64 1, Value.slice x45_3.a x45_3.n x45_3.c, Value.slice x49_8.a x49_8.n x49_8.c, Value.slice x56_12.a x56_12.n x56_12.c]) pl25 ti25 (parts_map S rfl) (by kernel_rfl)) rfl rfl trivial ?_
                    clear S; intro aa S
                    refine BN.eff 19 rfl (by kernel_rfl) ?_
                    refine ol_stoA S H rfl rfl ti25 trivial ?_
                    clear S H aa; intro aa ww h66 H S
                    refine OL.nil ?_
                    refine ⟨noNeed (by kernel_rfl), ?_⟩
                    refine BN.done (by kernel_rfl) ?_
                    exact ⟨p6_11, h66, S.sub _ ⟨rfl, rfl, rfl, trivial⟩, H⟩
                  · replace H := H.2
                    refine ol_newS S H Try.underlying22 ti23 (by decide) (parts_map S rfl) (by kernel_rfl) (by decide) rfl trivial ?_
                    clear S H aa; intro s53_7 aa ww h67 H S
                    refine OL.nil ?_
                    clear HS; obtain ⟨HS, H⟩ := H
                    refine ⟨fun _ => by rw [S.heap]; exact HS, ?_⟩
                    refine BN.eff 9 rfl (by kernel_rfl) ?_
                    refine ol_calV S H rfl rfl rfl trivial ?_
                    clear S H aa; intro u_30 aa ww h68 H S
                    obtain ⟨x49_9, rfl, H⟩ := H
                    refine OL.nil ?_
                    clear HS; obtain ⟨HS, H⟩ := H
                    refine ⟨fun _ => by rw [S.heap]; exact HS, ?_⟩
                    refine BN.eff 14 rfl (by kernel_rfl) ?_
                    refine ol_calV S H rfl rfl rfl trivial ?_
                    clear S H aa; intro u_31 aa ww h69 H S
                    obtain ⟨x54_13, rfl, H⟩ := H
                    refine OL.nil ?_
                    clear HS; obtain ⟨HS, H⟩ := H
                    refine ⟨fun _ => by rw [S.heap]; exact HS, ?_⟩
                    obtain ⟨q55_13, e_39, e_40, e_41, H⟩ := H
                    refine BN.pure 15 S (fun _ => HS) rfl (by kernel_rfl) (by kernel_rfl) (fun _ => Lf.run_ixs (S.ev rfl) (S.ev rfl) Try.underlying22 ti23 e_39 e_40 e_41) rfl rfl trivial ?_
                    clear S; intro aa S
                    obtain ⟨x56_13, c_32, H⟩ := H
                    refine BN.load 16 S (fun _ => HS) rfl (by kernel_rfl) (by kernel_rfl) (fun _ hx => Lf.run_ld (S.ev rfl) fl23 (hx.cell _ _ (S.cl c_32))) rfl rfl trivial ?_
                    clear S; intro aa S
                    refine BN.pure 17 S (fun _ => HS) rfl (by kernel_rfl) (by kernel_rfl) (fun _ => Lf.run_build (cs := #[Value.slice x41.a x41.n x41.c, Value.int .i64 1, Value.slice x45_3.a x45_3.n x45_3.c, Value.slice x49_9.a x49_9.n x49_9.c, Value.slice x56_13.a x56_13.n x56_13.c]) pl25 ti25 (parts_map S rfl) (by kernel_rfl)) rfl rfl trivial ?_
                    clear S; intro aa S
                    refine BN.eff 19 rfl (by kernel_rfl) ?_
                    refine ol_stoA S H rfl rfl ti25 trivial ?_
                    clear S H aa; intro aa ww h70 H S
                    refine OL.nil ?_
                    refine ⟨noNeed (by kernel_rfl), ?_⟩
                    refine BN.done (by kernel_rfl) ?_
                    exact ⟨p6_11, h70, S.sub _ ⟨rfl, rfl, rfl, trivial⟩, H⟩
                · replace H := H.2
                  refine ol_newS S H Try.underlying22 ti23 (by decide) (parts_map S rfl) (by kernel_rfl) (by decide) rfl trivial ?_
                  clear S H aa; intro s53_8 aa ww h71 H S
                  refine OL.nil ?_
                  clear HS; obtain ⟨HS, H⟩ := H
                  refine ⟨fun _ => by rw [S.heap]; exact HS, ?_⟩
                  refine BN.eff 5 rfl (by kernel_rfl) ?_
                  refine ol_calV S H rfl rfl rfl trivial ?_
                  clear S H aa; intro u_32 aa ww h72 H S
                  obtain ⟨x45_4, rfl, H⟩ := H
                  refine OL.nil ?_
                  clear HS; obtain ⟨HS, H⟩ := H
                  refine ⟨fun _ => by rw [S.heap]; exact HS, ?_⟩
                  refine BN.eff 9 rfl (by kernel_rfl) ?_
                  refine ol_calV S H rfl rfl rfl trivial ?_
                  clear S H aa; intro u_33 aa ww h73 H S
                  obtain ⟨x49_10, rfl, H⟩ := H
                  refine OL.nil ?_
                  clear HS; obtain ⟨HS, H⟩ := H
                  refine ⟨fun _ => by rw [S.heap]; exact HS, ?_⟩
                  refine BN.eff 14 rfl (by kernel_rfl) ?_
                  refine ol_calV S H rfl rfl rfl trivial ?_
                  clear S H aa; intro u_34 aa ww h74 H S
                  obtain ⟨x54_14, rfl, H⟩ := H
                  refine OL.nil ?_
                  clear HS; obtain ⟨HS, H⟩ := H
                  refine ⟨fun _ => by rw [S.heap]; exact HS, ?_⟩
                  obtain ⟨q55_14, e_42, e_43, e_44, H⟩ := H
                  refine BN.pure 15 S (fun _ => HS) rfl (by kernel_rfl) (by kernel_rfl) (fun _ => Lf.run_ixs (S.ev rfl) (S.ev rfl) Try.underlying22 ti23 e_42 e_43 e_44) rfl rfl trivial ?_
                  clear S; intro aa S
                  obtain ⟨x56_14, c_33, H⟩ := H
                  refine BN.load 16 S (fun _ => HS) rfl (by kernel_rfl) (by kernel_rfl) (fun _ hx => Lf.run_ld (S.ev rfl) fl23 (hx.cell _ _ (S.cl c_33))) rfl rfl trivial ?_
                  clear S; intro aa S
                  refine BN.pure 17 S (fun _ => HS) rfl (by kernel_rfl) (by kernel_rfl) (fun _ => Lf.run_build (cs := #[Value.slice x41.a x41.n x41.c, Value.int .i64 1, Value.slice x45_4.a x45_4.n x45_4.c, Value.slice x49_10.a x49_10.n x49_10.c, Value.slice x56_14.a x56_14.n x56_14.c]) pl25 ti25 (parts_map S rfl) (by kernel_rfl)) rfl rfl trivial ?_
                  clear S; intro aa S
                  refine BN.eff 19 rfl (by kernel_rfl) ?_
                  refine ol_stoA S H rfl rfl ti25 trivial ?_
                  clear S H aa; intro aa ww h75 H S
                  refine OL.nil ?_
                  refine ⟨noNeed (by kernel_rfl), ?_⟩
                  refine BN.done (by kernel_rfl) ?_
                  exact ⟨p6_11, h75, S.sub _ ⟨rfl, rfl, rfl, trivial⟩, H⟩
            · clear H S aa
              rintro aa ww ⟨q6, h76, S, HJ⟩
              have H := HK_4 _ _ HJ
              clear HK_4 HJ
              refine W.seq ?_
              replace S := S.sub [(2, Value.pointer (some p2)), (3, Value.pointer (some p3)), (6, Value.pointer (some q6))] ⟨rfl, rfl, rfl, trivial⟩
              refine W.region ?_
              obtain ⟨y59, y59_1, y59_2, y59_3, y59_4, c_56, c_57, c_58, c_59, c_60, H⟩ := H
              refine OL.pure S (Lf.run_ldA (cs := [Value.slice y59.a y59.n y59.c, Value.int .i64 y59_1, Value.slice y59_2.a y59_2.n y59_2.c, Value.slice y59_3.a y59_3.n y59_3.c, Value.slice y59_4.a y59_4.n y59_4.c]) (S.ev rfl) ag25 ti25 (by rw [S.heap]; exact RowL.toRow ⟨c_56, c_57, c_58, c_59, c_60, trivial⟩)) rfl rfl trivial ?_
              clear S; intro aa S
              refine ol_cal S H isfn12 rfl rfl trivial ?_
              clear S H aa; intro u_35 aa ww h77 H S
              obtain ⟨r60, rfl, H⟩ := H
              refine OL.pure S (Lf.run_move (S.ev rfl)) rfl rfl trivial ?_
              clear S; intro aa S
              obtain ⟨u_36, e_45, x61, rfl, H⟩ := H
              refine OL.pure S (Lf.run_ex (S.ev rfl) e_45) rfl rfl trivial ?_
              clear S; intro aa S
              obtain ⟨u_37, e_46, x62, rfl, H⟩ := H
              refine OL.pure S (Lf.run_ex (S.ev rfl) e_46) rfl rfl trivial ?_
              clear S; intro aa S
              refine OL.pure S (Lf.run_assign (S.ev rfl)) rfl rfl trivial ?_
              clear S; intro aa S
              refine OL.pure S (Lf.run_assign (S.ev rfl)) rfl rfl trivial ?_
              clear S; intro aa S
              refine OL.nil ?_
              refine W.seq ?_
              replace S := S.sub [(2, Value.pointer (some p2)), (3, Value.pointer (some p3)), (6, Value.pointer (some q6)), (7, Value.pointer x61), (8, Value.int .i64 x62)] ⟨rfl, rfl, rfl, rfl, rfl, trivial⟩
              refine W.region ?_
              obtain ⟨y64, y64_1, y64_2, y64_3, y64_4, c_51, c_52, c_53, c_54, c_55, H⟩ := H
              refine OL.pure S (Lf.run_ldA (cs := [Value.slice y64.a y64.n y64.c, Value.int .i64 y64_1, Value.slice y64_2.a y64_2.n y64_2.c, Value.slice y64_3.a y64_3.n y64_3.c, Value.slice y64_4.a y64_4.n y64_4.c]) (S.ev rfl) ag25 ti25 (by rw [S.heap]; exact RowL.toRow ⟨c_51, c_52, c_53, c_54, c_55, trivial⟩)) rfl rfl trivial ?_
              clear S; intro aa S
              refine ol_cal S H isfn12 rfl rfl trivial ?_
              clear S H aa; intro u_38 aa ww h78 H S
              obtain ⟨r65, rfl, H⟩ := H
              refine OL.pure S (Lf.run_move (S.ev rfl)) rfl rfl trivial ?_
              clear S; intro aa S
              obtain ⟨u_39, e_47, x66, rfl, H⟩ := H
              refine OL.pure S (Lf.run_ex (S.ev rfl) e_47) rfl rfl trivial ?_
              clear S; intro aa S
              obtain ⟨u_40, e_48, x67, rfl, H⟩ := H
              refine OL.pure S (Lf.run_ex (S.ev rfl) e_48) rfl rfl trivial ?_
              clear S; intro aa S
              refine OL.pure S (Lf.run_assign (S.ev rfl)) rfl rfl trivial ?_
              clear S; intro aa S
              refine OL.pure S (Lf.run_assign (S.ev rfl)) rfl rfl trivial ?_
              clear S; intro aa S
              refine OL.nil ?_
              refine W.seq ?_
              replace S := S.sub [(2, Value.pointer (some p2)), (3, Value.pointer (some p3)), (6, Value.pointer (some q6)), (7, Value.pointer x61), (8, Value.int .i64 x62), (9, Value.pointer x66), (10, Value.int .i64 x67)] ⟨rfl, rfl, rfl, rfl, rfl, rfl, rfl, trivial⟩
              refine W.region ?_
              obtain ⟨y69, y69_1, y69_2, y69_3, y69_4, c_46, c_47, c_48, c_49, c_50, H⟩ := H
              refine OL.pure S (Lf.run_ldA (cs := [Value.slice y69.a y69.n y69.c, Value.int .i64 y69_1, Value.slice y69_2.a y69_2.n y69_2.c, Value.slice y69_3.a y69_3.n y69_3.c, Value.slice y69_4.a y69_4.n y69_4.c]) (S.ev rfl) ag25 ti25 (by rw [S.heap]; exact RowL.toRow ⟨c_46, c_47, c_48, c_49, c_50, trivial⟩)) rfl rfl trivial ?_
              clear S; intro aa S
              refine ol_cal S H isfn19 rfl rfl trivial ?_
              clear S H aa; intro u_41 aa ww h79 H S
              obtain ⟨r70, rfl, H⟩ := H
              refine OL.pure S (Lf.run_move (S.ev rfl)) rfl rfl trivial ?_
              clear S; intro aa S
              obtain ⟨u_42, e_49, x71, rfl, H⟩ := H
              refine OL.pure S (Lf.run_ex (S.ev rfl) e_49) rfl rfl trivial ?_
              clear S; intro aa S
              obtain ⟨u_43, e_50, x72, rfl, H⟩ := H
              refine OL.pure S (Lf.run_ex (S.ev rfl) e_50) rfl rfl trivial ?_
              clear S; intro aa S
              refine OL.pure S (Lf.run_assign (S.ev rfl)) rfl rfl trivial ?_
              clear S; intro aa S
              refine OL.pure S (Lf.run_assign (S.ev rfl)) rfl rfl trivial ?_
              clear S; intro aa S
              refine OL.nil ?_
              refine W.seq ?_
              replace S := S.sub [(2, Value.pointer (some p2)), (3, Value.pointer (some p3)), (6, Value.pointer (some q6)), (7, Value.pointer x61), (8, Value.int .i64 x62), (9, Value.pointer x66), (10, Value.int .i64 x67), (11, Value.pointer x71), (12, Value.int .i64 x72)] ⟨rfl, rfl, rfl, rfl, rfl, rfl, rfl, rfl, rfl, trivial⟩
              refine W.region ?_
              obtain ⟨y74, y74_1, y74_2, y74_3, y74_4, c_41, c_42, c_43, c_44, c_45, H⟩ := H
              refine OL.pure S (Lf.run_ldA (cs := [Value.slice y74.a y74.n y74.c, Value.int .i64 y74_1, Value.slice y74_2.a y74_2.n y74_2.c, Value.slice y74_3.a y74_3.n y74_3.c, Value.slice y74_4.a y74_4.n y74_4.c]) (S.ev rfl) ag25 ti25 (by rw [S.heap]; exact RowL.toRow ⟨c_41, c_42, c_43, c_44, c_45, trivial⟩)) rfl rfl trivial ?_
              clear S; intro aa S
              refine ol_cal S H isfn19 rfl rfl trivial ?_
              clear S H aa; intro u_44 aa ww h80 H S
              obtain ⟨r75, rfl, H⟩ := H
              refine OL.pure S (Lf.run_move (S.ev rfl)) rfl rfl trivial ?_
              clear S; intro aa S
              obtain ⟨u_45, e_51, x76, rfl, H⟩ := H
              refine OL.pure S (Lf.run_ex (S.ev rfl) e_51) rfl rfl trivial ?_
              clear S; intro aa S
              obtain ⟨u_46, e_52, x77, rfl, H⟩ := H
              refine OL.pure S (Lf.run_ex (S.ev rfl) e_52) rfl rfl trivial ?_
              clear S; intro aa S
              refine OL.pure S (Lf.run_assign (S.ev rfl)) rfl rfl trivial ?_
              clear S; intro aa S
              refine OL.pure S (Lf.run_assign (S.ev rfl)) rfl rfl trivial ?_
              clear S; intro aa S
              refine OL.nil ?_
              refine W.seq ?_
              refine W.seq ?_
              replace S := S.sub [(2, Value.pointer (some p2)), (3, Value.pointer (some p3)), (7, Value.pointer x61), (8, Value.int .i64 x62), (9, Value.pointer x66), (10, Value.int .i64 x67), (11, Value.pointer x71), (12, Value.int .i64 x72), (13, Value.pointer x76), (14, Value.int .i64 x77)] ⟨rfl, rfl, rfl, rfl, rfl, rfl, rfl, rfl, rfl, rfl, trivial⟩
              refine W.region ?_
              refine OL.pure S (Lf.run_move (S.ev rfl)) rfl rfl trivial ?_
              clear S; intro aa S
              refine OL.pure S (Lf.run_neq (S.ev rfl) (S.ev rfl)) rfl rfl trivial ?_
              clear S; intro aa S
              refine OL.pure S (Lf.run_move (S.ev rfl)) rfl rfl trivial ?_
              clear S; intro aa S
              refine OL.cutN 3 (fun aa ww => St 117 ((83, Value.bool ((x62 != 0) || (x67 != 0))) :: [(2, Value.pointer (some p2)), (3, Value.pointer (some p3)), (7, Value.pointer x61), (8, Value.int .i64 x62), (9, Value.pointer x66), (10, Value.int .i64 x67), (11, Value.pointer x71), (12, Value.int .i64 x72), (13, Value.pointer x76), (14, Value.int .i64 x77), (78, Value.int .i64 x62), (79, Value.bool (x62 != 0)), (80, Value.bool (x62 != 0))]) h80 w0 aa ww) ?_ ?_
              · rcases Bool.eq_false_or_eq_true (x62 != 0) with hb_5 | hb_5
                · refine OL.not S rfl rfl (GNo.mk rfl rfl hb_5) ?_
                  clear S; intro aa S
                  refine OL.not S rfl rfl (GNo.mk rfl rfl hb_5) ?_
                  clear S; intro aa S
                  refine OL.pure S (Lf.run_pickT (S.ev rfl) hb_5 (S.ev rfl)) rfl rfl trivial ?_
                  clear S; intro aa S
                  refine OL.nil ?_
                  exact (S.hd (by rw [hb_5, Bool.true_or])).sub _ ⟨rfl, rfl, rfl, rfl, rfl, rfl, rfl, rfl, rfl, rfl, rfl, rfl, rfl, rfl, trivial⟩
                · refine OL.pure S (Lf.run_move (S.ev rfl)) rfl rfl (GOk.mk rfl rfl hb_5) ?_
                  clear S; intro aa S
                  refine OL.pure S (Lf.run_neq (S.ev rfl) (S.ev rfl)) rfl rfl (GOk.mk rfl rfl hb_5) ?_
                  clear S; intro aa S
                  refine OL.pure S (Lf.run_pickF (S.ev rfl) hb_5 (S.ev rfl)) rfl rfl trivial ?_
                  clear S; intro aa S
                  refine OL.nil ?_
                  exact (S.hd (by rw [hb_5, Bool.false_or])).sub _ ⟨rfl, rfl, rfl, rfl, rfl, rfl, rfl, rfl, rfl, rfl, rfl, rfl, rfl, rfl, trivial⟩
              · clear S aa
                intro aa ww S
                refine OL.pure S (Lf.run_move (S.ev rfl)) rfl rfl trivial ?_
                clear S; intro aa S
                refine OL.cutN 3 (fun aa ww => St 117 ((87, Value.bool (((x62 != 0) || (x67 != 0)) || (x72 != 0))) :: [(2, Value.pointer (some p2)), (3, Value.pointer (some p3)), (7, Value.pointer x61), (8, Value.int .i64 x62), (9, Value.pointer x66), (10, Value.int .i64 x67), (11, Value.pointer x71), (12, Value.int .i64 x72), (13, Value.pointer x76), (14, Value.int .i64 x77), (78, Value.int .i64 x62), (79, Value.bool (x62 != 0)), (80, Value.bool (x62 != 0)), (83, Value.bool ((x62 != 0) || (x67 != 0))), (84, Value.bool ((x62 != 0) || (x67 != 0)))]) h80 w0 aa ww) ?_ ?_
                · rcases Bool.eq_false_or_eq_true ((x62 != 0) || (x67 != 0)) with hb_6 | hb_6
                  · refine OL.not S rfl rfl (GNo.mk rfl rfl hb_6) ?_
                    clear S; intro aa S
                    refine OL.not S rfl rfl (GNo.mk rfl rfl hb_6) ?_
                    clear S; intro aa S
                    refine OL.pure S (Lf.run_pickT (S.ev rfl) hb_6 (S.ev rfl)) rfl rfl trivial ?_
                    clear S; intro aa S
                    refine OL.nil ?_
                    exact (S.hd (by rw [hb_6, Bool.true_or])).sub _ ⟨rfl, rfl, rfl, rfl, rfl, rfl, rfl, rfl, rfl, rfl, rfl, rfl, rfl, rfl, rfl, rfl, trivial⟩
                  · refine OL.pure S (Lf.run_move (S.ev rfl)) rfl rfl (GOk.mk rfl rfl hb_6) ?_
                    clear S; intro aa S
                    refine OL.pure S (Lf.run_neq (S.ev rfl) (S.ev rfl)) rfl rfl (GOk.mk rfl rfl hb_6) ?_
                    clear S; intro aa S
                    refine OL.pure S (Lf.run_pickF (S.ev rfl) hb_6 (S.ev rfl)) rfl rfl trivial ?_
                    clear S; intro aa S
                    refine OL.nil ?_
                    exact (S.hd (by rw [hb_6, Bool.false_or])).sub _ ⟨rfl, rfl, rfl, rfl, rfl, rfl, rfl, rfl, rfl, rfl, rfl, rfl, rfl, rfl, rfl, rfl, trivial⟩
                · clear S aa
                  intro aa ww S
                  refine OL.pure S (Lf.run_move (S.ev rfl)) rfl rfl trivial ?_
                  clear S; intro aa S
                  refine OL.cutN 3 (fun aa ww => St 117 ((91, Value.bool ((((x62 != 0) || (x67 != 0)) || (x72 != 0)) || (x77 != 0))) :: [(2, Value.pointer (some p2)), (3, Value.pointer (some p3)), (7, Value.pointer x61), (8, Value.int .i64 x62), (9, Value.pointer x66), (10, Value.int .i64 x67), (11, Value.pointer x71), (12, Value.int .i64 x72), (13, Value.pointer x76), (14, Value.int .i64 x77), (78, Value.int .i64 x62), (79, Value.bool (x62 != 0)), (80, Value.bool (x62 != 0)), (83, Value.bool ((x62 != 0) || (x67 != 0))), (84, Value.bool ((x62 != 0) || (x67 != 0))), (87, Value.bool (((x62 != 0) || (x67 != 0)) || (x72 != 0))), (88, Value.bool (((x62 != 0) || (x67 != 0)) || (x72 != 0)))]) h80 w0 aa ww) ?_ ?_
                  · rcases Bool.eq_false_or_eq_true (((x62 != 0) || (x67 != 0)) || (x72 != 0)) with hb_7 | hb_7
                    · refine OL.not S rfl rfl (GNo.mk rfl rfl hb_7) ?_
                      clear S; intro aa S
                      refine OL.not S rfl rfl (GNo.mk rfl rfl hb_7) ?_
                      clear S; intro aa S
                      refine OL.pure S (Lf.run_pickT (S.ev rfl) hb_7 (S.ev rfl)) rfl rfl trivial ?_
                      clear S; intro aa S
                      refine OL.nil ?_
                      exact (S.hd (by rw [hb_7, Bool.true_or])).sub _ ⟨rfl, rfl, rfl, rfl, rfl, rfl, rfl, rfl, rfl, rfl, rfl, rfl, rfl, rfl, rfl, rfl, rfl, rfl, trivial⟩
                    · refine OL.pure S (Lf.run_move (S.ev rfl)) rfl rfl (GOk.mk rfl rfl hb_7) ?_
                      clear S; intro aa S
                      refine OL.pure S (Lf.run_neq (S.ev rfl) (S.ev rfl)) rfl rfl (GOk.mk rfl rfl hb_7) ?_
                      clear S; intro aa S
                      refine OL.pure S (Lf.run_pickF (S.ev rfl) hb_7 (S.ev rfl)) rfl rfl trivial ?_
                      clear S; intro aa S
                      refine OL.nil ?_
                      exact (S.hd (by rw [hb_7, Bool.false_or])).sub _ ⟨rfl, rfl, rfl, rfl, rfl, rfl, rfl, rfl, rfl, rfl, rfl, rfl, rfl, rfl, rfl, rfl, rfl, rfl, trivial⟩
                  · clear S aa
                    intro aa ww S
                    refine OL.nil ?_
                    refine W.cond S (b := ((((x62 != 0) || (x67 != 0)) || (x72 != 0)) || (x77 != 0))) rfl (fun hb_8 => ?_) (fun hb_8 => ?_)
                    · replace H := H.1 hb_8
                      refine W.seq ?_
                      replace S := S.sub [] trivial
                      refine W.region ?_
                      refine OL.pure S (Lf.run_assign (S.ev rfl)) rfl rfl trivial ?_
                      clear S; intro aa S
                      refine OL.nil ?_
                      refine W.ret ?_
                      exact Ret.one S rfl rfl H
                    · replace H := H.2 hb_8
                      refine W.skip ?_
                      refine W.seq ?_
                      refine W.seq ?_
                      replace S := S.sub [(2, Value.pointer (some p2)), (3, Value.pointer (some p3)), (7, Value.pointer x61), (9, Value.pointer x66), (11, Value.pointer x71), (13, Value.pointer x76)] ⟨rfl, rfl, rfl, rfl, rfl, rfl, trivial⟩
                      refine W.region ?_
                      refine OL.pure S (Lf.run_assign (S.ev rfl)) rfl rfl trivial ?_
                      clear S; intro aa S
                      refine OL.nil ?_
                      refine W.block ?_
                      obtain ⟨I, m, H, HB⟩ := H
                      refine W.loopS (σ := Int × Heap) (fun s aa ww => St 117 [(2, Value.pointer (some p2)), (3, Value.pointer (some p3)), (7, Value.pointer x61), (9, Value.pointer x66), (11, Value.pointer x71), (13, Value.pointer x76), (15, Value.int .i64 s.1)] s.2 w0 aa ww ∧ I s.1 s.2) (fun s => m s.1 s.2) (0, h80) ⟨S.sub _ ⟨rfl, rfl, rfl, rfl, rfl, rfl, rfl, trivial⟩, H⟩ ?_
                      clear H S aa
                      rintro ⟨k15, h81⟩ aa ww ⟨S, HI⟩
                      replace S : St 117 [(2, Value.pointer (some p2)), (3, Value.pointer (some p3)), (7, Value.pointer x61), (9, Value.pointer x66), (11, Value.pointer x71), (13, Value.pointer x76), (15, Value.int .i64 k15)] h81 w0 aa ww := S
                      have H := HB k15 h81 HI
                      clear HI
                      refine W.seq ?_
                      refine W.seq ?_
                      replace S := S.sub [(2, Value.pointer (some p2)), (3, Value.pointer (some p3)), (7, Value.pointer x61), (9, Value.pointer x66), (11, Value.pointer x71), (13, Value.pointer x76), (15, Value.int .i64 k15)] ⟨rfl, rfl, rfl, rfl, rfl, rfl, rfl, trivial⟩
                      refine W.region ?_
                      refine OL.pure S (Lf.run_move (S.ev rfl)) rfl rfl trivial ?_
                      clear S; intro aa S
                      refine OL.pure S (Lf.run_fa (S.ev rfl) fa25_0) rfl rfl trivial ?_
                      clear S; intro aa S
                      obtain ⟨x94, c_38, H⟩ := H
                      refine OL.pure S (Lf.run_ld (S.ev rfl) fl22 (S.cl c_38)) rfl rfl trivial ?_
                      clear S; intro aa S
                      refine OL.pure S (Lf.run_lens (S.ev rfl) rfl Try.underlying22) rfl rfl trivial ?_
                      clear S; intro aa S
                      refine OL.pure S (Lf.run_lss (S.ev rfl) (S.ev rfl)) rfl rfl trivial ?_
                      clear S; intro aa S
                      refine OL.nil ?_
                      refine W.cond S (b := (decide (k15 < ((x94.n : Nat) : Int)))) rfl (fun hb_9 => ?_) (fun hb_9 => ?_)
                      · replace H := H.1 hb_9
                        refine W.skip ?_
                        refine W.seq ?_
                        refine W.block ?_
                        refine W.seq ?_
                        replace S := S.sub [(2, Value.pointer (some p2)), (3, Value.pointer (some p3)), (7, Value.pointer x61), (9, Value.pointer x66), (11, Value.pointer x71), (13, Value.pointer x76), (15, Value.int .i64 k15)] ⟨rfl, rfl, rfl, rfl, rfl, rfl, rfl, trivial⟩
                        refine W.region ?_
                        refine OL.pure S (Lf.run_move (S.ev rfl)) rfl rfl trivial ?_
                        clear S; intro aa S
                        refine OL.pure S (Lf.run_move (S.ev rfl)) rfl rfl trivial ?_
                        clear S; intro aa S
                        obtain ⟨x101, c_39, H⟩ := H
                        refine OL.pure S (Lf.run_ld (S.ev rfl) fl3 (S.cl c_39)) rfl rfl trivial ?_
                        clear S; intro aa S
                        refine ol_cal S H isfn14 rfl rfl trivial ?_
                        clear S H aa; intro u_47 aa ww h82 H S
                        obtain ⟨x102, rfl, H⟩ := H
                        refine OL.pure S (Lf.run_move (S.ev rfl)) rfl rfl trivial ?_
                        clear S; intro aa S
                        refine OL.pure S (Lf.run_move (S.ev rfl)) rfl rfl trivial ?_
                        clear S; intro aa S
                        refine ol_cal S H isfn14 rfl rfl trivial ?_
                        clear S H aa; intro u_48 aa ww h83 H S
                        obtain ⟨x105, rfl, H⟩ := H
                        refine OL.pure S (Lf.run_neqb Try.underlying4 (S.ev rfl) (S.ev rfl)) rfl rfl trivial ?_
                        clear S; intro aa S
                        refine OL.pure S (Lf.run_move (S.ev rfl)) rfl rfl trivial ?_
                        clear S; intro aa S
                        obtain ⟨J_5, H, HK_5⟩ := H
                        refine OL.cutN 9 (fun aa ww => ∃ x116 h84, St 117 ((116, Value.bool x116) :: [(2, Value.pointer (some p2)), (3, Value.pointer (some p3)), (7, Value.pointer x61), (9, Value.pointer x66), (11, Value.pointer x71), (13, Value.pointer x76), (15, Value.int .i64 k15), (99, Value.pointer x61), (100, Value.int .i64 k15), (101, Value.int .i64 x101), (102, Value.bool x102), (103, Value.pointer x66), (104, Value.int .i64 k15), (105, Value.bool x105), (106, Value.bool (x102 != x105)), (107, Value.bool (x102 != x105))]) h84 w0 aa ww ∧ J_5 x116 h84) ?_ ?_
                        · rcases Bool.eq_false_or_eq_true (x102 != x105) with hb_10 | hb_10
                          · replace H := H.1 hb_10
                            refine OL.not S rfl rfl (GNo.mk rfl rfl hb_10) ?_
                            clear S; intro aa S
                            refine OL.not S rfl rfl (GNo.mk rfl rfl hb_10) ?_
                            clear S; intro aa S
                            refine OL.not S rfl rfl (GNo.mk rfl rfl hb_10) ?_
                            clear S; intro aa S
                            refine OL.not S rfl rfl (GNo.mk rfl rfl hb_10) ?_
                            clear S; intro aa S
                            refine OL.not S rfl rfl (GNo.mk rfl rfl hb_10) ?_
                            clear S; intro aa S
                            refine OL.not S rfl rfl (GNo.mk rfl rfl hb_10) ?_
                            clear S; intro aa S
                            refine OL.not S rfl rfl (GNo.mk rfl rfl hb_10) ?_
                            clear S; intro aa S
                            refine OL.not S rfl rfl (GNo.mk rfl rfl hb_10) ?_
                            clear S; intro aa S
                            refine OL.pure S (Lf.run_pickT (S.ev rfl) hb_10 (S.ev rfl)) rfl rfl trivial ?_
                            clear S; intro aa S
                            refine OL.nil ?_
                            exact ⟨_, _, S.sub _ ⟨rfl, rfl, rfl, rfl, rfl, rfl, rfl, rfl, rfl, rfl, rfl, rfl, rfl, rfl, rfl, rfl, rfl, trivial⟩, H⟩
                          · replace H := H.2 hb_10
                            refine OL.pure S (Lf.run_move (S.ev rfl)) rfl rfl (GOk.mk rfl rfl hb_10) ?_
                            clear S; intro aa S
                            refine OL.pure S (Lf.run_move (S.ev rfl)) rfl rfl (GOk.mk rfl rfl hb_10) ?_
                            clear S; intro aa S
                            obtain ⟨x110, c_40, H⟩ := H
                            refine OL.pure S (Lf.run_ld (S.ev rfl) fl3 (S.cl c_40)) rfl rfl (GOk.mk rfl rfl hb_10) ?_
                            clear S; intro aa S
                            refine ol_cal S H isfn14 rfl rfl (GOk.mk rfl rfl hb_10) ?_
                            clear S H aa; intro u_49 aa ww h85 H S
                            obtain ⟨x111, rfl, H⟩ := H
                            refine OL.pure S (Lf.run_move (S.ev rfl)) rfl rfl (GOk.mk rfl rfl hb_10) ?_
                            clear S; intro aa S
                            refine OL.pure S (Lf.run_move (S.ev rfl)) rfl rfl (GOk.mk rfl rfl hb_10) ?_
                            clear S; intro aa S
                            refine ol_cal S H isfn14 rfl rfl (GOk.mk rfl rfl hb_10) ?_
                            clear S H aa; intro u_50 aa ww h86 H S
                            obtain ⟨x114, rfl, H⟩ := H
                            refine OL.pure S (Lf.run_neqb Try.underlying4 (S.ev rfl) (S.ev rfl)) rfl rfl (GOk.mk rfl rfl hb_10) ?_
                            clear S; intro aa S
                            refine OL.pure S (Lf.run_pickF (S.ev rfl) hb_10 (S.ev rfl)) rfl rfl trivial ?_
                            clear S; intro aa S
                            refine OL.nil ?_
                            exact ⟨_, _, S.sub _ ⟨rfl, rfl, rfl, rfl, rfl, rfl, rfl, rfl, rfl, rfl, rfl, rfl, rfl, rfl, rfl, rfl, rfl, trivial⟩, H⟩
                        · clear S aa
                          rintro aa ww ⟨x116, h84, S, HJ⟩
                          replace H := HK_5 _ _ HJ
                          clear HK_5 HJ
                          refine OL.nil ?_
                          refine W.cond S (b := x116) rfl (fun hb_11 => ?_) (fun hb_11 => ?_)
                          · replace H := H.1 hb_11
                            refine W.seq ?_
                            replace S := S.sub [] trivial
                            refine W.region ?_
                            refine OL.pure S (Lf.run_assign (S.ev rfl)) rfl rfl trivial ?_
                            clear S; intro aa S
                            refine OL.nil ?_
                            refine W.ret ?_
                            exact Ret.one S rfl rfl H
                          · replace H := H.2 hb_11
                            refine W.skip ?_
                            replace S := S.sub [(2, Value.pointer (some p2)), (3, Value.pointer (some p3)), (7, Value.pointer x61), (9, Value.pointer x66), (11, Value.pointer x71), (13, Value.pointer x76), (15, Value.int .i64 k15)] ⟨rfl, rfl, rfl, rfl, rfl, rfl, rfl, trivial⟩
                            refine W.region ?_
                            refine OL.pure S (Lf.run_move (S.ev rfl)) rfl rfl trivial ?_
                            clear S; intro aa S
                            refine OL.pure S (Lf.run_add (S.ev rfl) (S.ev rfl)) rfl rfl trivial ?_
                            clear S; intro aa S
                            refine OL.pure S (Lf.run_assign (S.ev rfl)) rfl rfl trivial ?_
                            clear S; intro aa S
                            refine OL.nil ?_
                            exact ⟨((IntKind.i64.wrap (k15 + 1)), h84), ⟨S.sub _ ⟨rfl, rfl, rfl, rfl, rfl, rfl, rfl, trivial⟩, H.1⟩, H.2⟩
                      · replace H := H.2 hb_9
                        refine W.exit_ ?_
                        refine xhit ?_
                        refine W.seq ?_
                        replace S := S.sub [] trivial
                        refine W.region ?_
                        refine OL.pure S (Lf.run_assign (S.ev rfl)) rfl rfl trivial ?_
                        clear S; intro aa S
                        refine OL.nil ?_
                        refine W.ret ?_
                        exact Ret.one S rfl rfl H

/-- chattel chattellaw15.FlowBackward -/
def L7 (p0 : Sv) (p0_1 : Int) (p0_2 : Sv) (p0_3 : Sv) (p0_4 : Sv) (h : Heap) (R : Value → Heap → Prop) : Prop :=
  new 25 #[Value.slice p0.a p0.n p0.c, Value.int .i64 p0_1, Value.slice p0_2.a p0_2.n p0_2.c, Value.slice p0_3.a p0_3.n p0_3.c, Value.slice p0_4.a p0_4.n p0_4.c] h fun p1 h1 =>
  cal Try.prog 9 #[] h1 fun u h2 => asB u fun x6 =>
  ∃ J : Bool → Heap → Prop, (orj (!x6) (fun k =>
    ∃ (y9 : Sv) (y9_1 : Int) (y9_2 : Sv) (y9_3 : Sv) (y9_4 : Sv), cl h2 p1 = some (Value.slice y9.a y9.n y9.c) ∧ cl h2 (p1.add 1) = some (Value.int .i64 y9_1) ∧ cl h2 (p1.add 2) = some (Value.slice y9_2.a y9_2.n y9_2.c) ∧ cl h2 (p1.add 3) = some (Value.slice y9_3.a y9_3.n y9_3.c) ∧ cl h2 (p1.add 4) = some (Value.slice y9_4.a y9_4.n y9_4.c) ∧
    cal Try.prog 10 #[Value.agg #[Value.slice y9.a y9.n y9.c, Value.int .i64 y9_1, Value.slice y9_2.a y9_2.n y9_2.c, Value.slice y9_3.a y9_3.n y9_3.c, Value.slice y9_4.a y9_4.n y9_4.c]] h2 fun u_1 h4 => asB u_1 fun x10 =>
    k (!x10) h4) h2 J) ∧ ∀ x12 h3, J x12 h3 →
  ifb x12 (
    cal Try.prog 9 #[] h3 fun u_2 h5 => asB u_2 fun x13 =>
    R (Value.bool x13) h5) (
    ∃ (y15 : Sv) (y15_1 : Int) (y15_2 : Sv) (y15_3 : Sv) (y15_4 : Sv), cl h3 p1 = some (Value.slice y15.a y15.n y15.c) ∧ cl h3 (p1.add 1) = some (Value.int .i64 y15_1) ∧ cl h3 (p1.add 2) = some (Value.slice y15_2.a y15_2.n y15_2.c) ∧ cl h3 (p1.add 3) = some (Value.slice y15_3.a y15_3.n y15_3.c) ∧ cl h3 (p1.add 4) = some (Value.slice y15_4.a y15_4.n y15_4.c) ∧
    cal Try.prog 19 #[Value.agg #[Value.slice y15.a y15.n y15.c, Value.int .i64 y15_1, Value.slice y15_2.a y15_2.n y15_2.c, Value.slice y15_3.a y15_3.n y15_3.c, Value.slice y15_4.a y15_4.n y15_4.c]] h3 fun u_3 h6 => asTup u_3 fun r16 =>
    elt r16 0 fun u_4 => asP u_4 fun x17 =>
    elt r16 1 fun u_5 => asI .i64 u_5 fun x18 =>
    ∃ (y19 : Sv) (y19_1 : Int) (y19_2 : Sv) (y19_3 : Sv) (y19_4 : Sv), cl h6 p1 = some (Value.slice y19.a y19.n y19.c) ∧ cl h6 (p1.add 1) = some (Value.int .i64 y19_1) ∧ cl h6 (p1.add 2) = some (Value.slice y19_2.a y19_2.n y19_2.c) ∧ cl h6 (p1.add 3) = some (Value.slice y19_3.a y19_3.n y19_3.c) ∧ cl h6 (p1.add 4) = some (Value.slice y19_4.a y19_4.n y19_4.c) ∧
    cal Try.prog 11 #[Value.agg #[Value.slice y19.a y19.n y19.c, Value.int .i64 y19_1, Value.slice y19_2.a y19_2.n y19_2.c, Value.slice y19_3.a y19_3.n y19_3.c, Value.slice y19_4.a y19_4.n y19_4.c]] h6 fun u_6 h7 => asI .i64 u_6 fun x20 =>
    ifb (x20 != 0) (
      R (Value.bool ((x18 == x20) && (Option.isNone x17))) h7) (
      ∃ J_1 : Bool → Heap → Prop, (andj ((x18 == 0) && (Option.isSome x17)) (fun k_1 =>
        ∃ (y38 : Sv) (y38_1 : Int) (y38_2 : Sv) (y38_3 : Sv) (y38_4 : Sv), cl h7 p1 = some (Value.slice y38.a y38.n y38.c) ∧ cl h7 (p1.add 1) = some (Value.int .i64 y38_1) ∧ cl h7 (p1.add 2) = some (Value.slice y38_2.a y38_2.n y38_2.c) ∧ cl h7 (p1.add 3) = some (Value.slice y38_3.a y38_3.n y38_3.c) ∧ cl h7 (p1.add 4) = some (Value.slice y38_4.a y38_4.n y38_4.c) ∧
        cal Try.prog 16 #[Value.pointer x17, Value.agg #[Value.slice y38.a y38.n y38.c, Value.int .i64 y38_1, Value.slice y38_2.a y38_2.n y38_2.c, Value.slice y38_3.a y38_3.n y38_3.c, Value.slice y38_4.a y38_4.n y38_4.c], (Value.func (.func 20) #[] #[])] h7 fun u_7 h9 => asB u_7 fun x39 =>
        k_1 x39 h9) h7 J_1) ∧ ∀ x40 h8, J_1 x40 h8 →
      R (Value.bool x40) h8))

set_option maxRecDepth 100000 in

theorem F7 {p0 p0_1 p0_2 p0_3 p0_4 h : _} {R : Value → Heap → Prop} (H : L7 p0 p0_1 p0_2 p0_3 p0_4 h R) : CallsH Try.prog 7 #[Value.agg #[Value.slice p0.a p0.n p0.c, Value.int .i64 p0_1, Value.slice p0_2.a p0_2.n p0_2.c, Value.slice p0_3.a p0_3.n p0_3.c, Value.slice p0_4.a p0_4.n p0_4.c]] h R := by
  refine CallsH.enter (n := 41) Try.func7 rfl rfl rfl rfl ?_
  intro w0 aa ww S
  unfold L7 at H
  refine W.seq ?_
  replace S := S.sub [(0, Value.agg #[Value.slice p0.a p0.n p0.c, Value.int .i64 p0_1, Value.slice p0_2.a p0_2.n p0_2.c, Value.slice p0_3.a p0_3.n p0_3.c, Value.slice p0_4.a p0_4.n p0_4.c])] ⟨rfl, trivial⟩
  refine W.region ?_
  refine ol_box S H rfl rfl rfl trivial ?_
  clear S H aa; intro p1 aa ww h1 H S
  refine OL.pure S (Lf.run_assign (S.ev rfl)) rfl rfl trivial ?_
  clear S; intro aa S
  refine OL.nil ?_
  refine W.seq ?_
  refine W.seq ?_
  replace S := S.sub [(1, Value.pointer (some p1))] ⟨rfl, trivial⟩
  refine W.region ?_
  refine ol_cal S H isfn9 rfl rfl trivial ?_
  clear S H aa; intro u aa ww h2 H S
  obtain ⟨x6, rfl, H⟩ := H
  refine OL.pure S (Lf.run_not (S.ev rfl)) rfl rfl trivial ?_
  clear S; intro aa S
  refine OL.pure S (Lf.run_move (S.ev rfl)) rfl rfl trivial ?_
  clear S; intro aa S
  obtain ⟨J, H, HK⟩ := H
  refine OL.cutN 4 (fun aa ww => ∃ x12 h3, St 41 ((12, Value.bool x12) :: [(1, Value.pointer (some p1)), (6, Value.bool x6), (7, Value.bool (!x6)), (8, Value.bool (!x6))]) h3 w0 aa ww ∧ J x12 h3) ?_ ?_
  · rcases Bool.eq_false_or_eq_true (!x6) with hb | hb
    · replace H := H.1 hb
      refine OL.not S rfl rfl (GNo.mk rfl rfl hb) ?_
      clear S; intro aa S
      refine OL.not S rfl rfl (GNo.mk rfl rfl hb) ?_
      clear S; intro aa S
      refine OL.not S rfl rfl (GNo.mk rfl rfl hb) ?_
      clear S; intro aa S
      refine OL.pure S (Lf.run_pickT (S.ev rfl) hb (S.ev rfl)) rfl rfl trivial ?_
      clear S; intro aa S
      refine OL.nil ?_
      exact ⟨_, _, S.sub _ ⟨rfl, rfl, rfl, rfl, rfl, trivial⟩, H⟩
    · replace H := H.2 hb
      obtain ⟨y9, y9_1, y9_2, y9_3, y9_4, c_1, c_2, c_3, c_4, c_5, H⟩ := H
      refine OL.pure S (Lf.run_ldA (cs := [Value.slice y9.a y9.n y9.c, Value.int .i64 y9_1, Value.slice y9_2.a y9_2.n y9_2.c, Value.slice y9_3.a y9_3.n y9_3.c, Value.slice y9_4.a y9_4.n y9_4.c]) (S.ev rfl) ag25 ti25 (by rw [S.heap]; exact RowL.toRow ⟨c_1, c_2, c_3, c_4, c_5, trivial⟩)) rfl rfl (GOk.mk rfl rfl hb) ?_
      clear S; intro aa S
      refine ol_cal S H isfn10 rfl rfl (GOk.mk rfl rfl hb) ?_
      clear S H aa; intro u_1 aa ww h4 H S
      obtain ⟨x10, rfl, H⟩ := H
      refine OL.pure S (Lf.run_not (S.ev rfl)) rfl rfl (GOk.mk rfl rfl hb) ?_
      clear S; intro aa S
      refine OL.pure S (Lf.run_pickF (S.ev rfl) hb (S.ev rfl)) rfl rfl trivial ?_
      clear S; intro aa S
      refine OL.nil ?_
      exact ⟨_, _, S.sub _ ⟨rfl, rfl, rfl, rfl, rfl, trivial⟩, H⟩
  · clear S aa
    rintro aa ww ⟨x12, h3, S, HJ⟩
    replace H := HK _ _ HJ
    clear HK HJ
    refine OL.nil ?_
    refine W.cond S (b := x12) rfl (fun hb_1 => ?_) (fun hb_1 => ?_)
    · replace H := H.1 hb_1
      refine W.seq ?_
      replace S := S.sub [] trivial
      refine W.region ?_
      refine ol_cal S H isfn9 rfl rfl trivial ?_
      clear S H aa; intro u_2 aa ww h5 H S
      obtain ⟨x13, rfl, H⟩ := H
      refine OL.pure S (Lf.run_assign (S.ev rfl)) rfl rfl trivial ?_
      clear S; intro aa S
      refine OL.nil ?_
      refine W.ret ?_
      exact Ret.one S rfl rfl H
    · replace H := H.2 hb_1
      refine W.skip ?_
      refine W.seq ?_
      replace S := S.sub [(1, Value.pointer (some p1))] ⟨rfl, trivial⟩
      refine W.region ?_
      obtain ⟨y15, y15_1, y15_2, y15_3, y15_4, c_19, c_20, c_21, c_22, c_23, H⟩ := H
      refine OL.pure S (Lf.run_ldA (cs := [Value.slice y15.a y15.n y15.c, Value.int .i64 y15_1, Value.slice y15_2.a y15_2.n y15_2.c, Value.slice y15_3.a y15_3.n y15_3.c, Value.slice y15_4.a y15_4.n y15_4.c]) (S.ev rfl) ag25 ti25 (by rw [S.heap]; exact RowL.toRow ⟨c_19, c_20, c_21, c_22, c_23, trivial⟩)) rfl rfl trivial ?_
      clear S; intro aa S
      refine ol_cal S H isfn19 rfl rfl trivial ?_
      clear S H aa; intro u_3 aa ww h6 H S
      obtain ⟨r16, rfl, H⟩ := H
      refine OL.pure S (Lf.run_move (S.ev rfl)) rfl rfl trivial ?_
      clear S; intro aa S
      obtain ⟨u_4, e, x17, rfl, H⟩ := H
      refine OL.pure S (Lf.run_ex (S.ev rfl) e) rfl rfl trivial ?_
      clear S; intro aa S
      obtain ⟨u_5, e_1, x18, rfl, H⟩ := H
      refine OL.pure S (Lf.run_ex (S.ev rfl) e_1) rfl rfl trivial ?_
      clear S; intro aa S
      refine OL.pure S (Lf.run_assign (S.ev rfl)) rfl rfl trivial ?_
      clear S; intro aa S
      refine OL.pure S (Lf.run_assign (S.ev rfl)) rfl rfl trivial ?_
      clear S; intro aa S
      refine OL.nil ?_
      refine W.seq ?_
      refine W.seq ?_
      replace S := S.sub [(1, Value.pointer (some p1)), (3, Value.pointer x17), (4, Value.int .i64 x18)] ⟨rfl, rfl, rfl, trivial⟩
      refine W.region ?_
      obtain ⟨y19, y19_1, y19_2, y19_3, y19_4, c_14, c_15, c_16, c_17, c_18, H⟩ := H
      refine OL.pure S (Lf.run_ldA (cs := [Value.slice y19.a y19.n y19.c, Value.int .i64 y19_1, Value.slice y19_2.a y19_2.n y19_2.c, Value.slice y19_3.a y19_3.n y19_3.c, Value.slice y19_4.a y19_4.n y19_4.c]) (S.ev rfl) ag25 ti25 (by rw [S.heap]; exact RowL.toRow ⟨c_14, c_15, c_16, c_17, c_18, trivial⟩)) rfl rfl trivial ?_
      clear S; intro aa S
      refine ol_cal S H isfn11 rfl rfl trivial ?_
      clear S H aa; intro u_6 aa ww h7 H S
      obtain ⟨x20, rfl, H⟩ := H
      refine OL.pure S (Lf.run_assign (S.ev rfl)) rfl rfl trivial ?_
      clear S; intro aa S
      refine OL.nil ?_
      refine W.seq ?_
      replace S := S.sub [(1, Value.pointer (some p1)), (3, Value.pointer x17), (4, Value.int .i64 x18), (5, Value.int .i64 x20)] ⟨rfl, rfl, rfl, rfl, trivial⟩
      refine W.region ?_
      refine OL.pure S (Lf.run_move (S.ev rfl)) rfl rfl trivial ?_
      clear S; intro aa S
      refine OL.pure S (Lf.run_neq (S.ev rfl) (S.ev rfl)) rfl rfl trivial ?_
      clear S; intro aa S
      refine OL.nil ?_
      refine W.cond S (b := (x20 != 0)) rfl (fun hb_2 => ?_) (fun hb_2 => ?_)
      · replace H := H.1 hb_2
        refine W.seq ?_
        replace S := S.sub [(3, Value.pointer x17), (4, Value.int .i64 x18), (5, Value.int .i64 x20)] ⟨rfl, rfl, rfl, trivial⟩
        refine W.region ?_
        refine OL.pure S (Lf.run_move (S.ev rfl)) rfl rfl trivial ?_
        clear S; intro aa S
        refine OL.pure S (Lf.run_move (S.ev rfl)) rfl rfl trivial ?_
        clear S; intro aa S
        refine OL.pure S (Lf.run_eql (S.ev rfl) (S.ev rfl)) rfl rfl trivial ?_
        clear S; intro aa S
        refine OL.pure S (Lf.run_move (S.ev rfl)) rfl rfl trivial ?_
        clear S; intro aa S
        refine OL.cutN 3 (fun aa ww => St 41 ((29, Value.bool ((x18 == x20) && (Option.isNone x17))) :: [(3, Value.pointer x17), (4, Value.int .i64 x18), (5, Value.int .i64 x20), (23, Value.int .i64 x18), (24, Value.int .i64 x20), (25, Value.bool (x18 == x20)), (26, Value.bool (x18 == x20))]) h7 w0 aa ww) ?_ ?_
        · rcases Bool.eq_false_or_eq_true (x18 == x20) with hb_3 | hb_3
          · refine OL.pure S (Lf.run_move (S.ev rfl)) rfl rfl (GOk.mk rfl rfl hb_3) ?_
            clear S; intro aa S
            refine OL.pure S (Lf.run_eqlpn Try.underlying29 (S.ev rfl) (S.ev rfl)) rfl rfl (GOk.mk rfl rfl hb_3) ?_
            clear S; intro aa S
            refine OL.pure S (Lf.run_pickT (S.ev rfl) hb_3 (S.ev rfl)) rfl rfl trivial ?_
            clear S; intro aa S
            refine OL.nil ?_
            exact (S.hd (by rw [hb_3, Bool.true_and])).sub _ ⟨rfl, rfl, rfl, rfl, rfl, rfl, rfl, rfl, trivial⟩
          · refine OL.not S rfl rfl (GNo.mk rfl rfl hb_3) ?_
            clear S; intro aa S
            refine OL.not S rfl rfl (GNo.mk rfl rfl hb_3) ?_
            clear S; intro aa S
            refine OL.pure S (Lf.run_pickF (S.ev rfl) hb_3 (S.ev rfl)) rfl rfl trivial ?_
            clear S; intro aa S
            refine OL.nil ?_
            exact (S.hd (by rw [hb_3, Bool.false_and])).sub _ ⟨rfl, rfl, rfl, rfl, rfl, rfl, rfl, rfl, trivial⟩
        · clear S aa
          intro aa ww S
          refine OL.pure S (Lf.run_assign (S.ev rfl)) rfl rfl trivial ?_
          clear S; intro aa S
          refine OL.nil ?_
          refine W.ret ?_
          exact Ret.one S rfl rfl H
      · replace H := H.2 hb_2
        refine W.skip ?_
        refine W.seq ?_
        replace S := S.sub [(1, Value.pointer (some p1)), (3, Value.pointer x17), (4, Value.int .i64 x18)] ⟨rfl, rfl, rfl, trivial⟩
        refine W.region ?_
        refine OL.pure S (Lf.run_move (S.ev rfl)) rfl rfl trivial ?_
        clear S; intro aa S
        refine OL.pure S (Lf.run_eql (S.ev rfl) (S.ev rfl)) rfl rfl trivial ?_
        clear S; intro aa S
        refine OL.pure S (Lf.run_move (S.ev rfl)) rfl rfl trivial ?_
        clear S; intro aa S
        refine OL.cutN 3 (fun aa ww => St 41 ((35, Value.bool ((x18 == 0) && (Option.isSome x17))) :: [(1, Value.pointer (some p1)), (3, Value.pointer x17), (4, Value.int .i64 x18), (30, Value.int .i64 x18), (31, Value.bool (x18 == 0)), (32, Value.bool (x18 == 0))]) h7 w0 aa ww) ?_ ?_
        · rcases Bool.eq_false_or_eq_true (x18 == 0) with hb_4 | hb_4
          · refine OL.pure S (Lf.run_move (S.ev rfl)) rfl rfl (GOk.mk rfl rfl hb_4) ?_
            clear S; intro aa S
            refine OL.pure S (Lf.run_neqpn Try.underlying29 (S.ev rfl) (S.ev rfl)) rfl rfl (GOk.mk rfl rfl hb_4) ?_
            clear S; intro aa S
            refine OL.pure S (Lf.run_pickT (S.ev rfl) hb_4 (S.ev rfl)) rfl rfl trivial ?_
            clear S; intro aa S
            refine OL.nil ?_
            exact (S.hd (by rw [hb_4, Bool.true_and])).sub _ ⟨rfl, rfl, rfl, rfl, rfl, rfl, rfl, trivial⟩
          · refine OL.not S rfl rfl (GNo.mk rfl rfl hb_4) ?_
            clear S; intro aa S
            refine OL.not S rfl rfl (GNo.mk rfl rfl hb_4) ?_
            clear S; intro aa S
            refine OL.pure S (Lf.run_pickF (S.ev rfl) hb_4 (S.ev rfl)) rfl rfl trivial ?_
            clear S; intro aa S
            refine OL.nil ?_
            exact (S.hd (by rw [hb_4, Bool.false_and])).sub _ ⟨rfl, rfl, rfl, rfl, rfl, rfl, rfl, trivial⟩
        · clear S aa
          intro aa ww S
          refine OL.pure S (Lf.run_move (S.ev rfl)) rfl rfl trivial ?_
          clear S; intro aa S
          obtain ⟨J_1, H, HK_1⟩ := H
          refine OL.cutN 4 (fun aa ww => ∃ x40 h8, St 41 ((40, Value.bool x40) :: [(1, Value.pointer (some p1)), (3, Value.pointer x17), (4, Value.int .i64 x18), (30, Value.int .i64 x18), (31, Value.bool (x18 == 0)), (32, Value.bool (x18 == 0)), (35, Value.bool ((x18 == 0) && (Option.isSome x17))), (36, Value.bool ((x18 == 0) && (Option.isSome x17)))]) h8 w0 aa ww ∧ J_1 x40 h8) ?_ ?_
          · rcases Bool.eq_false_or_eq_true ((x18 == 0) && (Option.isSome x17)) with hb_5 | hb_5
            · replace H := H.1 hb_5
              refine OL.pure S (Lf.run_move (S.ev rfl)) rfl rfl (GOk.mk rfl rfl hb_5) ?_
              clear S; intro aa S
              obtain ⟨y38, y38_1, y38_2, y38_3, y38_4, c_9, c_10, c_11, c_12, c_13, H⟩ := H
              refine OL.pure S (Lf.run_ldA (cs := [Value.slice y38.a y38.n y38.c, Value.int .i64 y38_1, Value.slice y38_2.a y38_2.n y38_2.c, Value.slice y38_3.a y38_3.n y38_3.c, Value.slice y38_4.a y38_4.n y38_4.c]) (S.ev rfl) ag25 ti25 (by rw [S.heap]; exact RowL.toRow ⟨c_9, c_10, c_11, c_12, c_13, trivial⟩)) rfl rfl (GOk.mk rfl rfl hb_5) ?_
              clear S; intro aa S
              refine ol_cal S H isfn16 rfl rfl (GOk.mk rfl rfl hb_5) ?_
              clear S H aa; intro u_7 aa ww h9 H S
              obtain ⟨x39, rfl, H⟩ := H
              refine OL.pure S (Lf.run_pickT (S.ev rfl) hb_5 (S.ev rfl)) rfl rfl trivial ?_
              clear S; intro aa S
              refine OL.nil ?_
              exact ⟨_, _, S.sub _ ⟨rfl, rfl, rfl, rfl, rfl, rfl, rfl, rfl, rfl, trivial⟩, H⟩
            · replace H := H.2 hb_5
              refine OL.not S rfl rfl (GNo.mk rfl rfl hb_5) ?_
              clear S; intro aa S
              refine OL.not S rfl rfl (GNo.mk rfl rfl hb_5) ?_
              clear S; intro aa S
              refine OL.not S rfl rfl (GNo.mk rfl rfl hb_5) ?_
              clear S; intro aa S
              refine OL.pure S (Lf.run_pickF (S.ev rfl) hb_5 (S.ev rfl)) rfl rfl trivial ?_
              clear S; intro aa S
              refine OL.nil ?_
              exact ⟨_, _, S.sub _ ⟨rfl, rfl, rfl, rfl, rfl, rfl, rfl, rfl, rfl, trivial⟩, H⟩
          · clear S aa
            rintro aa ww ⟨x40, h8, S, HJ⟩
            replace H := HK_1 _ _ HJ
            clear HK_1 HJ
            refine OL.pure S (Lf.run_assign (S.ev rfl)) rfl rfl trivial ?_
            clear S; intro aa S
            refine OL.nil ?_
            refine W.ret ?_
            exact Ret.one S rfl rfl H

/-- chattel chattellaw15.FlowNils -/
def L8 (width0 : Int) (i1 : Int) (e2 : Int) (h : Heap) (R : Value → Heap → Prop) : Prop :=
  cal Try.prog 12 #[Value.agg #[Value.slice (⟨none, 0, 0⟩ : Sv).a (⟨none, 0, 0⟩ : Sv).n (⟨none, 0, 0⟩ : Sv).c, Value.int .i64 width0, Value.slice (⟨none, 0, 0⟩ : Sv).a (⟨none, 0, 0⟩ : Sv).n (⟨none, 0, 0⟩ : Sv).c, Value.slice (⟨none, 0, 0⟩ : Sv).a (⟨none, 0, 0⟩ : Sv).n (⟨none, 0, 0⟩ : Sv).c, Value.slice (⟨none, 0, 0⟩ : Sv).a (⟨none, 0, 0⟩ : Sv).n (⟨none, 0, 0⟩ : Sv).c]] h fun u h1 => asTup u fun r16 =>
  elt r16 0 fun u_1 => asP u_1 fun x17 =>
  elt r16 1 fun u_2 => asI .i64 u_2 fun x18 =>
  cal Try.prog 19 #[Value.agg #[Value.slice (⟨none, 0, 0⟩ : Sv).a (⟨none, 0, 0⟩ : Sv).n (⟨none, 0, 0⟩ : Sv).c, Value.int .i64 width0, Value.slice (⟨none, 0, 0⟩ : Sv).a (⟨none, 0, 0⟩ : Sv).n (⟨none, 0, 0⟩ : Sv).c, Value.slice (⟨none, 0, 0⟩ : Sv).a (⟨none, 0, 0⟩ : Sv).n (⟨none, 0, 0⟩ : Sv).c, Value.slice (⟨none, 0, 0⟩ : Sv).a (⟨none, 0, 0⟩ : Sv).n (⟨none, 0, 0⟩ : Sv).c]] h1 fun u_3 h2 => asTup u_3 fun r22 =>
  elt r22 0 fun u_4 => asP u_4 fun x23 =>
  elt r22 1 fun u_5 => asI .i64 u_5 fun x24 =>
  ∃ J : Int → Prop, (
    ifb ((decide (width0 < 0)) || (decide (4000 < width0))) (
      J 2) (
      J 0)) ∧ (∀ want12, J want12 →
  cal Try.prog 9 #[] h2 fun u_6 h3 => asB u_6 fun x31 =>
  ∃ J_1 : Bool → Heap → Prop, (andj ((x31 && (x18 == want12)) && (x24 == want12)) (fun k =>
    cal Try.prog 14 #[Value.pointer none, Value.int .i64 i1, Value.int .i64 e2] h3 fun u_7 h5 => asB u_7 fun x46 =>
    k (!x46) h5) h3 J_1) ∧ ∀ x48 h4, J_1 x48 h4 →
  ∃ J_2 : Bool → Heap → Prop, (andj x48 (fun k_1 =>
    cal Try.prog 21 #[Value.pointer none, Value.int .i64 i1] h4 fun u_8 h7 => asS u_8 fun x52 =>
    k_1 (((x52.n : Nat) : Int) == 0) h7) h4 J_2) ∧ ∀ x55 h6, J_2 x55 h6 →
  R (Value.bool x55) h6)

set_option maxRecDepth 100000 in

theorem F8 {width0 i1 e2 h : _} {R : Value → Heap → Prop} (H : L8 width0 i1 e2 h R) : CallsH Try.prog 8 #[Value.int .i64 width0, Value.int .i64 i1, Value.int .i64 e2] h R := by
  refine CallsH.enter (n := 56) Try.func8 rfl rfl rfl rfl ?_
  intro w0 aa ww S
  unfold L8 at H
  refine W.seq ?_
  replace S := S.sub [(0, Value.int .i64 width0), (1, Value.int .i64 i1), (2, Value.int .i64 e2)] ⟨rfl, rfl, rfl, trivial⟩
  refine W.region ?_
  refine OL.pure S (Lf.run_assign (S.ev rfl)) rfl rfl trivial ?_
  clear S; intro aa S
  refine OL.nil ?_
  refine W.seq ?_
  replace S := S.sub [(0, Value.int .i64 width0), (1, Value.int .i64 i1), (2, Value.int .i64 e2)] ⟨rfl, rfl, rfl, trivial⟩
  refine W.region ?_
  refine OL.pure S (Lf.run_assign (S.ev rfl)) rfl rfl trivial ?_
  clear S; intro aa S
  refine OL.nil ?_
  refine W.seq ?_
  replace S := S.sub [(0, Value.int .i64 width0), (1, Value.int .i64 i1), (2, Value.int .i64 e2), (7, Value.pointer none)] ⟨rfl, rfl, rfl, rfl, trivial⟩
  refine W.region ?_
  refine OL.pure S (Lf.run_move (S.ev rfl)) rfl rfl trivial ?_
  clear S; intro aa S
  refine OL.pure S (Lf.run_build (cs := #[Value.slice (⟨none, 0, 0⟩ : Sv).a (⟨none, 0, 0⟩ : Sv).n (⟨none, 0, 0⟩ : Sv).c, Value.int .i64 width0, Value.slice (⟨none, 0, 0⟩ : Sv).a (⟨none, 0, 0⟩ : Sv).n (⟨none, 0, 0⟩ : Sv).c, Value.slice (⟨none, 0, 0⟩ : Sv).a (⟨none, 0, 0⟩ : Sv).n (⟨none, 0, 0⟩ : Sv).c, Value.slice (⟨none, 0, 0⟩ : Sv).a (⟨none, 0, 0⟩ : Sv).n (⟨none, 0, 0⟩ : Sv).c]) pl25 ti25 (parts_map S rfl) (by kernel_rfl)) rfl rfl trivial ?_
  clear S; intro aa S
  refine ol_cal S H isfn12 rfl rfl trivial ?_
  clear S H aa; intro u aa ww h1 H S
  obtain ⟨r16, rfl, H⟩ := H
  refine OL.pure S (Lf.run_move (S.ev rfl)) rfl rfl trivial ?_
  clear S; intro aa S
  obtain ⟨u_1, e, x17, rfl, H⟩ := H
  refine OL.pure S (Lf.run_ex (S.ev rfl) e) rfl rfl trivial ?_
  clear S; intro aa S
  obtain ⟨u_2, e_1, x18, rfl, H⟩ := H
  refine OL.pure S (Lf.run_ex (S.ev rfl) e_1) rfl rfl trivial ?_
  clear S; intro aa S
  refine OL.pure S (Lf.run_assign (S.ev rfl)) rfl rfl trivial ?_
  clear S; intro aa S
  refine OL.pure S (Lf.run_assign (S.ev rfl)) rfl rfl trivial ?_
  clear S; intro aa S
  refine OL.nil ?_
  refine W.seq ?_
  replace S := S.sub [(0, Value.int .i64 width0), (1, Value.int .i64 i1), (2, Value.int .i64 e2), (7, Value.pointer none), (9, Value.int .i64 x18)] ⟨rfl, rfl, rfl, rfl, rfl, trivial⟩
  refine W.region ?_
  refine OL.pure S (Lf.run_move (S.ev rfl)) rfl rfl trivial ?_
  clear S; intro aa S
  refine OL.pure S (Lf.run_build (cs := #[Value.slice (⟨none, 0, 0⟩ : Sv).a (⟨none, 0, 0⟩ : Sv).n (⟨none, 0, 0⟩ : Sv).c, Value.int .i64 width0, Value.slice (⟨none, 0, 0⟩ : Sv).a (⟨none, 0, 0⟩ : Sv).n (⟨none, 0, 0⟩ : Sv).c, Value.slice (⟨none, 0, 0⟩ : Sv).a (⟨none, 0, 0⟩ : Sv).n (⟨none, 0, 0⟩ : Sv).c, Value.slice (⟨none, 0, 0⟩ : Sv).a (⟨none, 0, 0⟩ : Sv).n (⟨none, 0, 0⟩ : Sv).c]) pl25 ti25 (parts_map S rfl) (by kernel_rfl)) rfl rfl trivial ?_
  clear S; intro aa S
  refine ol_cal S H isfn19 rfl rfl trivial ?_
  clear S H aa; intro u_3 aa ww h2 H S
  obtain ⟨r22, rfl, H⟩ := H
  refine OL.pure S (Lf.run_move (S.ev rfl)) rfl rfl trivial ?_
  clear S; intro aa S
  obtain ⟨u_4, e_2, x23, rfl, H⟩ := H
  refine OL.pure S (Lf.run_ex (S.ev rfl) e_2) rfl rfl trivial ?_
  clear S; intro aa S
  obtain ⟨u_5, e_3, x24, rfl, H⟩ := H
  refine OL.pure S (Lf.run_ex (S.ev rfl) e_3) rfl rfl trivial ?_
  clear S; intro aa S
  refine OL.pure S (Lf.run_assign (S.ev rfl)) rfl rfl trivial ?_
  clear S; intro aa S
  refine OL.pure S (Lf.run_assign (S.ev rfl)) rfl rfl trivial ?_
  clear S; intro aa S
  refine OL.nil ?_
  refine W.seq ?_
  replace S := S.sub [(0, Value.int .i64 width0), (1, Value.int .i64 i1), (2, Value.int .i64 e2), (7, Value.pointer none), (9, Value.int .i64 x18), (11, Value.int .i64 x24)] ⟨rfl, rfl, rfl, rfl, rfl, rfl, trivial⟩
  refine W.region ?_
  refine OL.pure S (Lf.run_assign (S.ev rfl)) rfl rfl trivial ?_
  clear S; intro aa S
  refine OL.nil ?_
  obtain ⟨J, H, HK⟩ := H
  refine W.seqJ (fun aa ww => ∃ want12, St 56 [(1, Value.int .i64 i1), (2, Value.int .i64 e2), (7, Value.pointer none), (9, Value.int .i64 x18), (11, Value.int .i64 x24), (12, Value.int .i64 want12)] h2 w0 aa ww ∧ J want12) ?_ ?_
  · clear HK
    refine W.seq ?_
    replace S := S.sub [(0, Value.int .i64 width0), (1, Value.int .i64 i1), (2, Value.int .i64 e2), (7, Value.pointer none), (9, Value.int .i64 x18), (11, Value.int .i64 x24), (12, Value.int .i64 0)] ⟨rfl, rfl, rfl, rfl, rfl, rfl, rfl, trivial⟩
    refine W.region ?_
    refine OL.pure S (Lf.run_move (S.ev rfl)) rfl rfl trivial ?_
    clear S; intro aa S
    refine OL.pure S (Lf.run_lss (S.ev rfl) (S.ev rfl)) rfl rfl trivial ?_
    clear S; intro aa S
    refine OL.pure S (Lf.run_move (S.ev rfl)) rfl rfl trivial ?_
    clear S; intro aa S
    refine OL.cutN 3 (fun aa ww => St 56 ((30, Value.bool ((decide (width0 < 0)) || (decide (4000 < width0)))) :: [(0, Value.int .i64 width0), (1, Value.int .i64 i1), (2, Value.int .i64 e2), (7, Value.pointer none), (9, Value.int .i64 x18), (11, Value.int .i64 x24), (12, Value.int .i64 0), (25, Value.int .i64 width0), (26, Value.bool (decide (width0 < 0))), (27, Value.bool (decide (width0 < 0)))]) h2 w0 aa ww) ?_ ?_
    · rcases Bool.eq_false_or_eq_true (decide (width0 < 0)) with hb | hb
      · refine OL.not S rfl rfl (GNo.mk rfl rfl hb) ?_
        clear S; intro aa S
        refine OL.not S rfl rfl (GNo.mk rfl rfl hb) ?_
        clear S; intro aa S
        refine OL.pure S (Lf.run_pickT (S.ev rfl) hb (S.ev rfl)) rfl rfl trivial ?_
        clear S; intro aa S
        refine OL.nil ?_
        exact (S.hd (by rw [hb, Bool.true_or])).sub _ ⟨rfl, rfl, rfl, rfl, rfl, rfl, rfl, rfl, rfl, rfl, rfl, trivial⟩
      · refine OL.pure S (Lf.run_move (S.ev rfl)) rfl rfl (GOk.mk rfl rfl hb) ?_
        clear S; intro aa S
        refine OL.pure S (Lf.run_gtr (S.ev rfl) (S.ev rfl)) rfl rfl (GOk.mk rfl rfl hb) ?_
        clear S; intro aa S
        refine OL.pure S (Lf.run_pickF (S.ev rfl) hb (S.ev rfl)) rfl rfl trivial ?_
        clear S; intro aa S
        refine OL.nil ?_
        exact (S.hd (by rw [hb, Bool.false_or])).sub _ ⟨rfl, rfl, rfl, rfl, rfl, rfl, rfl, rfl, rfl, rfl, rfl, trivial⟩
    · clear S aa
      intro aa ww S
      refine OL.nil ?_
      refine W.cond S (b := ((decide (width0 < 0)) || (decide (4000 < width0)))) rfl (fun hb_1 => ?_) (fun hb_1 => ?_)
      · replace H := H.1 hb_1
        replace S := S.sub [(1, Value.int .i64 i1), (2, Value.int .i64 e2), (7, Value.pointer none), (9, Value.int .i64 x18), (11, Value.int .i64 x24)] ⟨rfl, rfl, rfl, rfl, rfl, trivial⟩
        refine W.region ?_
        refine OL.pure S (Lf.run_assign (S.ev rfl)) rfl rfl trivial ?_
        clear S; intro aa S
        refine OL.nil ?_
        exact ⟨2, S.sub _ ⟨rfl, rfl, rfl, rfl, rfl, rfl, trivial⟩, H⟩
      · replace H := H.2 hb_1
        refine W.skip ?_
        exact ⟨0, S.sub _ ⟨rfl, rfl, rfl, rfl, rfl, rfl, trivial⟩, H⟩
  · clear H S aa
    rintro aa ww ⟨want12, S, HJ⟩
    have H := HK _ HJ
    clear HK HJ
    refine W.seq ?_
    replace S := S.sub [(1, Value.int .i64 i1), (2, Value.int .i64 e2), (7, Value.pointer none), (9, Value.int .i64 x18), (11, Value.int .i64 x24), (12, Value.int .i64 want12)] ⟨rfl, rfl, rfl, rfl, rfl, rfl, trivial⟩
    refine W.region ?_
    refine ol_cal S H isfn9 rfl rfl trivial ?_
    clear S H aa; intro u_6 aa ww h3 H S
    obtain ⟨x31, rfl, H⟩ := H
    refine OL.pure S (Lf.run_move (S.ev rfl)) rfl rfl trivial ?_
    clear S; intro aa S
    refine OL.cutN 4 (fun aa ww => St 56 ((36, Value.bool (x31 && (x18 == want12))) :: [(1, Value.int .i64 i1), (2, Value.int .i64 e2), (7, Value.pointer none), (9, Value.int .i64 x18), (11, Value.int .i64 x24), (12, Value.int .i64 want12), (31, Value.bool x31), (32, Value.bool x31)]) h3 w0 aa ww) ?_ ?_
    · rcases Bool.eq_false_or_eq_true x31 with hb_2 | hb_2
      · refine OL.pure S (Lf.run_move (S.ev rfl)) rfl rfl (GOk.mk rfl rfl hb_2) ?_
        clear S; intro aa S
        refine OL.pure S (Lf.run_move (S.ev rfl)) rfl rfl (GOk.mk rfl rfl hb_2) ?_
        clear S; intro aa S
        refine OL.pure S (Lf.run_eql (S.ev rfl) (S.ev rfl)) rfl rfl (GOk.mk rfl rfl hb_2) ?_
        clear S; intro aa S
        refine OL.pure S (Lf.run_pickT (S.ev rfl) hb_2 (S.ev rfl)) rfl rfl trivial ?_
        clear S; intro aa S
        refine OL.nil ?_
        exact (S.hd (by rw [hb_2, Bool.true_and])).sub _ ⟨rfl, rfl, rfl, rfl, rfl, rfl, rfl, rfl, rfl, trivial⟩
      · refine OL.not S rfl rfl (GNo.mk rfl rfl hb_2) ?_
        clear S; intro aa S
        refine OL.not S rfl rfl (GNo.mk rfl rfl hb_2) ?_
        clear S; intro aa S
        refine OL.not S rfl rfl (GNo.mk rfl rfl hb_2) ?_
        clear S; intro aa S
        refine OL.pure S (Lf.run_pickF (S.ev rfl) hb_2 (S.ev rfl)) rfl rfl trivial ?_
        clear S; intro aa S
        refine OL.nil ?_
        exact (S.hd (by rw [hb_2, Bool.false_and])).sub _ ⟨rfl, rfl, rfl, rfl, rfl, rfl, rfl, rfl, rfl, trivial⟩
    · clear S aa
      intro aa ww S
      refine OL.pure S (Lf.run_move (S.ev rfl)) rfl rfl trivial ?_
      clear S; intro aa S
      refine OL.cutN 4 (fun aa ww => St 56 ((41, Value.bool ((x31 && (x18 == want12)) && (x24 == want12))) :: [(1, Value.int .i64 i1), (2, Value.int .i64 e2), (7, Value.pointer none), (9, Value.int .i64 x18), (11, Value.int .i64 x24), (12, Value.int .i64 want12), (31, Value.bool x31), (32, Value.bool x31), (36, Value.bool (x31 && (x18 == want12))), (37, Value.bool (x31 && (x18 == want12)))]) h3 w0 aa ww) ?_ ?_
      · rcases Bool.eq_false_or_eq_true (x31 && (x18 == want12)) with hb_3 | hb_3
        · refine OL.pure S (Lf.run_move (S.ev rfl)) rfl rfl (GOk.mk rfl rfl hb_3) ?_
          clear S; intro aa S
          refine OL.pure S (Lf.run_move (S.ev rfl)) rfl rfl (GOk.mk rfl rfl hb_3) ?_
          clear S; intro aa S
          refine OL.pure S (Lf.run_eql (S.ev rfl) (S.ev rfl)) rfl rfl (GOk.mk rfl rfl hb_3) ?_
          clear S; intro aa S
          refine OL.pure S (Lf.run_pickT (S.ev rfl) hb_3 (S.ev rfl)) rfl rfl trivial ?_
          clear S; intro aa S
          refine OL.nil ?_
          exact (S.hd (by rw [hb_3, Bool.true_and])).sub _ ⟨rfl, rfl, rfl, rfl, rfl, rfl, rfl, rfl, rfl, rfl, rfl, trivial⟩
        · refine OL.not S rfl rfl (GNo.mk rfl rfl hb_3) ?_
          clear S; intro aa S
          refine OL.not S rfl rfl (GNo.mk rfl rfl hb_3) ?_
          clear S; intro aa S
          refine OL.not S rfl rfl (GNo.mk rfl rfl hb_3) ?_
          clear S; intro aa S
          refine OL.pure S (Lf.run_pickF (S.ev rfl) hb_3 (S.ev rfl)) rfl rfl trivial ?_
          clear S; intro aa S
          refine OL.nil ?_
          exact (S.hd (by rw [hb_3, Bool.false_and])).sub _ ⟨rfl, rfl, rfl, rfl, rfl, rfl, rfl, rfl, rfl, rfl, rfl, trivial⟩
      · clear S aa
        intro aa ww S
        refine OL.pure S (Lf.run_move (S.ev rfl)) rfl rfl trivial ?_
        clear S; intro aa S
        obtain ⟨J_1, H, HK_1⟩ := H
        refine OL.cutN 6 (fun aa ww => ∃ x48 h4, St 56 ((48, Value.bool x48) :: [(1, Value.int .i64 i1), (2, Value.int .i64 e2), (7, Value.pointer none), (9, Value.int .i64 x18), (11, Value.int .i64 x24), (12, Value.int .i64 want12), (31, Value.bool x31), (32, Value.bool x31), (36, Value.bool (x31 && (x18 == want12))), (37, Value.bool (x31 && (x18 == want12))), (41, Value.bool ((x31 && (x18 == want12)) && (x24 == want12))), (42, Value.bool ((x31 && (x18 == want12)) && (x24 == want12)))]) h4 w0 aa ww ∧ J_1 x48 h4) ?_ ?_
        · rcases Bool.eq_false_or_eq_true ((x31 && (x18 == want12)) && (x24 == want12)) with hb_4 | hb_4
          · replace H := H.1 hb_4
            refine OL.pure S (Lf.run_move (S.ev rfl)) rfl rfl (GOk.mk rfl rfl hb_4) ?_
            clear S; intro aa S
            refine OL.pure S (Lf.run_move (S.ev rfl)) rfl rfl (GOk.mk rfl rfl hb_4) ?_
            clear S; intro aa S
            refine OL.pure S (Lf.run_move (S.ev rfl)) rfl rfl (GOk.mk rfl rfl hb_4) ?_
            clear S; intro aa S
            refine ol_cal S H isfn14 rfl rfl (GOk.mk rfl rfl hb_4) ?_
            clear S H aa; intro u_7 aa ww h5 H S
            obtain ⟨x46, rfl, H⟩ := H
            refine OL.pure S (Lf.run_not (S.ev rfl)) rfl rfl (GOk.mk rfl rfl hb_4) ?_
            clear S; intro aa S
            refine OL.pure S (Lf.run_pickT (S.ev rfl) hb_4 (S.ev rfl)) rfl rfl trivial ?_
            clear S; intro aa S
            refine OL.nil ?_
            exact ⟨_, _, S.sub _ ⟨rfl, rfl, rfl, rfl, rfl, rfl, rfl, rfl, rfl, rfl, rfl, rfl, rfl, trivial⟩, H⟩
          · replace H := H.2 hb_4
            refine OL.not S rfl rfl (GNo.mk rfl rfl hb_4) ?_
            clear S; intro aa S
            refine OL.not S rfl rfl (GNo.mk rfl rfl hb_4) ?_
            clear S; intro aa S
            refine OL.not S rfl rfl (GNo.mk rfl rfl hb_4) ?_
            clear S; intro aa S
            refine OL.not S rfl rfl (GNo.mk rfl rfl hb_4) ?_
            clear S; intro aa S
            refine OL.not S rfl rfl (GNo.mk rfl rfl hb_4) ?_
            clear S; intro aa S
            refine OL.pure S (Lf.run_pickF (S.ev rfl) hb_4 (S.ev rfl)) rfl rfl trivial ?_
            clear S; intro aa S
            refine OL.nil ?_
            exact ⟨_, _, S.sub _ ⟨rfl, rfl, rfl, rfl, rfl, rfl, rfl, rfl, rfl, rfl, rfl, rfl, rfl, trivial⟩, H⟩
        · clear S aa
          rintro aa ww ⟨x48, h4, S, HJ⟩
          replace H := HK_1 _ _ HJ
          clear HK_1 HJ
          refine OL.pure S (Lf.run_move (S.ev rfl)) rfl rfl trivial ?_
          clear S; intro aa S
          obtain ⟨J_2, H, HK_2⟩ := H
          refine OL.cutN 6 (fun aa ww => ∃ x55 h6, St 56 ((55, Value.bool x55) :: [(1, Value.int .i64 i1), (2, Value.int .i64 e2), (7, Value.pointer none), (9, Value.int .i64 x18), (11, Value.int .i64 x24), (12, Value.int .i64 want12), (31, Value.bool x31), (32, Value.bool x31), (36, Value.bool (x31 && (x18 == want12))), (37, Value.bool (x31 && (x18 == want12))), (41, Value.bool ((x31 && (x18 == want12)) && (x24 == want12))), (42, Value.bool ((x31 && (x18 == want12)) && (x24 == want12))), (48, Value.bool x48), (49, Value.bool x48)]) h6 w0 aa ww ∧ J_2 x55 h6) ?_ ?_
          · rcases Bool.eq_false_or_eq_true x48 with hb_5 | hb_5
            · replace H := H.1 hb_5
              refine OL.pure S (Lf.run_move (S.ev rfl)) rfl rfl (GOk.mk rfl rfl hb_5) ?_
              clear S; intro aa S
              refine OL.pure S (Lf.run_move (S.ev rfl)) rfl rfl (GOk.mk rfl rfl hb_5) ?_
              clear S; intro aa S
              refine ol_cal S H isfn21 rfl rfl (GOk.mk rfl rfl hb_5) ?_
              clear S H aa; intro u_8 aa ww h7 H S
              obtain ⟨x52, rfl, H⟩ := H
              refine OL.pure S (Lf.run_lens (S.ev rfl) rfl Try.underlying23) rfl rfl (GOk.mk rfl rfl hb_5) ?_
              clear S; intro aa S
              refine OL.pure S (Lf.run_eql (S.ev rfl) (S.ev rfl)) rfl rfl (GOk.mk rfl rfl hb_5) ?_
              clear S; intro aa S
              refine OL.pure S (Lf.run_pickT (S.ev rfl) hb_5 (S.ev rfl)) rfl rfl trivial ?_
              clear S; intro aa S
              refine OL.nil ?_
              exact ⟨_, _, S.sub _ ⟨rfl, rfl, rfl, rfl, rfl, rfl, rfl, rfl, rfl, rfl, rfl, rfl, rfl, rfl, rfl, trivial⟩, H⟩
            · replace H := H.2 hb_5
              refine OL.not S rfl rfl (GNo.mk rfl rfl hb_5) ?_
              clear S; intro aa S
              refine OL.not S rfl rfl (GNo.mk rfl rfl hb_5) ?_
              clear S; intro aa S
              refine OL.not S rfl rfl (GNo.mk rfl rfl hb_5) ?_
              clear S; intro aa S
              refine OL.not S rfl rfl (GNo.mk rfl rfl hb_5) ?_
              clear S; intro aa S
              refine OL.not S rfl rfl (GNo.mk rfl rfl hb_5) ?_
              clear S; intro aa S
              refine OL.pure S (Lf.run_pickF (S.ev rfl) hb_5 (S.ev rfl)) rfl rfl trivial ?_
              clear S; intro aa S
              refine OL.nil ?_
              exact ⟨_, _, S.sub _ ⟨rfl, rfl, rfl, rfl, rfl, rfl, rfl, rfl, rfl, rfl, rfl, rfl, rfl, rfl, rfl, trivial⟩, H⟩
          · clear S aa
            rintro aa ww ⟨x55, h6, S, HJ⟩
            replace H := HK_2 _ _ HJ
            clear HK_2 HJ
            refine OL.pure S (Lf.run_assign (S.ev rfl)) rfl rfl trivial ?_
            clear S; intro aa S
            refine OL.nil ?_
            refine W.ret ?_
            exact Ret.one S rfl rfl H

/-- chattel chattellaw15.flowed -/
def L9  (h : Heap) (R : Value → Heap → Prop) : Prop :=
  newS 3 #[Value.int .i64 1] 1 h fun s4 h1 =>
  newS 3 #[Value.int .i64 2] 1 h1 fun s5 h2 =>
  newS 23 #[Value.slice s4.a s4.n s4.c, Value.slice s5.a s5.n s5.c, Value.slice (⟨none, 0, 0⟩ : Sv).a (⟨none, 0, 0⟩ : Sv).n (⟨none, 0, 0⟩ : Sv).c] 3 h2 fun s6 h3 =>
  newS 3 #[Value.int .i64 0] 1 h3 fun s7 h4 =>
  newS 23 #[Value.slice s7.a s7.n s7.c] 1 h4 fun s8 h5 =>
  newS 3 #[Value.int .i64 0] 1 h5 fun s9 h6 =>
  newS 23 #[Value.slice (⟨none, 0, 0⟩ : Sv).a (⟨none, 0, 0⟩ : Sv).n (⟨none, 0, 0⟩ : Sv).c, Value.slice s9.a s9.n s9.c] 2 h6 fun s10 h7 =>
  cal Try.prog 12 #[Value.agg #[Value.slice s6.a s6.n s6.c, Value.int .i64 1, Value.slice s8.a s8.n s8.c, Value.slice s10.a s10.n s10.c, Value.slice (⟨none, 0, 0⟩ : Sv).a (⟨none, 0, 0⟩ : Sv).n (⟨none, 0, 0⟩ : Sv).c]] h7 fun u h8 => asTup u fun r12 =>
  elt r12 0 fun u_1 => asP u_1 fun x13 =>
  elt r12 1 fun u_2 => asI .i64 u_2 fun x14 =>
  ∃ J : Bool → Heap → Prop, (andj (x14 == 0) (fun k =>
    cal Try.prog 14 #[Value.pointer x13, Value.int .i64 1, Value.int .i64 0] h8 fun u_3 h10 => asB u_3 fun x19 =>
    k x19 h10) h8 J) ∧ ∀ x20 h9, J x20 h9 →
  ∃ J_1 : Bool → Heap → Prop, (andj x20 (fun k_1 =>
    cal Try.prog 14 #[Value.pointer x13, Value.int .i64 0, Value.int .i64 0] h9 fun u_4 h12 => asB u_4 fun x23 =>
    k_1 (!x23) h12) h9 J_1) ∧ ∀ x25 h11, J_1 x25 h11 →
  ∃ J_2 : Bool → Heap → Prop, (andj x25 (fun k_2 =>
    cal Try.prog 14 #[Value.pointer x13, Value.int .i64 2, Value.int .i64 0] h11 fun u_5 h14 => asB u_5 fun x28 =>
    k_2 (!x28) h14) h11 J_2) ∧ ∀ x30 h13, J_2 x30 h13 →
  R (Value.bool x30) h13

set_option maxRecDepth 100000 in

theorem F9 {h : _} {R : Value → Heap → Prop} (H : L9 h R) : CallsH Try.prog 9 #[] h R := by
  refine CallsH.enter (n := 31) Try.func9 rfl rfl rfl rfl ?_
  intro w0 aa ww S
  unfold L9 at H
  refine W.seq ?_
  replace S := S.sub [] trivial
  refine W.region ?_
  refine OL.pure S (Lf.run_assign (S.ev rfl)) rfl rfl trivial ?_
  clear S; intro aa S
  refine OL.nil ?_
  refine W.seq ?_
  replace S := S.sub [] trivial
  refine W.region ?_
  refine ol_newS S H Try.underlying23 ti3 (by decide) (parts_map S rfl) (by kernel_rfl) (by decide) rfl trivial ?_
  clear S H aa; intro s4 aa ww h1 H S
  refine ol_newS S H Try.underlying23 ti3 (by decide) (parts_map S rfl) (by kernel_rfl) (by decide) rfl trivial ?_
  clear S H aa; intro s5 aa ww h2 H S
  refine ol_newS S H Try.underlying22 ti23 (by decide) (parts_map S rfl) (by kernel_rfl) (by decide) rfl trivial ?_
  clear S H aa; intro s6 aa ww h3 H S
  refine ol_newS S H Try.underlying23 ti3 (by decide) (parts_map S rfl) (by kernel_rfl) (by decide) rfl trivial ?_
  clear S H aa; intro s7 aa ww h4 H S
  refine ol_newS S H Try.underlying22 ti23 (by decide) (parts_map S rfl) (by kernel_rfl) (by decide) rfl trivial ?_
  clear S H aa; intro s8 aa ww h5 H S
  refine ol_newS S H Try.underlying23 ti3 (by decide) (parts_map S rfl) (by kernel_rfl) (by decide) rfl trivial ?_
  clear S H aa; intro s9 aa ww h6 H S
  refine ol_newS S H Try.underlying22 ti23 (by decide) (parts_map S rfl) (by kernel_rfl) (by decide) rfl trivial ?_
  clear S H aa; intro s10 aa ww h7 H S
  refine OL.pure S (Lf.run_build (cs := #[Value.slice s6.a s6.n s6.c, Value.int .i64 1, Value.slice s8.a s8.n s8.c, Value.slice s10.a s10.n s10.c, Value.slice (⟨none, 0, 0⟩ : Sv).a (⟨none, 0, 0⟩ : Sv).n (⟨none, 0, 0⟩ : Sv).c]) pl25 ti25 (parts_map S rfl) (by kernel_rfl)) rfl rfl trivial ?_
  clear S; intro aa S
  refine ol_cal S H isfn12 rfl rfl trivial ?_
  clear S H aa; intro u aa ww h8 H S
  obtain ⟨r12, rfl, H⟩ := H
  refine OL.pure S (Lf.run_move (S.ev rfl)) rfl rfl trivial ?_
  clear S; intro aa S
  obtain ⟨u_1, e, x13, rfl, H⟩ := H
  refine OL.pure S (Lf.run_ex (S.ev rfl) e) rfl rfl trivial ?_
  clear S; intro aa S
  obtain ⟨u_2, e_1, x14, rfl, H⟩ := H
  refine OL.pure S (Lf.run_ex (S.ev rfl) e_1) rfl rfl trivial ?_
  clear S; intro aa S
  refine OL.pure S (Lf.run_assign (S.ev rfl)) rfl rfl trivial ?_
  clear S; intro aa S
  refine OL.pure S (Lf.run_assign (S.ev rfl)) rfl rfl trivial ?_
  clear S; intro aa S
  refine OL.nil ?_
  refine W.seq ?_
  replace S := S.sub [(1, Value.pointer x13), (2, Value.int .i64 x14)] ⟨rfl, rfl, trivial⟩
  refine W.region ?_
  refine OL.pure S (Lf.run_move (S.ev rfl)) rfl rfl trivial ?_
  clear S; intro aa S
  refine OL.pure S (Lf.run_eql (S.ev rfl) (S.ev rfl)) rfl rfl trivial ?_
  clear S; intro aa S
  refine OL.pure S (Lf.run_move (S.ev rfl)) rfl rfl trivial ?_
  clear S; intro aa S
  obtain ⟨J, H, HK⟩ := H
  refine OL.cutN 3 (fun aa ww => ∃ x20 h9, St 31 ((20, Value.bool x20) :: [(1, Value.pointer x13), (2, Value.int .i64 x14), (15, Value.int .i64 x14), (16, Value.bool (x14 == 0)), (17, Value.bool (x14 == 0))]) h9 w0 aa ww ∧ J x20 h9) ?_ ?_
  · rcases Bool.eq_false_or_eq_true (x14 == 0) with hb | hb
    · replace H := H.1 hb
      refine OL.pure S (Lf.run_move (S.ev rfl)) rfl rfl (GOk.mk rfl rfl hb) ?_
      clear S; intro aa S
      refine ol_cal S H isfn14 rfl rfl (GOk.mk rfl rfl hb) ?_
      clear S H aa; intro u_3 aa ww h10 H S
      obtain ⟨x19, rfl, H⟩ := H
      refine OL.pure S (Lf.run_pickT (S.ev rfl) hb (S.ev rfl)) rfl rfl trivial ?_
      clear S; intro aa S
      refine OL.nil ?_
      exact ⟨_, _, S.sub _ ⟨rfl, rfl, rfl, rfl, rfl, rfl, trivial⟩, H⟩
    · replace H := H.2 hb
      refine OL.not S rfl rfl (GNo.mk rfl rfl hb) ?_
      clear S; intro aa S
      refine OL.not S rfl rfl (GNo.mk rfl rfl hb) ?_
      clear S; intro aa S
      refine OL.pure S (Lf.run_pickF (S.ev rfl) hb (S.ev rfl)) rfl rfl trivial ?_
      clear S; intro aa S
      refine OL.nil ?_
      exact ⟨_, _, S.sub _ ⟨rfl, rfl, rfl, rfl, rfl, rfl, trivial⟩, H⟩
  · clear S aa
    rintro aa ww ⟨x20, h9, S, HJ⟩
    replace H := HK _ _ HJ
    clear HK HJ
    refine OL.pure S (Lf.run_move (S.ev rfl)) rfl rfl trivial ?_
    clear S; intro aa S
    obtain ⟨J_1, H, HK_1⟩ := H
    refine OL.cutN 4 (fun aa ww => ∃ x25 h11, St 31 ((25, Value.bool x25) :: [(1, Value.pointer x13), (2, Value.int .i64 x14), (15, Value.int .i64 x14), (16, Value.bool (x14 == 0)), (17, Value.bool (x14 == 0)), (20, Value.bool x20), (21, Value.bool x20)]) h11 w0 aa ww ∧ J_1 x25 h11) ?_ ?_
    · rcases Bool.eq_false_or_eq_true x20 with hb_1 | hb_1
      · replace H := H.1 hb_1
        refine OL.pure S (Lf.run_move (S.ev rfl)) rfl rfl (GOk.mk rfl rfl hb_1) ?_
        clear S; intro aa S
        refine ol_cal S H isfn14 rfl rfl (GOk.mk rfl rfl hb_1) ?_
        clear S H aa; intro u_4 aa ww h12 H S
        obtain ⟨x23, rfl, H⟩ := H
        refine OL.pure S (Lf.run_not (S.ev rfl)) rfl rfl (GOk.mk rfl rfl hb_1) ?_
        clear S; intro aa S
        refine OL.pure S (Lf.run_pickT (S.ev rfl) hb_1 (S.ev rfl)) rfl rfl trivial ?_
        clear S; intro aa S
        refine OL.nil ?_
        exact ⟨_, _, S.sub _ ⟨rfl, rfl, rfl, rfl, rfl, rfl, rfl, rfl, trivial⟩, H⟩
      · replace H := H.2 hb_1
        refine OL.not S rfl rfl (GNo.mk rfl rfl hb_1) ?_
        clear S; intro aa S
        refine OL.not S rfl rfl (GNo.mk rfl rfl hb_1) ?_
        clear S; intro aa S
        refine OL.not S rfl rfl (GNo.mk rfl rfl hb_1) ?_
        clear S; intro aa S
        refine OL.pure S (Lf.run_pickF (S.ev rfl) hb_1 (S.ev rfl)) rfl rfl trivial ?_
        clear S; intro aa S
        refine OL.nil ?_
        exact ⟨_, _, S.sub _ ⟨rfl, rfl, rfl, rfl, rfl, rfl, rfl, rfl, trivial⟩, H⟩
    · clear S aa
      rintro aa ww ⟨x25, h11, S, HJ⟩
      replace H := HK_1 _ _ HJ
      clear HK_1 HJ
      refine OL.pure S (Lf.run_move (S.ev rfl)) rfl rfl trivial ?_
      clear S; intro aa S
      obtain ⟨J_2, H, HK_2⟩ := H
      refine OL.cutN 4 (fun aa ww => ∃ x30 h13, St 31 ((30, Value.bool x30) :: [(1, Value.pointer x13), (2, Value.int .i64 x14), (15, Value.int .i64 x14), (16, Value.bool (x14 == 0)), (17, Value.bool (x14 == 0)), (20, Value.bool x20), (21, Value.bool x20), (25, Value.bool x25), (26, Value.bool x25)]) h13 w0 aa ww ∧ J_2 x30 h13) ?_ ?_
      · rcases Bool.eq_false_or_eq_true x25 with hb_2 | hb_2
        · replace H := H.1 hb_2
          refine OL.pure S (Lf.run_move (S.ev rfl)) rfl rfl (GOk.mk rfl rfl hb_2) ?_
          clear S; intro aa S
          refine ol_cal S H isfn14 rfl rfl (GOk.mk rfl rfl hb_2) ?_
          clear S H aa; intro u_5 aa ww h14 H S
          obtain ⟨x28, rfl, H⟩ := H
          refine OL.pure S (Lf.run_not (S.ev rfl)) rfl rfl (GOk.mk rfl rfl hb_2) ?_
          clear S; intro aa S
          refine OL.pure S (Lf.run_pickT (S.ev rfl) hb_2 (S.ev rfl)) rfl rfl trivial ?_
          clear S; intro aa S
          refine OL.nil ?_
          exact ⟨_, _, S.sub _ ⟨rfl, rfl, rfl, rfl, rfl, rfl, rfl, rfl, rfl, rfl, trivial⟩, H⟩
        · replace H := H.2 hb_2
          refine OL.not S rfl rfl (GNo.mk rfl rfl hb_2) ?_
          clear S; intro aa S
          refine OL.not S rfl rfl (GNo.mk rfl rfl hb_2) ?_
          clear S; intro aa S
          refine OL.not S rfl rfl (GNo.mk rfl rfl hb_2) ?_
          clear S; intro aa S
          refine OL.pure S (Lf.run_pickF (S.ev rfl) hb_2 (S.ev rfl)) rfl rfl trivial ?_
          clear S; intro aa S
          refine OL.nil ?_
          exact ⟨_, _, S.sub _ ⟨rfl, rfl, rfl, rfl, rfl, rfl, rfl, rfl, rfl, rfl, trivial⟩, H⟩
      · clear S aa
        rintro aa ww ⟨x30, h13, S, HJ⟩
        replace H := HK_2 _ _ HJ
        clear HK_2 HJ
        refine OL.pure S (Lf.run_assign (S.ev rfl)) rfl rfl trivial ?_
        clear S; intro aa S
        refine OL.nil ?_
        refine W.ret ?_
        exact Ret.one S rfl rfl H

/-- chattel chattellaw15.small -/
def L10 (p0 : Sv) (p0_1 : Int) (p0_2 : Sv) (p0_3 : Sv) (p0_4 : Sv) (h : Heap) (R : Value → Heap → Prop) : Prop :=
  new 25 #[Value.slice p0.a p0.n p0.c, Value.int .i64 p0_1, Value.slice p0_2.a p0_2.n p0_2.c, Value.slice p0_3.a p0_3.n p0_3.c, Value.slice p0_4.a p0_4.n p0_4.c] h fun p1 h1 =>
  ldS h1 p1 fun x7 =>
  ∃ J : Bool → Prop, (orr (decide (30 < ((x7.n : Nat) : Int))) (fun k =>
    ldS h1 (p1.add 2) fun x12 =>
    k (decide (40 < ((x12.n : Nat) : Int)))) J) ∧ ∀ x15, J x15 →
  ∃ J_1 : Bool → Prop, (orr x15 (fun k_1 =>
    ldS h1 (p1.add 3) fun x18 =>
    k_1 (decide (40 < ((x18.n : Nat) : Int)))) J_1) ∧ ∀ x21, J_1 x21 →
  ∃ J_2 : Bool → Prop, (orr x21 (fun k_2 =>
    ldS h1 (p1.add 4) fun x24 =>
    k_2 (decide (20 < ((x24.n : Nat) : Int)))) J_2) ∧ ∀ x27, J_2 x27 →
  ∃ J_3 : Bool → Prop, (orr x27 (fun k_3 =>
    ldI .i64 h1 (p1.add 1) fun x30 =>
    k_3 (decide (70 < x30))) J_3) ∧ ∀ x32, J_3 x32 →
  ifb x32 (
    R (Value.bool false) h1) (
    ldS h1 p1 fun x34 =>
    ldS h1 (p1.add 2) fun x36 =>
    ldS h1 (p1.add 3) fun x38 =>
    newS 22 #[Value.slice x34.a x34.n x34.c, Value.slice x36.a x36.n x36.c, Value.slice x38.a x38.n x38.c] 3 h1 fun s39 h2 =>
    ∃ (I : Int → Prop) (m : Int → Nat), I 0 ∧ ∀ i4, I i4 →
    ifb (decide (i4 < ((s39.n : Nat) : Int))) (
      ∃ (I_1 : Int → Prop) (m_1 : Int → Nat), I_1 0 ∧ ∀ k5, I_1 k5 →
      ixS s39 i4 fun q49 =>
      ldS h2 (q49.add ((i4 : Int).toNat * 1)) fun x50 =>
      ifb (decide (k5 < ((x50.n : Nat) : Int))) (
        ixS s39 i4 fun q57 =>
        ldS h2 (q57.add ((i4 : Int).toNat * 1)) fun x58 =>
        ixS x58 k5 fun q60 =>
        ldS h2 (q60.add ((k5 : Int).toNat * 1)) fun x61 =>
        ifb (decide (8 < ((x61.n : Nat) : Int))) (
          R (Value.bool false) h2) (
          I_1 (IntKind.i64.wrap (k5 + 1)) ∧ m_1 (IntKind.i64.wrap (k5 + 1)) < m_1 k5)) (
        I (IntKind.i64.wrap (i4 + 1)) ∧ m (IntKind.i64.wrap (i4 + 1)) < m i4)) (
      R (Value.bool true) h2))

set_option maxRecDepth 100000 in

theorem F10 {p0 p0_1 p0_2 p0_3 p0_4 h : _} {R : Value → Heap → Prop} (H : L10 p0 p0_1 p0_2 p0_3 p0_4 h R) : CallsH Try.prog 10 #[Value.agg #[Value.slice p0.a p0.n p0.c, Value.int .i64 p0_1, Value.slice p0_2.a p0_2.n p0_2.c, Value.slice p0_3.a p0_3.n p0_3.c, Value.slice p0_4.a p0_4.n p0_4.c]] h R := by
  refine CallsH.enter (n := 64) Try.func10 rfl rfl rfl rfl ?_
  intro w0 aa ww S
  unfold L10 at H
  refine W.seq ?_
  replace S := S.sub [(0, Value.agg #[Value.slice p0.a p0.n p0.c, Value.int .i64 p0_1, Value.slice p0_2.a p0_2.n p0_2.c, Value.slice p0_3.a p0_3.n p0_3.c, Value.slice p0_4.a p0_4.n p0_4.c])] ⟨rfl, trivial⟩
  refine W.region ?_
  refine ol_box S H rfl rfl rfl trivial ?_
  clear S H aa; intro p1 aa ww h1 H S
  refine OL.pure S (Lf.run_assign (S.ev rfl)) rfl rfl trivial ?_
  clear S; intro aa S
  refine OL.nil ?_
  refine W.seq ?_
  refine W.seq ?_
  replace S := S.sub [(1, Value.pointer (some p1))] ⟨rfl, trivial⟩
  refine W.region ?_
  refine OL.pure S (Lf.run_fa (S.ev rfl) fa25_0) rfl rfl trivial ?_
  clear S; intro aa S
  obtain ⟨x7, c, H⟩ := H
  refine OL.pure S (Lf.run_ld (S.ev rfl) fl22 (S.cl c)) rfl rfl trivial ?_
  clear S; intro aa S
  refine OL.pure S (Lf.run_lens (S.ev rfl) rfl Try.underlying22) rfl rfl trivial ?_
  clear S; intro aa S
  refine OL.pure S (Lf.run_gtr (S.ev rfl) (S.ev rfl)) rfl rfl trivial ?_
  clear S; intro aa S
  refine OL.pure S (Lf.run_move (S.ev rfl)) rfl rfl trivial ?_
  clear S; intro aa S
  obtain ⟨J, H, HK⟩ := H
  refine OL.cutN 5 (fun aa ww => ∃ x15, St 64 ((15, Value.bool x15) :: [(1, Value.pointer (some p1)), (6, Value.pointer (some p1)), (7, Value.slice x7.a x7.n x7.c), (8, Value.int .i64 ((x7.n : Nat) : Int)), (9, Value.bool (decide (30 < ((x7.n : Nat) : Int)))), (10, Value.bool (decide (30 < ((x7.n : Nat) : Int))))]) h1 w0 aa ww ∧ J x15) ?_ ?_
  · rcases Bool.eq_false_or_eq_true (decide (30 < ((x7.n : Nat) : Int))) with hb | hb
    · replace H := H.1 hb
      refine OL.not S rfl rfl (GNo.mk rfl rfl hb) ?_
      clear S; intro aa S
      refine OL.not S rfl rfl (GNo.mk rfl rfl hb) ?_
      clear S; intro aa S
      refine OL.not S rfl rfl (GNo.mk rfl rfl hb) ?_
      clear S; intro aa S
      refine OL.not S rfl rfl (GNo.mk rfl rfl hb) ?_
      clear S; intro aa S
      refine OL.pure S (Lf.run_pickT (S.ev rfl) hb (S.ev rfl)) rfl rfl trivial ?_
      clear S; intro aa S
      refine OL.nil ?_
      exact ⟨_, S.sub _ ⟨rfl, rfl, rfl, rfl, rfl, rfl, rfl, trivial⟩, H⟩
    · replace H := H.2 hb
      refine OL.pure S (Lf.run_fa (S.ev rfl) fa25_2) rfl rfl (GOk.mk rfl rfl hb) ?_
      clear S; intro aa S
      obtain ⟨x12, c_1, H⟩ := H
      refine OL.pure S (Lf.run_ld (S.ev rfl) fl22 (S.cl c_1)) rfl rfl (GOk.mk rfl rfl hb) ?_
      clear S; intro aa S
      refine OL.pure S (Lf.run_lens (S.ev rfl) rfl Try.underlying22) rfl rfl (GOk.mk rfl rfl hb) ?_
      clear S; intro aa S
      refine OL.pure S (Lf.run_gtr (S.ev rfl) (S.ev rfl)) rfl rfl (GOk.mk rfl rfl hb) ?_
      clear S; intro aa S
      refine OL.pure S (Lf.run_pickF (S.ev rfl) hb (S.ev rfl)) rfl rfl trivial ?_
      clear S; intro aa S
      refine OL.nil ?_
      exact ⟨_, S.sub _ ⟨rfl, rfl, rfl, rfl, rfl, rfl, rfl, trivial⟩, H⟩
  · clear S aa
    rintro aa ww ⟨x15, S, HJ⟩
    replace H := HK _ HJ
    clear HK HJ
    refine OL.pure S (Lf.run_move (S.ev rfl)) rfl rfl trivial ?_
    clear S; intro aa S
    obtain ⟨J_1, H, HK_1⟩ := H
    refine OL.cutN 5 (fun aa ww => ∃ x21, St 64 ((21, Value.bool x21) :: [(1, Value.pointer (some p1)), (6, Value.pointer (some p1)), (7, Value.slice x7.a x7.n x7.c), (8, Value.int .i64 ((x7.n : Nat) : Int)), (9, Value.bool (decide (30 < ((x7.n : Nat) : Int)))), (10, Value.bool (decide (30 < ((x7.n : Nat) : Int)))), (15, Value.bool x15), (16, Value.bool x15)]) h1 w0 aa ww ∧ J_1 x21) ?_ ?_
    · rcases Bool.eq_false_or_eq_true x15 with hb_1 | hb_1
      · replace H := H.1 hb_1
        refine OL.not S rfl rfl (GNo.mk rfl rfl hb_1) ?_
        clear S; intro aa S
        refine OL.not S rfl rfl (GNo.mk rfl rfl hb_1) ?_
        clear S; intro aa S
        refine OL.not S rfl rfl (GNo.mk rfl rfl hb_1) ?_
        clear S; intro aa S
        refine OL.not S rfl rfl (GNo.mk rfl rfl hb_1) ?_
        clear S; intro aa S
        refine OL.pure S (Lf.run_pickT (S.ev rfl) hb_1 (S.ev rfl)) rfl rfl trivial ?_
        clear S; intro aa S
        refine OL.nil ?_
        exact ⟨_, S.sub _ ⟨rfl, rfl, rfl, rfl, rfl, rfl, rfl, rfl, rfl, trivial⟩, H⟩
      · replace H := H.2 hb_1
        refine OL.pure S (Lf.run_fa (S.ev rfl) fa25_3) rfl rfl (GOk.mk rfl rfl hb_1) ?_
        clear S; intro aa S
        obtain ⟨x18, c_2, H⟩ := H
        refine OL.pure S (Lf.run_ld (S.ev rfl) fl22 (S.cl c_2)) rfl rfl (GOk.mk rfl rfl hb_1) ?_
        clear S; intro aa S
        refine OL.pure S (Lf.run_lens (S.ev rfl) rfl Try.underlying22) rfl rfl (GOk.mk rfl rfl hb_1) ?_
        clear S; intro aa S
        refine OL.pure S (Lf.run_gtr (S.ev rfl) (S.ev rfl)) rfl rfl (GOk.mk rfl rfl hb_1) ?_
        clear S; intro aa S
        refine OL.pure S (Lf.run_pickF (S.ev rfl) hb_1 (S.ev rfl)) rfl rfl trivial ?_
        clear S; intro aa S
        refine OL.nil ?_
        exact ⟨_, S.sub _ ⟨rfl, rfl, rfl, rfl, rfl, rfl, rfl, rfl, rfl, trivial⟩, H⟩
    · clear S aa
      rintro aa ww ⟨x21, S, HJ⟩
      replace H := HK_1 _ HJ
      clear HK_1 HJ
      refine OL.pure S (Lf.run_move (S.ev rfl)) rfl rfl trivial ?_
      clear S; intro aa S
      obtain ⟨J_2, H, HK_2⟩ := H
      refine OL.cutN 5 (fun aa ww => ∃ x27, St 64 ((27, Value.bool x27) :: [(1, Value.pointer (some p1)), (6, Value.pointer (some p1)), (7, Value.slice x7.a x7.n x7.c), (8, Value.int .i64 ((x7.n : Nat) : Int)), (9, Value.bool (decide (30 < ((x7.n : Nat) : Int)))), (10, Value.bool (decide (30 < ((x7.n : Nat) : Int)))), (15, Value.bool x15), (16, Value.bool x15), (21, Value.bool x21), (22, Value.bool x21)]) h1 w0 aa ww ∧ J_2 x27) ?_ ?_
      · rcases Bool.eq_false_or_eq_true x21 with hb_2 | hb_2
        · replace H := H.1 hb_2
          refine OL.not S rfl rfl (GNo.mk rfl rfl hb_2) ?_
          clear S; intro aa S
          refine OL.not S rfl rfl (GNo.mk rfl rfl hb_2) ?_
          clear S; intro aa S
          refine OL.not S rfl rfl (GNo.mk rfl rfl hb_2) ?_
          clear S; intro aa S
          refine OL.not S rfl rfl (GNo.mk rfl rfl hb_2) ?_
          clear S; intro aa S
          refine OL.pure S (Lf.run_pickT (S.ev rfl) hb_2 (S.ev rfl)) rfl rfl trivial ?_
          clear S; intro aa S
          refine OL.nil ?_
          exact ⟨_, S.sub _ ⟨rfl, rfl, rfl, rfl, rfl, rfl, rfl, rfl, rfl, rfl, rfl, trivial⟩, H⟩
        · replace H := H.2 hb_2
          refine OL.pure S (Lf.run_fa (S.ev rfl) fa25_4) rfl rfl (GOk.mk rfl rfl hb_2) ?_
          clear S; intro aa S
          obtain ⟨x24, c_3, H⟩ := H
          refine OL.pure S (Lf.run_ld (S.ev rfl) fl23 (S.cl c_3)) rfl rfl (GOk.mk rfl rfl hb_2) ?_
          clear S; intro aa S
          refine OL.pure S (Lf.run_lens (S.ev rfl) rfl Try.underlying23) rfl rfl (GOk.mk rfl rfl hb_2) ?_
          clear S; intro aa S
          refine OL.pure S (Lf.run_gtr (S.ev rfl) (S.ev rfl)) rfl rfl (GOk.mk rfl rfl hb_2) ?_
          clear S; intro aa S
          refine OL.pure S (Lf.run_pickF (S.ev rfl) hb_2 (S.ev rfl)) rfl rfl trivial ?_
          clear S; intro aa S
          refine OL.nil ?_
          exact ⟨_, S.sub _ ⟨rfl, rfl, rfl, rfl, rfl, rfl, rfl, rfl, rfl, rfl, rfl, trivial⟩, H⟩
      · clear S aa
        rintro aa ww ⟨x27, S, HJ⟩
        replace H := HK_2 _ HJ
        clear HK_2 HJ
        refine OL.pure S (Lf.run_move (S.ev rfl)) rfl rfl trivial ?_
        clear S; intro aa S
        obtain ⟨J_3, H, HK_3⟩ := H
        refine OL.cutN 4 (fun aa ww => ∃ x32, St 64 ((32, Value.bool x32) :: [(1, Value.pointer (some p1)), (6, Value.pointer (some p1)), (7, Value.slice x7.a x7.n x7.c), (8, Value.int .i64 ((x7.n : Nat) : Int)), (9, Value.bool (decide (30 < ((x7.n : Nat) : Int)))), (10, Value.bool (decide (30 < ((x7.n : Nat) : Int)))), (15, Value.bool x15), (16, Value.bool x15), (21, Value.bool x21), (22, Value.bool x21), (27, Value.bool x27), (28, Value.bool x27)]) h1 w0 aa ww ∧ J_3 x32) ?_ ?_
        · rcases Bool.eq_false_or_eq_true x27 with hb_3 | hb_3
          · replace H := H.1 hb_3
            refine OL.not S rfl rfl (GNo.mk rfl rfl hb_3) ?_
            clear S; intro aa S
            refine OL.not S rfl rfl (GNo.mk rfl rfl hb_3) ?_
            clear S; intro aa S
            refine OL.not S rfl rfl (GNo.mk rfl rfl hb_3) ?_
            clear S; intro aa S
            refine OL.pure S (Lf.run_pickT (S.ev rfl) hb_3 (S.ev rfl)) rfl rfl trivial ?_
            clear S; intro aa S
            refine OL.nil ?_
            exact ⟨_, S.sub _ ⟨rfl, rfl, rfl, rfl, rfl, rfl, rfl, rfl, rfl, rfl, rfl, rfl, rfl, trivial⟩, H⟩
          · replace H := H.2 hb_3
            refine OL.pure S (Lf.run_fa (S.ev rfl) fa25_1) rfl rfl (GOk.mk rfl rfl hb_3) ?_
            clear S; intro aa S
            obtain ⟨x30, c_4, H⟩ := H
            refine OL.pure S (Lf.run_ld (S.ev rfl) fl3 (S.cl c_4)) rfl rfl (GOk.mk rfl rfl hb_3) ?_
            clear S; intro aa S
            refine OL.pure S (Lf.run_gtr (S.ev rfl) (S.ev rfl)) rfl rfl (GOk.mk rfl rfl hb_3) ?_
            clear S; intro aa S
            refine OL.pure S (Lf.run_pickF (S.ev rfl) hb_3 (S.ev rfl)) rfl rfl trivial ?_
            clear S; intro aa S
            refine OL.nil ?_
            exact ⟨_, S.sub _ ⟨rfl, rfl, rfl, rfl, rfl, rfl, rfl, rfl, rfl, rfl, rfl, rfl, rfl, trivial⟩, H⟩
        · clear S aa
          rintro aa ww ⟨x32, S, HJ⟩
          replace H := HK_3 _ HJ
          clear HK_3 HJ
          refine OL.nil ?_
          refine W.cond S (b := x32) rfl (fun hb_4 => ?_) (fun hb_4 => ?_)
          · replace H := H.1 hb_4
            refine W.seq ?_
            replace S := S.sub [] trivial
            refine W.region ?_
            refine OL.pure S (Lf.run_assign (S.ev rfl)) rfl rfl trivial ?_
            clear S; intro aa S
            refine OL.nil ?_
            refine W.ret ?_
            exact Ret.one S rfl rfl H
          · replace H := H.2 hb_4
            refine W.skip ?_
            refine W.seq ?_
            replace S := S.sub [(1, Value.pointer (some p1))] ⟨rfl, trivial⟩
            refine W.region ?_
            refine OL.pure S (Lf.run_fa (S.ev rfl) fa25_0) rfl rfl trivial ?_
            clear S; intro aa S
            obtain ⟨x34, c_5, H⟩ := H
            refine OL.pure S (Lf.run_ld (S.ev rfl) fl22 (S.cl c_5)) rfl rfl trivial ?_
            clear S; intro aa S
            refine OL.pure S (Lf.run_fa (S.ev rfl) fa25_2) rfl rfl trivial ?_
            clear S; intro aa S
            obtain ⟨x36, c_6, H⟩ := H
            refine OL.pure S (Lf.run_ld (S.ev rfl) fl22 (S.cl c_6)) rfl rfl trivial ?_
            clear S; intro aa S
            refine OL.pure S (Lf.run_fa (S.ev rfl) fa25_3) rfl rfl trivial ?_
            clear S; intro aa S
            obtain ⟨x38, c_7, H⟩ := H
            refine OL.pure S (Lf.run_ld (S.ev rfl) fl22 (S.cl c_7)) rfl rfl trivial ?_
            clear S; intro aa S
            refine ol_newS S H Try.underlying44 ti22 (by decide) (parts_map S rfl) (by kernel_rfl) (by decide) rfl trivial ?_
            clear S H aa; intro s39 aa ww h2 H S
            refine OL.pure S (Lf.run_assign (S.ev rfl)) rfl rfl trivial ?_
            clear S; intro aa S
            refine OL.nil ?_
            refine W.seq ?_
            refine W.seq ?_
            replace S := S.sub [(3, Value.slice s39.a s39.n s39.c)] ⟨rfl, trivial⟩
            refine W.region ?_
            refine OL.pure S (Lf.run_assign (S.ev rfl)) rfl rfl trivial ?_
            clear S; intro aa S
            refine OL.nil ?_
            refine W.block ?_
            obtain ⟨I, m, H, HB_1⟩ := H
            refine W.loopS (σ := Int) (fun s aa ww => St 64 [(3, Value.slice s39.a s39.n s39.c), (4, Value.int .i64 s)] h2 w0 aa ww ∧ I s) (fun s => m s) (0) ⟨S.sub _ ⟨rfl, rfl, trivial⟩, H⟩ ?_
            clear H S aa
            rintro i4 aa ww ⟨S, HI⟩
            replace S : St 64 [(3, Value.slice s39.a s39.n s39.c), (4, Value.int .i64 i4)] h2 w0 aa ww := S
            have H := HB_1 i4 HI
            clear HI
            refine W.seq ?_
            refine W.seq ?_
            replace S := S.sub [(3, Value.slice s39.a s39.n s39.c), (4, Value.int .i64 i4)] ⟨rfl, rfl, trivial⟩
            refine W.region ?_
            refine OL.pure S (Lf.run_move (S.ev rfl)) rfl rfl trivial ?_
            clear S; intro aa S
            refine OL.pure S (Lf.run_move (S.ev rfl)) rfl rfl trivial ?_
            clear S; intro aa S
            refine OL.pure S (Lf.run_lens (S.ev rfl) rfl Try.underlying44) rfl rfl trivial ?_
            clear S; intro aa S
            refine OL.pure S (Lf.run_lss (S.ev rfl) (S.ev rfl)) rfl rfl trivial ?_
            clear S; intro aa S
            refine OL.nil ?_
            refine W.cond S (b := (decide (i4 < ((s39.n : Nat) : Int)))) rfl (fun hb_5 => ?_) (fun hb_5 => ?_)
            · replace H := H.1 hb_5
              refine W.skip ?_
              refine W.seq ?_
              refine W.block ?_
              refine W.seq ?_
              replace S := S.sub [(3, Value.slice s39.a s39.n s39.c), (4, Value.int .i64 i4)] ⟨rfl, rfl, trivial⟩
              refine W.region ?_
              refine OL.pure S (Lf.run_assign (S.ev rfl)) rfl rfl trivial ?_
              clear S; intro aa S
              refine OL.nil ?_
              refine W.block ?_
              obtain ⟨I_1, m_1, H, HB⟩ := H
              refine W.loopS (σ := Int) (fun s aa ww => St 64 [(3, Value.slice s39.a s39.n s39.c), (4, Value.int .i64 i4), (5, Value.int .i64 s)] h2 w0 aa ww ∧ I_1 s) (fun s => m_1 s) (0) ⟨S.sub _ ⟨rfl, rfl, rfl, trivial⟩, H⟩ ?_
              clear H S aa
              rintro k5 aa ww ⟨S, HI⟩
              replace S : St 64 [(3, Value.slice s39.a s39.n s39.c), (4, Value.int .i64 i4), (5, Value.int .i64 k5)] h2 w0 aa ww := S
              have H := HB k5 HI
              clear HI
              refine W.seq ?_
              refine W.seq ?_
              replace S := S.sub [(3, Value.slice s39.a s39.n s39.c), (4, Value.int .i64 i4), (5, Value.int .i64 k5)] ⟨rfl, rfl, rfl, trivial⟩
              refine W.region ?_
              refine OL.pure S (Lf.run_move (S.ev rfl)) rfl rfl trivial ?_
              clear S; intro aa S
              refine OL.pure S (Lf.run_move (S.ev rfl)) rfl rfl trivial ?_
              clear S; intro aa S
              refine OL.pure S (Lf.run_move (S.ev rfl)) rfl rfl trivial ?_
              clear S; intro aa S
              obtain ⟨q49, e, e_1, e_2, H⟩ := H
              refine OL.pure S (Lf.run_ixs (S.ev rfl) (S.ev rfl) Try.underlying44 ti22 e e_1 e_2) rfl rfl trivial ?_
              clear S; intro aa S
              obtain ⟨x50, c_8, H⟩ := H
              refine OL.pure S (Lf.run_ld (S.ev rfl) fl22 (S.cl c_8)) rfl rfl trivial ?_
              clear S; intro aa S
              refine OL.pure S (Lf.run_lens (S.ev rfl) rfl Try.underlying22) rfl rfl trivial ?_
              clear S; intro aa S
              refine OL.pure S (Lf.run_lss (S.ev rfl) (S.ev rfl)) rfl rfl trivial ?_
              clear S; intro aa S
              refine OL.nil ?_
              refine W.cond S (b := (decide (k5 < ((x50.n : Nat) : Int)))) rfl (fun hb_6 => ?_) (fun hb_6 => ?_)
              · replace H := H.1 hb_6
                refine W.skip ?_
                refine W.seq ?_
                refine W.block ?_
                refine W.seq ?_
                replace S := S.sub [(3, Value.slice s39.a s39.n s39.c), (4, Value.int .i64 i4), (5, Value.int .i64 k5)] ⟨rfl, rfl, rfl, trivial⟩
                refine W.region ?_
                refine OL.pure S (Lf.run_move (S.ev rfl)) rfl rfl trivial ?_
                clear S; intro aa S
                refine OL.pure S (Lf.run_move (S.ev rfl)) rfl rfl trivial ?_
                clear S; intro aa S
                obtain ⟨q57, e_3, e_4, e_5, H⟩ := H
                refine OL.pure S (Lf.run_ixs (S.ev rfl) (S.ev rfl) Try.underlying44 ti22 e_3 e_4 e_5) rfl rfl trivial ?_
                clear S; intro aa S
                obtain ⟨x58, c_9, H⟩ := H
                refine OL.pure S (Lf.run_ld (S.ev rfl) fl22 (S.cl c_9)) rfl rfl trivial ?_
                clear S; intro aa S
                refine OL.pure S (Lf.run_move (S.ev rfl)) rfl rfl trivial ?_
                clear S; intro aa S
                obtain ⟨q60, e_6, e_7, e_8, H⟩ := H
                refine OL.pure S (Lf.run_ixs (S.ev rfl) (S.ev rfl) Try.underlying22 ti23 e_6 e_7 e_8) rfl rfl trivial ?_
                clear S; intro aa S
                obtain ⟨x61, c_10, H⟩ := H
                refine OL.pure S (Lf.run_ld (S.ev rfl) fl23 (S.cl c_10)) rfl rfl trivial ?_
                clear S; intro aa S
                refine OL.pure S (Lf.run_lens (S.ev rfl) rfl Try.underlying23) rfl rfl trivial ?_
                clear S; intro aa S
                refine OL.pure S (Lf.run_gtr (S.ev rfl) (S.ev rfl)) rfl rfl trivial ?_
                clear S; intro aa S
                refine OL.nil ?_
                refine W.cond S (b := (decide (8 < ((x61.n : Nat) : Int)))) rfl (fun hb_7 => ?_) (fun hb_7 => ?_)
                · replace H := H.1 hb_7
                  refine W.seq ?_
                  replace S := S.sub [] trivial
                  refine W.region ?_
                  refine OL.pure S (Lf.run_assign (S.ev rfl)) rfl rfl trivial ?_
                  clear S; intro aa S
                  refine OL.nil ?_
                  refine W.ret ?_
                  exact Ret.one S rfl rfl H
                · replace H := H.2 hb_7
                  refine W.skip ?_
                  replace S := S.sub [(3, Value.slice s39.a s39.n s39.c), (4, Value.int .i64 i4), (5, Value.int .i64 k5)] ⟨rfl, rfl, rfl, trivial⟩
                  refine W.region ?_
                  refine OL.pure S (Lf.run_move (S.ev rfl)) rfl rfl trivial ?_
                  clear S; intro aa S
                  refine OL.pure S (Lf.run_add (S.ev rfl) (S.ev rfl)) rfl rfl trivial ?_
                  clear S; intro aa S
                  refine OL.pure S (Lf.run_assign (S.ev rfl)) rfl rfl trivial ?_
                  clear S; intro aa S
                  refine OL.nil ?_
                  exact ⟨((IntKind.i64.wrap (k5 + 1))), ⟨S.sub _ ⟨rfl, rfl, rfl, trivial⟩, H.1⟩, H.2⟩
              · replace H := H.2 hb_6
                refine W.exit_ ?_
                refine xhit ?_
                replace S := S.sub [(3, Value.slice s39.a s39.n s39.c), (4, Value.int .i64 i4)] ⟨rfl, rfl, trivial⟩
                refine W.region ?_
                refine OL.pure S (Lf.run_move (S.ev rfl)) rfl rfl trivial ?_
                clear S; intro aa S
                refine OL.pure S (Lf.run_add (S.ev rfl) (S.ev rfl)) rfl rfl trivial ?_
                clear S; intro aa S
                refine OL.pure S (Lf.run_assign (S.ev rfl)) rfl rfl trivial ?_
                clear S; intro aa S
                refine OL.nil ?_
                exact ⟨((IntKind.i64.wrap (i4 + 1))), ⟨S.sub _ ⟨rfl, rfl, trivial⟩, H.1⟩, H.2⟩
            · replace H := H.2 hb_5
              refine W.exit_ ?_
              refine xhit ?_
              refine W.seq ?_
              replace S := S.sub [] trivial
              refine W.region ?_
              refine OL.pure S (Lf.run_assign (S.ev rfl)) rfl rfl trivial ?_
              clear S; intro aa S
              refine OL.nil ?_
              refine W.ret ?_
              exact Ret.one S rfl rfl H

/-- chattel chattelref15.Check -/
def L11 (p0 : Sv) (p0_1 : Int) (p0_2 : Sv) (p0_3 : Sv) (p0_4 : Sv) (h : Heap) (R : Value → Heap → Prop) : Prop :=
  new 25 #[Value.slice p0.a p0.n p0.c, Value.int .i64 p0_1, Value.slice p0_2.a p0_2.n p0_2.c, Value.slice p0_3.a p0_3.n p0_3.c, Value.slice p0_4.a p0_4.n p0_4.c] h fun p1 h1 =>
  ldS h1 p1 fun x5 =>
  ∃ J : Bool → Prop, (orr (decide (1201 < ((x5.n : Nat) : Int))) (fun k =>
    ldI .i64 h1 (p1.add 1) fun x11 =>
    k (decide (x11 < 0))) J) ∧ ∀ x13, J x13 →
  ∃ J_1 : Bool → Prop, (orr x13 (fun k_1 =>
    ldI .i64 h1 (p1.add 1) fun x16 =>
    k_1 (decide (4000 < x16))) J_1) ∧ ∀ x18, J_1 x18 →
  ifb x18 (
    R (Value.int .i64 2) h1) (
    ldS h1 p1 fun x20 =>
    cal Try.prog 22 #[Value.slice x20.a x20.n x20.c, Value.int .i64 ((x5.n : Nat) : Int), Value.int .i64 ((x5.n : Nat) : Int)] h1 fun u h2 => asB u fun x23 =>
    ∃ J_2 : Bool → Heap → Prop, (orj (!x23) (fun k_2 =>
      ldS h2 (p1.add 2) fun x27 =>
      ldI .i64 h2 (p1.add 1) fun x30 =>
      cal Try.prog 22 #[Value.slice x27.a x27.n x27.c, Value.int .i64 ((x5.n : Nat) : Int), Value.int .i64 x30] h2 fun u_1 h4 => asB u_1 fun x31 =>
      k_2 (!x31) h4) h2 J_2) ∧ ∀ x33 h3, J_2 x33 h3 →
    ∃ J_3 : Bool → Heap → Prop, (orj x33 (fun k_3 =>
      ldS h3 (p1.add 3) fun x36 =>
      ldI .i64 h3 (p1.add 1) fun x39 =>
      cal Try.prog 22 #[Value.slice x36.a x36.n x36.c, Value.int .i64 ((x5.n : Nat) : Int), Value.int .i64 x39] h3 fun u_2 h6 => asB u_2 fun x40 =>
      k_3 (!x40) h6) h3 J_3) ∧ ∀ x42 h5, J_3 x42 h5 →
    ∃ J_4 : Bool → Heap → Prop, (orj x42 (fun k_4 =>
      ldS h5 (p1.add 4) fun x45 =>
      newS 23 #[Value.slice x45.a x45.n x45.c] 1 h5 fun s46 h8 =>
      ldI .i64 h8 (p1.add 1) fun x48 =>
      cal Try.prog 22 #[Value.slice s46.a s46.n s46.c, Value.int .i64 1, Value.int .i64 x48] h8 fun u_3 h9 => asB u_3 fun x49 =>
      k_4 (!x49) h9) h5 J_4) ∧ ∀ x51 h7, J_4 x51 h7 →
    ifb x51 (
      R (Value.int .i64 14) h7) (
      R (Value.int .i64 0) h7))

set_option maxRecDepth 100000 in

theorem F11 {p0 p0_1 p0_2 p0_3 p0_4 h : _} {R : Value → Heap → Prop} (H : L11 p0 p0_1 p0_2 p0_3 p0_4 h R) : CallsH Try.prog 11 #[Value.agg #[Value.slice p0.a p0.n p0.c, Value.int .i64 p0_1, Value.slice p0_2.a p0_2.n p0_2.c, Value.slice p0_3.a p0_3.n p0_3.c, Value.slice p0_4.a p0_4.n p0_4.c]] h R := by
  refine CallsH.enter (n := 52) Try.func11 rfl rfl rfl rfl ?_
  intro w0 aa ww S
  unfold L11 at H
  refine W.seq ?_
  replace S := S.sub [(0, Value.agg #[Value.slice p0.a p0.n p0.c, Value.int .i64 p0_1, Value.slice p0_2.a p0_2.n p0_2.c, Value.slice p0_3.a p0_3.n p0_3.c, Value.slice p0_4.a p0_4.n p0_4.c])] ⟨rfl, trivial⟩
  refine W.region ?_
  refine ol_box S H rfl rfl rfl trivial ?_
  clear S H aa; intro p1 aa ww h1 H S
  refine OL.pure S (Lf.run_assign (S.ev rfl)) rfl rfl trivial ?_
  clear S; intro aa S
  refine OL.nil ?_
  refine W.seq ?_
  replace S := S.sub [(1, Value.pointer (some p1))] ⟨rfl, trivial⟩
  refine W.region ?_
  refine OL.pure S (Lf.run_fa (S.ev rfl) fa25_0) rfl rfl trivial ?_
  clear S; intro aa S
  obtain ⟨x5, c, H⟩ := H
  refine OL.pure S (Lf.run_ld (S.ev rfl) fl22 (S.cl c)) rfl rfl trivial ?_
  clear S; intro aa S
  refine OL.pure S (Lf.run_lens (S.ev rfl) rfl Try.underlying22) rfl rfl trivial ?_
  clear S; intro aa S
  refine OL.pure S (Lf.run_assign (S.ev rfl)) rfl rfl trivial ?_
  clear S; intro aa S
  refine OL.nil ?_
  refine W.seq ?_
  refine W.seq ?_
  replace S := S.sub [(1, Value.pointer (some p1)), (3, Value.int .i64 ((x5.n : Nat) : Int))] ⟨rfl, rfl, trivial⟩
  refine W.region ?_
  refine OL.pure S (Lf.run_move (S.ev rfl)) rfl rfl trivial ?_
  clear S; intro aa S
  refine OL.pure S (Lf.run_gtr (S.ev rfl) (S.ev rfl)) rfl rfl trivial ?_
  clear S; intro aa S
  refine OL.pure S (Lf.run_move (S.ev rfl)) rfl rfl trivial ?_
  clear S; intro aa S
  obtain ⟨J, H, HK⟩ := H
  refine OL.cutN 4 (fun aa ww => ∃ x13, St 52 ((13, Value.bool x13) :: [(1, Value.pointer (some p1)), (3, Value.int .i64 ((x5.n : Nat) : Int)), (7, Value.int .i64 ((x5.n : Nat) : Int)), (8, Value.bool (decide (1201 < ((x5.n : Nat) : Int)))), (9, Value.bool (decide (1201 < ((x5.n : Nat) : Int))))]) h1 w0 aa ww ∧ J x13) ?_ ?_
  · rcases Bool.eq_false_or_eq_true (decide (1201 < ((x5.n : Nat) : Int))) with hb | hb
    · replace H := H.1 hb
      refine OL.not S rfl rfl (GNo.mk rfl rfl hb) ?_
      clear S; intro aa S
      refine OL.not S rfl rfl (GNo.mk rfl rfl hb) ?_
      clear S; intro aa S
      refine OL.not S rfl rfl (GNo.mk rfl rfl hb) ?_
      clear S; intro aa S
      refine OL.pure S (Lf.run_pickT (S.ev rfl) hb (S.ev rfl)) rfl rfl trivial ?_
      clear S; intro aa S
      refine OL.nil ?_
      exact ⟨_, S.sub _ ⟨rfl, rfl, rfl, rfl, rfl, rfl, trivial⟩, H⟩
    · replace H := H.2 hb
      refine OL.pure S (Lf.run_fa (S.ev rfl) fa25_1) rfl rfl (GOk.mk rfl rfl hb) ?_
      clear S; intro aa S
      obtain ⟨x11, c_1, H⟩ := H
      refine OL.pure S (Lf.run_ld (S.ev rfl) fl3 (S.cl c_1)) rfl rfl (GOk.mk rfl rfl hb) ?_
      clear S; intro aa S
      refine OL.pure S (Lf.run_lss (S.ev rfl) (S.ev rfl)) rfl rfl (GOk.mk rfl rfl hb) ?_
      clear S; intro aa S
      refine OL.pure S (Lf.run_pickF (S.ev rfl) hb (S.ev rfl)) rfl rfl trivial ?_
      clear S; intro aa S
      refine OL.nil ?_
      exact ⟨_, S.sub _ ⟨rfl, rfl, rfl, rfl, rfl, rfl, trivial⟩, H⟩
  · clear S aa
    rintro aa ww ⟨x13, S, HJ⟩
    replace H := HK _ HJ
    clear HK HJ
    refine OL.pure S (Lf.run_move (S.ev rfl)) rfl rfl trivial ?_
    clear S; intro aa S
    obtain ⟨J_1, H, HK_1⟩ := H
    refine OL.cutN 4 (fun aa ww => ∃ x18, St 52 ((18, Value.bool x18) :: [(1, Value.pointer (some p1)), (3, Value.int .i64 ((x5.n : Nat) : Int)), (7, Value.int .i64 ((x5.n : Nat) : Int)), (8, Value.bool (decide (1201 < ((x5.n : Nat) : Int)))), (9, Value.bool (decide (1201 < ((x5.n : Nat) : Int)))), (13, Value.bool x13), (14, Value.bool x13)]) h1 w0 aa ww ∧ J_1 x18) ?_ ?_
    · rcases Bool.eq_false_or_eq_true x13 with hb_1 | hb_1
      · replace H := H.1 hb_1
        refine OL.not S rfl rfl (GNo.mk rfl rfl hb_1) ?_
        clear S; intro aa S
        refine OL.not S rfl rfl (GNo.mk rfl rfl hb_1) ?_
        clear S; intro aa S
        refine OL.not S rfl rfl (GNo.mk rfl rfl hb_1) ?_
        clear S; intro aa S
        refine OL.pure S (Lf.run_pickT (S.ev rfl) hb_1 (S.ev rfl)) rfl rfl trivial ?_
        clear S; intro aa S
        refine OL.nil ?_
        exact ⟨_, S.sub _ ⟨rfl, rfl, rfl, rfl, rfl, rfl, rfl, rfl, trivial⟩, H⟩
      · replace H := H.2 hb_1
        refine OL.pure S (Lf.run_fa (S.ev rfl) fa25_1) rfl rfl (GOk.mk rfl rfl hb_1) ?_
        clear S; intro aa S
        obtain ⟨x16, c_2, H⟩ := H
        refine OL.pure S (Lf.run_ld (S.ev rfl) fl3 (S.cl c_2)) rfl rfl (GOk.mk rfl rfl hb_1) ?_
        clear S; intro aa S
        refine OL.pure S (Lf.run_gtr (S.ev rfl) (S.ev rfl)) rfl rfl (GOk.mk rfl rfl hb_1) ?_
        clear S; intro aa S
        refine OL.pure S (Lf.run_pickF (S.ev rfl) hb_1 (S.ev rfl)) rfl rfl trivial ?_
        clear S; intro aa S
        refine OL.nil ?_
        exact ⟨_, S.sub _ ⟨rfl, rfl, rfl, rfl, rfl, rfl, rfl, rfl, trivial⟩, H⟩
    · clear S aa
      rintro aa ww ⟨x18, S, HJ⟩
      replace H := HK_1 _ HJ
      clear HK_1 HJ
      refine OL.nil ?_
      refine W.cond S (b := x18) rfl (fun hb_2 => ?_) (fun hb_2 => ?_)
      · replace H := H.1 hb_2
        refine W.seq ?_
        replace S := S.sub [] trivial
        refine W.region ?_
        refine OL.pure S (Lf.run_assign (S.ev rfl)) rfl rfl trivial ?_
        clear S; intro aa S
        refine OL.nil ?_
        refine W.ret ?_
        exact Ret.one S rfl rfl H
      · replace H := H.2 hb_2
        refine W.skip ?_
        refine W.seq ?_
        refine W.seq ?_
        replace S := S.sub [(1, Value.pointer (some p1)), (3, Value.int .i64 ((x5.n : Nat) : Int))] ⟨rfl, rfl, trivial⟩
        refine W.region ?_
        refine OL.pure S (Lf.run_fa (S.ev rfl) fa25_0) rfl rfl trivial ?_
        clear S; intro aa S
        obtain ⟨x20, c_3, H⟩ := H
        refine OL.pure S (Lf.run_ld (S.ev rfl) fl22 (S.cl c_3)) rfl rfl trivial ?_
        clear S; intro aa S
        refine OL.pure S (Lf.run_move (S.ev rfl)) rfl rfl trivial ?_
        clear S; intro aa S
        refine OL.pure S (Lf.run_move (S.ev rfl)) rfl rfl trivial ?_
        clear S; intro aa S
        refine ol_cal S H isfn22 rfl rfl trivial ?_
        clear S H aa; intro u aa ww h2 H S
        obtain ⟨x23, rfl, H⟩ := H
        refine OL.pure S (Lf.run_not (S.ev rfl)) rfl rfl trivial ?_
        clear S; intro aa S
        refine OL.pure S (Lf.run_move (S.ev rfl)) rfl rfl trivial ?_
        clear S; intro aa S
        obtain ⟨J_2, H, HK_2⟩ := H
        refine OL.cutN 8 (fun aa ww => ∃ x33 h3, St 52 ((33, Value.bool x33) :: [(1, Value.pointer (some p1)), (3, Value.int .i64 ((x5.n : Nat) : Int)), (19, Value.pointer (some p1)), (20, Value.slice x20.a x20.n x20.c), (21, Value.int .i64 ((x5.n : Nat) : Int)), (22, Value.int .i64 ((x5.n : Nat) : Int)), (23, Value.bool x23), (24, Value.bool (!x23)), (25, Value.bool (!x23))]) h3 w0 aa ww ∧ J_2 x33 h3) ?_ ?_
        · rcases Bool.eq_false_or_eq_true (!x23) with hb_3 | hb_3
          · replace H := H.1 hb_3
            refine OL.not S rfl rfl (GNo.mk rfl rfl hb_3) ?_
            clear S; intro aa S
            refine OL.not S rfl rfl (GNo.mk rfl rfl hb_3) ?_
            clear S; intro aa S
            refine OL.not S rfl rfl (GNo.mk rfl rfl hb_3) ?_
            clear S; intro aa S
            refine OL.not S rfl rfl (GNo.mk rfl rfl hb_3) ?_
            clear S; intro aa S
            refine OL.not S rfl rfl (GNo.mk rfl rfl hb_3) ?_
            clear S; intro aa S
            refine OL.not S rfl rfl (GNo.mk rfl rfl hb_3) ?_
            clear S; intro aa S
            refine OL.not S rfl rfl (GNo.mk rfl rfl hb_3) ?_
            clear S; intro aa S
            refine OL.pure S (Lf.run_pickT (S.ev rfl) hb_3 (S.ev rfl)) rfl rfl trivial ?_
            clear S; intro aa S
            refine OL.nil ?_
            exact ⟨_, _, S.sub _ ⟨rfl, rfl, rfl, rfl, rfl, rfl, rfl, rfl, rfl, rfl, trivial⟩, H⟩
          · replace H := H.2 hb_3
            refine OL.pure S (Lf.run_fa (S.ev rfl) fa25_2) rfl rfl (GOk.mk rfl rfl hb_3) ?_
            clear S; intro aa S
            obtain ⟨x27, c_4, H⟩ := H
            refine OL.pure S (Lf.run_ld (S.ev rfl) fl22 (S.cl c_4)) rfl rfl (GOk.mk rfl rfl hb_3) ?_
            clear S; intro aa S
            refine OL.pure S (Lf.run_move (S.ev rfl)) rfl rfl (GOk.mk rfl rfl hb_3) ?_
            clear S; intro aa S
            refine OL.pure S (Lf.run_fa (S.ev rfl) fa25_1) rfl rfl (GOk.mk rfl rfl hb_3) ?_
            clear S; intro aa S
            obtain ⟨x30, c_5, H⟩ := H
            refine OL.pure S (Lf.run_ld (S.ev rfl) fl3 (S.cl c_5)) rfl rfl (GOk.mk rfl rfl hb_3) ?_
            clear S; intro aa S
            refine ol_cal S H isfn22 rfl rfl (GOk.mk rfl rfl hb_3) ?_
            clear S H aa; intro u_1 aa ww h4 H S
            obtain ⟨x31, rfl, H⟩ := H
            refine OL.pure S (Lf.run_not (S.ev rfl)) rfl rfl (GOk.mk rfl rfl hb_3) ?_
            clear S; intro aa S
            refine OL.pure S (Lf.run_pickF (S.ev rfl) hb_3 (S.ev rfl)) rfl rfl trivial ?_
            clear S; intro aa S
            refine OL.nil ?_
            exact ⟨_, _, S.sub _ ⟨rfl, rfl, rfl, rfl, rfl, rfl, rfl, rfl, rfl, rfl, trivial⟩, H⟩
        · clear S aa
          rintro aa ww ⟨x33, h3, S, HJ⟩
          replace H := HK_2 _ _ HJ
          clear HK_2 HJ
          refine OL.pure S (Lf.run_move (S.ev rfl)) rfl rfl trivial ?_
          clear S; intro aa S
          obtain ⟨J_3, H, HK_3⟩ := H
          refine OL.cutN 8 (fun aa ww => ∃ x42 h5, St 52 ((42, Value.bool x42) :: [(1, Value.pointer (some p1)), (3, Value.int .i64 ((x5.n : Nat) : Int)), (19, Value.pointer (some p1)), (20, Value.slice x20.a x20.n x20.c), (21, Value.int .i64 ((x5.n : Nat) : Int)), (22, Value.int .i64 ((x5.n : Nat) : Int)), (23, Value.bool x23), (24, Value.bool (!x23)), (25, Value.bool (!x23)), (33, Value.bool x33), (34, Value.bool x33)]) h5 w0 aa ww ∧ J_3 x42 h5) ?_ ?_
          · rcases Bool.eq_false_or_eq_true x33 with hb_4 | hb_4
            · replace H := H.1 hb_4
              refine OL.not S rfl rfl (GNo.mk rfl rfl hb_4) ?_
              clear S; intro aa S
              refine OL.not S rfl rfl (GNo.mk rfl rfl hb_4) ?_
              clear S; intro aa S
              refine OL.not S rfl rfl (GNo.mk rfl rfl hb_4) ?_
              clear S; intro aa S
              refine OL.not S rfl rfl (GNo.mk rfl rfl hb_4) ?_
              clear S; intro aa S
              refine OL.not S rfl rfl (GNo.mk rfl rfl hb_4) ?_
              clear S; intro aa S
              refine OL.not S rfl rfl (GNo.mk rfl rfl hb_4) ?_
              clear S; intro aa S
              refine OL.not S rfl rfl (GNo.mk rfl rfl hb_4) ?_
              clear S; intro aa S
              refine OL.pure S (Lf.run_pickT (S.ev rfl) hb_4 (S.ev rfl)) rfl rfl trivial ?_
              clear S; intro aa S
              refine OL.nil ?_
              exact ⟨_, _, S.sub _ ⟨rfl, rfl, rfl, rfl, rfl, rfl, rfl, rfl, rfl, rfl, rfl, rfl, trivial⟩, H⟩
            · replace H := H.2 hb_4
              refine OL.pure S (Lf.run_fa (S.ev rfl) fa25_3) rfl rfl (GOk.mk rfl rfl hb_4) ?_
              clear S; intro aa S
              obtain ⟨x36, c_6, H⟩ := H
              refine OL.pure S (Lf.run_ld (S.ev rfl) fl22 (S.cl c_6)) rfl rfl (GOk.mk rfl rfl hb_4) ?_
              clear S; intro aa S
              refine OL.pure S (Lf.run_move (S.ev rfl)) rfl rfl (GOk.mk rfl rfl hb_4) ?_
              clear S; intro aa S
              refine OL.pure S (Lf.run_fa (S.ev rfl) fa25_1) rfl rfl (GOk.mk rfl rfl hb_4) ?_
              clear S; intro aa S
              obtain ⟨x39, c_7, H⟩ := H
              refine OL.pure S (Lf.run_ld (S.ev rfl) fl3 (S.cl c_7)) rfl rfl (GOk.mk rfl rfl hb_4) ?_
              clear S; intro aa S
              refine ol_cal S H isfn22 rfl rfl (GOk.mk rfl rfl hb_4) ?_
              clear S H aa; intro u_2 aa ww h6 H S
              obtain ⟨x40, rfl, H⟩ := H
              refine OL.pure S (Lf.run_not (S.ev rfl)) rfl rfl (GOk.mk rfl rfl hb_4) ?_
              clear S; intro aa S
              refine OL.pure S (Lf.run_pickF (S.ev rfl) hb_4 (S.ev rfl)) rfl rfl trivial ?_
              clear S; intro aa S
              refine OL.nil ?_
              exact ⟨_, _, S.sub _ ⟨rfl, rfl, rfl, rfl, rfl, rfl, rfl, rfl, rfl, rfl, rfl, rfl, trivial⟩, H⟩
          · clear S aa
            rintro aa ww ⟨x42, h5, S, HJ⟩
            replace H := HK_3 _ _ HJ
            clear HK_3 HJ
            refine OL.pure S (Lf.run_move (S.ev rfl)) rfl rfl trivial ?_
            clear S; intro aa S
            obtain ⟨J_4, H, HK_4⟩ := H
            refine OL.cutN 8 (fun aa ww => ∃ x51 h7, St 52 ((51, Value.bool x51) :: [(1, Value.pointer (some p1)), (3, Value.int .i64 ((x5.n : Nat) : Int)), (19, Value.pointer (some p1)), (20, Value.slice x20.a x20.n x20.c), (21, Value.int .i64 ((x5.n : Nat) : Int)), (22, Value.int .i64 ((x5.n : Nat) : Int)), (23, Value.bool x23), (24, Value.bool (!x23)), (25, Value.bool (!x23)), (33, Value.bool x33), (34, Value.bool x33), (42, Value.bool x42), (43, Value.bool x42)]) h7 w0 aa ww ∧ J_4 x51 h7) ?_ ?_
            · rcases Bool.eq_false_or_eq_true x42 with hb_5 | hb_5
              · replace H := H.1 hb_5
                refine OL.not S rfl rfl (GNo.mk rfl rfl hb_5) ?_
                clear S; intro aa S
                refine OL.not S rfl rfl (GNo.mk rfl rfl hb_5) ?_
                clear S; intro aa S
                refine OL.not S rfl rfl (GNo.mk rfl rfl hb_5) ?_
                clear S; intro aa S
                refine OL.not S rfl rfl (GNo.mk rfl rfl hb_5) ?_
                clear S; intro aa S
                refine OL.not S rfl rfl (GNo.mk rfl rfl hb_5) ?_
                clear S; intro aa S
                refine OL.not S rfl rfl (GNo.mk rfl rfl hb_5) ?_
                clear S; intro aa S
                refine OL.not S rfl rfl (GNo.mk rfl rfl hb_5) ?_
                clear S; intro aa S
                refine OL.pure S (Lf.run_pickT (S.ev rfl) hb_5 (S.ev rfl)) rfl rfl trivial ?_
                clear S; intro aa S
                refine OL.nil ?_
                exact ⟨_, _, S.sub _ ⟨rfl, rfl, rfl, rfl, rfl, rfl, rfl, rfl, rfl, rfl, rfl, rfl, rfl, rfl, trivial⟩, H⟩
              · replace H := H.2 hb_5
                refine OL.pure S (Lf.run_fa (S.ev rfl) fa25_4) rfl rfl (GOk.mk rfl rfl hb_5) ?_
                clear S; intro aa S
                obtain ⟨x45, c_8, H⟩ := H
                refine OL.pure S (Lf.run_ld (S.ev rfl) fl23 (S.cl c_8)) rfl rfl (GOk.mk rfl rfl hb_5) ?_
                clear S; intro aa S
                refine ol_newS S H Try.underlying22 ti23 (by decide) (parts_map S rfl) (by kernel_rfl) (by decide) rfl (GOk.mk rfl rfl hb_5) ?_
                clear S H aa; intro s46 aa ww h8 H S
                refine OL.pure S (Lf.run_fa (S.ev rfl) fa25_1) rfl rfl (GOk.mk rfl rfl hb_5) ?_
                clear S; intro aa S
                obtain ⟨x48, c_9, H⟩ := H
                refine OL.pure S (Lf.run_ld (S.ev rfl) fl3 (S.cl c_9)) rfl rfl (GOk.mk rfl rfl hb_5) ?_
                clear S; intro aa S
                refine ol_cal S H isfn22 rfl rfl (GOk.mk rfl rfl hb_5) ?_
                clear S H aa; intro u_3 aa ww h9 H S
                obtain ⟨x49, rfl, H⟩ := H
                refine OL.pure S (Lf.run_not (S.ev rfl)) rfl rfl (GOk.mk rfl rfl hb_5) ?_
                clear S; intro aa S
                refine OL.pure S (Lf.run_pickF (S.ev rfl) hb_5 (S.ev rfl)) rfl rfl trivial ?_
                clear S; intro aa S
                refine OL.nil ?_
                exact ⟨_, _, S.sub _ ⟨rfl, rfl, rfl, rfl, rfl, rfl, rfl, rfl, rfl, rfl, rfl, rfl, rfl, rfl, trivial⟩, H⟩
            · clear S aa
              rintro aa ww ⟨x51, h7, S, HJ⟩
              replace H := HK_4 _ _ HJ
              clear HK_4 HJ
              refine OL.nil ?_
              refine W.cond S (b := x51) rfl (fun hb_6 => ?_) (fun hb_6 => ?_)
              · replace H := H.1 hb_6
                refine W.seq ?_
                replace S := S.sub [] trivial
                refine W.region ?_
                refine OL.pure S (Lf.run_assign (S.ev rfl)) rfl rfl trivial ?_
                clear S; intro aa S
                refine OL.nil ?_
                refine W.ret ?_
                exact Ret.one S rfl rfl H
              · replace H := H.2 hb_6
                refine W.skip ?_
                refine W.seq ?_
                replace S := S.sub [] trivial
                refine W.region ?_
                refine OL.pure S (Lf.run_assign (S.ev rfl)) rfl rfl trivial ?_
                clear S; intro aa S
                refine OL.nil ?_
                refine W.ret ?_
                exact Ret.one S rfl rfl H

/-- chattel flow.Forward -/
def L12 (p0 : Sv) (p0_1 : Int) (p0_2 : Sv) (p0_3 : Sv) (p0_4 : Sv) (h : Heap) (R : Value → Heap → Prop) : Prop :=
  new 25 #[Value.slice p0.a p0.n p0.c, Value.int .i64 p0_1, Value.slice p0_2.a p0_2.n p0_2.c, Value.slice p0_3.a p0_3.n p0_3.c, Value.slice p0_4.a p0_4.n p0_4.c] h fun p1 h1 =>
  ∃ (y12 : Sv) (y12_1 : Int) (y12_2 : Sv) (y12_3 : Sv) (y12_4 : Sv), cl h1 p1 = some (Value.slice y12.a y12.n y12.c) ∧ cl h1 (p1.add 1) = some (Value.int .i64 y12_1) ∧ cl h1 (p1.add 2) = some (Value.slice y12_2.a y12_2.n y12_2.c) ∧ cl h1 (p1.add 3) = some (Value.slice y12_3.a y12_3.n y12_3.c) ∧ cl h1 (p1.add 4) = some (Value.slice y12_4.a y12_4.n y12_4.c) ∧
  cal Try.prog 15 #[Value.agg #[Value.slice y12.a y12.n y12.c, Value.int .i64 y12_1, Value.slice y12_2.a y12_2.n y12_2.c, Value.slice y12_3.a y12_3.n y12_3.c, Value.slice y12_4.a y12_4.n y12_4.c]] h1 fun u h2 => asI .i64 u fun x13 =>
  ifb (x13 != 0) (
    R (.tuple #[Value.pointer none, Value.int .i64 x13]) h2) (
    ∃ (y17 : Sv) (y17_1 : Int) (y17_2 : Sv) (y17_3 : Sv) (y17_4 : Sv), cl h2 p1 = some (Value.slice y17.a y17.n y17.c) ∧ cl h2 (p1.add 1) = some (Value.int .i64 y17_1) ∧ cl h2 (p1.add 2) = some (Value.slice y17_2.a y17_2.n y17_2.c) ∧ cl h2 (p1.add 3) = some (Value.slice y17_3.a y17_3.n y17_3.c) ∧ cl h2 (p1.add 4) = some (Value.slice y17_4.a y17_4.n y17_4.c) ∧
    cal Try.prog 23 #[Value.agg #[Value.slice y17.a y17.n y17.c, Value.int .i64 y17_1, Value.slice y17_2.a y17_2.n y17_2.c, Value.slice y17_3.a y17_3.n y17_3.c, Value.slice y17_4.a y17_4.n y17_4.c]] h2 fun u_1 h3 => asP u_1 fun x18 =>
    ∃ J : Heap → Prop, (
      nn x18 fun p20 =>
      ldS h3 (p20.add 1) fun x22 =>
      ifb (decide (0 < ((x22.n : Nat) : Int))) (
        nn x18 fun p26 =>
        ldS h3 (p26.add 1) fun x28 =>
        ixS x28 0 fun q29 =>
        ldS h3 q29 fun x30 =>
        ldS h3 (p1.add 4) fun x32 =>
        cal Try.prog 24 #[Value.slice x30.a x30.n x30.c, Value.slice x32.a x32.n x32.c] h3 fun u_2 h4 =>
        J h4) (
        J h3)) ∧ (∀ h5, J h5 →
    ∃ (I : Bool → Heap → Prop) (m : Bool → Heap → Nat), I true h5 ∧ ∀ again6 h6, I again6 h6 →
    ifb again6 (
      ldS h6 p1 fun x36 =>
      ∃ (I_1 : Bool → Int → Heap → Prop) (m_1 : Bool → Int → Heap → Nat), I_1 false 0 h6 ∧ ∀ again6_1 x38 h7, I_1 again6_1 x38 h7 →
      ifb (decide (x38 < ((x36.n : Nat) : Int))) (
        ixS x36 x38 fun q41 =>
        ldS h7 (q41.add ((x38 : Int).toNat * 1)) fun x42 =>
        ∃ (y43 : Sv) (y43_1 : Int) (y43_2 : Sv) (y43_3 : Sv) (y43_4 : Sv), cl h7 p1 = some (Value.slice y43.a y43.n y43.c) ∧ cl h7 (p1.add 1) = some (Value.int .i64 y43_1) ∧ cl h7 (p1.add 2) = some (Value.slice y43_2.a y43_2.n y43_2.c) ∧ cl h7 (p1.add 3) = some (Value.slice y43_3.a y43_3.n y43_3.c) ∧ cl h7 (p1.add 4) = some (Value.slice y43_4.a y43_4.n y43_4.c) ∧
        nn x18 fun p46 =>
        ldS h7 (p46.add 1) fun x48 =>
        ixS x48 x38 fun q50 =>
        ldS h7 (q50.add ((x38 : Int).toNat * 1)) fun x51 =>
        cal Try.prog 25 #[Value.agg #[Value.slice y43.a y43.n y43.c, Value.int .i64 y43_1, Value.slice y43_2.a y43_2.n y43_2.c, Value.slice y43_3.a y43_3.n y43_3.c, Value.slice y43_4.a y43_4.n y43_4.c], Value.int .i64 x38, Value.slice x51.a x51.n x51.c] h7 fun u_3 h8 => asS u_3 fun x52 =>
        ∃ (I_2 : Bool → Int → Heap → Prop) (m_2 : Bool → Int → Heap → Nat), I_2 again6_1 0 h8 ∧ ∀ again6_2 x55 h9, I_2 again6_2 x55 h9 →
        ifb (decide (x55 < ((x42.n : Nat) : Int))) (
          ixS x42 x55 fun q57 =>
          ldI .i64 h9 (q57.add ((x55 : Int).toNat * 1)) fun x58 =>
          nn x18 fun p60 =>
          ldS h9 (p60.add 1) fun x62 =>
          ixS x62 x58 fun q64 =>
          ldS h9 (q64.add ((x58 : Int).toNat * 1)) fun x65 =>
          cal Try.prog 26 #[Value.slice x65.a x65.n x65.c, Value.slice x52.a x52.n x52.c] h9 fun u_4 h10 => asB u_4 fun x67 =>
          I_2 (x67 || again6_2) (IntKind.i64.wrap (x55 + 1)) h10 ∧ m_2 (x67 || again6_2) (IntKind.i64.wrap (x55 + 1)) h10 < m_2 again6_2 x55 h9) (
          I_1 again6_2 (IntKind.i64.wrap (x38 + 1)) h9 ∧ m_1 again6_2 (IntKind.i64.wrap (x38 + 1)) h9 < m_1 again6_1 x38 h7)) (
        I again6_1 h7 ∧ m again6_1 h7 < m again6 h6)) (
      R (.tuple #[Value.pointer x18, Value.int .i64 0]) h6)))

set_option maxRecDepth 100000 in

theorem F12 {p0 p0_1 p0_2 p0_3 p0_4 h : _} {R : Value → Heap → Prop} (H : L12 p0 p0_1 p0_2 p0_3 p0_4 h R) : CallsH Try.prog 12 #[Value.agg #[Value.slice p0.a p0.n p0.c, Value.int .i64 p0_1, Value.slice p0_2.a p0_2.n p0_2.c, Value.slice p0_3.a p0_3.n p0_3.c, Value.slice p0_4.a p0_4.n p0_4.c]] h R := by
  refine CallsH.enter (n := 74) Try.func12 rfl rfl rfl rfl ?_
  intro w0 aa ww S
  unfold L12 at H
  refine W.seq ?_
  replace S := S.sub [(0, Value.agg #[Value.slice p0.a p0.n p0.c, Value.int .i64 p0_1, Value.slice p0_2.a p0_2.n p0_2.c, Value.slice p0_3.a p0_3.n p0_3.c, Value.slice p0_4.a p0_4.n p0_4.c])] ⟨rfl, trivial⟩
  refine W.region ?_
  refine ol_box S H rfl rfl rfl trivial ?_
  clear S H aa; intro p1 aa ww h1 H S
  refine OL.pure S (Lf.run_assign (S.ev rfl)) rfl rfl trivial ?_
  clear S; intro aa S
  refine OL.pure S (Lf.run_assign (S.ev rfl)) rfl rfl trivial ?_
  clear S; intro aa S
  refine OL.nil ?_
  refine W.seq ?_
  refine W.seq ?_
  replace S := S.sub [(1, Value.pointer (some p1))] ⟨rfl, trivial⟩
  refine W.region ?_
  obtain ⟨y12, y12_1, y12_2, y12_3, y12_4, c_24, c_25, c_26, c_27, c_28, H⟩ := H
  refine OL.pure S (Lf.run_ldA (cs := [Value.slice y12.a y12.n y12.c, Value.int .i64 y12_1, Value.slice y12_2.a y12_2.n y12_2.c, Value.slice y12_3.a y12_3.n y12_3.c, Value.slice y12_4.a y12_4.n y12_4.c]) (S.ev rfl) ag25 ti25 (by rw [S.heap]; exact RowL.toRow ⟨c_24, c_25, c_26, c_27, c_28, trivial⟩)) rfl rfl trivial ?_
  clear S; intro aa S
  refine ol_cal S H isfn15 rfl rfl trivial ?_
  clear S H aa; intro u aa ww h2 H S
  obtain ⟨x13, rfl, H⟩ := H
  refine OL.pure S (Lf.run_assign (S.ev rfl)) rfl rfl trivial ?_
  clear S; intro aa S
  refine OL.nil ?_
  refine W.seq ?_
  replace S := S.sub [(1, Value.pointer (some p1)), (4, Value.int .i64 x13)] ⟨rfl, rfl, trivial⟩
  refine W.region ?_
  refine OL.pure S (Lf.run_move (S.ev rfl)) rfl rfl trivial ?_
  clear S; intro aa S
  refine OL.pure S (Lf.run_neq (S.ev rfl) (S.ev rfl)) rfl rfl trivial ?_
  clear S; intro aa S
  refine OL.nil ?_
  refine W.cond S (b := (x13 != 0)) rfl (fun hb => ?_) (fun hb => ?_)
  · replace H := H.1 hb
    refine W.seq ?_
    replace S := S.sub [(4, Value.int .i64 x13)] ⟨rfl, trivial⟩
    refine W.region ?_
    refine OL.pure S (Lf.run_move (S.ev rfl)) rfl rfl trivial ?_
    clear S; intro aa S
    refine OL.pure S (Lf.run_assign (S.ev rfl)) rfl rfl trivial ?_
    clear S; intro aa S
    refine OL.pure S (Lf.run_assign (S.ev rfl)) rfl rfl trivial ?_
    clear S; intro aa S
    refine OL.nil ?_
    refine W.ret ?_
    exact Ret.two S rfl rfl rfl H
  · replace H := H.2 hb
    refine W.skip ?_
    refine W.seq ?_
    replace S := S.sub [(1, Value.pointer (some p1))] ⟨rfl, trivial⟩
    refine W.region ?_
    obtain ⟨y17, y17_1, y17_2, y17_3, y17_4, c_19, c_20, c_21, c_22, c_23, H⟩ := H
    refine OL.pure S (Lf.run_ldA (cs := [Value.slice y17.a y17.n y17.c, Value.int .i64 y17_1, Value.slice y17_2.a y17_2.n y17_2.c, Value.slice y17_3.a y17_3.n y17_3.c, Value.slice y17_4.a y17_4.n y17_4.c]) (S.ev rfl) ag25 ti25 (by rw [S.heap]; exact RowL.toRow ⟨c_19, c_20, c_21, c_22, c_23, trivial⟩)) rfl rfl trivial ?_
    clear S; intro aa S
    refine ol_cal S H isfn23 rfl rfl trivial ?_
    clear S H aa; intro u_1 aa ww h3 H S
    obtain ⟨x18, rfl, H⟩ := H
    refine OL.pure S (Lf.run_assign (S.ev rfl)) rfl rfl trivial ?_
    clear S; intro aa S
    refine OL.nil ?_
    obtain ⟨J, H, HK⟩ := H
    refine W.seqJ (fun aa ww => ∃ h5, St 74 [(1, Value.pointer (some p1)), (5, Value.pointer x18)] h5 w0 aa ww ∧ J h5) ?_ ?_
    · clear HK
      refine W.seq ?_
      replace S := S.sub [(1, Value.pointer (some p1)), (5, Value.pointer x18)] ⟨rfl, rfl, trivial⟩
      refine W.region ?_
      refine OL.pure S (Lf.run_move (S.ev rfl)) rfl rfl trivial ?_
      clear S; intro aa S
      obtain ⟨p20, e, H⟩ := H
      refine OL.pure S (Lf.run_nc' (S.ev rfl) e) rfl rfl trivial ?_
      clear S; intro aa S
      refine OL.pure S (Lf.run_fa (S.ev rfl) fa49_1) rfl rfl trivial ?_
      clear S; intro aa S
      obtain ⟨x22, c_2, H⟩ := H
      refine OL.pure S (Lf.run_ld (S.ev rfl) fl47 (S.cl c_2)) rfl rfl trivial ?_
      clear S; intro aa S
      refine OL.pure S (Lf.run_lens (S.ev rfl) rfl Try.underlying47) rfl rfl trivial ?_
      clear S; intro aa S
      refine OL.pure S (Lf.run_gtr (S.ev rfl) (S.ev rfl)) rfl rfl trivial ?_
      clear S; intro aa S
      refine OL.nil ?_
      refine W.cond S (b := (decide (0 < ((x22.n : Nat) : Int)))) rfl (fun hb_1 => ?_) (fun hb_1 => ?_)
      · replace H := H.1 hb_1
        replace S := S.sub [(1, Value.pointer (some p1)), (5, Value.pointer x18)] ⟨rfl, rfl, trivial⟩
        refine W.regionD S (by kernel_rfl) ?_
        clear S; intro ww S
        refine AN.pure 0 S rfl (by kernel_rfl) (fun _ => Lf.run_move (S.ev rfl)) rfl rfl trivial ?_
        clear S; intro aa S
        obtain ⟨p26, e_1, H⟩ := H
        refine AN.pure 1 S rfl (by kernel_rfl) (fun _ => Lf.run_nc' (S.ev rfl) e_1) rfl rfl trivial ?_
        clear S; intro aa S
        refine AN.pure 2 S rfl (by kernel_rfl) (fun _ => Lf.run_fa (S.ev rfl) fa49_1) rfl rfl trivial ?_
        clear S; intro aa S
        obtain ⟨x28, c_3, H⟩ := H
        refine AN.load 3 S rfl (by kernel_rfl) (fun _ hx => Lf.run_ld (S.ev rfl) fl47 (hx.cell _ _ (S.cl c_3))) rfl rfl trivial ?_
        clear S; intro aa S
        obtain ⟨q29, e_2, e_3, e_4, H⟩ := H
        refine AN.pure 4 S rfl (by kernel_rfl) (fun _ => Lf.run_ixs (S.ev rfl) (S.ev rfl) Try.underlying47 ti51 e_2 e_3 e_4) rfl rfl trivial ?_
        clear S; intro aa S
        obtain ⟨x30, c_4, H⟩ := H
        refine AN.load 5 S rfl (by kernel_rfl) (fun _ hx => Lf.run_ld (S.ev rfl) fl51 (hx.cell _ _ (S.cl c_4))) rfl rfl trivial ?_
        clear S; intro aa S
        refine AN.pure 6 S rfl (by kernel_rfl) (fun _ => Lf.run_fa (S.ev rfl) fa25_4) rfl rfl trivial ?_
        clear S; intro aa S
        obtain ⟨x32, c_5, H⟩ := H
        refine AN.load 7 S rfl (by kernel_rfl) (fun _ hx => Lf.run_ld (S.ev rfl) fl23 (hx.cell _ _ (S.cl c_5))) rfl rfl trivial ?_
        clear S; intro aa S
        refine AN.eff 8 rfl (by kernel_rfl) ?_
        refine ol_cal S H isfn24 rfl rfl trivial ?_
        clear S H aa; intro u_2 aa ww h4 H S
        refine OL.nil ?_
        refine AN.done (by kernel_rfl) ?_
        exact ⟨h4, S.sub _ ⟨rfl, rfl, trivial⟩, H⟩
      · replace H := H.2 hb_1
        refine W.skip ?_
        exact ⟨h3, S.sub _ ⟨rfl, rfl, trivial⟩, H⟩
    · clear H S aa
      rintro aa ww ⟨h5, S, HJ⟩
      have H := HK _ HJ
      clear HK HJ
      refine W.seq ?_
      refine W.seq ?_
      replace S := S.sub [(1, Value.pointer (some p1)), (5, Value.pointer x18)] ⟨rfl, rfl, trivial⟩
      refine W.region ?_
      refine OL.pure S (Lf.run_assign (S.ev rfl)) rfl rfl trivial ?_
      clear S; intro aa S
      refine OL.nil ?_
      refine W.block ?_
      obtain ⟨I, m, H, HB_2⟩ := H
      refine W.loopS (σ := Bool × Heap) (fun s aa ww => St 74 [(1, Value.pointer (some p1)), (5, Value.pointer x18), (6, Value.bool s.1)] s.2 w0 aa ww ∧ I s.1 s.2) (fun s => m s.1 s.2) (true, h5) ⟨S.sub _ ⟨rfl, rfl, rfl, trivial⟩, H⟩ ?_
      clear H S aa
      rintro ⟨again6, h6⟩ aa ww ⟨S, HI⟩
      replace S : St 74 [(1, Value.pointer (some p1)), (5, Value.pointer x18), (6, Value.bool again6)] h6 w0 aa ww := S
      have H := HB_2 again6 h6 HI
      clear HI
      refine W.seq ?_
      refine W.seq ?_
      replace S := S.sub [(1, Value.pointer (some p1)), (5, Value.pointer x18), (6, Value.bool again6)] ⟨rfl, rfl, rfl, trivial⟩
      refine W.region ?_
      refine OL.pure S (Lf.run_move (S.ev rfl)) rfl rfl trivial ?_
      clear S; intro aa S
      refine OL.nil ?_
      refine W.cond S (b := again6) rfl (fun hb_2 => ?_) (fun hb_2 => ?_)
      · replace H := H.1 hb_2
        refine W.skip ?_
        refine W.block ?_
        refine W.seq ?_
        replace S := S.sub [(1, Value.pointer (some p1)), (5, Value.pointer x18)] ⟨rfl, rfl, trivial⟩
        refine W.region ?_
        refine OL.pure S (Lf.run_assign (S.ev rfl)) rfl rfl trivial ?_
        clear S; intro aa S
        refine OL.nil ?_
        refine W.seq ?_
        replace S := S.sub [(1, Value.pointer (some p1)), (5, Value.pointer x18), (6, Value.bool false)] ⟨rfl, rfl, rfl, trivial⟩
        refine W.region ?_
        refine OL.pure S (Lf.run_fa (S.ev rfl) fa25_0) rfl rfl trivial ?_
        clear S; intro aa S
        obtain ⟨x36, c_6, H⟩ := H
        refine OL.pure S (Lf.run_ld (S.ev rfl) fl22 (S.cl c_6)) rfl rfl trivial ?_
        clear S; intro aa S
        refine OL.pure S (Lf.run_lens (S.ev rfl) rfl Try.underlying22) rfl rfl trivial ?_
        clear S; intro aa S
        refine OL.pure S (Lf.run_move (S.ev rfl)) rfl rfl trivial ?_
        clear S; intro aa S
        refine OL.nil ?_
        refine W.block ?_
        obtain ⟨I_1, m_1, H, HB_1⟩ := H
        refine W.loopS (σ := Bool × Int × Heap) (fun s aa ww => St 74 [(1, Value.pointer (some p1)), (5, Value.pointer x18), (6, Value.bool s.1), (36, Value.slice x36.a x36.n x36.c), (37, Value.int .i64 ((x36.n : Nat) : Int)), (38, Value.int .i64 s.2.1)] s.2.2 w0 aa ww ∧ I_1 s.1 s.2.1 s.2.2) (fun s => m_1 s.1 s.2.1 s.2.2) (false, 0, h6) ⟨S.sub _ ⟨rfl, rfl, rfl, rfl, rfl, rfl, trivial⟩, H⟩ ?_
        clear H S aa
        rintro ⟨again6_1, x38, h7⟩ aa ww ⟨S, HI⟩
        replace S : St 74 [(1, Value.pointer (some p1)), (5, Value.pointer x18), (6, Value.bool again6_1), (36, Value.slice x36.a x36.n x36.c), (37, Value.int .i64 ((x36.n : Nat) : Int)), (38, Value.int .i64 x38)] h7 w0 aa ww := S
        have H := HB_1 again6_1 x38 h7 HI
        clear HI
        refine W.seq ?_
        replace S := S.sub [(1, Value.pointer (some p1)), (5, Value.pointer x18), (6, Value.bool again6_1), (36, Value.slice x36.a x36.n x36.c), (37, Value.int .i64 ((x36.n : Nat) : Int)), (38, Value.int .i64 x38)] ⟨rfl, rfl, rfl, rfl, rfl, rfl, trivial⟩
        refine W.region ?_
        refine OL.pure S (Lf.run_lss (S.ev rfl) (S.ev rfl)) rfl rfl trivial ?_
        clear S; intro aa S
        refine OL.nil ?_
        refine W.seq ?_
        refine W.cond S (b := (decide (x38 < ((x36.n : Nat) : Int)))) rfl (fun hb_3 => ?_) (fun hb_3 => ?_)
        · replace H := H.1 hb_3
          refine W.skip ?_
          refine W.seq ?_
          refine W.block ?_
          refine W.seq ?_
          replace S := S.sub [(1, Value.pointer (some p1)), (5, Value.pointer x18), (6, Value.bool again6_1), (36, Value.slice x36.a x36.n x36.c), (37, Value.int .i64 ((x36.n : Nat) : Int)), (38, Value.int .i64 x38)] ⟨rfl, rfl, rfl, rfl, rfl, rfl, trivial⟩
          refine W.region ?_
          refine OL.pure S (Lf.run_move (S.ev rfl)) rfl rfl trivial ?_
          clear S; intro aa S
          obtain ⟨q41, e_5, e_6, e_7, H⟩ := H
          refine OL.pure S (Lf.run_ixs (S.ev rfl) (S.ev rfl) Try.underlying22 ti23 e_5 e_6 e_7) rfl rfl trivial ?_
          clear S; intro aa S
          obtain ⟨x42, c_7, H⟩ := H
          refine OL.pure S (Lf.run_ld (S.ev rfl) fl23 (S.cl c_7)) rfl rfl trivial ?_
          clear S; intro aa S
          refine OL.pure S (Lf.run_assign (S.ev rfl)) rfl rfl trivial ?_
          clear S; intro aa S
          refine OL.pure S (Lf.run_assign (S.ev rfl)) rfl rfl trivial ?_
          clear S; intro aa S
          refine OL.nil ?_
          refine W.seq ?_
          replace S := S.sub [(1, Value.pointer (some p1)), (5, Value.pointer x18), (6, Value.bool again6_1), (7, Value.int .i64 x38), (8, Value.slice x42.a x42.n x42.c), (36, Value.slice x36.a x36.n x36.c), (37, Value.int .i64 ((x36.n : Nat) : Int)), (38, Value.int .i64 x38)] ⟨rfl, rfl, rfl, rfl, rfl, rfl, rfl, rfl, trivial⟩
          refine W.regionD S (by kernel_rfl) ?_
          clear S; intro ww S
          obtain ⟨y43, y43_1, y43_2, y43_3, y43_4, c_14, c_15, c_16, c_17, c_18, H⟩ := H
          refine AN.load 0 S rfl (by kernel_rfl) (fun _ hx => Lf.run_ldA (cs := [Value.slice y43.a y43.n y43.c, Value.int .i64 y43_1, Value.slice y43_2.a y43_2.n y43_2.c, Value.slice y43_3.a y43_3.n y43_3.c, Value.slice y43_4.a y43_4.n y43_4.c]) (S.ev rfl) ag25 ti25 (hx.row (S.row ⟨c_14, c_15, c_16, c_17, c_18, trivial⟩))) rfl rfl trivial ?_
          clear S; intro aa S
          refine AN.pure 1 S rfl (by kernel_rfl) (fun _ => Lf.run_move (S.ev rfl)) rfl rfl trivial ?_
          clear S; intro aa S
          refine AN.pure 2 S rfl (by kernel_rfl) (fun _ => Lf.run_move (S.ev rfl)) rfl rfl trivial ?_
          clear S; intro aa S
          obtain ⟨p46, e_8, H⟩ := H
          refine AN.pure 3 S rfl (by kernel_rfl) (fun _ => Lf.run_nc' (S.ev rfl) e_8) rfl rfl trivial ?_
          clear S; intro aa S
          refine AN.pure 4 S rfl (by kernel_rfl) (fun _ => Lf.run_fa (S.ev rfl) fa49_1) rfl rfl trivial ?_
          clear S; intro aa S
          obtain ⟨x48, c_9, H⟩ := H
          refine AN.load 5 S rfl (by kernel_rfl) (fun _ hx => Lf.run_ld (S.ev rfl) fl47 (hx.cell _ _ (S.cl c_9))) rfl rfl trivial ?_
          clear S; intro aa S
          refine AN.pure 6 S rfl (by kernel_rfl) (fun _ => Lf.run_move (S.ev rfl)) rfl rfl trivial ?_
          clear S; intro aa S
          obtain ⟨q50, e_9, e_10, e_11, H⟩ := H
          refine AN.pure 7 S rfl (by kernel_rfl) (fun _ => Lf.run_ixs (S.ev rfl) (S.ev rfl) Try.underlying47 ti51 e_9 e_10 e_11) rfl rfl trivial ?_
          clear S; intro aa S
          obtain ⟨x51, c_10, H⟩ := H
          refine AN.load 8 S rfl (by kernel_rfl) (fun _ hx => Lf.run_ld (S.ev rfl) fl51 (hx.cell _ _ (S.cl c_10))) rfl rfl trivial ?_
          clear S; intro aa S
          refine AN.eff 9 rfl (by kernel_rfl) ?_
          refine ol_cal S H isfn25 rfl rfl trivial ?_
          clear S H aa; intro u_3 aa ww h8 H S
          obtain ⟨x52, rfl, H⟩ := H
          refine OL.nil ?_
          refine AN.pure 10 S rfl (by kernel_rfl) (fun _ => Lf.run_assign (S.ev rfl)) rfl rfl trivial ?_
          clear S; intro aa S
          refine AN.done (by kernel_rfl) ?_
          refine W.seq ?_
          replace S := S.sub [(1, Value.pointer (some p1)), (5, Value.pointer x18), (6, Value.bool again6_1), (8, Value.slice x42.a x42.n x42.c), (9, Value.slice x52.a x52.n x52.c), (36, Value.slice x36.a x36.n x36.c), (37, Value.int .i64 ((x36.n : Nat) : Int)), (38, Value.int .i64 x38)] ⟨rfl, rfl, rfl, rfl, rfl, rfl, rfl, rfl, trivial⟩
          refine W.region ?_
          refine OL.pure S (Lf.run_move (S.ev rfl)) rfl rfl trivial ?_
          clear S; intro aa S
          refine OL.pure S (Lf.run_lens (S.ev rfl) rfl Try.underlying23) rfl rfl trivial ?_
          clear S; intro aa S
          refine OL.pure S (Lf.run_move (S.ev rfl)) rfl rfl trivial ?_
          clear S; intro aa S
          refine OL.nil ?_
          refine W.block ?_
          obtain ⟨I_2, m_2, H, HB⟩ := H
          refine W.loopS (σ := Bool × Int × Heap) (fun s aa ww => St 74 [(1, Value.pointer (some p1)), (5, Value.pointer x18), (6, Value.bool s.1), (9, Value.slice x52.a x52.n x52.c), (36, Value.slice x36.a x36.n x36.c), (37, Value.int .i64 ((x36.n : Nat) : Int)), (38, Value.int .i64 x38), (53, Value.slice x42.a x42.n x42.c), (54, Value.int .i64 ((x42.n : Nat) : Int)), (55, Value.int .i64 s.2.1)] s.2.2 w0 aa ww ∧ I_2 s.1 s.2.1 s.2.2) (fun s => m_2 s.1 s.2.1 s.2.2) (again6_1, 0, h8) ⟨S.sub _ ⟨rfl, rfl, rfl, rfl, rfl, rfl, rfl, rfl, rfl, rfl, trivial⟩, H⟩ ?_
          clear H S aa
          rintro ⟨again6_2, x55, h9⟩ aa ww ⟨S, HI⟩
          replace S : St 74 [(1, Value.pointer (some p1)), (5, Value.pointer x18), (6, Value.bool again6_2), (9, Value.slice x52.a x52.n x52.c), (36, Value.slice x36.a x36.n x36.c), (37, Value.int .i64 ((x36.n : Nat) : Int)), (38, Value.int .i64 x38), (53, Value.slice x42.a x42.n x42.c), (54, Value.int .i64 ((x42.n : Nat) : Int)), (55, Value.int .i64 x55)] h9 w0 aa ww := S
          have H := HB again6_2 x55 h9 HI
          clear HI
          refine W.seq ?_
          replace S := S.sub [(1, Value.pointer (some p1)), (5, Value.pointer x18), (6, Value.bool again6_2), (9, Value.slice x52.a x52.n x52.c), (36, Value.slice x36.a x36.n x36.c), (37, Value.int .i64 ((x36.n : Nat) : Int)), (38, Value.int .i64 x38), (53, Value.slice x42.a x42.n x42.c), (54, Value.int .i64 ((x42.n : Nat) : Int)), (55, Value.int .i64 x55)] ⟨rfl, rfl, rfl, rfl, rfl, rfl, rfl, rfl, rfl, rfl, trivial⟩
          refine W.region ?_
          refine OL.pure S (Lf.run_lss (S.ev rfl) (S.ev rfl)) rfl rfl trivial ?_
          clear S; intro aa S
          refine OL.nil ?_
          refine W.seq ?_
          refine W.cond S (b := (decide (x55 < ((x42.n : Nat) : Int)))) rfl (fun hb_4 => ?_) (fun hb_4 => ?_)
          · replace H := H.1 hb_4
            refine W.skip ?_
            refine W.seq ?_
            refine W.block ?_
            refine W.seq ?_
            replace S := S.sub [(1, Value.pointer (some p1)), (5, Value.pointer x18), (6, Value.bool again6_2), (9, Value.slice x52.a x52.n x52.c), (36, Value.slice x36.a x36.n x36.c), (37, Value.int .i64 ((x36.n : Nat) : Int)), (38, Value.int .i64 x38), (53, Value.slice x42.a x42.n x42.c), (54, Value.int .i64 ((x42.n : Nat) : Int)), (55, Value.int .i64 x55)] ⟨rfl, rfl, rfl, rfl, rfl, rfl, rfl, rfl, rfl, rfl, trivial⟩
            refine W.region ?_
            obtain ⟨q57, e_12, e_13, e_14, H⟩ := H
            refine OL.pure S (Lf.run_ixs (S.ev rfl) (S.ev rfl) Try.underlying23 ti3 e_12 e_13 e_14) rfl rfl trivial ?_
            clear S; intro aa S
            obtain ⟨x58, c_11, H⟩ := H
            refine OL.pure S (Lf.run_ld (S.ev rfl) fl3 (S.cl c_11)) rfl rfl trivial ?_
            clear S; intro aa S
            refine OL.pure S (Lf.run_assign (S.ev rfl)) rfl rfl trivial ?_
            clear S; intro aa S
            refine OL.nil ?_
            replace S := S.sub [(1, Value.pointer (some p1)), (5, Value.pointer x18), (6, Value.bool again6_2), (9, Value.slice x52.a x52.n x52.c), (11, Value.int .i64 x58), (36, Value.slice x36.a x36.n x36.c), (37, Value.int .i64 ((x36.n : Nat) : Int)), (38, Value.int .i64 x38), (53, Value.slice x42.a x42.n x42.c), (54, Value.int .i64 ((x42.n : Nat) : Int)), (55, Value.int .i64 x55)] ⟨rfl, rfl, rfl, rfl, rfl, rfl, rfl, rfl, rfl, rfl, rfl, trivial⟩
            refine W.region ?_
            refine OL.pure S (Lf.run_move (S.ev rfl)) rfl rfl trivial ?_
            clear S; intro aa S
            obtain ⟨p60, e_15, H⟩ := H
            refine OL.pure S (Lf.run_nc' (S.ev rfl) e_15) rfl rfl trivial ?_
            clear S; intro aa S
            refine OL.pure S (Lf.run_fa (S.ev rfl) fa49_1) rfl rfl trivial ?_
            clear S; intro aa S
            obtain ⟨x62, c_12, H⟩ := H
            refine OL.pure S (Lf.run_ld (S.ev rfl) fl47 (S.cl c_12)) rfl rfl trivial ?_
            clear S; intro aa S
            refine OL.pure S (Lf.run_move (S.ev rfl)) rfl rfl trivial ?_
            clear S; intro aa S
            obtain ⟨q64, e_16, e_17, e_18, H⟩ := H
            refine OL.pure S (Lf.run_ixs (S.ev rfl) (S.ev rfl) Try.underlying47 ti51 e_16 e_17 e_18) rfl rfl trivial ?_
            clear S; intro aa S
            obtain ⟨x65, c_13, H⟩ := H
            refine OL.pure S (Lf.run_ld (S.ev rfl) fl51 (S.cl c_13)) rfl rfl trivial ?_
            clear S; intro aa S
            refine OL.pure S (Lf.run_move (S.ev rfl)) rfl rfl trivial ?_
            clear S; intro aa S
            refine ol_cal S H isfn26 rfl rfl trivial ?_
            clear S H aa; intro u_4 aa ww h10 H S
            obtain ⟨x67, rfl, H⟩ := H
            refine OL.pure S (Lf.run_move (S.ev rfl)) rfl rfl trivial ?_
            clear S; intro aa S
            refine OL.cutN 2 (fun aa ww => St 74 ((70, Value.bool (x67 || again6_2)) :: [(1, Value.pointer (some p1)), (5, Value.pointer x18), (6, Value.bool again6_2), (9, Value.slice x52.a x52.n x52.c), (11, Value.int .i64 x58), (36, Value.slice x36.a x36.n x36.c), (37, Value.int .i64 ((x36.n : Nat) : Int)), (38, Value.int .i64 x38), (53, Value.slice x42.a x42.n x42.c), (54, Value.int .i64 ((x42.n : Nat) : Int)), (55, Value.int .i64 x55), (59, Value.pointer x18), (60, Value.pointer (some p60)), (61, Value.pointer (some (p60.add 1))), (62, Value.slice x62.a x62.n x62.c), (63, Value.int .i64 x58), (64, Value.pointer (some (q64.add ((x58 : Int).toNat * 1)))), (65, Value.slice x65.a x65.n x65.c), (66, Value.slice x52.a x52.n x52.c), (67, Value.bool x67), (68, Value.bool x67)]) h10 w0 aa ww) ?_ ?_
            · rcases Bool.eq_false_or_eq_true x67 with hb_5 | hb_5
              · refine OL.not S rfl rfl (GNo.mk rfl rfl hb_5) ?_
                clear S; intro aa S
                refine OL.pure S (Lf.run_pickT (S.ev rfl) hb_5 (S.ev rfl)) rfl rfl trivial ?_
                clear S; intro aa S
                refine OL.nil ?_
                exact (S.hd (by rw [hb_5, Bool.true_or])).sub _ ⟨rfl, rfl, rfl, rfl, rfl, rfl, rfl, rfl, rfl, rfl, rfl, rfl, rfl, rfl, rfl, rfl, rfl, rfl, rfl, rfl, rfl, rfl, trivial⟩
              · refine OL.pure S (Lf.run_move (S.ev rfl)) rfl rfl (GOk.mk rfl rfl hb_5) ?_
                clear S; intro aa S
                refine OL.pure S (Lf.run_pickF (S.ev rfl) hb_5 (S.ev rfl)) rfl rfl trivial ?_
                clear S; intro aa S
                refine OL.nil ?_
                exact (S.hd (by rw [hb_5, Bool.false_or])).sub _ ⟨rfl, rfl, rfl, rfl, rfl, rfl, rfl, rfl, rfl, rfl, rfl, rfl, rfl, rfl, rfl, rfl, rfl, rfl, rfl, rfl, rfl, rfl, trivial⟩
            · clear S aa
              intro aa ww S
              refine OL.pure S (Lf.run_assign (S.ev rfl)) rfl rfl trivial ?_
              clear S; intro aa S
              refine OL.nil ?_
              replace S := S.sub [(1, Value.pointer (some p1)), (5, Value.pointer x18), (6, Value.bool (x67 || again6_2)), (9, Value.slice x52.a x52.n x52.c), (36, Value.slice x36.a x36.n x36.c), (37, Value.int .i64 ((x36.n : Nat) : Int)), (38, Value.int .i64 x38), (53, Value.slice x42.a x42.n x42.c), (54, Value.int .i64 ((x42.n : Nat) : Int)), (55, Value.int .i64 x55)] ⟨rfl, rfl, rfl, rfl, rfl, rfl, rfl, rfl, rfl, rfl, trivial⟩
              refine W.region ?_
              refine OL.pure S (Lf.run_add (S.ev rfl) (S.ev rfl)) rfl rfl trivial ?_
              clear S; intro aa S
              refine OL.pure S (Lf.run_move (S.ev rfl)) rfl rfl trivial ?_
              clear S; intro aa S
              refine OL.nil ?_
              exact ⟨((x67 || again6_2), (IntKind.i64.wrap (x55 + 1)), h10), ⟨S.sub _ ⟨rfl, rfl, rfl, rfl, rfl, rfl, rfl, rfl, rfl, rfl, trivial⟩, H.1⟩, H.2⟩
          · replace H := H.2 hb_4
            refine W.exit_ ?_
            refine xhit ?_
            replace S := S.sub [(1, Value.pointer (some p1)), (5, Value.pointer x18), (6, Value.bool again6_2), (36, Value.slice x36.a x36.n x36.c), (37, Value.int .i64 ((x36.n : Nat) : Int)), (38, Value.int .i64 x38)] ⟨rfl, rfl, rfl, rfl, rfl, rfl, trivial⟩
            refine W.region ?_
            refine OL.pure S (Lf.run_add (S.ev rfl) (S.ev rfl)) rfl rfl trivial ?_
            clear S; intro aa S
            refine OL.pure S (Lf.run_move (S.ev rfl)) rfl rfl trivial ?_
            clear S; intro aa S
            refine OL.nil ?_
            exact ⟨(again6_2, (IntKind.i64.wrap (x38 + 1)), h9), ⟨S.sub _ ⟨rfl, rfl, rfl, rfl, rfl, rfl, trivial⟩, H.1⟩, H.2⟩
        · replace H := H.2 hb_3
          refine W.exit_ ?_
          refine xhit ?_
          exact ⟨(again6_1, h7), ⟨S.sub _ ⟨rfl, rfl, rfl, trivial⟩, H.1⟩, H.2⟩
      · replace H := H.2 hb_2
        refine W.exit_ ?_
        refine xhit ?_
        refine W.seq ?_
        replace S := S.sub [(5, Value.pointer x18)] ⟨rfl, trivial⟩
        refine W.region ?_
        refine OL.pure S (Lf.run_move (S.ev rfl)) rfl rfl trivial ?_
        clear S; intro aa S
        refine OL.pure S (Lf.run_assign (S.ev rfl)) rfl rfl trivial ?_
        clear S; intro aa S
        refine OL.pure S (Lf.run_assign (S.ev rfl)) rfl rfl trivial ?_
        clear S; intro aa S
        refine OL.nil ?_
        refine W.ret ?_
        exact Ret.two S rfl rfl rfl H

end Go.Proofs.Ytglhkodebehdbaa

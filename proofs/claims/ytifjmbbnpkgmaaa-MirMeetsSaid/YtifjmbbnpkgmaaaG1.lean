/- Lifted by program off the elaborated code: each Go function, read as a proposition over typed variables and the heap. -/
import Derived.Test.YtifjmbbnpkgmaaaG0
namespace Go.Proofs.Ytifjmbbnpkgmaaa
open Go Go.Lf
set_option linter.unusedVariables false
set_option maxRecDepth 100000

/-- chattel chattellaw14.MirMeets -/
def L3 (given0 : Int) (given0_1 : Sv) (given0_2 : Int) (given0_3 : Sv) (given0_4 : Sv) (given0_5 : Sv) (h : Heap) (R : Value → Heap → Prop) : Prop :=
  new 26 #[Value.int .i64 given0, Value.slice given0_1.a given0_1.n given0_1.c, Value.int .i64 given0_2, Value.slice given0_3.a given0_3.n given0_3.c, Value.slice given0_4.a given0_4.n given0_4.c, Value.slice given0_5.a given0_5.n given0_5.c] h fun p1 h1 =>
  ∃ J : Addr → Addr → Sv → Sv → Heap → Prop, (
    ∃ Sq : Heap → Prop, Sq h1 ∧ (
      ∃ (y10 : Int) (y10_1 : Sv), hld Sq p1 (Value.int .i64 y10) ∧ hld Sq (p1.add 1) (Value.slice y10_1.a y10_1.n y10_1.c) ∧
      ∃ (y12 : Int) (y12_1 : Sv), hld Sq (p1.add 2) (Value.int .i64 y12) ∧ hld Sq ((p1.add 2).add 1) (Value.slice y12_1.a y12_1.n y12_1.c) ∧
      hlS Sq (p1.add 4) fun x14 =>
      hlS Sq (p1.add 5) fun x16 =>
      (
        new 24 #[Value.int .i64 0, Value.slice (⟨none, 0, 0⟩ : Sv).a (⟨none, 0, 0⟩ : Sv).n (⟨none, 0, 0⟩ : Sv).c] h1 fun p3 h2 =>
        Sq h2 ∧
        new 24 #[Value.int .i64 0, Value.slice (⟨none, 0, 0⟩ : Sv).a (⟨none, 0, 0⟩ : Sv).n (⟨none, 0, 0⟩ : Sv).c] h2 fun p4 h3 =>
        Sq h3 ∧
        stoA h3 p3 [Value.int .i64 y10, Value.slice y10_1.a y10_1.n y10_1.c] fun h4 =>
        Sq h4 ∧
        stoA h4 p4 [Value.int .i64 y12, Value.slice y12_1.a y12_1.n y12_1.c] fun h5 =>
        Sq h5 ∧
        J p3 p4 x14 x16 h5) ∧ (
        new 24 #[Value.int .i64 0, Value.slice (⟨none, 0, 0⟩ : Sv).a (⟨none, 0, 0⟩ : Sv).n (⟨none, 0, 0⟩ : Sv).c] h1 fun p4_1 h6 =>
        Sq h6 ∧
        new 24 #[Value.int .i64 0, Value.slice (⟨none, 0, 0⟩ : Sv).a (⟨none, 0, 0⟩ : Sv).n (⟨none, 0, 0⟩ : Sv).c] h6 fun p3_1 h7 =>
        Sq h7 ∧
        stoA h7 p3_1 [Value.int .i64 y10, Value.slice y10_1.a y10_1.n y10_1.c] fun h8 =>
        Sq h8 ∧
        stoA h8 p4_1 [Value.int .i64 y12, Value.slice y12_1.a y12_1.n y12_1.c] fun h9 =>
        Sq h9 ∧
        J p3_1 p4_1 x14 x16 h9))) ∧ (∀ a3 b4 x5 y6 h10, J a3 b4 x5 y6 h10 →
  cal Try.prog 7 #[] h10 fun u h11 => asB u fun x17 =>
  ∃ J_1 : Bool → Prop, (orr (!x17) (fun k =>
    ldS h11 (a3.add 1) fun x21 =>
    ldS h11 (b4.add 1) fun x24 =>
    k (decide (40 < (IntKind.i64.wrap ((IntKind.i64.wrap ((IntKind.i64.wrap (((x21.n : Nat) : Int) + ((x24.n : Nat) : Int))) + ((x5.n : Nat) : Int))) + ((y6.n : Nat) : Int)))))) J_1) ∧ ∀ x34, J_1 x34 →
  ifb x34 (
    cal Try.prog 7 #[] h11 fun u_1 h12 => asB u_1 fun x35 =>
    R (Value.bool x35) h12) (
    ∃ J_2 : Addr → Heap → Prop, (
      ∃ Sq_1 : Heap → Prop, Sq_1 h11 ∧ (
        hlI .i64 Sq_1 a3 fun x37 =>
        hlS Sq_1 (a3.add 1) fun x40 =>
        (
          newS 3 #[] 0 h11 fun s38 h13 =>
          Sq_1 h13 ∧
          (
            appS 3 (Value.int .i64 0).cells 1 8 h13 s38 x40 fun s41 h14 =>
            Sq_1 h14 ∧
            (
              appS 3 (Value.int .i64 0).cells 1 8 h14 s41 x5 fun s43 h15 =>
              Sq_1 h15 ∧
              new 24 #[Value.int .i64 0, Value.slice (⟨none, 0, 0⟩ : Sv).a (⟨none, 0, 0⟩ : Sv).n (⟨none, 0, 0⟩ : Sv).c] h15 fun p7 h16 =>
              Sq_1 h16 ∧
              stoA h16 p7 [Value.int .i64 x37, Value.slice s43.a s43.n s43.c] fun h17 =>
              J_2 p7 h17) ∧ (
              new 24 #[Value.int .i64 0, Value.slice (⟨none, 0, 0⟩ : Sv).a (⟨none, 0, 0⟩ : Sv).n (⟨none, 0, 0⟩ : Sv).c] h14 fun p7_1 h18 =>
              Sq_1 h18 ∧
              appS 3 (Value.int .i64 0).cells 1 8 h18 s41 x5 fun s43_1 h19 =>
              Sq_1 h19 ∧
              stoA h19 p7_1 [Value.int .i64 x37, Value.slice s43_1.a s43_1.n s43_1.c] fun h20 =>
              J_2 p7_1 h20)) ∧ (
            new 24 #[Value.int .i64 0, Value.slice (⟨none, 0, 0⟩ : Sv).a (⟨none, 0, 0⟩ : Sv).n (⟨none, 0, 0⟩ : Sv).c] h13 fun p7_2 h21 =>
            Sq_1 h21 ∧
            appS 3 (Value.int .i64 0).cells 1 8 h21 s38 x40 fun s41_1 h22 =>
            Sq_1 h22 ∧
            appS 3 (Value.int .i64 0).cells 1 8 h22 s41_1 x5 fun s43_2 h23 =>
            Sq_1 h23 ∧
            stoA h23 p7_2 [Value.int .i64 x37, Value.slice s43_2.a s43_2.n s43_2.c] fun h24 =>
            J_2 p7_2 h24)) ∧ (
          new 24 #[Value.int .i64 0, Value.slice (⟨none, 0, 0⟩ : Sv).a (⟨none, 0, 0⟩ : Sv).n (⟨none, 0, 0⟩ : Sv).c] h11 fun p7_3 h25 =>
          Sq_1 h25 ∧
          newS 3 #[] 0 h25 fun s38_1 h26 =>
          Sq_1 h26 ∧
          appS 3 (Value.int .i64 0).cells 1 8 h26 s38_1 x40 fun s41_2 h27 =>
          Sq_1 h27 ∧
          appS 3 (Value.int .i64 0).cells 1 8 h27 s41_2 x5 fun s43_3 h28 =>
          Sq_1 h28 ∧
          stoA h28 p7_3 [Value.int .i64 x37, Value.slice s43_3.a s43_3.n s43_3.c] fun h29 =>
          J_2 p7_3 h29))) ∧ (∀ c7 h30, J_2 c7 h30 →
    ∃ J_3 : Addr → Heap → Prop, (
      ∃ Sq_2 : Heap → Prop, Sq_2 h30 ∧ (
        hlI .i64 Sq_2 b4 fun x46 =>
        hlS Sq_2 (b4.add 1) fun x49 =>
        (
          newS 3 #[] 0 h30 fun s47 h31 =>
          Sq_2 h31 ∧
          (
            appS 3 (Value.int .i64 0).cells 1 8 h31 s47 x49 fun s50 h32 =>
            Sq_2 h32 ∧
            (
              appS 3 (Value.int .i64 0).cells 1 8 h32 s50 y6 fun s52 h33 =>
              Sq_2 h33 ∧
              new 24 #[Value.int .i64 0, Value.slice (⟨none, 0, 0⟩ : Sv).a (⟨none, 0, 0⟩ : Sv).n (⟨none, 0, 0⟩ : Sv).c] h33 fun p8 h34 =>
              Sq_2 h34 ∧
              stoA h34 p8 [Value.int .i64 x46, Value.slice s52.a s52.n s52.c] fun h35 =>
              J_3 p8 h35) ∧ (
              new 24 #[Value.int .i64 0, Value.slice (⟨none, 0, 0⟩ : Sv).a (⟨none, 0, 0⟩ : Sv).n (⟨none, 0, 0⟩ : Sv).c] h32 fun p8_1 h36 =>
              Sq_2 h36 ∧
              appS 3 (Value.int .i64 0).cells 1 8 h36 s50 y6 fun s52_1 h37 =>
              Sq_2 h37 ∧
              stoA h37 p8_1 [Value.int .i64 x46, Value.slice s52_1.a s52_1.n s52_1.c] fun h38 =>
              J_3 p8_1 h38)) ∧ (
            new 24 #[Value.int .i64 0, Value.slice (⟨none, 0, 0⟩ : Sv).a (⟨none, 0, 0⟩ : Sv).n (⟨none, 0, 0⟩ : Sv).c] h31 fun p8_2 h39 =>
            Sq_2 h39 ∧
            appS 3 (Value.int .i64 0).cells 1 8 h39 s47 x49 fun s50_1 h40 =>
            Sq_2 h40 ∧
            appS 3 (Value.int .i64 0).cells 1 8 h40 s50_1 y6 fun s52_2 h41 =>
            Sq_2 h41 ∧
            stoA h41 p8_2 [Value.int .i64 x46, Value.slice s52_2.a s52_2.n s52_2.c] fun h42 =>
            J_3 p8_2 h42)) ∧ (
          new 24 #[Value.int .i64 0, Value.slice (⟨none, 0, 0⟩ : Sv).a (⟨none, 0, 0⟩ : Sv).n (⟨none, 0, 0⟩ : Sv).c] h30 fun p8_3 h43 =>
          Sq_2 h43 ∧
          newS 3 #[] 0 h43 fun s47_1 h44 =>
          Sq_2 h44 ∧
          appS 3 (Value.int .i64 0).cells 1 8 h44 s47_1 x49 fun s50_2 h45 =>
          Sq_2 h45 ∧
          appS 3 (Value.int .i64 0).cells 1 8 h45 s50_2 y6 fun s52_3 h46 =>
          Sq_2 h46 ∧
          stoA h46 p8_3 [Value.int .i64 x46, Value.slice s52_3.a s52_3.n s52_3.c] fun h47 =>
          J_3 p8_3 h47))) ∧ (∀ d8 h48, J_3 d8 h48 →
    ∃ J_4 : Bool → Heap → Prop, (
      ∃ Sq_3 : Heap → Prop, Sq_3 h48 ∧ (
        ∃ (y54 : Int) (y54_1 : Sv), cl h48 a3 = some (Value.int .i64 y54) ∧ cl h48 (a3.add 1) = some (Value.slice y54_1.a y54_1.n y54_1.c) ∧
        ∃ (y55 : Int) (y55_1 : Sv), cl h48 b4 = some (Value.int .i64 y55) ∧ cl h48 (b4.add 1) = some (Value.slice y55_1.a y55_1.n y55_1.c) ∧
        cal Try.prog 8 #[Value.agg #[Value.int .i64 y54, Value.slice y54_1.a y54_1.n y54_1.c], Value.agg #[Value.int .i64 y55, Value.slice y55_1.a y55_1.n y55_1.c]] h48 fun u_2 h49 => asB u_2 fun x56 =>
        Sq_3 h49 ∧
        ifb x56 (
          ifb true (
            ∃ (y64_2 : Int) (y64_3 : Sv), cl h49 a3 = some (Value.int .i64 y64_2) ∧ cl h49 (a3.add 1) = some (Value.slice y64_3.a y64_3.n y64_3.c) ∧
            ∃ (y65_2 : Int) (y65_3 : Sv), cl h49 a3 = some (Value.int .i64 y65_2) ∧ cl h49 (a3.add 1) = some (Value.slice y65_3.a y65_3.n y65_3.c) ∧
            cal Try.prog 8 #[Value.agg #[Value.int .i64 y64_2, Value.slice y64_3.a y64_3.n y64_3.c], Value.agg #[Value.int .i64 y65_2, Value.slice y65_3.a y65_3.n y65_3.c]] h49 fun u_15 h62 => asB u_15 fun x66_1 =>
            Sq_3 h62 ∧
            ifb x66_1 (
              ∃ (y69_4 : Int) (y69_5 : Sv), cl h62 a3 = some (Value.int .i64 y69_4) ∧ cl h62 (a3.add 1) = some (Value.slice y69_5.a y69_5.n y69_5.c) ∧
              ∃ (y70_4 : Int) (y70_5 : Sv), cl h62 c7 = some (Value.int .i64 y70_4) ∧ cl h62 (c7.add 1) = some (Value.slice y70_5.a y70_5.n y70_5.c) ∧
              cal Try.prog 8 #[Value.agg #[Value.int .i64 y69_4, Value.slice y69_5.a y69_5.n y69_5.c], Value.agg #[Value.int .i64 y70_4, Value.slice y70_5.a y70_5.n y70_5.c]] h62 fun u_16 h63 => asB u_16 fun x71_2 =>
              Sq_3 h63 ∧
              ifb x71_2 (
                ∃ (y74_8 : Int) (y74_9 : Sv), cl h63 a3 = some (Value.int .i64 y74_8) ∧ cl h63 (a3.add 1) = some (Value.slice y74_9.a y74_9.n y74_9.c) ∧
                ∃ (y75_8 : Int) (y75_9 : Sv), cl h63 b4 = some (Value.int .i64 y75_8) ∧ cl h63 (b4.add 1) = some (Value.slice y75_9.a y75_9.n y75_9.c) ∧
                ∃ Sq_8 : Heap → Prop, (∀ h, Sq_8 h → Sq_3 h) ∧ Sq_8 h63 ∧
                ∃ (y77_8 : Int) (y77_9 : Sv), hld Sq_8 b4 (Value.int .i64 y77_8) ∧ hld Sq_8 (b4.add 1) (Value.slice y77_9.a y77_9.n y77_9.c) ∧
                ∃ (y78_8 : Int) (y78_9 : Sv), hld Sq_8 a3 (Value.int .i64 y78_8) ∧ hld Sq_8 (a3.add 1) (Value.slice y78_9.a y78_9.n y78_9.c) ∧
                cal Try.prog 8 #[Value.agg #[Value.int .i64 y74_8, Value.slice y74_9.a y74_9.n y74_9.c], Value.agg #[Value.int .i64 y75_8, Value.slice y75_9.a y75_9.n y75_9.c]] h63 fun u_17 h64 => asB u_17 fun x76_4 =>
                Sq_8 h64 ∧
                cal Try.prog 8 #[Value.agg #[Value.int .i64 y77_8, Value.slice y77_9.a y77_9.n y77_9.c], Value.agg #[Value.int .i64 y78_8, Value.slice y78_9.a y78_9.n y78_9.c]] h64 fun u_18 h65 => asB u_18 fun x79_4 =>
                J_4 (x76_4 == x79_4) h65) (
                J_4 false h63)) (
              ifb false (
                ∃ (y74_10 : Int) (y74_11 : Sv), cl h62 a3 = some (Value.int .i64 y74_10) ∧ cl h62 (a3.add 1) = some (Value.slice y74_11.a y74_11.n y74_11.c) ∧
                ∃ (y75_10 : Int) (y75_11 : Sv), cl h62 b4 = some (Value.int .i64 y75_10) ∧ cl h62 (b4.add 1) = some (Value.slice y75_11.a y75_11.n y75_11.c) ∧
                ∃ Sq_9 : Heap → Prop, (∀ h, Sq_9 h → Sq_3 h) ∧ Sq_9 h62 ∧
                ∃ (y77_10 : Int) (y77_11 : Sv), hld Sq_9 b4 (Value.int .i64 y77_10) ∧ hld Sq_9 (b4.add 1) (Value.slice y77_11.a y77_11.n y77_11.c) ∧
                ∃ (y78_10 : Int) (y78_11 : Sv), hld Sq_9 a3 (Value.int .i64 y78_10) ∧ hld Sq_9 (a3.add 1) (Value.slice y78_11.a y78_11.n y78_11.c) ∧
                cal Try.prog 8 #[Value.agg #[Value.int .i64 y74_10, Value.slice y74_11.a y74_11.n y74_11.c], Value.agg #[Value.int .i64 y75_10, Value.slice y75_11.a y75_11.n y75_11.c]] h62 fun u_19 h66 => asB u_19 fun x76_5 =>
                Sq_9 h66 ∧
                cal Try.prog 8 #[Value.agg #[Value.int .i64 y77_10, Value.slice y77_11.a y77_11.n y77_11.c], Value.agg #[Value.int .i64 y78_10, Value.slice y78_11.a y78_11.n y78_11.c]] h66 fun u_20 h67 => asB u_20 fun x79_5 =>
                J_4 (x76_5 == x79_5) h67) (
                J_4 false h62))) (
            ifb false (
              ∃ (y69_6 : Int) (y69_7 : Sv), cl h49 a3 = some (Value.int .i64 y69_6) ∧ cl h49 (a3.add 1) = some (Value.slice y69_7.a y69_7.n y69_7.c) ∧
              ∃ (y70_6 : Int) (y70_7 : Sv), cl h49 c7 = some (Value.int .i64 y70_6) ∧ cl h49 (c7.add 1) = some (Value.slice y70_7.a y70_7.n y70_7.c) ∧
              cal Try.prog 8 #[Value.agg #[Value.int .i64 y69_6, Value.slice y69_7.a y69_7.n y69_7.c], Value.agg #[Value.int .i64 y70_6, Value.slice y70_7.a y70_7.n y70_7.c]] h49 fun u_21 h68 => asB u_21 fun x71_3 =>
              Sq_3 h68 ∧
              ifb x71_3 (
                ∃ (y74_12 : Int) (y74_13 : Sv), cl h68 a3 = some (Value.int .i64 y74_12) ∧ cl h68 (a3.add 1) = some (Value.slice y74_13.a y74_13.n y74_13.c) ∧
                ∃ (y75_12 : Int) (y75_13 : Sv), cl h68 b4 = some (Value.int .i64 y75_12) ∧ cl h68 (b4.add 1) = some (Value.slice y75_13.a y75_13.n y75_13.c) ∧
                ∃ Sq_10 : Heap → Prop, (∀ h, Sq_10 h → Sq_3 h) ∧ Sq_10 h68 ∧
                ∃ (y77_12 : Int) (y77_13 : Sv), hld Sq_10 b4 (Value.int .i64 y77_12) ∧ hld Sq_10 (b4.add 1) (Value.slice y77_13.a y77_13.n y77_13.c) ∧
                ∃ (y78_12 : Int) (y78_13 : Sv), hld Sq_10 a3 (Value.int .i64 y78_12) ∧ hld Sq_10 (a3.add 1) (Value.slice y78_13.a y78_13.n y78_13.c) ∧
                cal Try.prog 8 #[Value.agg #[Value.int .i64 y74_12, Value.slice y74_13.a y74_13.n y74_13.c], Value.agg #[Value.int .i64 y75_12, Value.slice y75_13.a y75_13.n y75_13.c]] h68 fun u_22 h69 => asB u_22 fun x76_6 =>
                Sq_10 h69 ∧
                cal Try.prog 8 #[Value.agg #[Value.int .i64 y77_12, Value.slice y77_13.a y77_13.n y77_13.c], Value.agg #[Value.int .i64 y78_12, Value.slice y78_13.a y78_13.n y78_13.c]] h69 fun u_23 h70 => asB u_23 fun x79_6 =>
                J_4 (x76_6 == x79_6) h70) (
                J_4 false h68)) (
              ifb false (
                ∃ (y74_14 : Int) (y74_15 : Sv), cl h49 a3 = some (Value.int .i64 y74_14) ∧ cl h49 (a3.add 1) = some (Value.slice y74_15.a y74_15.n y74_15.c) ∧
                ∃ (y75_14 : Int) (y75_15 : Sv), cl h49 b4 = some (Value.int .i64 y75_14) ∧ cl h49 (b4.add 1) = some (Value.slice y75_15.a y75_15.n y75_15.c) ∧
                ∃ Sq_11 : Heap → Prop, (∀ h, Sq_11 h → Sq_3 h) ∧ Sq_11 h49 ∧
                ∃ (y77_14 : Int) (y77_15 : Sv), hld Sq_11 b4 (Value.int .i64 y77_14) ∧ hld Sq_11 (b4.add 1) (Value.slice y77_15.a y77_15.n y77_15.c) ∧
                ∃ (y78_14 : Int) (y78_15 : Sv), hld Sq_11 a3 (Value.int .i64 y78_14) ∧ hld Sq_11 (a3.add 1) (Value.slice y78_15.a y78_15.n y78_15.c) ∧
                cal Try.prog 8 #[Value.agg #[Value.int .i64 y74_14, Value.slice y74_15.a y74_15.n y74_15.c], Value.agg #[Value.int .i64 y75_14, Value.slice y75_15.a y75_15.n y75_15.c]] h49 fun u_24 h71 => asB u_24 fun x76_7 =>
                Sq_11 h71 ∧
                cal Try.prog 8 #[Value.agg #[Value.int .i64 y77_14, Value.slice y77_15.a y77_15.n y77_15.c], Value.agg #[Value.int .i64 y78_14, Value.slice y78_15.a y78_15.n y78_15.c]] h71 fun u_25 h72 => asB u_25 fun x79_7 =>
                J_4 (x76_7 == x79_7) h72) (
                J_4 false h49)))) (
          ∃ (y58 : Int) (y58_1 : Sv), cl h49 c7 = some (Value.int .i64 y58) ∧ cl h49 (c7.add 1) = some (Value.slice y58_1.a y58_1.n y58_1.c) ∧
          ∃ (y59 : Int) (y59_1 : Sv), cl h49 d8 = some (Value.int .i64 y59) ∧ cl h49 (d8.add 1) = some (Value.slice y59_1.a y59_1.n y59_1.c) ∧
          cal Try.prog 8 #[Value.agg #[Value.int .i64 y58, Value.slice y58_1.a y58_1.n y58_1.c], Value.agg #[Value.int .i64 y59, Value.slice y59_1.a y59_1.n y59_1.c]] h49 fun u_3 h50 => asB u_3 fun x60 =>
          Sq_3 h50 ∧
          ifb (!x60) (
            ∃ (y64 : Int) (y64_1 : Sv), cl h50 a3 = some (Value.int .i64 y64) ∧ cl h50 (a3.add 1) = some (Value.slice y64_1.a y64_1.n y64_1.c) ∧
            ∃ (y65 : Int) (y65_1 : Sv), cl h50 a3 = some (Value.int .i64 y65) ∧ cl h50 (a3.add 1) = some (Value.slice y65_1.a y65_1.n y65_1.c) ∧
            cal Try.prog 8 #[Value.agg #[Value.int .i64 y64, Value.slice y64_1.a y64_1.n y64_1.c], Value.agg #[Value.int .i64 y65, Value.slice y65_1.a y65_1.n y65_1.c]] h50 fun u_4 h51 => asB u_4 fun x66 =>
            Sq_3 h51 ∧
            ifb x66 (
              ∃ (y69 : Int) (y69_1 : Sv), cl h51 a3 = some (Value.int .i64 y69) ∧ cl h51 (a3.add 1) = some (Value.slice y69_1.a y69_1.n y69_1.c) ∧
              ∃ (y70 : Int) (y70_1 : Sv), cl h51 c7 = some (Value.int .i64 y70) ∧ cl h51 (c7.add 1) = some (Value.slice y70_1.a y70_1.n y70_1.c) ∧
              cal Try.prog 8 #[Value.agg #[Value.int .i64 y69, Value.slice y69_1.a y69_1.n y69_1.c], Value.agg #[Value.int .i64 y70, Value.slice y70_1.a y70_1.n y70_1.c]] h51 fun u_5 h52 => asB u_5 fun x71 =>
              Sq_3 h52 ∧
              ifb x71 (
                ∃ (y74 : Int) (y74_1 : Sv), cl h52 a3 = some (Value.int .i64 y74) ∧ cl h52 (a3.add 1) = some (Value.slice y74_1.a y74_1.n y74_1.c) ∧
                ∃ (y75 : Int) (y75_1 : Sv), cl h52 b4 = some (Value.int .i64 y75) ∧ cl h52 (b4.add 1) = some (Value.slice y75_1.a y75_1.n y75_1.c) ∧
                ∃ Sq_4 : Heap → Prop, (∀ h, Sq_4 h → Sq_3 h) ∧ Sq_4 h52 ∧
                ∃ (y77 : Int) (y77_1 : Sv), hld Sq_4 b4 (Value.int .i64 y77) ∧ hld Sq_4 (b4.add 1) (Value.slice y77_1.a y77_1.n y77_1.c) ∧
                ∃ (y78 : Int) (y78_1 : Sv), hld Sq_4 a3 (Value.int .i64 y78) ∧ hld Sq_4 (a3.add 1) (Value.slice y78_1.a y78_1.n y78_1.c) ∧
                cal Try.prog 8 #[Value.agg #[Value.int .i64 y74, Value.slice y74_1.a y74_1.n y74_1.c], Value.agg #[Value.int .i64 y75, Value.slice y75_1.a y75_1.n y75_1.c]] h52 fun u_6 h53 => asB u_6 fun x76 =>
                Sq_4 h53 ∧
                cal Try.prog 8 #[Value.agg #[Value.int .i64 y77, Value.slice y77_1.a y77_1.n y77_1.c], Value.agg #[Value.int .i64 y78, Value.slice y78_1.a y78_1.n y78_1.c]] h53 fun u_7 h54 => asB u_7 fun x79 =>
                J_4 (x76 == x79) h54) (
                J_4 false h52)) (
              ifb false (
                ∃ (y74_2 : Int) (y74_3 : Sv), cl h51 a3 = some (Value.int .i64 y74_2) ∧ cl h51 (a3.add 1) = some (Value.slice y74_3.a y74_3.n y74_3.c) ∧
                ∃ (y75_2 : Int) (y75_3 : Sv), cl h51 b4 = some (Value.int .i64 y75_2) ∧ cl h51 (b4.add 1) = some (Value.slice y75_3.a y75_3.n y75_3.c) ∧
                ∃ Sq_5 : Heap → Prop, (∀ h, Sq_5 h → Sq_3 h) ∧ Sq_5 h51 ∧
                ∃ (y77_2 : Int) (y77_3 : Sv), hld Sq_5 b4 (Value.int .i64 y77_2) ∧ hld Sq_5 (b4.add 1) (Value.slice y77_3.a y77_3.n y77_3.c) ∧
                ∃ (y78_2 : Int) (y78_3 : Sv), hld Sq_5 a3 (Value.int .i64 y78_2) ∧ hld Sq_5 (a3.add 1) (Value.slice y78_3.a y78_3.n y78_3.c) ∧
                cal Try.prog 8 #[Value.agg #[Value.int .i64 y74_2, Value.slice y74_3.a y74_3.n y74_3.c], Value.agg #[Value.int .i64 y75_2, Value.slice y75_3.a y75_3.n y75_3.c]] h51 fun u_8 h55 => asB u_8 fun x76_1 =>
                Sq_5 h55 ∧
                cal Try.prog 8 #[Value.agg #[Value.int .i64 y77_2, Value.slice y77_3.a y77_3.n y77_3.c], Value.agg #[Value.int .i64 y78_2, Value.slice y78_3.a y78_3.n y78_3.c]] h55 fun u_9 h56 => asB u_9 fun x79_1 =>
                J_4 (x76_1 == x79_1) h56) (
                J_4 false h51))) (
            ifb false (
              ∃ (y69_2 : Int) (y69_3 : Sv), cl h50 a3 = some (Value.int .i64 y69_2) ∧ cl h50 (a3.add 1) = some (Value.slice y69_3.a y69_3.n y69_3.c) ∧
              ∃ (y70_2 : Int) (y70_3 : Sv), cl h50 c7 = some (Value.int .i64 y70_2) ∧ cl h50 (c7.add 1) = some (Value.slice y70_3.a y70_3.n y70_3.c) ∧
              cal Try.prog 8 #[Value.agg #[Value.int .i64 y69_2, Value.slice y69_3.a y69_3.n y69_3.c], Value.agg #[Value.int .i64 y70_2, Value.slice y70_3.a y70_3.n y70_3.c]] h50 fun u_10 h57 => asB u_10 fun x71_1 =>
              Sq_3 h57 ∧
              ifb x71_1 (
                ∃ (y74_4 : Int) (y74_5 : Sv), cl h57 a3 = some (Value.int .i64 y74_4) ∧ cl h57 (a3.add 1) = some (Value.slice y74_5.a y74_5.n y74_5.c) ∧
                ∃ (y75_4 : Int) (y75_5 : Sv), cl h57 b4 = some (Value.int .i64 y75_4) ∧ cl h57 (b4.add 1) = some (Value.slice y75_5.a y75_5.n y75_5.c) ∧
                ∃ Sq_6 : Heap → Prop, (∀ h, Sq_6 h → Sq_3 h) ∧ Sq_6 h57 ∧
                ∃ (y77_4 : Int) (y77_5 : Sv), hld Sq_6 b4 (Value.int .i64 y77_4) ∧ hld Sq_6 (b4.add 1) (Value.slice y77_5.a y77_5.n y77_5.c) ∧
                ∃ (y78_4 : Int) (y78_5 : Sv), hld Sq_6 a3 (Value.int .i64 y78_4) ∧ hld Sq_6 (a3.add 1) (Value.slice y78_5.a y78_5.n y78_5.c) ∧
                cal Try.prog 8 #[Value.agg #[Value.int .i64 y74_4, Value.slice y74_5.a y74_5.n y74_5.c], Value.agg #[Value.int .i64 y75_4, Value.slice y75_5.a y75_5.n y75_5.c]] h57 fun u_11 h58 => asB u_11 fun x76_2 =>
                Sq_6 h58 ∧
                cal Try.prog 8 #[Value.agg #[Value.int .i64 y77_4, Value.slice y77_5.a y77_5.n y77_5.c], Value.agg #[Value.int .i64 y78_4, Value.slice y78_5.a y78_5.n y78_5.c]] h58 fun u_12 h59 => asB u_12 fun x79_2 =>
                J_4 (x76_2 == x79_2) h59) (
                J_4 false h57)) (
              ifb false (
                ∃ (y74_6 : Int) (y74_7 : Sv), cl h50 a3 = some (Value.int .i64 y74_6) ∧ cl h50 (a3.add 1) = some (Value.slice y74_7.a y74_7.n y74_7.c) ∧
                ∃ (y75_6 : Int) (y75_7 : Sv), cl h50 b4 = some (Value.int .i64 y75_6) ∧ cl h50 (b4.add 1) = some (Value.slice y75_7.a y75_7.n y75_7.c) ∧
                ∃ Sq_7 : Heap → Prop, (∀ h, Sq_7 h → Sq_3 h) ∧ Sq_7 h50 ∧
                ∃ (y77_6 : Int) (y77_7 : Sv), hld Sq_7 b4 (Value.int .i64 y77_6) ∧ hld Sq_7 (b4.add 1) (Value.slice y77_7.a y77_7.n y77_7.c) ∧
                ∃ (y78_6 : Int) (y78_7 : Sv), hld Sq_7 a3 (Value.int .i64 y78_6) ∧ hld Sq_7 (a3.add 1) (Value.slice y78_7.a y78_7.n y78_7.c) ∧
                cal Try.prog 8 #[Value.agg #[Value.int .i64 y74_6, Value.slice y74_7.a y74_7.n y74_7.c], Value.agg #[Value.int .i64 y75_6, Value.slice y75_7.a y75_7.n y75_7.c]] h50 fun u_13 h60 => asB u_13 fun x76_3 =>
                Sq_7 h60 ∧
                cal Try.prog 8 #[Value.agg #[Value.int .i64 y77_6, Value.slice y77_7.a y77_7.n y77_7.c], Value.agg #[Value.int .i64 y78_6, Value.slice y78_7.a y78_7.n y78_7.c]] h60 fun u_14 h61 => asB u_14 fun x79_3 =>
                J_4 (x76_3 == x79_3) h61) (
                J_4 false h50)))))) ∧ (∀ x2 h73, J_4 x2 h73 →
    R (Value.bool x2) h73)))))

set_option maxRecDepth 100000 in

theorem F3 {given0 given0_1 given0_2 given0_3 given0_4 given0_5 h : _} {R : Value → Heap → Prop} (H : L3 given0 given0_1 given0_2 given0_3 given0_4 given0_5 h R) : CallsH Try.prog 3 #[Value.agg #[Value.int .i64 given0, Value.slice given0_1.a given0_1.n given0_1.c, Value.int .i64 given0_2, Value.slice given0_3.a given0_3.n given0_3.c, Value.slice given0_4.a given0_4.n given0_4.c, Value.slice given0_5.a given0_5.n given0_5.c]] h R := by
  refine CallsH.enter (n := 82) Try.func3 rfl rfl rfl rfl ?_
  intro w0 aa ww S
  unfold L3 at H
  refine W.seq ?_
  replace S := S.sub [(0, Value.agg #[Value.int .i64 given0, Value.slice given0_1.a given0_1.n given0_1.c, Value.int .i64 given0_2, Value.slice given0_3.a given0_3.n given0_3.c, Value.slice given0_4.a given0_4.n given0_4.c, Value.slice given0_5.a given0_5.n given0_5.c])] ⟨rfl, trivial⟩
  refine W.region ?_
  refine ol_box S H rfl rfl rfl trivial ?_
  clear S H aa; intro p1 aa ww h1 H S
  refine OL.pure S (Lf.run_assign (S.ev rfl)) rfl rfl trivial ?_
  clear S; intro aa S
  refine OL.nil ?_
  refine W.seq ?_
  replace S := S.sub [(1, Value.pointer (some p1))] ⟨rfl, trivial⟩
  obtain ⟨J, H, HK⟩ := H
  refine W.mono (N' := fun aa ww => ∃ a3 b4 x5 y6 h10, St 82 [(3, Value.pointer (some a3)), (4, Value.pointer (some b4)), (5, Value.slice x5.a x5.n x5.c), (6, Value.slice y6.a y6.n y6.c)] h10 w0 aa ww ∧ J a3 b4 x5 y6 h10) ?_ ?_
  · obtain ⟨Sq, HS, H⟩ := H
    refine W.regionN [1, 3, 5, 7] [8, 9, 10, 11] Sq S (by kernel_rfl) ?_
    clear S; intro ww S
    refine BN.pure 0 S (fun _ => HS) rfl (by kernel_rfl) (by kernel_rfl) (fun _ => Lf.run_fa (S.ev rfl) fa26_0) rfl rfl trivial ?_
    clear S; intro aa S
    refine BN.pure 2 S (fun _ => HS) rfl (by kernel_rfl) (by kernel_rfl) (fun _ => Lf.run_fa (S.ev rfl) fa26_1) rfl rfl trivial ?_
    clear S; intro aa S
    refine BN.pure 4 S (fun _ => HS) rfl (by kernel_rfl) (by kernel_rfl) (fun _ => Lf.run_fa (S.ev rfl) fa26_2) rfl rfl trivial ?_
    clear S; intro aa S
    refine BN.pure 6 S (fun _ => HS) rfl (by kernel_rfl) (by kernel_rfl) (fun _ => Lf.run_fa (S.ev rfl) fa26_3) rfl rfl trivial ?_
    clear S; intro aa S
    obtain ⟨y10, y10_1, c_6, c_7, H⟩ := H
    refine BN.held 1 S HS rfl (by kernel_rfl) (fun _ hq => Lf.run_ldA (cs := [Value.int .i64 y10, Value.slice y10_1.a y10_1.n y10_1.c]) (S.ev rfl) ag24 ti24 (hlRow hq fun h_ hs_ => ⟨c_6 h_ hs_, c_7 h_ hs_, trivial⟩)) rfl rfl trivial ?_
    clear S; intro aa S
    obtain ⟨y12, y12_1, c_4, c_5, H⟩ := H
    refine BN.held 3 S HS rfl (by kernel_rfl) (fun _ hq => Lf.run_ldA (cs := [Value.int .i64 y12, Value.slice y12_1.a y12_1.n y12_1.c]) (S.ev rfl) ag24 ti24 (hlRow hq fun h_ hs_ => ⟨c_4 h_ hs_, c_5 h_ hs_, trivial⟩)) rfl rfl trivial ?_
    clear S; intro aa S
    obtain ⟨x14, c_2, H⟩ := H
    refine BN.held 5 S HS rfl (by kernel_rfl) (fun _ hq => Lf.run_ld (S.ev rfl) fl22 (c_2 _ hq)) rfl rfl trivial ?_
    clear S; intro aa S
    obtain ⟨x16, c_3, H⟩ := H
    refine BN.held 7 S HS rfl (by kernel_rfl) (fun _ hq => Lf.run_ld (S.ev rfl) fl22 (c_3 _ hq)) rfl rfl trivial ?_
    clear S; intro aa S
    refine BN.effs [8, 9] (by kernel_rfl) rfl ⟨⟨_, rfl, ?_⟩, ⟨_, rfl, ?_⟩, trivial⟩
    · replace H := H.1
      refine ol_alloc S H ti24 rfl rfl trivial ?_
      clear S H aa; intro p3 aa ww h2 H S
      refine OL.nil ?_
      clear HS; obtain ⟨HS, H⟩ := H
      refine ⟨fun _ => by rw [S.heap]; exact HS, ?_⟩
      refine BN.eff 9 rfl (by kernel_rfl) ?_
      refine ol_alloc S H ti24 rfl rfl trivial ?_
      clear S H aa; intro p4 aa ww h3 H S
      refine OL.nil ?_
      clear HS; obtain ⟨HS, H⟩ := H
      refine ⟨fun _ => by rw [S.heap]; exact HS, ?_⟩
      refine BN.eff 10 rfl (by kernel_rfl) ?_
      refine ol_stoA S H rfl rfl ti24 trivial ?_
      clear S H aa; intro aa ww h4 H S
      refine OL.nil ?_
      clear HS; obtain ⟨HS, H⟩ := H
      refine ⟨fun _ => by rw [S.heap]; exact HS, ?_⟩
      refine BN.eff 11 rfl (by kernel_rfl) ?_
      refine ol_stoA S H rfl rfl ti24 trivial ?_
      clear S H aa; intro aa ww h5 H S
      refine OL.nil ?_
      clear HS; obtain ⟨HS, H⟩ := H
      refine ⟨fun _ => by rw [S.heap]; exact HS, ?_⟩
      refine BN.pure 12 S (fun _ => HS) rfl (by kernel_rfl) (by kernel_rfl) (fun _ => Lf.run_assign (S.ev rfl)) rfl rfl trivial ?_
      clear S; intro aa S
      refine BN.pure 13 S (fun _ => HS) rfl (by kernel_rfl) (by kernel_rfl) (fun _ => Lf.run_assign (S.ev rfl)) rfl rfl trivial ?_
      clear S; intro aa S
      refine BN.done (by kernel_rfl) ?_
      exact ⟨p3, p4, x14, x16, h5, S.sub _ ⟨rfl, rfl, rfl, rfl, trivial⟩, H⟩
    · replace H := H.2
      refine ol_alloc S H ti24 rfl rfl trivial ?_
      clear S H aa; intro p4_1 aa ww h6 H S
      refine OL.nil ?_
      clear HS; obtain ⟨HS, H⟩ := H
      refine ⟨fun _ => by rw [S.heap]; exact HS, ?_⟩
      refine BN.eff 8 rfl (by kernel_rfl) ?_
      refine ol_alloc S H ti24 rfl rfl trivial ?_
      clear S H aa; intro p3_1 aa ww h7 H S
      refine OL.nil ?_
      clear HS; obtain ⟨HS, H⟩ := H
      refine ⟨fun _ => by rw [S.heap]; exact HS, ?_⟩
      refine BN.eff 10 rfl (by kernel_rfl) ?_
      refine ol_stoA S H rfl rfl ti24 trivial ?_
      clear S H aa; intro aa ww h8 H S
      refine OL.nil ?_
      clear HS; obtain ⟨HS, H⟩ := H
      refine ⟨fun _ => by rw [S.heap]; exact HS, ?_⟩
      refine BN.eff 11 rfl (by kernel_rfl) ?_
      refine ol_stoA S H rfl rfl ti24 trivial ?_
      clear S H aa; intro aa ww h9 H S
      refine OL.nil ?_
      clear HS; obtain ⟨HS, H⟩ := H
      refine ⟨fun _ => by rw [S.heap]; exact HS, ?_⟩
      refine BN.pure 12 S (fun _ => HS) rfl (by kernel_rfl) (by kernel_rfl) (fun _ => Lf.run_assign (S.ev rfl)) rfl rfl trivial ?_
      clear S; intro aa S
      refine BN.pure 13 S (fun _ => HS) rfl (by kernel_rfl) (by kernel_rfl) (fun _ => Lf.run_assign (S.ev rfl)) rfl rfl trivial ?_
      clear S; intro aa S
      refine BN.done (by kernel_rfl) ?_
      exact ⟨p3_1, p4_1, x14, x16, h9, S.sub _ ⟨rfl, rfl, rfl, rfl, trivial⟩, H⟩
  · clear H S aa
    rintro aa ww ⟨a3, b4, x5, y6, h10, S, HJ⟩
    have H := HK _ _ _ _ _ HJ
    clear HK HJ
    refine W.seq ?_
    refine W.seq ?_
    replace S := S.sub [(3, Value.pointer (some a3)), (4, Value.pointer (some b4)), (5, Value.slice x5.a x5.n x5.c), (6, Value.slice y6.a y6.n y6.c)] ⟨rfl, rfl, rfl, rfl, trivial⟩
    refine W.region ?_
    refine ol_cal S H isfn7 rfl rfl trivial ?_
    clear S H aa; intro u aa ww h11 H S
    obtain ⟨x17, rfl, H⟩ := H
    refine OL.pure S (Lf.run_not (S.ev rfl)) rfl rfl trivial ?_
    clear S; intro aa S
    refine OL.pure S (Lf.run_move (S.ev rfl)) rfl rfl trivial ?_
    clear S; intro aa S
    obtain ⟨J_1, H, HK_1⟩ := H
    refine OL.cutN 15 (fun aa ww => ∃ x34, St 82 ((34, Value.bool x34) :: [(3, Value.pointer (some a3)), (4, Value.pointer (some b4)), (5, Value.slice x5.a x5.n x5.c), (6, Value.slice y6.a y6.n y6.c), (17, Value.bool x17), (18, Value.bool (!x17)), (19, Value.bool (!x17))]) h11 w0 aa ww ∧ J_1 x34) ?_ ?_
    · rcases Bool.eq_false_or_eq_true (!x17) with hb | hb
      · replace H := H.1 hb
        refine OL.not S rfl rfl (GNo.mk rfl rfl hb) ?_
        clear S; intro aa S
        refine OL.not S rfl rfl (GNo.mk rfl rfl hb) ?_
        clear S; intro aa S
        refine OL.not S rfl rfl (GNo.mk rfl rfl hb) ?_
        clear S; intro aa S
        refine OL.not S rfl rfl (GNo.mk rfl rfl hb) ?_
        clear S; intro aa S
        refine OL.not S rfl rfl (GNo.mk rfl rfl hb) ?_
        clear S; intro aa S
        refine OL.not S rfl rfl (GNo.mk rfl rfl hb) ?_
        clear S; intro aa S
        refine OL.not S rfl rfl (GNo.mk rfl rfl hb) ?_
        clear S; intro aa S
        refine OL.not S rfl rfl (GNo.mk rfl rfl hb) ?_
        clear S; intro aa S
        refine OL.not S rfl rfl (GNo.mk rfl rfl hb) ?_
        clear S; intro aa S
        refine OL.not S rfl rfl (GNo.mk rfl rfl hb) ?_
        clear S; intro aa S
        refine OL.not S rfl rfl (GNo.mk rfl rfl hb) ?_
        clear S; intro aa S
        refine OL.not S rfl rfl (GNo.mk rfl rfl hb) ?_
        clear S; intro aa S
        refine OL.not S rfl rfl (GNo.mk rfl rfl hb) ?_
        clear S; intro aa S
        refine OL.not S rfl rfl (GNo.mk rfl rfl hb) ?_
        clear S; intro aa S
        refine OL.pure S (Lf.run_pickT (S.ev rfl) hb (S.ev rfl)) rfl rfl trivial ?_
        clear S; intro aa S
        refine OL.nil ?_
        exact ⟨_, S.sub _ ⟨rfl, rfl, rfl, rfl, rfl, rfl, rfl, rfl, trivial⟩, H⟩
      · replace H := H.2 hb
        refine OL.pure S (Lf.run_fa (S.ev rfl) fa24_1) rfl rfl (GOk.mk rfl rfl hb) ?_
        clear S; intro aa S
        obtain ⟨x21, c_8, H⟩ := H
        refine OL.pure S (Lf.run_ld (S.ev rfl) fl22 (S.cl c_8)) rfl rfl (GOk.mk rfl rfl hb) ?_
        clear S; intro aa S
        refine OL.pure S (Lf.run_lens (S.ev rfl) rfl Try.underlying22) rfl rfl (GOk.mk rfl rfl hb) ?_
        clear S; intro aa S
        refine OL.pure S (Lf.run_fa (S.ev rfl) fa24_1) rfl rfl (GOk.mk rfl rfl hb) ?_
        clear S; intro aa S
        obtain ⟨x24, c_9, H⟩ := H
        refine OL.pure S (Lf.run_ld (S.ev rfl) fl22 (S.cl c_9)) rfl rfl (GOk.mk rfl rfl hb) ?_
        clear S; intro aa S
        refine OL.pure S (Lf.run_lens (S.ev rfl) rfl Try.underlying22) rfl rfl (GOk.mk rfl rfl hb) ?_
        clear S; intro aa S
        refine OL.pure S (Lf.run_add (S.ev rfl) (S.ev rfl)) rfl rfl (GOk.mk rfl rfl hb) ?_
        clear S; intro aa S
        refine OL.pure S (Lf.run_move (S.ev rfl)) rfl rfl (GOk.mk rfl rfl hb) ?_
        clear S; intro aa S
        refine OL.pure S (Lf.run_lens (S.ev rfl) rfl Try.underlying22) rfl rfl (GOk.mk rfl rfl hb) ?_
        clear S; intro aa S
        refine OL.pure S (Lf.run_add (S.ev rfl) (S.ev rfl)) rfl rfl (GOk.mk rfl rfl hb) ?_
        clear S; intro aa S
        refine OL.pure S (Lf.run_move (S.ev rfl)) rfl rfl (GOk.mk rfl rfl hb) ?_
        clear S; intro aa S
        refine OL.pure S (Lf.run_lens (S.ev rfl) rfl Try.underlying22) rfl rfl (GOk.mk rfl rfl hb) ?_
        clear S; intro aa S
        refine OL.pure S (Lf.run_add (S.ev rfl) (S.ev rfl)) rfl rfl (GOk.mk rfl rfl hb) ?_
        clear S; intro aa S
        refine OL.pure S (Lf.run_gtr (S.ev rfl) (S.ev rfl)) rfl rfl (GOk.mk rfl rfl hb) ?_
        clear S; intro aa S
        refine OL.pure S (Lf.run_pickF (S.ev rfl) hb (S.ev rfl)) rfl rfl trivial ?_
        clear S; intro aa S
        refine OL.nil ?_
        exact ⟨_, S.sub _ ⟨rfl, rfl, rfl, rfl, rfl, rfl, rfl, rfl, trivial⟩, H⟩
    · clear S aa
      rintro aa ww ⟨x34, S, HJ⟩
      replace H := HK_1 _ HJ
      clear HK_1 HJ
      refine OL.nil ?_
      refine W.cond S (b := x34) rfl (fun hb_1 => ?_) (fun hb_1 => ?_)
      · replace H := H.1 hb_1
        refine W.seq ?_
        replace S := S.sub [] trivial
        refine W.region ?_
        refine ol_cal S H isfn7 rfl rfl trivial ?_
        clear S H aa; intro u_1 aa ww h12 H S
        obtain ⟨x35, rfl, H⟩ := H
        refine OL.pure S (Lf.run_assign (S.ev rfl)) rfl rfl trivial ?_
        clear S; intro aa S
        refine OL.nil ?_
        refine W.ret ?_
        exact Ret.one S rfl rfl H
      · replace H := H.2 hb_1
        refine W.skip ?_
        refine W.seq ?_
        replace S := S.sub [(3, Value.pointer (some a3)), (4, Value.pointer (some b4)), (5, Value.slice x5.a x5.n x5.c), (6, Value.slice y6.a y6.n y6.c)] ⟨rfl, rfl, rfl, rfl, trivial⟩
        obtain ⟨J_2, H, HK_2⟩ := H
        refine W.mono (N' := fun aa ww => ∃ c7 h30, St 82 [(3, Value.pointer (some a3)), (4, Value.pointer (some b4)), (6, Value.slice y6.a y6.n y6.c), (7, Value.pointer (some c7))] h30 w0 aa ww ∧ J_2 c7 h30) ?_ ?_
        · obtain ⟨Sq_1, HS_1, H⟩ := H
          refine W.regionN [1, 4] [2, 5, 7, 9, 10] Sq_1 S (by kernel_rfl) ?_
          clear S; intro ww S
          refine BN.pure 0 S (fun _ => HS_1) rfl (by kernel_rfl) (by kernel_rfl) (fun _ => Lf.run_fa (S.ev rfl) fa24_0) rfl rfl trivial ?_
          clear S; intro aa S
          refine BN.pure 3 S (fun _ => HS_1) rfl (by kernel_rfl) (by kernel_rfl) (fun _ => Lf.run_fa (S.ev rfl) fa24_1) rfl rfl trivial ?_
          clear S; intro aa S
          refine BN.pure 6 S (fun _ => HS_1) rfl (by kernel_rfl) (by kernel_rfl) (fun _ => Lf.run_move (S.ev rfl)) rfl rfl trivial ?_
          clear S; intro aa S
          obtain ⟨x37, c_10, H⟩ := H
          refine BN.held 1 S HS_1 rfl (by kernel_rfl) (fun _ hq => Lf.run_ld (S.ev rfl) fl3 (c_10 _ hq)) rfl rfl trivial ?_
          clear S; intro aa S
          obtain ⟨x40, c_11, H⟩ := H
          refine BN.held 4 S HS_1 rfl (by kernel_rfl) (fun _ hq => Lf.run_ld (S.ev rfl) fl22 (c_11 _ hq)) rfl rfl trivial ?_
          clear S; intro aa S
          refine BN.effs [2, 9] (by kernel_rfl) rfl ⟨⟨_, rfl, ?_⟩, ⟨_, rfl, ?_⟩, trivial⟩
          · replace H := H.1
            refine ol_newS0 S H Try.underlying22 ti3 rfl rfl trivial ?_
            clear S H aa; intro s38 aa ww h13 H S
            refine OL.nil ?_
            clear HS_1; obtain ⟨HS_1, H⟩ := H
            refine ⟨fun _ => by rw [S.heap]; exact HS_1, ?_⟩
            refine BN.effs [5, 9] (by kernel_rfl) rfl ⟨⟨_, rfl, ?_⟩, ⟨_, rfl, ?_⟩, trivial⟩
            · replace H := H.1
              refine ol_appS S H Try.underlying22 ti3 rfl rfl rfl trivial ?_
              clear S H aa; intro s41 aa ww h14 H S
              refine OL.nil ?_
              clear HS_1; obtain ⟨HS_1, H⟩ := H
              refine ⟨fun _ => by rw [S.heap]; exact HS_1, ?_⟩
              refine BN.effs [7, 9] (by kernel_rfl) rfl ⟨⟨_, rfl, ?_⟩, ⟨_, rfl, ?_⟩, trivial⟩
              · replace H := H.1
                refine ol_appS S H Try.underlying22 ti3 rfl rfl rfl trivial ?_
                clear S H aa; intro s43 aa ww h15 H S
                refine OL.nil ?_
                clear HS_1; obtain ⟨HS_1, H⟩ := H
                refine ⟨fun _ => by rw [S.heap]; exact HS_1, ?_⟩
                refine BN.pure 8 S (fun _ => HS_1) rfl (by kernel_rfl) (by kernel_rfl) (fun _ => Lf.run_build (cs := #[Value.int .i64 x37, Value.slice s43.a s43.n s43.c]) pl24 ti24 (parts_map S rfl) (by kernel_rfl)) rfl rfl trivial ?_
                clear S; intro aa S
                refine BN.eff 9 rfl (by kernel_rfl) ?_
                refine ol_alloc S H ti24 rfl rfl trivial ?_
                clear S H aa; intro p7 aa ww h16 H S
                refine OL.nil ?_
                clear HS_1; obtain ⟨HS_1, H⟩ := H
                refine ⟨fun _ => by rw [S.heap]; exact HS_1, ?_⟩
                refine BN.eff 10 rfl (by kernel_rfl) ?_
                refine ol_stoA S H rfl rfl ti24 trivial ?_
                clear S H aa; intro aa ww h17 H S
                refine OL.nil ?_
                refine ⟨noNeed (by kernel_rfl), ?_⟩
                refine BN.done (by kernel_rfl) ?_
                exact ⟨p7, h17, S.sub _ ⟨rfl, rfl, rfl, rfl, trivial⟩, H⟩
              · replace H := H.2
                refine ol_alloc S H ti24 rfl rfl trivial ?_
                clear S H aa; intro p7_1 aa ww h18 H S
                refine OL.nil ?_
                clear HS_1; obtain ⟨HS_1, H⟩ := H
                refine ⟨fun _ => by rw [S.heap]; exact HS_1, ?_⟩
                refine BN.eff 7 rfl (by kernel_rfl) ?_
                refine ol_appS S H Try.underlying22 ti3 rfl rfl rfl trivial ?_
                clear S H aa; intro s43_1 aa ww h19 H S
                refine OL.nil ?_
                clear HS_1; obtain ⟨HS_1, H⟩ := H
                refine ⟨fun _ => by rw [S.heap]; exact HS_1, ?_⟩
                refine BN.pure 8 S (fun _ => HS_1) rfl (by kernel_rfl) (by kernel_rfl) (fun _ => Lf.run_build (cs := #[Value.int .i64 x37, Value.slice s43_1.a s43_1.n s43_1.c]) pl24 ti24 (parts_map S rfl) (by kernel_rfl)) rfl rfl trivial ?_
                clear S; intro aa S
                refine BN.eff 10 rfl (by kernel_rfl) ?_
                refine ol_stoA S H rfl rfl ti24 trivial ?_
                clear S H aa; intro aa ww h20 H S
                refine OL.nil ?_
                refine ⟨noNeed (by kernel_rfl), ?_⟩
                refine BN.done (by kernel_rfl) ?_
                exact ⟨p7_1, h20, S.sub _ ⟨rfl, rfl, rfl, rfl, trivial⟩, H⟩
            · replace H := H.2
              refine ol_alloc S H ti24 rfl rfl trivial ?_
              clear S H aa; intro p7_2 aa ww h21 H S
              refine OL.nil ?_
              clear HS_1; obtain ⟨HS_1, H⟩ := H
              refine ⟨fun _ => by rw [S.heap]; exact HS_1, ?_⟩
              refine BN.eff 5 rfl (by kernel_rfl) ?_
              refine ol_appS S H Try.underlying22 ti3 rfl rfl rfl trivial ?_
              clear S H aa; intro s41_1 aa ww h22 H S
              refine OL.nil ?_
              clear HS_1; obtain ⟨HS_1, H⟩ := H
              refine ⟨fun _ => by rw [S.heap]; exact HS_1, ?_⟩
              refine BN.eff 7 rfl (by kernel_rfl) ?_
              refine ol_appS S H Try.underlying22 ti3 rfl rfl rfl trivial ?_
              clear S H aa; intro s43_2 aa ww h23 H S
              refine OL.nil ?_
              clear HS_1; obtain ⟨HS_1, H⟩ := H
              refine ⟨fun _ => by rw [S.heap]; exact HS_1, ?_⟩
              refine BN.pure 8 S (fun _ => HS_1) rfl (by kernel_rfl) (by kernel_rfl) (fun _ => Lf.run_build (cs := #[Value.int .i64 x37, Value.slice s43_2.a s43_2.n s43_2.c]) pl24 ti24 (parts_map S rfl) (by kernel_rfl)) rfl rfl trivial ?_
              clear S; intro aa S
              refine BN.eff 10 rfl (by kernel_rfl) ?_
              refine ol_stoA S H rfl rfl ti24 trivial ?_
              clear S H aa; intro aa ww h24 H S
              refine OL.nil ?_
              refine ⟨noNeed (by kernel_rfl), ?_⟩
              refine BN.done (by kernel_rfl) ?_
              exact ⟨p7_2, h24, S.sub _ ⟨rfl, rfl, rfl, rfl, trivial⟩, H⟩
          · replace H := H.2
            refine ol_alloc S H ti24 rfl rfl trivial ?_
            clear S H aa; intro p7_3 aa ww h25 H S
            refine OL.nil ?_
            clear HS_1; obtain ⟨HS_1, H⟩ := H
            refine ⟨fun _ => by rw [S.heap]; exact HS_1, ?_⟩
            refine BN.eff 2 rfl (by kernel_rfl) ?_
            refine ol_newS0 S H Try.underlying22 ti3 rfl rfl trivial ?_
            clear S H aa; intro s38_1 aa ww h26 H S
            refine OL.nil ?_
            clear HS_1; obtain ⟨HS_1, H⟩ := H
            refine ⟨fun _ => by rw [S.heap]; exact HS_1, ?_⟩
            refine BN.eff 5 rfl (by kernel_rfl) ?_
            refine ol_appS S H Try.underlying22 ti3 rfl rfl rfl trivial ?_
            clear S H aa; intro s41_2 aa ww h27 H S
            refine OL.nil ?_
            clear HS_1; obtain ⟨HS_1, H⟩ := H
            refine ⟨fun _ => by rw [S.heap]; exact HS_1, ?_⟩
            refine BN.eff 7 rfl (by kernel_rfl) ?_
            refine ol_appS S H Try.underlying22 ti3 rfl rfl rfl trivial ?_
            clear S H aa; intro s43_3 aa ww h28 H S
            refine OL.nil ?_
            clear HS_1; obtain ⟨HS_1, H⟩ := H
            refine ⟨fun _ => by rw [S.heap]; exact HS_1, ?_⟩
            refine BN.pure 8 S (fun _ => HS_1) rfl (by kernel_rfl) (by kernel_rfl) (fun _ => Lf.run_build (cs := #[Value.int .i64 x37, Value.slice s43_3.a s43_3.n s43_3.c]) pl24 ti24 (parts_map S rfl) (by kernel_rfl)) rfl rfl trivial ?_
            clear S; intro aa S
            refine BN.eff 10 rfl (by kernel_rfl) ?_
            refine ol_stoA S H rfl rfl ti24 trivial ?_
            clear S H aa; intro aa ww h29 H S
            refine OL.nil ?_
            refine ⟨noNeed (by kernel_rfl), ?_⟩
            refine BN.done (by kernel_rfl) ?_
            exact ⟨p7_3, h29, S.sub _ ⟨rfl, rfl, rfl, rfl, trivial⟩, H⟩
        · clear H S aa
          rintro aa ww ⟨c7, h30, S, HJ⟩
          have H := HK_2 _ _ HJ
          clear HK_2 HJ
          refine W.seq ?_
          replace S := S.sub [(3, Value.pointer (some a3)), (4, Value.pointer (some b4)), (6, Value.slice y6.a y6.n y6.c), (7, Value.pointer (some c7))] ⟨rfl, rfl, rfl, rfl, trivial⟩
          obtain ⟨J_3, H, HK_3⟩ := H
          refine W.mono (N' := fun aa ww => ∃ d8 h48, St 82 [(3, Value.pointer (some a3)), (4, Value.pointer (some b4)), (7, Value.pointer (some c7)), (8, Value.pointer (some d8))] h48 w0 aa ww ∧ J_3 d8 h48) ?_ ?_
          · obtain ⟨Sq_2, HS_2, H⟩ := H
            refine W.regionN [1, 4] [2, 5, 7, 9, 10] Sq_2 S (by kernel_rfl) ?_
            clear S; intro ww S
            refine BN.pure 0 S (fun _ => HS_2) rfl (by kernel_rfl) (by kernel_rfl) (fun _ => Lf.run_fa (S.ev rfl) fa24_0) rfl rfl trivial ?_
            clear S; intro aa S
            refine BN.pure 3 S (fun _ => HS_2) rfl (by kernel_rfl) (by kernel_rfl) (fun _ => Lf.run_fa (S.ev rfl) fa24_1) rfl rfl trivial ?_
            clear S; intro aa S
            refine BN.pure 6 S (fun _ => HS_2) rfl (by kernel_rfl) (by kernel_rfl) (fun _ => Lf.run_move (S.ev rfl)) rfl rfl trivial ?_
            clear S; intro aa S
            obtain ⟨x46, c_12, H⟩ := H
            refine BN.held 1 S HS_2 rfl (by kernel_rfl) (fun _ hq => Lf.run_ld (S.ev rfl) fl3 (c_12 _ hq)) rfl rfl trivial ?_
            clear S; intro aa S
            obtain ⟨x49, c_13, H⟩ := H
            refine BN.held 4 S HS_2 rfl (by kernel_rfl) (fun _ hq => Lf.run_ld (S.ev rfl) fl22 (c_13 _ hq)) rfl rfl trivial ?_
            clear S; intro aa S
            refine BN.effs [2, 9] (by kernel_rfl) rfl ⟨⟨_, rfl, ?_⟩, ⟨_, rfl, ?_⟩, trivial⟩
            · replace H := H.1
              refine ol_newS0 S H Try.underlying22 ti3 rfl rfl trivial ?_
              clear S H aa; intro s47 aa ww h31 H S
              refine OL.nil ?_
              clear HS_2; obtain ⟨HS_2, H⟩ := H
              refine ⟨fun _ => by rw [S.heap]; exact HS_2, ?_⟩
              refine BN.effs [5, 9] (by kernel_rfl) rfl ⟨⟨_, rfl, ?_⟩, ⟨_, rfl, ?_⟩, trivial⟩
              · replace H := H.1
                refine ol_appS S H Try.underlying22 ti3 rfl rfl rfl trivial ?_
                clear S H aa; intro s50 aa ww h32 H S
                refine OL.nil ?_
                clear HS_2; obtain ⟨HS_2, H⟩ := H
                refine ⟨fun _ => by rw [S.heap]; exact HS_2, ?_⟩
                refine BN.effs [7, 9] (by kernel_rfl) rfl ⟨⟨_, rfl, ?_⟩, ⟨_, rfl, ?_⟩, trivial⟩
                · replace H := H.1
                  refine ol_appS S H Try.underlying22 ti3 rfl rfl rfl trivial ?_
                  clear S H aa; intro s52 aa ww h33 H S
                  refine OL.nil ?_
                  clear HS_2; obtain ⟨HS_2, H⟩ := H
                  refine ⟨fun _ => by rw [S.heap]; exact HS_2, ?_⟩
                  refine BN.pure 8 S (fun _ => HS_2) rfl (by kernel_rfl) (by kernel_rfl) (fun _ => Lf.run_build (cs := #[Value.int .i64 x46, Value.slice s52.a s52.n s52.c]) pl24 ti24 (parts_map S rfl) (by kernel_rfl)) rfl rfl trivial ?_
                  clear S; intro aa S
                  refine BN.eff 9 rfl (by kernel_rfl) ?_
                  refine ol_alloc S H ti24 rfl rfl trivial ?_
                  clear S H aa; intro p8 aa ww h34 H S
                  refine OL.nil ?_
                  clear HS_2; obtain ⟨HS_2, H⟩ := H
                  refine ⟨fun _ => by rw [S.heap]; exact HS_2, ?_⟩
                  refine BN.eff 10 rfl (by kernel_rfl) ?_
                  refine ol_stoA S H rfl rfl ti24 trivial ?_
                  clear S H aa; intro aa ww h35 H S
                  refine OL.nil ?_
                  refine ⟨noNeed (by kernel_rfl), ?_⟩
                  refine BN.done (by kernel_rfl) ?_
                  exact ⟨p8, h35, S.sub _ ⟨rfl, rfl, rfl, rfl, trivial⟩, H⟩
                · replace H := H.2
                  refine ol_alloc S H ti24 rfl rfl trivial ?_
                  clear S H aa; intro p8_1 aa ww h36 H S
                  refine OL.nil ?_
                  clear HS_2; obtain ⟨HS_2, H⟩ := H
                  refine ⟨fun _ => by rw [S.heap]; exact HS_2, ?_⟩
                  refine BN.eff 7 rfl (by kernel_rfl) ?_
                  refine ol_appS S H Try.underlying22 ti3 rfl rfl rfl trivial ?_
                  clear S H aa; intro s52_1 aa ww h37 H S
                  refine OL.nil ?_
                  clear HS_2; obtain ⟨HS_2, H⟩ := H
                  refine ⟨fun _ => by rw [S.heap]; exact HS_2, ?_⟩
                  refine BN.pure 8 S (fun _ => HS_2) rfl (by kernel_rfl) (by kernel_rfl) (fun _ => Lf.run_build (cs := #[Value.int .i64 x46, Value.slice s52_1.a s52_1.n s52_1.c]) pl24 ti24 (parts_map S rfl) (by kernel_rfl)) rfl rfl trivial ?_
                  clear S; intro aa S
                  refine BN.eff 10 rfl (by kernel_rfl) ?_
                  refine ol_stoA S H rfl rfl ti24 trivial ?_
                  clear S H aa; intro aa ww h38 H S
                  refine OL.nil ?_
                  refine ⟨noNeed (by kernel_rfl), ?_⟩
                  refine BN.done (by kernel_rfl) ?_
                  exact ⟨p8_1, h38, S.sub _ ⟨rfl, rfl, rfl, rfl, trivial⟩, H⟩
              · replace H := H.2
                refine ol_alloc S H ti24 rfl rfl trivial ?_
                clear S H aa; intro p8_2 aa ww h39 H S
                refine OL.nil ?_
                clear HS_2; obtain ⟨HS_2, H⟩ := H
                refine ⟨fun _ => by rw [S.heap]; exact HS_2, ?_⟩
                refine BN.eff 5 rfl (by kernel_rfl) ?_
                refine ol_appS S H Try.underlying22 ti3 rfl rfl rfl trivial ?_
                clear S H aa; intro s50_1 aa ww h40 H S
                refine OL.nil ?_
                clear HS_2; obtain ⟨HS_2, H⟩ := H
                refine ⟨fun _ => by rw [S.heap]; exact HS_2, ?_⟩
                refine BN.eff 7 rfl (by kernel_rfl) ?_
                refine ol_appS S H Try.underlying22 ti3 rfl rfl rfl trivial ?_
                clear S H aa; intro s52_2 aa ww h41 H S
                refine OL.nil ?_
                clear HS_2; obtain ⟨HS_2, H⟩ := H
                refine ⟨fun _ => by rw [S.heap]; exact HS_2, ?_⟩
                refine BN.pure 8 S (fun _ => HS_2) rfl (by kernel_rfl) (by kernel_rfl) (fun _ => Lf.run_build (cs := #[Value.int .i64 x46, Value.slice s52_2.a s52_2.n s52_2.c]) pl24 ti24 (parts_map S rfl) (by kernel_rfl)) rfl rfl trivial ?_
                clear S; intro aa S
                refine BN.eff 10 rfl (by kernel_rfl) ?_
                refine ol_stoA S H rfl rfl ti24 trivial ?_
                clear S H aa; intro aa ww h42 H S
                refine OL.nil ?_
                refine ⟨noNeed (by kernel_rfl), ?_⟩
                refine BN.done (by kernel_rfl) ?_
                exact ⟨p8_2, h42, S.sub _ ⟨rfl, rfl, rfl, rfl, trivial⟩, H⟩
            · replace H := H.2
              refine ol_alloc S H ti24 rfl rfl trivial ?_
              clear S H aa; intro p8_3 aa ww h43 H S
              refine OL.nil ?_
              clear HS_2; obtain ⟨HS_2, H⟩ := H
              refine ⟨fun _ => by rw [S.heap]; exact HS_2, ?_⟩
              refine BN.eff 2 rfl (by kernel_rfl) ?_
              refine ol_newS0 S H Try.underlying22 ti3 rfl rfl trivial ?_
              clear S H aa; intro s47_1 aa ww h44 H S
              refine OL.nil ?_
              clear HS_2; obtain ⟨HS_2, H⟩ := H
              refine ⟨fun _ => by rw [S.heap]; exact HS_2, ?_⟩
              refine BN.eff 5 rfl (by kernel_rfl) ?_
              refine ol_appS S H Try.underlying22 ti3 rfl rfl rfl trivial ?_
              clear S H aa; intro s50_2 aa ww h45 H S
              refine OL.nil ?_
              clear HS_2; obtain ⟨HS_2, H⟩ := H
              refine ⟨fun _ => by rw [S.heap]; exact HS_2, ?_⟩
              refine BN.eff 7 rfl (by kernel_rfl) ?_
              refine ol_appS S H Try.underlying22 ti3 rfl rfl rfl trivial ?_
              clear S H aa; intro s52_3 aa ww h46 H S
              refine OL.nil ?_
              clear HS_2; obtain ⟨HS_2, H⟩ := H
              refine ⟨fun _ => by rw [S.heap]; exact HS_2, ?_⟩
              refine BN.pure 8 S (fun _ => HS_2) rfl (by kernel_rfl) (by kernel_rfl) (fun _ => Lf.run_build (cs := #[Value.int .i64 x46, Value.slice s52_3.a s52_3.n s52_3.c]) pl24 ti24 (parts_map S rfl) (by kernel_rfl)) rfl rfl trivial ?_
              clear S; intro aa S
              refine BN.eff 10 rfl (by kernel_rfl) ?_
              refine ol_stoA S H rfl rfl ti24 trivial ?_
              clear S H aa; intro aa ww h47 H S
              refine OL.nil ?_
              refine ⟨noNeed (by kernel_rfl), ?_⟩
              refine BN.done (by kernel_rfl) ?_
              exact ⟨p8_3, h47, S.sub _ ⟨rfl, rfl, rfl, rfl, trivial⟩, H⟩
          · clear H S aa
            rintro aa ww ⟨d8, h48, S, HJ⟩
            have H := HK_3 _ _ HJ
            clear HK_3 HJ
            refine W.seq ?_
            replace S := S.sub [(3, Value.pointer (some a3)), (4, Value.pointer (some b4)), (7, Value.pointer (some c7)), (8, Value.pointer (some d8))] ⟨rfl, rfl, rfl, rfl, trivial⟩
            obtain ⟨J_4, H, HK_4⟩ := H
            refine W.mono (N' := fun aa ww => ∃ x2 h73, St 82 [(2, Value.bool x2)] h73 w0 aa ww ∧ J_4 x2 h73) ?_ ?_
            · obtain ⟨Sq_3, HS_3, H⟩ := H
              refine W.regionN [23, 24] [2, 6, 12, 17, 22, 25] Sq_3 S (by kernel_rfl) ?_
              clear S; intro ww S
              obtain ⟨y54, y54_1, c_156, c_157, H⟩ := H
              refine BN.load 0 S (fun _ => HS_3) rfl (by kernel_rfl) (by kernel_rfl) (fun _ hx => Lf.run_ldA (cs := [Value.int .i64 y54, Value.slice y54_1.a y54_1.n y54_1.c]) (S.ev rfl) ag24 ti24 (hx.row (S.row ⟨c_156, c_157, trivial⟩))) rfl rfl trivial ?_
              clear S; intro aa S
              obtain ⟨y55, y55_1, c_154, c_155, H⟩ := H
              refine BN.load 1 S (fun _ => HS_3) rfl (by kernel_rfl) (by kernel_rfl) (fun _ hx => Lf.run_ldA (cs := [Value.int .i64 y55, Value.slice y55_1.a y55_1.n y55_1.c]) (S.ev rfl) ag24 ti24 (hx.row (S.row ⟨c_154, c_155, trivial⟩))) rfl rfl trivial ?_
              clear S; intro aa S
              refine BN.eff 2 rfl (by kernel_rfl) ?_
              refine ol_cal S H isfn8 rfl rfl trivial ?_
              clear S H aa; intro u_2 aa ww h49 H S
              obtain ⟨x56, rfl, H⟩ := H
              refine OL.nil ?_
              clear HS_3; obtain ⟨HS_3, H⟩ := H
              refine ⟨fun _ => by rw [S.heap]; exact HS_3, ?_⟩
              refine BN.pure 3 S (fun _ => HS_3) rfl (by kernel_rfl) (by kernel_rfl) (fun _ => Lf.run_move (S.ev rfl)) rfl rfl trivial ?_
              clear S; intro aa S
              rcases Bool.eq_false_or_eq_true x56 with hb_2 | hb_2
              · replace H := H.1 hb_2
                refine BN.not 4 S (fun _ => HS_3) rfl (by kernel_rfl) (by kernel_rfl) rfl rfl (GNo.mk rfl rfl hb_2) ?_
                clear S; intro aa S
                refine BN.not 5 S (fun _ => HS_3) rfl (by kernel_rfl) (by kernel_rfl) rfl rfl (GNo.mk rfl rfl hb_2) ?_
                clear S; intro aa S
                refine BN.eff 6 rfl (by kernel_rfl) ?_
                refine OL.not S rfl rfl (GNo.mk rfl rfl hb_2) ?_
                clear S; intro aa S
                refine OL.nil ?_
                refine ⟨fun _ => by rw [S.heap]; exact HS_3, ?_⟩
                refine BN.not 7 S (fun _ => HS_3) rfl (by kernel_rfl) (by kernel_rfl) rfl rfl (GNo.mk rfl rfl hb_2) ?_
                clear S; intro aa S
                refine BN.pure 8 S (fun _ => HS_3) rfl (by kernel_rfl) (by kernel_rfl) (fun _ => run_pickT (S.ev rfl) hb_2 (S.ev rfl)) rfl rfl trivial ?_
                clear S; intro aa S
                refine BN.pure 9 S (fun _ => HS_3) rfl (by kernel_rfl) (by kernel_rfl) (fun _ => Lf.run_move (S.ev rfl)) rfl rfl trivial ?_
                clear S; intro aa S
                rcases Bool.eq_false_or_eq_true true with hb_10 | hb_10
                · replace H := H.1 hb_10
                  obtain ⟨y64_2, y64_3, c_122, c_123, H⟩ := H
                  refine BN.load 10 S (fun _ => HS_3) rfl (by kernel_rfl) (by kernel_rfl) (fun _ hx => Lf.run_ldA (cs := [Value.int .i64 y64_2, Value.slice y64_3.a y64_3.n y64_3.c]) (S.ev rfl) ag24 ti24 (hx.row (S.row ⟨c_122, c_123, trivial⟩))) rfl rfl (GOk.mk rfl rfl hb_10) ?_
                  clear S; intro aa S
                  obtain ⟨y65_2, y65_3, c_120, c_121, H⟩ := H
                  refine BN.load 11 S (fun _ => HS_3) rfl (by kernel_rfl) (by kernel_rfl) (fun _ hx => Lf.run_ldA (cs := [Value.int .i64 y65_2, Value.slice y65_3.a y65_3.n y65_3.c]) (S.ev rfl) ag24 ti24 (hx.row (S.row ⟨c_120, c_121, trivial⟩))) rfl rfl (GOk.mk rfl rfl hb_10) ?_
                  clear S; intro aa S
                  refine BN.eff 12 rfl (by kernel_rfl) ?_
                  refine ol_cal S H isfn8 rfl rfl (GOk.mk rfl rfl hb_10) ?_
                  clear S H aa; intro u_15 aa ww h62 H S
                  obtain ⟨x66_1, rfl, H⟩ := H
                  refine OL.nil ?_
                  clear HS_3; obtain ⟨HS_3, H⟩ := H
                  refine ⟨fun _ => by rw [S.heap]; exact HS_3, ?_⟩
                  refine BN.pure 13 S (fun _ => HS_3) rfl (by kernel_rfl) (by kernel_rfl) (fun _ => run_pickT (S.ev rfl) hb_10 (S.ev rfl)) rfl rfl trivial ?_
                  clear S; intro aa S
                  refine BN.pure 14 S (fun _ => HS_3) rfl (by kernel_rfl) (by kernel_rfl) (fun _ => Lf.run_move (S.ev rfl)) rfl rfl trivial ?_
                  clear S; intro aa S
                  rcases Bool.eq_false_or_eq_true x66_1 with hb_11 | hb_11
                  · replace H := H.1 hb_11
                    obtain ⟨y69_4, y69_5, c_106, c_107, H⟩ := H
                    refine BN.load 15 S (fun _ => HS_3) rfl (by kernel_rfl) (by kernel_rfl) (fun _ hx => Lf.run_ldA (cs := [Value.int .i64 y69_4, Value.slice y69_5.a y69_5.n y69_5.c]) (S.ev rfl) ag24 ti24 (hx.row (S.row ⟨c_106, c_107, trivial⟩))) rfl rfl (GOk.mk rfl rfl hb_11) ?_
                    clear S; intro aa S
                    obtain ⟨y70_4, y70_5, c_104, c_105, H⟩ := H
                    refine BN.load 16 S (fun _ => HS_3) rfl (by kernel_rfl) (by kernel_rfl) (fun _ hx => Lf.run_ldA (cs := [Value.int .i64 y70_4, Value.slice y70_5.a y70_5.n y70_5.c]) (S.ev rfl) ag24 ti24 (hx.row (S.row ⟨c_104, c_105, trivial⟩))) rfl rfl (GOk.mk rfl rfl hb_11) ?_
                    clear S; intro aa S
                    refine BN.eff 17 rfl (by kernel_rfl) ?_
                    refine ol_cal S H isfn8 rfl rfl (GOk.mk rfl rfl hb_11) ?_
                    clear S H aa; intro u_16 aa ww h63 H S
                    obtain ⟨x71_2, rfl, H⟩ := H
                    refine OL.nil ?_
                    clear HS_3; obtain ⟨HS_3, H⟩ := H
                    refine ⟨fun _ => by rw [S.heap]; exact HS_3, ?_⟩
                    refine BN.pure 18 S (fun _ => HS_3) rfl (by kernel_rfl) (by kernel_rfl) (fun _ => run_pickT (S.ev rfl) hb_11 (S.ev rfl)) rfl rfl trivial ?_
                    clear S; intro aa S
                    refine BN.pure 19 S (fun _ => HS_3) rfl (by kernel_rfl) (by kernel_rfl) (fun _ => Lf.run_move (S.ev rfl)) rfl rfl trivial ?_
                    clear S; intro aa S
                    rcases Bool.eq_false_or_eq_true x71_2 with hb_12 | hb_12
                    · replace H := H.1 hb_12
                      obtain ⟨y74_8, y74_9, c_102, c_103, H⟩ := H
                      refine BN.load 20 S (fun _ => HS_3) rfl (by kernel_rfl) (by kernel_rfl) (fun _ hx => Lf.run_ldA (cs := [Value.int .i64 y74_8, Value.slice y74_9.a y74_9.n y74_9.c]) (S.ev rfl) ag24 ti24 (hx.row (S.row ⟨c_102, c_103, trivial⟩))) rfl rfl (GOk.mk rfl rfl hb_12) ?_
                      clear S; intro aa S
                      obtain ⟨y75_8, y75_9, c_100, c_101, H⟩ := H
                      refine BN.load 21 S (fun _ => HS_3) rfl (by kernel_rfl) (by kernel_rfl) (fun _ hx => Lf.run_ldA (cs := [Value.int .i64 y75_8, Value.slice y75_9.a y75_9.n y75_9.c]) (S.ev rfl) ag24 ti24 (hx.row (S.row ⟨c_100, c_101, trivial⟩))) rfl rfl (GOk.mk rfl rfl hb_12) ?_
                      clear S; intro aa S
                      clear HS_3; obtain ⟨Sq_8, HI_4, HS_3, H⟩ := H
                      refine BN.stronger HI_4 ?_
                      obtain ⟨y77_8, y77_9, c_98, c_99, H⟩ := H
                      refine BN.held 23 S HS_3 rfl (by kernel_rfl) (fun _ hq => Lf.run_ldA (cs := [Value.int .i64 y77_8, Value.slice y77_9.a y77_9.n y77_9.c]) (S.ev rfl) ag24 ti24 (hlRow hq fun h_ hs_ => ⟨c_98 h_ hs_, c_99 h_ hs_, trivial⟩)) rfl rfl (GOk.mk rfl rfl hb_12) ?_
                      clear S; intro aa S
                      obtain ⟨y78_8, y78_9, c_96, c_97, H⟩ := H
                      refine BN.held 24 S HS_3 rfl (by kernel_rfl) (fun _ hq => Lf.run_ldA (cs := [Value.int .i64 y78_8, Value.slice y78_9.a y78_9.n y78_9.c]) (S.ev rfl) ag24 ti24 (hlRow hq fun h_ hs_ => ⟨c_96 h_ hs_, c_97 h_ hs_, trivial⟩)) rfl rfl (GOk.mk rfl rfl hb_12) ?_
                      clear S; intro aa S
                      refine BN.eff 22 rfl (by kernel_rfl) ?_
                      refine ol_cal S H isfn8 rfl rfl (GOk.mk rfl rfl hb_12) ?_
                      clear S H aa; intro u_17 aa ww h64 H S
                      obtain ⟨x76_4, rfl, H⟩ := H
                      refine OL.nil ?_
                      clear HS_3; obtain ⟨HS_3, H⟩ := H
                      refine ⟨fun _ => by rw [S.heap]; exact HS_3, ?_⟩
                      refine BN.eff 25 rfl (by kernel_rfl) ?_
                      refine ol_cal S H isfn8 rfl rfl (GOk.mk rfl rfl hb_12) ?_
                      clear S H aa; intro u_18 aa ww h65 H S
                      obtain ⟨x79_4, rfl, H⟩ := H
                      refine OL.nil ?_
                      refine ⟨noNeed (by kernel_rfl), ?_⟩
                      refine BN.pure 26 S (noNeed (by kernel_rfl)) rfl (by kernel_rfl) (by kernel_rfl) (fun _ => Lf.run_eqlb Try.underlying4 (S.ev rfl) (S.ev rfl)) rfl rfl (GOk.mk rfl rfl hb_12) ?_
                      clear S; intro aa S
                      refine BN.pure 27 S (noNeed (by kernel_rfl)) rfl (by kernel_rfl) (by kernel_rfl) (fun _ => run_pickT (S.ev rfl) hb_12 (S.ev rfl)) rfl rfl trivial ?_
                      clear S; intro aa S
                      refine BN.pure 28 S (noNeed (by kernel_rfl)) rfl (by kernel_rfl) (by kernel_rfl) (fun _ => Lf.run_assign (S.ev rfl)) rfl rfl trivial ?_
                      clear S; intro aa S
                      refine BN.done (by kernel_rfl) ?_
                      exact ⟨(x76_4 == x79_4), h65, S.sub _ ⟨rfl, trivial⟩, H⟩
                    · replace H := H.2 hb_12
                      refine BN.not 20 S (fun _ => HS_3) rfl (by kernel_rfl) (by kernel_rfl) rfl rfl (GNo.mk rfl rfl hb_12) ?_
                      clear S; intro aa S
                      refine BN.not 21 S (fun _ => HS_3) rfl (by kernel_rfl) (by kernel_rfl) rfl rfl (GNo.mk rfl rfl hb_12) ?_
                      clear S; intro aa S
                      refine BN.not 23 S (fun _ => HS_3) rfl (by kernel_rfl) (by kernel_rfl) rfl rfl (GNo.mk rfl rfl hb_12) ?_
                      clear S; intro aa S
                      refine BN.not 24 S (fun _ => HS_3) rfl (by kernel_rfl) (by kernel_rfl) rfl rfl (GNo.mk rfl rfl hb_12) ?_
                      clear S; intro aa S
                      refine BN.eff 22 rfl (by kernel_rfl) ?_
                      refine OL.not S rfl rfl (GNo.mk rfl rfl hb_12) ?_
                      clear S; intro aa S
                      refine OL.nil ?_
                      refine ⟨fun _ => by rw [S.heap]; exact HS_3, ?_⟩
                      refine BN.eff 25 rfl (by kernel_rfl) ?_
                      refine OL.not S rfl rfl (GNo.mk rfl rfl hb_12) ?_
                      clear S; intro aa S
                      refine OL.nil ?_
                      refine ⟨noNeed (by kernel_rfl), ?_⟩
                      refine BN.not 26 S (noNeed (by kernel_rfl)) rfl (by kernel_rfl) (by kernel_rfl) rfl rfl (GNo.mk rfl rfl hb_12) ?_
                      clear S; intro aa S
                      refine BN.pure 27 S (noNeed (by kernel_rfl)) rfl (by kernel_rfl) (by kernel_rfl) (fun _ => run_pickF (S.ev rfl) hb_12 (S.ev rfl)) rfl rfl trivial ?_
                      clear S; intro aa S
                      refine BN.pure 28 S (noNeed (by kernel_rfl)) rfl (by kernel_rfl) (by kernel_rfl) (fun _ => Lf.run_assign (S.ev rfl)) rfl rfl trivial ?_
                      clear S; intro aa S
                      refine BN.done (by kernel_rfl) ?_
                      exact ⟨false, h63, S.sub _ ⟨rfl, trivial⟩, H⟩
                  · replace H := H.2 hb_11
                    refine BN.not 15 S (fun _ => HS_3) rfl (by kernel_rfl) (by kernel_rfl) rfl rfl (GNo.mk rfl rfl hb_11) ?_
                    clear S; intro aa S
                    refine BN.not 16 S (fun _ => HS_3) rfl (by kernel_rfl) (by kernel_rfl) rfl rfl (GNo.mk rfl rfl hb_11) ?_
                    clear S; intro aa S
                    refine BN.eff 17 rfl (by kernel_rfl) ?_
                    refine OL.not S rfl rfl (GNo.mk rfl rfl hb_11) ?_
                    clear S; intro aa S
                    refine OL.nil ?_
                    refine ⟨fun _ => by rw [S.heap]; exact HS_3, ?_⟩
                    refine BN.pure 18 S (fun _ => HS_3) rfl (by kernel_rfl) (by kernel_rfl) (fun _ => run_pickF (S.ev rfl) hb_11 (S.ev rfl)) rfl rfl trivial ?_
                    clear S; intro aa S
                    refine BN.pure 19 S (fun _ => HS_3) rfl (by kernel_rfl) (by kernel_rfl) (fun _ => Lf.run_move (S.ev rfl)) rfl rfl trivial ?_
                    clear S; intro aa S
                    rcases Bool.eq_false_or_eq_true false with hb_13 | hb_13
                    · replace H := H.1 hb_13
                      obtain ⟨y74_10, y74_11, c_118, c_119, H⟩ := H
                      refine BN.load 20 S (fun _ => HS_3) rfl (by kernel_rfl) (by kernel_rfl) (fun _ hx => Lf.run_ldA (cs := [Value.int .i64 y74_10, Value.slice y74_11.a y74_11.n y74_11.c]) (S.ev rfl) ag24 ti24 (hx.row (S.row ⟨c_118, c_119, trivial⟩))) rfl rfl (GOk.mk rfl rfl hb_13) ?_
                      clear S; intro aa S
                      obtain ⟨y75_10, y75_11, c_116, c_117, H⟩ := H
                      refine BN.load 21 S (fun _ => HS_3) rfl (by kernel_rfl) (by kernel_rfl) (fun _ hx => Lf.run_ldA (cs := [Value.int .i64 y75_10, Value.slice y75_11.a y75_11.n y75_11.c]) (S.ev rfl) ag24 ti24 (hx.row (S.row ⟨c_116, c_117, trivial⟩))) rfl rfl (GOk.mk rfl rfl hb_13) ?_
                      clear S; intro aa S
                      clear HS_3; obtain ⟨Sq_9, HI_5, HS_3, H⟩ := H
                      refine BN.stronger HI_5 ?_
                      obtain ⟨y77_10, y77_11, c_114, c_115, H⟩ := H
                      refine BN.held 23 S HS_3 rfl (by kernel_rfl) (fun _ hq => Lf.run_ldA (cs := [Value.int .i64 y77_10, Value.slice y77_11.a y77_11.n y77_11.c]) (S.ev rfl) ag24 ti24 (hlRow hq fun h_ hs_ => ⟨c_114 h_ hs_, c_115 h_ hs_, trivial⟩)) rfl rfl (GOk.mk rfl rfl hb_13) ?_
                      clear S; intro aa S
                      obtain ⟨y78_10, y78_11, c_112, c_113, H⟩ := H
                      refine BN.held 24 S HS_3 rfl (by kernel_rfl) (fun _ hq => Lf.run_ldA (cs := [Value.int .i64 y78_10, Value.slice y78_11.a y78_11.n y78_11.c]) (S.ev rfl) ag24 ti24 (hlRow hq fun h_ hs_ => ⟨c_112 h_ hs_, c_113 h_ hs_, trivial⟩)) rfl rfl (GOk.mk rfl rfl hb_13) ?_
                      clear S; intro aa S
                      refine BN.eff 22 rfl (by kernel_rfl) ?_
                      refine ol_cal S H isfn8 rfl rfl (GOk.mk rfl rfl hb_13) ?_
                      clear S H aa; intro u_19 aa ww h66 H S
                      obtain ⟨x76_5, rfl, H⟩ := H
                      refine OL.nil ?_
                      clear HS_3; obtain ⟨HS_3, H⟩ := H
                      refine ⟨fun _ => by rw [S.heap]; exact HS_3, ?_⟩
                      refine BN.eff 25 rfl (by kernel_rfl) ?_
                      refine ol_cal S H isfn8 rfl rfl (GOk.mk rfl rfl hb_13) ?_
                      clear S H aa; intro u_20 aa ww h67 H S
                      obtain ⟨x79_5, rfl, H⟩ := H
                      refine OL.nil ?_
                      refine ⟨noNeed (by kernel_rfl), ?_⟩
                      refine BN.pure 26 S (noNeed (by kernel_rfl)) rfl (by kernel_rfl) (by kernel_rfl) (fun _ => Lf.run_eqlb Try.underlying4 (S.ev rfl) (S.ev rfl)) rfl rfl (GOk.mk rfl rfl hb_13) ?_
                      clear S; intro aa S
                      refine BN.pure 27 S (noNeed (by kernel_rfl)) rfl (by kernel_rfl) (by kernel_rfl) (fun _ => run_pickT (S.ev rfl) hb_13 (S.ev rfl)) rfl rfl trivial ?_
                      clear S; intro aa S
                      refine BN.pure 28 S (noNeed (by kernel_rfl)) rfl (by kernel_rfl) (by kernel_rfl) (fun _ => Lf.run_assign (S.ev rfl)) rfl rfl trivial ?_
                      clear S; intro aa S
                      refine BN.done (by kernel_rfl) ?_
                      exact ⟨(x76_5 == x79_5), h67, S.sub _ ⟨rfl, trivial⟩, H⟩
                    · replace H := H.2 hb_13
                      refine BN.not 20 S (fun _ => HS_3) rfl (by kernel_rfl) (by kernel_rfl) rfl rfl (GNo.mk rfl rfl hb_13) ?_
                      clear S; intro aa S
                      refine BN.not 21 S (fun _ => HS_3) rfl (by kernel_rfl) (by kernel_rfl) rfl rfl (GNo.mk rfl rfl hb_13) ?_
                      clear S; intro aa S
                      refine BN.not 23 S (fun _ => HS_3) rfl (by kernel_rfl) (by kernel_rfl) rfl rfl (GNo.mk rfl rfl hb_13) ?_
                      clear S; intro aa S
                      refine BN.not 24 S (fun _ => HS_3) rfl (by kernel_rfl) (by kernel_rfl) rfl rfl (GNo.mk rfl rfl hb_13) ?_
                      clear S; intro aa S
                      refine BN.eff 22 rfl (by kernel_rfl) ?_
                      refine OL.not S rfl rfl (GNo.mk rfl rfl hb_13) ?_
                      clear S; intro aa S
                      refine OL.nil ?_
                      refine ⟨fun _ => by rw [S.heap]; exact HS_3, ?_⟩
                      refine BN.eff 25 rfl (by kernel_rfl) ?_
                      refine OL.not S rfl rfl (GNo.mk rfl rfl hb_13) ?_
                      clear S; intro aa S
                      refine OL.nil ?_
                      refine ⟨noNeed (by kernel_rfl), ?_⟩
                      refine BN.not 26 S (noNeed (by kernel_rfl)) rfl (by kernel_rfl) (by kernel_rfl) rfl rfl (GNo.mk rfl rfl hb_13) ?_
                      clear S; intro aa S
                      refine BN.pure 27 S (noNeed (by kernel_rfl)) rfl (by kernel_rfl) (by kernel_rfl) (fun _ => run_pickF (S.ev rfl) hb_13 (S.ev rfl)) rfl rfl trivial ?_
                      clear S; intro aa S
                      refine BN.pure 28 S (noNeed (by kernel_rfl)) rfl (by kernel_rfl) (by kernel_rfl) (fun _ => Lf.run_assign (S.ev rfl)) rfl rfl trivial ?_
                      clear S; intro aa S
                      refine BN.done (by kernel_rfl) ?_
                      exact ⟨false, h62, S.sub _ ⟨rfl, trivial⟩, H⟩
                · replace H := H.2 hb_10
                  refine BN.not 10 S (fun _ => HS_3) rfl (by kernel_rfl) (by kernel_rfl) rfl rfl (GNo.mk rfl rfl hb_10) ?_
                  clear S; intro aa S
                  refine BN.not 11 S (fun _ => HS_3) rfl (by kernel_rfl) (by kernel_rfl) rfl rfl (GNo.mk rfl rfl hb_10) ?_
                  clear S; intro aa S
                  refine BN.eff 12 rfl (by kernel_rfl) ?_
                  refine OL.not S rfl rfl (GNo.mk rfl rfl hb_10) ?_
                  clear S; intro aa S
                  refine OL.nil ?_
                  refine ⟨fun _ => by rw [S.heap]; exact HS_3, ?_⟩
                  refine BN.pure 13 S (fun _ => HS_3) rfl (by kernel_rfl) (by kernel_rfl) (fun _ => run_pickF (S.ev rfl) hb_10 (S.ev rfl)) rfl rfl trivial ?_
                  clear S; intro aa S
                  refine BN.pure 14 S (fun _ => HS_3) rfl (by kernel_rfl) (by kernel_rfl) (fun _ => Lf.run_move (S.ev rfl)) rfl rfl trivial ?_
                  clear S; intro aa S
                  rcases Bool.eq_false_or_eq_true false with hb_14 | hb_14
                  · replace H := H.1 hb_14
                    obtain ⟨y69_6, y69_7, c_140, c_141, H⟩ := H
                    refine BN.load 15 S (fun _ => HS_3) rfl (by kernel_rfl) (by kernel_rfl) (fun _ hx => Lf.run_ldA (cs := [Value.int .i64 y69_6, Value.slice y69_7.a y69_7.n y69_7.c]) (S.ev rfl) ag24 ti24 (hx.row (S.row ⟨c_140, c_141, trivial⟩))) rfl rfl (GOk.mk rfl rfl hb_14) ?_
                    clear S; intro aa S
                    obtain ⟨y70_6, y70_7, c_138, c_139, H⟩ := H
                    refine BN.load 16 S (fun _ => HS_3) rfl (by kernel_rfl) (by kernel_rfl) (fun _ hx => Lf.run_ldA (cs := [Value.int .i64 y70_6, Value.slice y70_7.a y70_7.n y70_7.c]) (S.ev rfl) ag24 ti24 (hx.row (S.row ⟨c_138, c_139, trivial⟩))) rfl rfl (GOk.mk rfl rfl hb_14) ?_
                    clear S; intro aa S
                    refine BN.eff 17 rfl (by kernel_rfl) ?_
                    refine ol_cal S H isfn8 rfl rfl (GOk.mk rfl rfl hb_14) ?_
                    clear S H aa; intro u_21 aa ww h68 H S
                    obtain ⟨x71_3, rfl, H⟩ := H
                    refine OL.nil ?_
                    clear HS_3; obtain ⟨HS_3, H⟩ := H
                    refine ⟨fun _ => by rw [S.heap]; exact HS_3, ?_⟩
                    refine BN.pure 18 S (fun _ => HS_3) rfl (by kernel_rfl) (by kernel_rfl) (fun _ => run_pickT (S.ev rfl) hb_14 (S.ev rfl)) rfl rfl trivial ?_
                    clear S; intro aa S
                    refine BN.pure 19 S (fun _ => HS_3) rfl (by kernel_rfl) (by kernel_rfl) (fun _ => Lf.run_move (S.ev rfl)) rfl rfl trivial ?_
                    clear S; intro aa S
                    rcases Bool.eq_false_or_eq_true x71_3 with hb_15 | hb_15
                    · replace H := H.1 hb_15
                      obtain ⟨y74_12, y74_13, c_136, c_137, H⟩ := H
                      refine BN.load 20 S (fun _ => HS_3) rfl (by kernel_rfl) (by kernel_rfl) (fun _ hx => Lf.run_ldA (cs := [Value.int .i64 y74_12, Value.slice y74_13.a y74_13.n y74_13.c]) (S.ev rfl) ag24 ti24 (hx.row (S.row ⟨c_136, c_137, trivial⟩))) rfl rfl (GOk.mk rfl rfl hb_15) ?_
                      clear S; intro aa S
                      obtain ⟨y75_12, y75_13, c_134, c_135, H⟩ := H
                      refine BN.load 21 S (fun _ => HS_3) rfl (by kernel_rfl) (by kernel_rfl) (fun _ hx => Lf.run_ldA (cs := [Value.int .i64 y75_12, Value.slice y75_13.a y75_13.n y75_13.c]) (S.ev rfl) ag24 ti24 (hx.row (S.row ⟨c_134, c_135, trivial⟩))) rfl rfl (GOk.mk rfl rfl hb_15) ?_
                      clear S; intro aa S
                      clear HS_3; obtain ⟨Sq_10, HI_6, HS_3, H⟩ := H
                      refine BN.stronger HI_6 ?_
                      obtain ⟨y77_12, y77_13, c_132, c_133, H⟩ := H
                      refine BN.held 23 S HS_3 rfl (by kernel_rfl) (fun _ hq => Lf.run_ldA (cs := [Value.int .i64 y77_12, Value.slice y77_13.a y77_13.n y77_13.c]) (S.ev rfl) ag24 ti24 (hlRow hq fun h_ hs_ => ⟨c_132 h_ hs_, c_133 h_ hs_, trivial⟩)) rfl rfl (GOk.mk rfl rfl hb_15) ?_
                      clear S; intro aa S
                      obtain ⟨y78_12, y78_13, c_130, c_131, H⟩ := H
                      refine BN.held 24 S HS_3 rfl (by kernel_rfl) (fun _ hq => Lf.run_ldA (cs := [Value.int .i64 y78_12, Value.slice y78_13.a y78_13.n y78_13.c]) (S.ev rfl) ag24 ti24 (hlRow hq fun h_ hs_ => ⟨c_130 h_ hs_, c_131 h_ hs_, trivial⟩)) rfl rfl (GOk.mk rfl rfl hb_15) ?_
                      clear S; intro aa S
                      refine BN.eff 22 rfl (by kernel_rfl) ?_
                      refine ol_cal S H isfn8 rfl rfl (GOk.mk rfl rfl hb_15) ?_
                      clear S H aa; intro u_22 aa ww h69 H S
                      obtain ⟨x76_6, rfl, H⟩ := H
                      refine OL.nil ?_
                      clear HS_3; obtain ⟨HS_3, H⟩ := H
                      refine ⟨fun _ => by rw [S.heap]; exact HS_3, ?_⟩
                      refine BN.eff 25 rfl (by kernel_rfl) ?_
                      refine ol_cal S H isfn8 rfl rfl (GOk.mk rfl rfl hb_15) ?_
                      clear S H aa; intro u_23 aa ww h70 H S
                      obtain ⟨x79_6, rfl, H⟩ := H
                      refine OL.nil ?_
                      refine ⟨noNeed (by kernel_rfl), ?_⟩
                      refine BN.pure 26 S (noNeed (by kernel_rfl)) rfl (by kernel_rfl) (by kernel_rfl) (fun _ => Lf.run_eqlb Try.underlying4 (S.ev rfl) (S.ev rfl)) rfl rfl (GOk.mk rfl rfl hb_15) ?_
                      clear S; intro aa S
                      refine BN.pure 27 S (noNeed (by kernel_rfl)) rfl (by kernel_rfl) (by kernel_rfl) (fun _ => run_pickT (S.ev rfl) hb_15 (S.ev rfl)) rfl rfl trivial ?_
                      clear S; intro aa S
                      refine BN.pure 28 S (noNeed (by kernel_rfl)) rfl (by kernel_rfl) (by kernel_rfl) (fun _ => Lf.run_assign (S.ev rfl)) rfl rfl trivial ?_
                      clear S; intro aa S
                      refine BN.done (by kernel_rfl) ?_
                      exact ⟨(x76_6 == x79_6), h70, S.sub _ ⟨rfl, trivial⟩, H⟩
                    · replace H := H.2 hb_15
                      refine BN.not 20 S (fun _ => HS_3) rfl (by kernel_rfl) (by kernel_rfl) rfl rfl (GNo.mk rfl rfl hb_15) ?_
                      clear S; intro aa S
                      refine BN.not 21 S (fun _ => HS_3) rfl (by kernel_rfl) (by kernel_rfl) rfl rfl (GNo.mk rfl rfl hb_15) ?_
                      clear S; intro aa S
                      refine BN.not 23 S (fun _ => HS_3) rfl (by kernel_rfl) (by kernel_rfl) rfl rfl (GNo.mk rfl rfl hb_15) ?_
                      clear S; intro aa S
                      refine BN.not 24 S (fun _ => HS_3) rfl (by kernel_rfl) (by kernel_rfl) rfl rfl (GNo.mk rfl rfl hb_15) ?_
                      clear S; intro aa S
                      refine BN.eff 22 rfl (by kernel_rfl) ?_
                      refine OL.not S rfl rfl (GNo.mk rfl rfl hb_15) ?_
                      clear S; intro aa S
                      refine OL.nil ?_
                      refine ⟨fun _ => by rw [S.heap]; exact HS_3, ?_⟩
                      refine BN.eff 25 rfl (by kernel_rfl) ?_
                      refine OL.not S rfl rfl (GNo.mk rfl rfl hb_15) ?_
                      clear S; intro aa S
                      refine OL.nil ?_
                      refine ⟨noNeed (by kernel_rfl), ?_⟩
                      refine BN.not 26 S (noNeed (by kernel_rfl)) rfl (by kernel_rfl) (by kernel_rfl) rfl rfl (GNo.mk rfl rfl hb_15) ?_
                      clear S; intro aa S
                      refine BN.pure 27 S (noNeed (by kernel_rfl)) rfl (by kernel_rfl) (by kernel_rfl) (fun _ => run_pickF (S.ev rfl) hb_15 (S.ev rfl)) rfl rfl trivial ?_
                      clear S; intro aa S
                      refine BN.pure 28 S (noNeed (by kernel_rfl)) rfl (by kernel_rfl) (by kernel_rfl) (fun _ => Lf.run_assign (S.ev rfl)) rfl rfl trivial ?_
                      clear S; intro aa S
                      refine BN.done (by kernel_rfl) ?_
                      exact ⟨false, h68, S.sub _ ⟨rfl, trivial⟩, H⟩
                  · replace H := H.2 hb_14
                    refine BN.not 15 S (fun _ => HS_3) rfl (by kernel_rfl) (by kernel_rfl) rfl rfl (GNo.mk rfl rfl hb_14) ?_
                    clear S; intro aa S
                    refine BN.not 16 S (fun _ => HS_3) rfl (by kernel_rfl) (by kernel_rfl) rfl rfl (GNo.mk rfl rfl hb_14) ?_
                    clear S; intro aa S
                    refine BN.eff 17 rfl (by kernel_rfl) ?_
                    refine OL.not S rfl rfl (GNo.mk rfl rfl hb_14) ?_
                    clear S; intro aa S
                    refine OL.nil ?_
                    refine ⟨fun _ => by rw [S.heap]; exact HS_3, ?_⟩
                    refine BN.pure 18 S (fun _ => HS_3) rfl (by kernel_rfl) (by kernel_rfl) (fun _ => run_pickF (S.ev rfl) hb_14 (S.ev rfl)) rfl rfl trivial ?_
                    clear S; intro aa S
                    refine BN.pure 19 S (fun _ => HS_3) rfl (by kernel_rfl) (by kernel_rfl) (fun _ => Lf.run_move (S.ev rfl)) rfl rfl trivial ?_
                    clear S; intro aa S
                    rcases Bool.eq_false_or_eq_true false with hb_16 | hb_16
                    · replace H := H.1 hb_16
                      obtain ⟨y74_14, y74_15, c_152, c_153, H⟩ := H
                      refine BN.load 20 S (fun _ => HS_3) rfl (by kernel_rfl) (by kernel_rfl) (fun _ hx => Lf.run_ldA (cs := [Value.int .i64 y74_14, Value.slice y74_15.a y74_15.n y74_15.c]) (S.ev rfl) ag24 ti24 (hx.row (S.row ⟨c_152, c_153, trivial⟩))) rfl rfl (GOk.mk rfl rfl hb_16) ?_
                      clear S; intro aa S
                      obtain ⟨y75_14, y75_15, c_150, c_151, H⟩ := H
                      refine BN.load 21 S (fun _ => HS_3) rfl (by kernel_rfl) (by kernel_rfl) (fun _ hx => Lf.run_ldA (cs := [Value.int .i64 y75_14, Value.slice y75_15.a y75_15.n y75_15.c]) (S.ev rfl) ag24 ti24 (hx.row (S.row ⟨c_150, c_151, trivial⟩))) rfl rfl (GOk.mk rfl rfl hb_16) ?_
                      clear S; intro aa S
                      clear HS_3; obtain ⟨Sq_11, HI_7, HS_3, H⟩ := H
                      refine BN.stronger HI_7 ?_
                      obtain ⟨y77_14, y77_15, c_148, c_149, H⟩ := H
                      refine BN.held 23 S HS_3 rfl (by kernel_rfl) (fun _ hq => Lf.run_ldA (cs := [Value.int .i64 y77_14, Value.slice y77_15.a y77_15.n y77_15.c]) (S.ev rfl) ag24 ti24 (hlRow hq fun h_ hs_ => ⟨c_148 h_ hs_, c_149 h_ hs_, trivial⟩)) rfl rfl (GOk.mk rfl rfl hb_16) ?_
                      clear S; intro aa S
                      obtain ⟨y78_14, y78_15, c_146, c_147, H⟩ := H
                      refine BN.held 24 S HS_3 rfl (by kernel_rfl) (fun _ hq => Lf.run_ldA (cs := [Value.int .i64 y78_14, Value.slice y78_15.a y78_15.n y78_15.c]) (S.ev rfl) ag24 ti24 (hlRow hq fun h_ hs_ => ⟨c_146 h_ hs_, c_147 h_ hs_, trivial⟩)) rfl rfl (GOk.mk rfl rfl hb_16) ?_
                      clear S; intro aa S
                      refine BN.eff 22 rfl (by kernel_rfl) ?_
                      refine ol_cal S H isfn8 rfl rfl (GOk.mk rfl rfl hb_16) ?_
                      clear S H aa; intro u_24 aa ww h71 H S
                      obtain ⟨x76_7, rfl, H⟩ := H
                      refine OL.nil ?_
                      clear HS_3; obtain ⟨HS_3, H⟩ := H
                      refine ⟨fun _ => by rw [S.heap]; exact HS_3, ?_⟩
                      refine BN.eff 25 rfl (by kernel_rfl) ?_
                      refine ol_cal S H isfn8 rfl rfl (GOk.mk rfl rfl hb_16) ?_
                      clear S H aa; intro u_25 aa ww h72 H S
                      obtain ⟨x79_7, rfl, H⟩ := H
                      refine OL.nil ?_
                      refine ⟨noNeed (by kernel_rfl), ?_⟩
                      refine BN.pure 26 S (noNeed (by kernel_rfl)) rfl (by kernel_rfl) (by kernel_rfl) (fun _ => Lf.run_eqlb Try.underlying4 (S.ev rfl) (S.ev rfl)) rfl rfl (GOk.mk rfl rfl hb_16) ?_
                      clear S; intro aa S
                      refine BN.pure 27 S (noNeed (by kernel_rfl)) rfl (by kernel_rfl) (by kernel_rfl) (fun _ => run_pickT (S.ev rfl) hb_16 (S.ev rfl)) rfl rfl trivial ?_
                      clear S; intro aa S
                      refine BN.pure 28 S (noNeed (by kernel_rfl)) rfl (by kernel_rfl) (by kernel_rfl) (fun _ => Lf.run_assign (S.ev rfl)) rfl rfl trivial ?_
                      clear S; intro aa S
                      refine BN.done (by kernel_rfl) ?_
                      exact ⟨(x76_7 == x79_7), h72, S.sub _ ⟨rfl, trivial⟩, H⟩
                    · replace H := H.2 hb_16
                      refine BN.not 20 S (fun _ => HS_3) rfl (by kernel_rfl) (by kernel_rfl) rfl rfl (GNo.mk rfl rfl hb_16) ?_
                      clear S; intro aa S
                      refine BN.not 21 S (fun _ => HS_3) rfl (by kernel_rfl) (by kernel_rfl) rfl rfl (GNo.mk rfl rfl hb_16) ?_
                      clear S; intro aa S
                      refine BN.not 23 S (fun _ => HS_3) rfl (by kernel_rfl) (by kernel_rfl) rfl rfl (GNo.mk rfl rfl hb_16) ?_
                      clear S; intro aa S
                      refine BN.not 24 S (fun _ => HS_3) rfl (by kernel_rfl) (by kernel_rfl) rfl rfl (GNo.mk rfl rfl hb_16) ?_
                      clear S; intro aa S
                      refine BN.eff 22 rfl (by kernel_rfl) ?_
                      refine OL.not S rfl rfl (GNo.mk rfl rfl hb_16) ?_
                      clear S; intro aa S
                      refine OL.nil ?_
                      refine ⟨fun _ => by rw [S.heap]; exact HS_3, ?_⟩
                      refine BN.eff 25 rfl (by kernel_rfl) ?_
                      refine OL.not S rfl rfl (GNo.mk rfl rfl hb_16) ?_
                      clear S; intro aa S
                      refine OL.nil ?_
                      refine ⟨noNeed (by kernel_rfl), ?_⟩
                      refine BN.not 26 S (noNeed (by kernel_rfl)) rfl (by kernel_rfl) (by kernel_rfl) rfl rfl (GNo.mk rfl rfl hb_16) ?_
                      clear S; intro aa S
                      refine BN.pure 27 S (noNeed (by kernel_rfl)) rfl (by kernel_rfl) (by kernel_rfl) (fun _ => run_pickF (S.ev rfl) hb_16 (S.ev rfl)) rfl rfl trivial ?_
                      clear S; intro aa S
                      refine BN.pure 28 S (noNeed (by kernel_rfl)) rfl (by kernel_rfl) (by kernel_rfl) (fun _ => Lf.run_assign (S.ev rfl)) rfl rfl trivial ?_
                      clear S; intro aa S
                      refine BN.done (by kernel_rfl) ?_
                      exact ⟨false, h49, S.sub _ ⟨rfl, trivial⟩, H⟩
              · replace H := H.2 hb_2
                obtain ⟨y58, y58_1, c_86, c_87, H⟩ := H
                refine BN.load 4 S (fun _ => HS_3) rfl (by kernel_rfl) (by kernel_rfl) (fun _ hx => Lf.run_ldA (cs := [Value.int .i64 y58, Value.slice y58_1.a y58_1.n y58_1.c]) (S.ev rfl) ag24 ti24 (hx.row (S.row ⟨c_86, c_87, trivial⟩))) rfl rfl (GOk.mk rfl rfl hb_2) ?_
                clear S; intro aa S
                obtain ⟨y59, y59_1, c_84, c_85, H⟩ := H
                refine BN.load 5 S (fun _ => HS_3) rfl (by kernel_rfl) (by kernel_rfl) (fun _ hx => Lf.run_ldA (cs := [Value.int .i64 y59, Value.slice y59_1.a y59_1.n y59_1.c]) (S.ev rfl) ag24 ti24 (hx.row (S.row ⟨c_84, c_85, trivial⟩))) rfl rfl (GOk.mk rfl rfl hb_2) ?_
                clear S; intro aa S
                refine BN.eff 6 rfl (by kernel_rfl) ?_
                refine ol_cal S H isfn8 rfl rfl (GOk.mk rfl rfl hb_2) ?_
                clear S H aa; intro u_3 aa ww h50 H S
                obtain ⟨x60, rfl, H⟩ := H
                refine OL.nil ?_
                clear HS_3; obtain ⟨HS_3, H⟩ := H
                refine ⟨fun _ => by rw [S.heap]; exact HS_3, ?_⟩
                refine BN.pure 7 S (fun _ => HS_3) rfl (by kernel_rfl) (by kernel_rfl) (fun _ => Lf.run_not (S.ev rfl)) rfl rfl (GOk.mk rfl rfl hb_2) ?_
                clear S; intro aa S
                refine BN.pure 8 S (fun _ => HS_3) rfl (by kernel_rfl) (by kernel_rfl) (fun _ => run_pickF (S.ev rfl) hb_2 (S.ev rfl)) rfl rfl trivial ?_
                clear S; intro aa S
                refine BN.pure 9 S (fun _ => HS_3) rfl (by kernel_rfl) (by kernel_rfl) (fun _ => Lf.run_move (S.ev rfl)) rfl rfl trivial ?_
                clear S; intro aa S
                rcases Bool.eq_false_or_eq_true (!x60) with hb_3 | hb_3
                · replace H := H.1 hb_3
                  obtain ⟨y64, y64_1, c_52, c_53, H⟩ := H
                  refine BN.load 10 S (fun _ => HS_3) rfl (by kernel_rfl) (by kernel_rfl) (fun _ hx => Lf.run_ldA (cs := [Value.int .i64 y64, Value.slice y64_1.a y64_1.n y64_1.c]) (S.ev rfl) ag24 ti24 (hx.row (S.row ⟨c_52, c_53, trivial⟩))) rfl rfl (GOk.mk rfl rfl hb_3) ?_
                  clear S; intro aa S
                  obtain ⟨y65, y65_1, c_50, c_51, H⟩ := H
                  refine BN.load 11 S (fun _ => HS_3) rfl (by kernel_rfl) (by kernel_rfl) (fun _ hx => Lf.run_ldA (cs := [Value.int .i64 y65, Value.slice y65_1.a y65_1.n y65_1.c]) (S.ev rfl) ag24 ti24 (hx.row (S.row ⟨c_50, c_51, trivial⟩))) rfl rfl (GOk.mk rfl rfl hb_3) ?_
                  clear S; intro aa S
                  refine BN.eff 12 rfl (by kernel_rfl) ?_
                  refine ol_cal S H isfn8 rfl rfl (GOk.mk rfl rfl hb_3) ?_
                  clear S H aa; intro u_4 aa ww h51 H S
                  obtain ⟨x66, rfl, H⟩ := H
                  refine OL.nil ?_
                  clear HS_3; obtain ⟨HS_3, H⟩ := H
                  refine ⟨fun _ => by rw [S.heap]; exact HS_3, ?_⟩
                  refine BN.pure 13 S (fun _ => HS_3) rfl (by kernel_rfl) (by kernel_rfl) (fun _ => run_pickT (S.ev rfl) hb_3 (S.ev rfl)) rfl rfl trivial ?_
                  clear S; intro aa S
                  refine BN.pure 14 S (fun _ => HS_3) rfl (by kernel_rfl) (by kernel_rfl) (fun _ => Lf.run_move (S.ev rfl)) rfl rfl trivial ?_
                  clear S; intro aa S
                  rcases Bool.eq_false_or_eq_true x66 with hb_4 | hb_4
                  · replace H := H.1 hb_4
                    obtain ⟨y69, y69_1, c_36, c_37, H⟩ := H
                    refine BN.load 15 S (fun _ => HS_3) rfl (by kernel_rfl) (by kernel_rfl) (fun _ hx => Lf.run_ldA (cs := [Value.int .i64 y69, Value.slice y69_1.a y69_1.n y69_1.c]) (S.ev rfl) ag24 ti24 (hx.row (S.row ⟨c_36, c_37, trivial⟩))) rfl rfl (GOk.mk rfl rfl hb_4) ?_
                    clear S; intro aa S
                    obtain ⟨y70, y70_1, c_34, c_35, H⟩ := H
                    refine BN.load 16 S (fun _ => HS_3) rfl (by kernel_rfl) (by kernel_rfl) (fun _ hx => Lf.run_ldA (cs := [Value.int .i64 y70, Value.slice y70_1.a y70_1.n y70_1.c]) (S.ev rfl) ag24 ti24 (hx.row (S.row ⟨c_34, c_35, trivial⟩))) rfl rfl (GOk.mk rfl rfl hb_4) ?_
                    clear S; intro aa S
                    refine BN.eff 17 rfl (by kernel_rfl) ?_
                    refine ol_cal S H isfn8 rfl rfl (GOk.mk rfl rfl hb_4) ?_
                    clear S H aa; intro u_5 aa ww h52 H S
                    obtain ⟨x71, rfl, H⟩ := H
                    refine OL.nil ?_
                    clear HS_3; obtain ⟨HS_3, H⟩ := H
                    refine ⟨fun _ => by rw [S.heap]; exact HS_3, ?_⟩
                    refine BN.pure 18 S (fun _ => HS_3) rfl (by kernel_rfl) (by kernel_rfl) (fun _ => run_pickT (S.ev rfl) hb_4 (S.ev rfl)) rfl rfl trivial ?_
                    clear S; intro aa S
                    refine BN.pure 19 S (fun _ => HS_3) rfl (by kernel_rfl) (by kernel_rfl) (fun _ => Lf.run_move (S.ev rfl)) rfl rfl trivial ?_
                    clear S; intro aa S
                    rcases Bool.eq_false_or_eq_true x71 with hb_5 | hb_5
                    · replace H := H.1 hb_5
                      obtain ⟨y74, y74_1, c_32, c_33, H⟩ := H
                      refine BN.load 20 S (fun _ => HS_3) rfl (by kernel_rfl) (by kernel_rfl) (fun _ hx => Lf.run_ldA (cs := [Value.int .i64 y74, Value.slice y74_1.a y74_1.n y74_1.c]) (S.ev rfl) ag24 ti24 (hx.row (S.row ⟨c_32, c_33, trivial⟩))) rfl rfl (GOk.mk rfl rfl hb_5) ?_
                      clear S; intro aa S
                      obtain ⟨y75, y75_1, c_30, c_31, H⟩ := H
                      refine BN.load 21 S (fun _ => HS_3) rfl (by kernel_rfl) (by kernel_rfl) (fun _ hx => Lf.run_ldA (cs := [Value.int .i64 y75, Value.slice y75_1.a y75_1.n y75_1.c]) (S.ev rfl) ag24 ti24 (hx.row (S.row ⟨c_30, c_31, trivial⟩))) rfl rfl (GOk.mk rfl rfl hb_5) ?_
                      clear S; intro aa S
                      clear HS_3; obtain ⟨Sq_4, HI, HS_3, H⟩ := H
                      refine BN.stronger HI ?_
                      obtain ⟨y77, y77_1, c_28, c_29, H⟩ := H
                      refine BN.held 23 S HS_3 rfl (by kernel_rfl) (fun _ hq => Lf.run_ldA (cs := [Value.int .i64 y77, Value.slice y77_1.a y77_1.n y77_1.c]) (S.ev rfl) ag24 ti24 (hlRow hq fun h_ hs_ => ⟨c_28 h_ hs_, c_29 h_ hs_, trivial⟩)) rfl rfl (GOk.mk rfl rfl hb_5) ?_
                      clear S; intro aa S
                      obtain ⟨y78, y78_1, c_26, c_27, H⟩ := H
                      refine BN.held 24 S HS_3 rfl (by kernel_rfl) (fun _ hq => Lf.run_ldA (cs := [Value.int .i64 y78, Value.slice y78_1.a y78_1.n y78_1.c]) (S.ev rfl) ag24 ti24 (hlRow hq fun h_ hs_ => ⟨c_26 h_ hs_, c_27 h_ hs_, trivial⟩)) rfl rfl (GOk.mk rfl rfl hb_5) ?_
                      clear S; intro aa S
                      refine BN.eff 22 rfl (by kernel_rfl) ?_
                      refine ol_cal S H isfn8 rfl rfl (GOk.mk rfl rfl hb_5) ?_
                      clear S H aa; intro u_6 aa ww h53 H S
                      obtain ⟨x76, rfl, H⟩ := H
                      refine OL.nil ?_
                      clear HS_3; obtain ⟨HS_3, H⟩ := H
                      refine ⟨fun _ => by rw [S.heap]; exact HS_3, ?_⟩
                      refine BN.eff 25 rfl (by kernel_rfl) ?_
                      refine ol_cal S H isfn8 rfl rfl (GOk.mk rfl rfl hb_5) ?_
                      clear S H aa; intro u_7 aa ww h54 H S
                      obtain ⟨x79, rfl, H⟩ := H
                      refine OL.nil ?_
                      refine ⟨noNeed (by kernel_rfl), ?_⟩
                      refine BN.pure 26 S (noNeed (by kernel_rfl)) rfl (by kernel_rfl) (by kernel_rfl) (fun _ => Lf.run_eqlb Try.underlying4 (S.ev rfl) (S.ev rfl)) rfl rfl (GOk.mk rfl rfl hb_5) ?_
                      clear S; intro aa S
                      refine BN.pure 27 S (noNeed (by kernel_rfl)) rfl (by kernel_rfl) (by kernel_rfl) (fun _ => run_pickT (S.ev rfl) hb_5 (S.ev rfl)) rfl rfl trivial ?_
                      clear S; intro aa S
                      refine BN.pure 28 S (noNeed (by kernel_rfl)) rfl (by kernel_rfl) (by kernel_rfl) (fun _ => Lf.run_assign (S.ev rfl)) rfl rfl trivial ?_
                      clear S; intro aa S
                      refine BN.done (by kernel_rfl) ?_
                      exact ⟨(x76 == x79), h54, S.sub _ ⟨rfl, trivial⟩, H⟩
                    · replace H := H.2 hb_5
                      refine BN.not 20 S (fun _ => HS_3) rfl (by kernel_rfl) (by kernel_rfl) rfl rfl (GNo.mk rfl rfl hb_5) ?_
                      clear S; intro aa S
                      refine BN.not 21 S (fun _ => HS_3) rfl (by kernel_rfl) (by kernel_rfl) rfl rfl (GNo.mk rfl rfl hb_5) ?_
                      clear S; intro aa S
                      refine BN.not 23 S (fun _ => HS_3) rfl (by kernel_rfl) (by kernel_rfl) rfl rfl (GNo.mk rfl rfl hb_5) ?_
                      clear S; intro aa S
                      refine BN.not 24 S (fun _ => HS_3) rfl (by kernel_rfl) (by kernel_rfl) rfl rfl (GNo.mk rfl rfl hb_5) ?_
                      clear S; intro aa S
                      refine BN.eff 22 rfl (by kernel_rfl) ?_
                      refine OL.not S rfl rfl (GNo.mk rfl rfl hb_5) ?_
                      clear S; intro aa S
                      refine OL.nil ?_
                      refine ⟨fun _ => by rw [S.heap]; exact HS_3, ?_⟩
                      refine BN.eff 25 rfl (by kernel_rfl) ?_
                      refine OL.not S rfl rfl (GNo.mk rfl rfl hb_5) ?_
                      clear S; intro aa S
                      refine OL.nil ?_
                      refine ⟨noNeed (by kernel_rfl), ?_⟩
                      refine BN.not 26 S (noNeed (by kernel_rfl)) rfl (by kernel_rfl) (by kernel_rfl) rfl rfl (GNo.mk rfl rfl hb_5) ?_
                      clear S; intro aa S
                      refine BN.pure 27 S (noNeed (by kernel_rfl)) rfl (by kernel_rfl) (by kernel_rfl) (fun _ => run_pickF (S.ev rfl) hb_5 (S.ev rfl)) rfl rfl trivial ?_
                      clear S; intro aa S
                      refine BN.pure 28 S (noNeed (by kernel_rfl)) rfl (by kernel_rfl) (by kernel_rfl) (fun _ => Lf.run_assign (S.ev rfl)) rfl rfl trivial ?_
                      clear S; intro aa S
                      refine BN.done (by kernel_rfl) ?_
                      exact ⟨false, h52, S.sub _ ⟨rfl, trivial⟩, H⟩
                  · replace H := H.2 hb_4
                    refine BN.not 15 S (fun _ => HS_3) rfl (by kernel_rfl) (by kernel_rfl) rfl rfl (GNo.mk rfl rfl hb_4) ?_
                    clear S; intro aa S
                    refine BN.not 16 S (fun _ => HS_3) rfl (by kernel_rfl) (by kernel_rfl) rfl rfl (GNo.mk rfl rfl hb_4) ?_
                    clear S; intro aa S
                    refine BN.eff 17 rfl (by kernel_rfl) ?_
                    refine OL.not S rfl rfl (GNo.mk rfl rfl hb_4) ?_
                    clear S; intro aa S
                    refine OL.nil ?_
                    refine ⟨fun _ => by rw [S.heap]; exact HS_3, ?_⟩
                    refine BN.pure 18 S (fun _ => HS_3) rfl (by kernel_rfl) (by kernel_rfl) (fun _ => run_pickF (S.ev rfl) hb_4 (S.ev rfl)) rfl rfl trivial ?_
                    clear S; intro aa S
                    refine BN.pure 19 S (fun _ => HS_3) rfl (by kernel_rfl) (by kernel_rfl) (fun _ => Lf.run_move (S.ev rfl)) rfl rfl trivial ?_
                    clear S; intro aa S
                    rcases Bool.eq_false_or_eq_true false with hb_6 | hb_6
                    · replace H := H.1 hb_6
                      obtain ⟨y74_2, y74_3, c_48, c_49, H⟩ := H
                      refine BN.load 20 S (fun _ => HS_3) rfl (by kernel_rfl) (by kernel_rfl) (fun _ hx => Lf.run_ldA (cs := [Value.int .i64 y74_2, Value.slice y74_3.a y74_3.n y74_3.c]) (S.ev rfl) ag24 ti24 (hx.row (S.row ⟨c_48, c_49, trivial⟩))) rfl rfl (GOk.mk rfl rfl hb_6) ?_
                      clear S; intro aa S
                      obtain ⟨y75_2, y75_3, c_46, c_47, H⟩ := H
                      refine BN.load 21 S (fun _ => HS_3) rfl (by kernel_rfl) (by kernel_rfl) (fun _ hx => Lf.run_ldA (cs := [Value.int .i64 y75_2, Value.slice y75_3.a y75_3.n y75_3.c]) (S.ev rfl) ag24 ti24 (hx.row (S.row ⟨c_46, c_47, trivial⟩))) rfl rfl (GOk.mk rfl rfl hb_6) ?_
                      clear S; intro aa S
                      clear HS_3; obtain ⟨Sq_5, HI_1, HS_3, H⟩ := H
                      refine BN.stronger HI_1 ?_
                      obtain ⟨y77_2, y77_3, c_44, c_45, H⟩ := H
                      refine BN.held 23 S HS_3 rfl (by kernel_rfl) (fun _ hq => Lf.run_ldA (cs := [Value.int .i64 y77_2, Value.slice y77_3.a y77_3.n y77_3.c]) (S.ev rfl) ag24 ti24 (hlRow hq fun h_ hs_ => ⟨c_44 h_ hs_, c_45 h_ hs_, trivial⟩)) rfl rfl (GOk.mk rfl rfl hb_6) ?_
                      clear S; intro aa S
                      obtain ⟨y78_2, y78_3, c_42, c_43, H⟩ := H
                      refine BN.held 24 S HS_3 rfl (by kernel_rfl) (fun _ hq => Lf.run_ldA (cs := [Value.int .i64 y78_2, Value.slice y78_3.a y78_3.n y78_3.c]) (S.ev rfl) ag24 ti24 (hlRow hq fun h_ hs_ => ⟨c_42 h_ hs_, c_43 h_ hs_, trivial⟩)) rfl rfl (GOk.mk rfl rfl hb_6) ?_
                      clear S; intro aa S
                      refine BN.eff 22 rfl (by kernel_rfl) ?_
                      refine ol_cal S H isfn8 rfl rfl (GOk.mk rfl rfl hb_6) ?_
                      clear S H aa; intro u_8 aa ww h55 H S
                      obtain ⟨x76_1, rfl, H⟩ := H
                      refine OL.nil ?_
                      clear HS_3; obtain ⟨HS_3, H⟩ := H
                      refine ⟨fun _ => by rw [S.heap]; exact HS_3, ?_⟩
                      refine BN.eff 25 rfl (by kernel_rfl) ?_
                      refine ol_cal S H isfn8 rfl rfl (GOk.mk rfl rfl hb_6) ?_
                      clear S H aa; intro u_9 aa ww h56 H S
                      obtain ⟨x79_1, rfl, H⟩ := H
                      refine OL.nil ?_
                      refine ⟨noNeed (by kernel_rfl), ?_⟩
                      refine BN.pure 26 S (noNeed (by kernel_rfl)) rfl (by kernel_rfl) (by kernel_rfl) (fun _ => Lf.run_eqlb Try.underlying4 (S.ev rfl) (S.ev rfl)) rfl rfl (GOk.mk rfl rfl hb_6) ?_
                      clear S; intro aa S
                      refine BN.pure 27 S (noNeed (by kernel_rfl)) rfl (by kernel_rfl) (by kernel_rfl) (fun _ => run_pickT (S.ev rfl) hb_6 (S.ev rfl)) rfl rfl trivial ?_
                      clear S; intro aa S
                      refine BN.pure 28 S (noNeed (by kernel_rfl)) rfl (by kernel_rfl) (by kernel_rfl) (fun _ => Lf.run_assign (S.ev rfl)) rfl rfl trivial ?_
                      clear S; intro aa S
                      refine BN.done (by kernel_rfl) ?_
                      exact ⟨(x76_1 == x79_1), h56, S.sub _ ⟨rfl, trivial⟩, H⟩
                    · replace H := H.2 hb_6
                      refine BN.not 20 S (fun _ => HS_3) rfl (by kernel_rfl) (by kernel_rfl) rfl rfl (GNo.mk rfl rfl hb_6) ?_
                      clear S; intro aa S
                      refine BN.not 21 S (fun _ => HS_3) rfl (by kernel_rfl) (by kernel_rfl) rfl rfl (GNo.mk rfl rfl hb_6) ?_
                      clear S; intro aa S
                      refine BN.not 23 S (fun _ => HS_3) rfl (by kernel_rfl) (by kernel_rfl) rfl rfl (GNo.mk rfl rfl hb_6) ?_
                      clear S; intro aa S
                      refine BN.not 24 S (fun _ => HS_3) rfl (by kernel_rfl) (by kernel_rfl) rfl rfl (GNo.mk rfl rfl hb_6) ?_
                      clear S; intro aa S
                      refine BN.eff 22 rfl (by kernel_rfl) ?_
                      refine OL.not S rfl rfl (GNo.mk rfl rfl hb_6) ?_
                      clear S; intro aa S
                      refine OL.nil ?_
                      refine ⟨fun _ => by rw [S.heap]; exact HS_3, ?_⟩
                      refine BN.eff 25 rfl (by kernel_rfl) ?_
                      refine OL.not S rfl rfl (GNo.mk rfl rfl hb_6) ?_
                      clear S; intro aa S
                      refine OL.nil ?_
                      refine ⟨noNeed (by kernel_rfl), ?_⟩
                      refine BN.not 26 S (noNeed (by kernel_rfl)) rfl (by kernel_rfl) (by kernel_rfl) rfl rfl (GNo.mk rfl rfl hb_6) ?_
                      clear S; intro aa S
                      refine BN.pure 27 S (noNeed (by kernel_rfl)) rfl (by kernel_rfl) (by kernel_rfl) (fun _ => run_pickF (S.ev rfl) hb_6 (S.ev rfl)) rfl rfl trivial ?_
                      clear S; intro aa S
                      refine BN.pure 28 S (noNeed (by kernel_rfl)) rfl (by kernel_rfl) (by kernel_rfl) (fun _ => Lf.run_assign (S.ev rfl)) rfl rfl trivial ?_
                      clear S; intro aa S
                      refine BN.done (by kernel_rfl) ?_
                      exact ⟨false, h51, S.sub _ ⟨rfl, trivial⟩, H⟩
                · replace H := H.2 hb_3
                  refine BN.not 10 S (fun _ => HS_3) rfl (by kernel_rfl) (by kernel_rfl) rfl rfl (GNo.mk rfl rfl hb_3) ?_
                  clear S; intro aa S
                  refine BN.not 11 S (fun _ => HS_3) rfl (by kernel_rfl) (by kernel_rfl) rfl rfl (GNo.mk rfl rfl hb_3) ?_
                  clear S; intro aa S
                  refine BN.eff 12 rfl (by kernel_rfl) ?_
                  refine OL.not S rfl rfl (GNo.mk rfl rfl hb_3) ?_
                  clear S; intro aa S
                  refine OL.nil ?_
                  refine ⟨fun _ => by rw [S.heap]; exact HS_3, ?_⟩
                  refine BN.pure 13 S (fun _ => HS_3) rfl (by kernel_rfl) (by kernel_rfl) (fun _ => run_pickF (S.ev rfl) hb_3 (S.ev rfl)) rfl rfl trivial ?_
                  clear S; intro aa S
                  refine BN.pure 14 S (fun _ => HS_3) rfl (by kernel_rfl) (by kernel_rfl) (fun _ => Lf.run_move (S.ev rfl)) rfl rfl trivial ?_
                  clear S; intro aa S
                  rcases Bool.eq_false_or_eq_true false with hb_7 | hb_7
                  · replace H := H.1 hb_7
                    obtain ⟨y69_2, y69_3, c_70, c_71, H⟩ := H
                    refine BN.load 15 S (fun _ => HS_3) rfl (by kernel_rfl) (by kernel_rfl) (fun _ hx => Lf.run_ldA (cs := [Value.int .i64 y69_2, Value.slice y69_3.a y69_3.n y69_3.c]) (S.ev rfl) ag24 ti24 (hx.row (S.row ⟨c_70, c_71, trivial⟩))) rfl rfl (GOk.mk rfl rfl hb_7) ?_
                    clear S; intro aa S
                    obtain ⟨y70_2, y70_3, c_68, c_69, H⟩ := H
                    refine BN.load 16 S (fun _ => HS_3) rfl (by kernel_rfl) (by kernel_rfl) (fun _ hx => Lf.run_ldA (cs := [Value.int .i64 y70_2, Value.slice y70_3.a y70_3.n y70_3.c]) (S.ev rfl) ag24 ti24 (hx.row (S.row ⟨c_68, c_69, trivial⟩))) rfl rfl (GOk.mk rfl rfl hb_7) ?_
                    clear S; intro aa S
                    refine BN.eff 17 rfl (by kernel_rfl) ?_
                    refine ol_cal S H isfn8 rfl rfl (GOk.mk rfl rfl hb_7) ?_
                    clear S H aa; intro u_10 aa ww h57 H S
                    obtain ⟨x71_1, rfl, H⟩ := H
                    refine OL.nil ?_
                    clear HS_3; obtain ⟨HS_3, H⟩ := H
                    refine ⟨fun _ => by rw [S.heap]; exact HS_3, ?_⟩
                    refine BN.pure 18 S (fun _ => HS_3) rfl (by kernel_rfl) (by kernel_rfl) (fun _ => run_pickT (S.ev rfl) hb_7 (S.ev rfl)) rfl rfl trivial ?_
                    clear S; intro aa S
                    refine BN.pure 19 S (fun _ => HS_3) rfl (by kernel_rfl) (by kernel_rfl) (fun _ => Lf.run_move (S.ev rfl)) rfl rfl trivial ?_
                    clear S; intro aa S
                    rcases Bool.eq_false_or_eq_true x71_1 with hb_8 | hb_8
                    · replace H := H.1 hb_8
                      obtain ⟨y74_4, y74_5, c_66, c_67, H⟩ := H
                      refine BN.load 20 S (fun _ => HS_3) rfl (by kernel_rfl) (by kernel_rfl) (fun _ hx => Lf.run_ldA (cs := [Value.int .i64 y74_4, Value.slice y74_5.a y74_5.n y74_5.c]) (S.ev rfl) ag24 ti24 (hx.row (S.row ⟨c_66, c_67, trivial⟩))) rfl rfl (GOk.mk rfl rfl hb_8) ?_
                      clear S; intro aa S
                      obtain ⟨y75_4, y75_5, c_64, c_65, H⟩ := H
                      refine BN.load 21 S (fun _ => HS_3) rfl (by kernel_rfl) (by kernel_rfl) (fun _ hx => Lf.run_ldA (cs := [Value.int .i64 y75_4, Value.slice y75_5.a y75_5.n y75_5.c]) (S.ev rfl) ag24 ti24 (hx.row (S.row ⟨c_64, c_65, trivial⟩))) rfl rfl (GOk.mk rfl rfl hb_8) ?_
                      clear S; intro aa S
                      clear HS_3; obtain ⟨Sq_6, HI_2, HS_3, H⟩ := H
                      refine BN.stronger HI_2 ?_
                      obtain ⟨y77_4, y77_5, c_62, c_63, H⟩ := H
                      refine BN.held 23 S HS_3 rfl (by kernel_rfl) (fun _ hq => Lf.run_ldA (cs := [Value.int .i64 y77_4, Value.slice y77_5.a y77_5.n y77_5.c]) (S.ev rfl) ag24 ti24 (hlRow hq fun h_ hs_ => ⟨c_62 h_ hs_, c_63 h_ hs_, trivial⟩)) rfl rfl (GOk.mk rfl rfl hb_8) ?_
                      clear S; intro aa S
                      obtain ⟨y78_4, y78_5, c_60, c_61, H⟩ := H
                      refine BN.held 24 S HS_3 rfl (by kernel_rfl) (fun _ hq => Lf.run_ldA (cs := [Value.int .i64 y78_4, Value.slice y78_5.a y78_5.n y78_5.c]) (S.ev rfl) ag24 ti24 (hlRow hq fun h_ hs_ => ⟨c_60 h_ hs_, c_61 h_ hs_, trivial⟩)) rfl rfl (GOk.mk rfl rfl hb_8) ?_
                      clear S; intro aa S
                      refine BN.eff 22 rfl (by kernel_rfl) ?_
                      refine ol_cal S H isfn8 rfl rfl (GOk.mk rfl rfl hb_8) ?_
                      clear S H aa; intro u_11 aa ww h58 H S
                      obtain ⟨x76_2, rfl, H⟩ := H
                      refine OL.nil ?_
                      clear HS_3; obtain ⟨HS_3, H⟩ := H
                      refine ⟨fun _ => by rw [S.heap]; exact HS_3, ?_⟩
                      refine BN.eff 25 rfl (by kernel_rfl) ?_
                      refine ol_cal S H isfn8 rfl rfl (GOk.mk rfl rfl hb_8) ?_
                      clear S H aa; intro u_12 aa ww h59 H S
                      obtain ⟨x79_2, rfl, H⟩ := H
                      refine OL.nil ?_
                      refine ⟨noNeed (by kernel_rfl), ?_⟩
                      refine BN.pure 26 S (noNeed (by kernel_rfl)) rfl (by kernel_rfl) (by kernel_rfl) (fun _ => Lf.run_eqlb Try.underlying4 (S.ev rfl) (S.ev rfl)) rfl rfl (GOk.mk rfl rfl hb_8) ?_
                      clear S; intro aa S
                      refine BN.pure 27 S (noNeed (by kernel_rfl)) rfl (by kernel_rfl) (by kernel_rfl) (fun _ => run_pickT (S.ev rfl) hb_8 (S.ev rfl)) rfl rfl trivial ?_
                      clear S; intro aa S
                      refine BN.pure 28 S (noNeed (by kernel_rfl)) rfl (by kernel_rfl) (by kernel_rfl) (fun _ => Lf.run_assign (S.ev rfl)) rfl rfl trivial ?_
                      clear S; intro aa S
                      refine BN.done (by kernel_rfl) ?_
                      exact ⟨(x76_2 == x79_2), h59, S.sub _ ⟨rfl, trivial⟩, H⟩
                    · replace H := H.2 hb_8
                      refine BN.not 20 S (fun _ => HS_3) rfl (by kernel_rfl) (by kernel_rfl) rfl rfl (GNo.mk rfl rfl hb_8) ?_
                      clear S; intro aa S
                      refine BN.not 21 S (fun _ => HS_3) rfl (by kernel_rfl) (by kernel_rfl) rfl rfl (GNo.mk rfl rfl hb_8) ?_
                      clear S; intro aa S
                      refine BN.not 23 S (fun _ => HS_3) rfl (by kernel_rfl) (by kernel_rfl) rfl rfl (GNo.mk rfl rfl hb_8) ?_
                      clear S; intro aa S
                      refine BN.not 24 S (fun _ => HS_3) rfl (by kernel_rfl) (by kernel_rfl) rfl rfl (GNo.mk rfl rfl hb_8) ?_
                      clear S; intro aa S
                      refine BN.eff 22 rfl (by kernel_rfl) ?_
                      refine OL.not S rfl rfl (GNo.mk rfl rfl hb_8) ?_
                      clear S; intro aa S
                      refine OL.nil ?_
                      refine ⟨fun _ => by rw [S.heap]; exact HS_3, ?_⟩
                      refine BN.eff 25 rfl (by kernel_rfl) ?_
                      refine OL.not S rfl rfl (GNo.mk rfl rfl hb_8) ?_
                      clear S; intro aa S
                      refine OL.nil ?_
                      refine ⟨noNeed (by kernel_rfl), ?_⟩
                      refine BN.not 26 S (noNeed (by kernel_rfl)) rfl (by kernel_rfl) (by kernel_rfl) rfl rfl (GNo.mk rfl rfl hb_8) ?_
                      clear S; intro aa S
                      refine BN.pure 27 S (noNeed (by kernel_rfl)) rfl (by kernel_rfl) (by kernel_rfl) (fun _ => run_pickF (S.ev rfl) hb_8 (S.ev rfl)) rfl rfl trivial ?_
                      clear S; intro aa S
                      refine BN.pure 28 S (noNeed (by kernel_rfl)) rfl (by kernel_rfl) (by kernel_rfl) (fun _ => Lf.run_assign (S.ev rfl)) rfl rfl trivial ?_
                      clear S; intro aa S
                      refine BN.done (by kernel_rfl) ?_
                      exact ⟨false, h57, S.sub _ ⟨rfl, trivial⟩, H⟩
                  · replace H := H.2 hb_7
                    refine BN.not 15 S (fun _ => HS_3) rfl (by kernel_rfl) (by kernel_rfl) rfl rfl (GNo.mk rfl rfl hb_7) ?_
                    clear S; intro aa S
                    refine BN.not 16 S (fun _ => HS_3) rfl (by kernel_rfl) (by kernel_rfl) rfl rfl (GNo.mk rfl rfl hb_7) ?_
                    clear S; intro aa S
                    refine BN.eff 17 rfl (by kernel_rfl) ?_
                    refine OL.not S rfl rfl (GNo.mk rfl rfl hb_7) ?_
                    clear S; intro aa S
                    refine OL.nil ?_
                    refine ⟨fun _ => by rw [S.heap]; exact HS_3, ?_⟩
                    refine BN.pure 18 S (fun _ => HS_3) rfl (by kernel_rfl) (by kernel_rfl) (fun _ => run_pickF (S.ev rfl) hb_7 (S.ev rfl)) rfl rfl trivial ?_
                    clear S; intro aa S
                    refine BN.pure 19 S (fun _ => HS_3) rfl (by kernel_rfl) (by kernel_rfl) (fun _ => Lf.run_move (S.ev rfl)) rfl rfl trivial ?_
                    clear S; intro aa S
                    rcases Bool.eq_false_or_eq_true false with hb_9 | hb_9
                    · replace H := H.1 hb_9
                      obtain ⟨y74_6, y74_7, c_82, c_83, H⟩ := H
                      refine BN.load 20 S (fun _ => HS_3) rfl (by kernel_rfl) (by kernel_rfl) (fun _ hx => Lf.run_ldA (cs := [Value.int .i64 y74_6, Value.slice y74_7.a y74_7.n y74_7.c]) (S.ev rfl) ag24 ti24 (hx.row (S.row ⟨c_82, c_83, trivial⟩))) rfl rfl (GOk.mk rfl rfl hb_9) ?_
                      clear S; intro aa S
                      obtain ⟨y75_6, y75_7, c_80, c_81, H⟩ := H
                      refine BN.load 21 S (fun _ => HS_3) rfl (by kernel_rfl) (by kernel_rfl) (fun _ hx => Lf.run_ldA (cs := [Value.int .i64 y75_6, Value.slice y75_7.a y75_7.n y75_7.c]) (S.ev rfl) ag24 ti24 (hx.row (S.row ⟨c_80, c_81, trivial⟩))) rfl rfl (GOk.mk rfl rfl hb_9) ?_
                      clear S; intro aa S
                      clear HS_3; obtain ⟨Sq_7, HI_3, HS_3, H⟩ := H
                      refine BN.stronger HI_3 ?_
                      obtain ⟨y77_6, y77_7, c_78, c_79, H⟩ := H
                      refine BN.held 23 S HS_3 rfl (by kernel_rfl) (fun _ hq => Lf.run_ldA (cs := [Value.int .i64 y77_6, Value.slice y77_7.a y77_7.n y77_7.c]) (S.ev rfl) ag24 ti24 (hlRow hq fun h_ hs_ => ⟨c_78 h_ hs_, c_79 h_ hs_, trivial⟩)) rfl rfl (GOk.mk rfl rfl hb_9) ?_
                      clear S; intro aa S
                      obtain ⟨y78_6, y78_7, c_76, c_77, H⟩ := H
                      refine BN.held 24 S HS_3 rfl (by kernel_rfl) (fun _ hq => Lf.run_ldA (cs := [Value.int .i64 y78_6, Value.slice y78_7.a y78_7.n y78_7.c]) (S.ev rfl) ag24 ti24 (hlRow hq fun h_ hs_ => ⟨c_76 h_ hs_, c_77 h_ hs_, trivial⟩)) rfl rfl (GOk.mk rfl rfl hb_9) ?_
                      clear S; intro aa S
                      refine BN.eff 22 rfl (by kernel_rfl) ?_
                      refine ol_cal S H isfn8 rfl rfl (GOk.mk rfl rfl hb_9) ?_
                      clear S H aa; intro u_13 aa ww h60 H S
                      obtain ⟨x76_3, rfl, H⟩ := H
                      refine OL.nil ?_
                      clear HS_3; obtain ⟨HS_3, H⟩ := H
                      refine ⟨fun _ => by rw [S.heap]; exact HS_3, ?_⟩
                      refine BN.eff 25 rfl (by kernel_rfl) ?_
                      refine ol_cal S H isfn8 rfl rfl (GOk.mk rfl rfl hb_9) ?_
                      clear S H aa; intro u_14 aa ww h61 H S
                      obtain ⟨x79_3, rfl, H⟩ := H
                      refine OL.nil ?_
                      refine ⟨noNeed (by kernel_rfl), ?_⟩
                      refine BN.pure 26 S (noNeed (by kernel_rfl)) rfl (by kernel_rfl) (by kernel_rfl) (fun _ => Lf.run_eqlb Try.underlying4 (S.ev rfl) (S.ev rfl)) rfl rfl (GOk.mk rfl rfl hb_9) ?_
                      clear S; intro aa S
                      refine BN.pure 27 S (noNeed (by kernel_rfl)) rfl (by kernel_rfl) (by kernel_rfl) (fun _ => run_pickT (S.ev rfl) hb_9 (S.ev rfl)) rfl rfl trivial ?_
                      clear S; intro aa S
                      refine BN.pure 28 S (noNeed (by kernel_rfl)) rfl (by kernel_rfl) (by kernel_rfl) (fun _ => Lf.run_assign (S.ev rfl)) rfl rfl trivial ?_
                      clear S; intro aa S
                      refine BN.done (by kernel_rfl) ?_
                      exact ⟨(x76_3 == x79_3), h61, S.sub _ ⟨rfl, trivial⟩, H⟩
                    · replace H := H.2 hb_9
                      refine BN.not 20 S (fun _ => HS_3) rfl (by kernel_rfl) (by kernel_rfl) rfl rfl (GNo.mk rfl rfl hb_9) ?_
                      clear S; intro aa S
                      refine BN.not 21 S (fun _ => HS_3) rfl (by kernel_rfl) (by kernel_rfl) rfl rfl (GNo.mk rfl rfl hb_9) ?_
                      clear S; intro aa S
                      refine BN.not 23 S (fun _ => HS_3) rfl (by kernel_rfl) (by kernel_rfl) rfl rfl (GNo.mk rfl rfl hb_9) ?_
                      clear S; intro aa S
                      refine BN.not 24 S (fun _ => HS_3) rfl (by kernel_rfl) (by kernel_rfl) rfl rfl (GNo.mk rfl rfl hb_9) ?_
                      clear S; intro aa S
                      refine BN.eff 22 rfl (by kernel_rfl) ?_
                      refine OL.not S rfl rfl (GNo.mk rfl rfl hb_9) ?_
                      clear S; intro aa S
                      refine OL.nil ?_
                      refine ⟨fun _ => by rw [S.heap]; exact HS_3, ?_⟩
                      refine BN.eff 25 rfl (by kernel_rfl) ?_
                      refine OL.not S rfl rfl (GNo.mk rfl rfl hb_9) ?_
                      clear S; intro aa S
                      refine OL.nil ?_
                      refine ⟨noNeed (by kernel_rfl), ?_⟩
                      refine BN.not 26 S (noNeed (by kernel_rfl)) rfl (by kernel_rfl) (by kernel_rfl) rfl rfl (GNo.mk rfl rfl hb_9) ?_
                      clear S; intro aa S
                      refine BN.pure 27 S (noNeed (by kernel_rfl)) rfl (by kernel_rfl) (by kernel_rfl) (fun _ => run_pickF (S.ev rfl) hb_9 (S.ev rfl)) rfl rfl trivial ?_
                      clear S; intro aa S
                      refine BN.pure 28 S (noNeed (by kernel_rfl)) rfl (by kernel_rfl) (by kernel_rfl) (fun _ => Lf.run_assign (S.ev rfl)) rfl rfl trivial ?_
                      clear S; intro aa S
                      refine BN.done (by kernel_rfl) ?_
                      exact ⟨false, h50, S.sub _ ⟨rfl, trivial⟩, H⟩
            · clear H S aa
              rintro aa ww ⟨x2, h73, S, HJ⟩
              have H := HK_4 _ _ HJ
              clear HK_4 HJ
              refine W.ret ?_
              exact Ret.one S rfl rfl H

/-- chattel chattellaw14.MirReaches -/
def L4 (b0 : ByteArray) (b0_1 : Int) (b0_2 : Sv) (b0_3 : Sv) (h : Heap) (R : Value → Heap → Prop) : Prop :=
  new 33 #[Value.string b0, Value.int .i64 b0_1, Value.slice b0_2.a b0_2.n b0_2.c, Value.slice b0_3.a b0_3.n b0_3.c] h fun p1 h1 =>
  cal Try.prog 7 #[] h1 fun u h2 => asB u fun x6 =>
  ∃ J : Bool → Heap → Prop, (orj (!x6) (fun k =>
    ∃ (y9 : ByteArray) (y9_1 : Int) (y9_2 : Sv) (y9_3 : Sv), cl h2 p1 = some (Value.string y9) ∧ cl h2 (p1.add 1) = some (Value.int .i64 y9_1) ∧ cl h2 (p1.add 2) = some (Value.slice y9_2.a y9_2.n y9_2.c) ∧ cl h2 (p1.add 3) = some (Value.slice y9_3.a y9_3.n y9_3.c) ∧
    cal Try.prog 9 #[Value.agg #[Value.string y9, Value.int .i64 y9_1, Value.slice y9_2.a y9_2.n y9_2.c, Value.slice y9_3.a y9_3.n y9_3.c], Value.int .i64 40, Value.int .i64 40] h2 fun u_1 h4 => asB u_1 fun x10 =>
    k (!x10) h4) h2 J) ∧ ∀ x12 h3, J x12 h3 →
  ifb x12 (
    cal Try.prog 7 #[] h3 fun u_2 h5 => asB u_2 fun x13 =>
    R (Value.bool x13) h5) (
    ∃ Sq : Heap → Prop, Sq h3 ∧ (
      hlS Sq (p1.add 3) fun x16 =>
      cal Try.prog 10 #[Value.pointer (some p1)] h3 fun u_3 h6 => asS u_3 fun x14 =>
      Sq h6 ∧
      cal Try.prog 11 #[Value.slice x16.a x16.n x16.c] h6 fun u_4 h7 => asS u_4 fun x17 =>
      ifb (((x14.n : Nat) : Int) != ((x17.n : Nat) : Int)) (
        R (Value.bool false) h7) (
        ∃ (I : Int → Prop) (m : Int → Nat), I 0 ∧ ∀ i5, I i5 →
        ifb (decide (i5 < ((x14.n : Nat) : Int))) (
          ixS x14 i5 fun q31 =>
          ldB h7 (q31.add ((i5 : Int).toNat * 1)) fun x32 =>
          ixS x17 i5 fun q35 =>
          ldI .i64 h7 (q35.add ((i5 : Int).toNat * 1)) fun x36 =>
          ifb (x32 != (decide (0 < x36))) (
            R (Value.bool false) h7) (
            I (IntKind.i64.wrap (i5 + 1)) ∧ m (IntKind.i64.wrap (i5 + 1)) < m i5)) (
          R (Value.bool true) h7))))

set_option maxRecDepth 100000 in

theorem F4 {b0 b0_1 b0_2 b0_3 h : _} {R : Value → Heap → Prop} (H : L4 b0 b0_1 b0_2 b0_3 h R) : CallsH Try.prog 4 #[Value.agg #[Value.string b0, Value.int .i64 b0_1, Value.slice b0_2.a b0_2.n b0_2.c, Value.slice b0_3.a b0_3.n b0_3.c]] h R := by
  refine CallsH.enter (n := 39) Try.func4 rfl rfl rfl rfl ?_
  intro w0 aa ww S
  unfold L4 at H
  refine W.seq ?_
  replace S := S.sub [(0, Value.agg #[Value.string b0, Value.int .i64 b0_1, Value.slice b0_2.a b0_2.n b0_2.c, Value.slice b0_3.a b0_3.n b0_3.c])] ⟨rfl, trivial⟩
  refine W.region ?_
  refine ol_box S H rfl rfl rfl trivial ?_
  clear S H aa; intro p1 aa ww h1 H S
  refine OL.pure S (Lf.run_assign (S.ev rfl)) rfl rfl trivial ?_
  clear S; intro aa S
  refine OL.nil ?_
  refine W.seq ?_
  refine W.seq ?_
  replace S := S.sub [(1, Value.pointer (some p1))] ⟨rfl, trivial⟩
  refine W.region ?_
  refine ol_cal S H isfn7 rfl rfl trivial ?_
  clear S H aa; intro u aa ww h2 H S
  obtain ⟨x6, rfl, H⟩ := H
  refine OL.pure S (Lf.run_not (S.ev rfl)) rfl rfl trivial ?_
  clear S; intro aa S
  refine OL.pure S (Lf.run_move (S.ev rfl)) rfl rfl trivial ?_
  clear S; intro aa S
  obtain ⟨J, H, HK⟩ := H
  refine OL.cutN 4 (fun aa ww => ∃ x12 h3, St 39 ((12, Value.bool x12) :: [(1, Value.pointer (some p1)), (6, Value.bool x6), (7, Value.bool (!x6)), (8, Value.bool (!x6))]) h3 w0 aa ww ∧ J x12 h3) ?_ ?_
  · rcases Bool.eq_false_or_eq_true (!x6) with hb | hb
    · replace H := H.1 hb
      refine OL.not S rfl rfl (GNo.mk rfl rfl hb) ?_
      clear S; intro aa S
      refine OL.not S rfl rfl (GNo.mk rfl rfl hb) ?_
      clear S; intro aa S
      refine OL.not S rfl rfl (GNo.mk rfl rfl hb) ?_
      clear S; intro aa S
      refine OL.pure S (Lf.run_pickT (S.ev rfl) hb (S.ev rfl)) rfl rfl trivial ?_
      clear S; intro aa S
      refine OL.nil ?_
      exact ⟨_, _, S.sub _ ⟨rfl, rfl, rfl, rfl, rfl, trivial⟩, H⟩
    · replace H := H.2 hb
      obtain ⟨y9, y9_1, y9_2, y9_3, c_1, c_2, c_3, c_4, H⟩ := H
      refine OL.pure S (Lf.run_ldA (cs := [Value.string y9, Value.int .i64 y9_1, Value.slice y9_2.a y9_2.n y9_2.c, Value.slice y9_3.a y9_3.n y9_3.c]) (S.ev rfl) ag33 ti33 (by rw [S.heap]; exact RowL.toRow ⟨c_1, c_2, c_3, c_4, trivial⟩)) rfl rfl (GOk.mk rfl rfl hb) ?_
      clear S; intro aa S
      refine ol_cal S H isfn9 rfl rfl (GOk.mk rfl rfl hb) ?_
      clear S H aa; intro u_1 aa ww h4 H S
      obtain ⟨x10, rfl, H⟩ := H
      refine OL.pure S (Lf.run_not (S.ev rfl)) rfl rfl (GOk.mk rfl rfl hb) ?_
      clear S; intro aa S
      refine OL.pure S (Lf.run_pickF (S.ev rfl) hb (S.ev rfl)) rfl rfl trivial ?_
      clear S; intro aa S
      refine OL.nil ?_
      exact ⟨_, _, S.sub _ ⟨rfl, rfl, rfl, rfl, rfl, trivial⟩, H⟩
  · clear S aa
    rintro aa ww ⟨x12, h3, S, HJ⟩
    replace H := HK _ _ HJ
    clear HK HJ
    refine OL.nil ?_
    refine W.cond S (b := x12) rfl (fun hb_1 => ?_) (fun hb_1 => ?_)
    · replace H := H.1 hb_1
      refine W.seq ?_
      replace S := S.sub [] trivial
      refine W.region ?_
      refine ol_cal S H isfn7 rfl rfl trivial ?_
      clear S H aa; intro u_2 aa ww h5 H S
      obtain ⟨x13, rfl, H⟩ := H
      refine OL.pure S (Lf.run_assign (S.ev rfl)) rfl rfl trivial ?_
      clear S; intro aa S
      refine OL.nil ?_
      refine W.ret ?_
      exact Ret.one S rfl rfl H
    · replace H := H.2 hb_1
      refine W.skip ?_
      refine W.seq ?_
      replace S := S.sub [(1, Value.pointer (some p1))] ⟨rfl, trivial⟩
      obtain ⟨Sq, HS, H⟩ := H
      refine W.regionN [2] [0, 3] Sq S (by kernel_rfl) ?_
      clear S; intro ww S
      refine BN.pure 1 S (fun _ => HS) rfl (by kernel_rfl) (by kernel_rfl) (fun _ => Lf.run_fa (S.ev rfl) fa33_3) rfl rfl trivial ?_
      clear S; intro aa S
      obtain ⟨x16, c_5, H⟩ := H
      refine BN.held 2 S HS rfl (by kernel_rfl) (fun _ hq => Lf.run_ld (S.ev rfl) fl31 (c_5 _ hq)) rfl rfl trivial ?_
      clear S; intro aa S
      refine BN.eff 0 rfl (by kernel_rfl) ?_
      refine ol_cal S H isfn10 rfl rfl trivial ?_
      clear S H aa; intro u_3 aa ww h6 H S
      obtain ⟨x14, rfl, H⟩ := H
      refine OL.nil ?_
      clear HS; obtain ⟨HS, H⟩ := H
      refine ⟨fun _ => by rw [S.heap]; exact HS, ?_⟩
      refine BN.eff 3 rfl (by kernel_rfl) ?_
      refine ol_cal S H isfn11 rfl rfl trivial ?_
      clear S H aa; intro u_4 aa ww h7 H S
      obtain ⟨x17, rfl, H⟩ := H
      refine OL.nil ?_
      refine ⟨noNeed (by kernel_rfl), ?_⟩
      refine BN.pure 4 S (noNeed (by kernel_rfl)) rfl (by kernel_rfl) (by kernel_rfl) (fun _ => Lf.run_assign (S.ev rfl)) rfl rfl trivial ?_
      clear S; intro aa S
      refine BN.pure 5 S (noNeed (by kernel_rfl)) rfl (by kernel_rfl) (by kernel_rfl) (fun _ => Lf.run_assign (S.ev rfl)) rfl rfl trivial ?_
      clear S; intro aa S
      refine BN.done (by kernel_rfl) ?_
      refine W.seq ?_
      refine W.seq ?_
      replace S := S.sub [(3, Value.slice x14.a x14.n x14.c), (4, Value.slice x17.a x17.n x17.c)] ⟨rfl, rfl, trivial⟩
      refine W.region ?_
      refine OL.pure S (Lf.run_move (S.ev rfl)) rfl rfl trivial ?_
      clear S; intro aa S
      refine OL.pure S (Lf.run_lens (S.ev rfl) rfl Try.underlying35) rfl rfl trivial ?_
      clear S; intro aa S
      refine OL.pure S (Lf.run_move (S.ev rfl)) rfl rfl trivial ?_
      clear S; intro aa S
      refine OL.pure S (Lf.run_lens (S.ev rfl) rfl Try.underlying22) rfl rfl trivial ?_
      clear S; intro aa S
      refine OL.pure S (Lf.run_neq (S.ev rfl) (S.ev rfl)) rfl rfl trivial ?_
      clear S; intro aa S
      refine OL.nil ?_
      refine W.cond S (b := (((x14.n : Nat) : Int) != ((x17.n : Nat) : Int))) rfl (fun hb_2 => ?_) (fun hb_2 => ?_)
      · replace H := H.1 hb_2
        refine W.seq ?_
        replace S := S.sub [] trivial
        refine W.region ?_
        refine OL.pure S (Lf.run_assign (S.ev rfl)) rfl rfl trivial ?_
        clear S; intro aa S
        refine OL.nil ?_
        refine W.ret ?_
        exact Ret.one S rfl rfl H
      · replace H := H.2 hb_2
        refine W.skip ?_
        refine W.seq ?_
        refine W.seq ?_
        replace S := S.sub [(3, Value.slice x14.a x14.n x14.c), (4, Value.slice x17.a x17.n x17.c)] ⟨rfl, rfl, trivial⟩
        refine W.region ?_
        refine OL.pure S (Lf.run_assign (S.ev rfl)) rfl rfl trivial ?_
        clear S; intro aa S
        refine OL.nil ?_
        refine W.block ?_
        obtain ⟨I, m, H, HB⟩ := H
        refine W.loopS (σ := Int) (fun s aa ww => St 39 [(3, Value.slice x14.a x14.n x14.c), (4, Value.slice x17.a x17.n x17.c), (5, Value.int .i64 s)] h7 w0 aa ww ∧ I s) (fun s => m s) (0) ⟨S.sub _ ⟨rfl, rfl, rfl, trivial⟩, H⟩ ?_
        clear H S aa
        rintro i5 aa ww ⟨S, HI⟩
        replace S : St 39 [(3, Value.slice x14.a x14.n x14.c), (4, Value.slice x17.a x17.n x17.c), (5, Value.int .i64 i5)] h7 w0 aa ww := S
        have H := HB i5 HI
        clear HI
        refine W.seq ?_
        refine W.seq ?_
        replace S := S.sub [(3, Value.slice x14.a x14.n x14.c), (4, Value.slice x17.a x17.n x17.c), (5, Value.int .i64 i5)] ⟨rfl, rfl, rfl, trivial⟩
        refine W.region ?_
        refine OL.pure S (Lf.run_move (S.ev rfl)) rfl rfl trivial ?_
        clear S; intro aa S
        refine OL.pure S (Lf.run_move (S.ev rfl)) rfl rfl trivial ?_
        clear S; intro aa S
        refine OL.pure S (Lf.run_lens (S.ev rfl) rfl Try.underlying35) rfl rfl trivial ?_
        clear S; intro aa S
        refine OL.pure S (Lf.run_lss (S.ev rfl) (S.ev rfl)) rfl rfl trivial ?_
        clear S; intro aa S
        refine OL.nil ?_
        refine W.cond S (b := (decide (i5 < ((x14.n : Nat) : Int)))) rfl (fun hb_3 => ?_) (fun hb_3 => ?_)
        · replace H := H.1 hb_3
          refine W.skip ?_
          refine W.seq ?_
          refine W.block ?_
          refine W.seq ?_
          replace S := S.sub [(3, Value.slice x14.a x14.n x14.c), (4, Value.slice x17.a x17.n x17.c), (5, Value.int .i64 i5)] ⟨rfl, rfl, rfl, trivial⟩
          refine W.regionD S (by kernel_rfl) ?_
          clear S; intro ww S
          refine AN.pure 0 S rfl (by kernel_rfl) (fun _ => Lf.run_move (S.ev rfl)) rfl rfl trivial ?_
          clear S; intro aa S
          refine AN.pure 1 S rfl (by kernel_rfl) (fun _ => Lf.run_move (S.ev rfl)) rfl rfl trivial ?_
          clear S; intro aa S
          obtain ⟨q31, e, e_1, e_2, H⟩ := H
          refine AN.pure 2 S rfl (by kernel_rfl) (fun _ => Lf.run_ixs (S.ev rfl) (S.ev rfl) Try.underlying35 ti4 e e_1 e_2) rfl rfl trivial ?_
          clear S; intro aa S
          obtain ⟨x32, c_6, H⟩ := H
          refine AN.load 3 S rfl (by kernel_rfl) (fun _ hx => Lf.run_ld (S.ev rfl) fl4 (hx.cell _ _ (S.cl c_6))) rfl rfl trivial ?_
          clear S; intro aa S
          refine AN.pure 4 S rfl (by kernel_rfl) (fun _ => Lf.run_move (S.ev rfl)) rfl rfl trivial ?_
          clear S; intro aa S
          refine AN.pure 5 S rfl (by kernel_rfl) (fun _ => Lf.run_move (S.ev rfl)) rfl rfl trivial ?_
          clear S; intro aa S
          obtain ⟨q35, e_3, e_4, e_5, H⟩ := H
          refine AN.pure 6 S rfl (by kernel_rfl) (fun _ => Lf.run_ixs (S.ev rfl) (S.ev rfl) Try.underlying22 ti3 e_3 e_4 e_5) rfl rfl trivial ?_
          clear S; intro aa S
          obtain ⟨x36, c_7, H⟩ := H
          refine AN.load 7 S rfl (by kernel_rfl) (fun _ hx => Lf.run_ld (S.ev rfl) fl3 (hx.cell _ _ (S.cl c_7))) rfl rfl trivial ?_
          clear S; intro aa S
          refine AN.pure 8 S rfl (by kernel_rfl) (fun _ => Lf.run_gtr (S.ev rfl) (S.ev rfl)) rfl rfl trivial ?_
          clear S; intro aa S
          refine AN.pure 9 S rfl (by kernel_rfl) (fun _ => Lf.run_neqb Try.underlying4 (S.ev rfl) (S.ev rfl)) rfl rfl trivial ?_
          clear S; intro aa S
          refine AN.done (by kernel_rfl) ?_
          refine W.cond S (b := (x32 != (decide (0 < x36)))) rfl (fun hb_4 => ?_) (fun hb_4 => ?_)
          · replace H := H.1 hb_4
            refine W.seq ?_
            replace S := S.sub [] trivial
            refine W.region ?_
            refine OL.pure S (Lf.run_assign (S.ev rfl)) rfl rfl trivial ?_
            clear S; intro aa S
            refine OL.nil ?_
            refine W.ret ?_
            exact Ret.one S rfl rfl H
          · replace H := H.2 hb_4
            refine W.skip ?_
            replace S := S.sub [(3, Value.slice x14.a x14.n x14.c), (4, Value.slice x17.a x17.n x17.c), (5, Value.int .i64 i5)] ⟨rfl, rfl, rfl, trivial⟩
            refine W.region ?_
            refine OL.pure S (Lf.run_move (S.ev rfl)) rfl rfl trivial ?_
            clear S; intro aa S
            refine OL.pure S (Lf.run_add (S.ev rfl) (S.ev rfl)) rfl rfl trivial ?_
            clear S; intro aa S
            refine OL.pure S (Lf.run_assign (S.ev rfl)) rfl rfl trivial ?_
            clear S; intro aa S
            refine OL.nil ?_
            exact ⟨((IntKind.i64.wrap (i5 + 1))), ⟨S.sub _ ⟨rfl, rfl, rfl, trivial⟩, H.1⟩, H.2⟩
        · replace H := H.2 hb_3
          refine W.exit_ ?_
          refine xhit ?_
          refine W.seq ?_
          replace S := S.sub [] trivial
          refine W.region ?_
          refine OL.pure S (Lf.run_assign (S.ev rfl)) rfl rfl trivial ?_
          clear S; intro aa S
          refine OL.nil ?_
          refine W.ret ?_
          exact Ret.one S rfl rfl H

/-- chattel chattellaw14.MirNils -/
def L5 (i0 : Int) (h : Heap) (R : Value → Heap → Prop) : Prop :=
  cal Try.prog 7 #[] h fun u h1 => asB u fun x4 =>
  ∃ J : Bool → Heap → Prop, (andj x4 (fun k =>
    cal Try.prog 12 #[Value.pointer none, Value.int .i64 i0] h1 fun u_1 h3 => asS u_1 fun x8 =>
    k (((x8.n : Nat) : Int) == 0) h3) h1 J) ∧ ∀ x11 h2, J x11 h2 →
  ∃ J_1 : Bool → Heap → Prop, (andj x11 (fun k_1 =>
    cal Try.prog 13 #[Value.pointer none] h2 fun u_2 h5 => asI .i64 u_2 fun x14 =>
    k_1 (x14 == 0) h5) h2 J_1) ∧ ∀ x16 h4, J_1 x16 h4 →
  ∃ J_2 : Bool → Heap → Prop, (andj x16 (fun k_2 =>
    cal Try.prog 14 #[Value.pointer none, Value.int .i64 i0] h4 fun u_3 h7 => asS u_3 fun x20 =>
    k_2 (((x20.n : Nat) : Int) == 0) h7) h4 J_2) ∧ ∀ x23 h6, J_2 x23 h6 →
  ∃ J_3 : Bool → Heap → Prop, (andj x23 (fun k_3 =>
    cal Try.prog 10 #[Value.pointer none] h6 fun u_4 h9 => asS u_4 fun x26 =>
    k_3 (((x26.n : Nat) : Int) == 0) h9) h6 J_3) ∧ ∀ x29 h8, J_3 x29 h8 →
  ∃ J_4 : Bool → Heap → Prop, (andj x29 (fun k_4 =>
    cal Try.prog 15 #[Value.pointer none] h8 fun u_5 h11 => asT u_5 fun x32 =>
    k_4 (x32.toList == (⟨#[]⟩ : ByteArray).toList) h11) h8 J_4) ∧ ∀ x34 h10, J_4 x34 h10 →
  R (Value.bool x34) h10

set_option maxRecDepth 100000 in

theorem F5 {i0 h : _} {R : Value → Heap → Prop} (H : L5 i0 h R) : CallsH Try.prog 5 #[Value.int .i64 i0] h R := by
  refine CallsH.enter (n := 35) Try.func5 rfl rfl rfl rfl ?_
  intro w0 aa ww S
  unfold L5 at H
  refine W.seq ?_
  replace S := S.sub [(0, Value.int .i64 i0)] ⟨rfl, trivial⟩
  refine W.region ?_
  refine OL.pure S (Lf.run_assign (S.ev rfl)) rfl rfl trivial ?_
  clear S; intro aa S
  refine OL.nil ?_
  refine W.seq ?_
  replace S := S.sub [(0, Value.int .i64 i0)] ⟨rfl, trivial⟩
  refine W.region ?_
  refine OL.pure S (Lf.run_assign (S.ev rfl)) rfl rfl trivial ?_
  clear S; intro aa S
  refine OL.nil ?_
  refine W.seq ?_
  replace S := S.sub [(0, Value.int .i64 i0), (3, Value.pointer none)] ⟨rfl, rfl, trivial⟩
  refine W.region ?_
  refine ol_cal S H isfn7 rfl rfl trivial ?_
  clear S H aa; intro u aa ww h1 H S
  obtain ⟨x4, rfl, H⟩ := H
  refine OL.pure S (Lf.run_move (S.ev rfl)) rfl rfl trivial ?_
  clear S; intro aa S
  obtain ⟨J, H, HK⟩ := H
  refine OL.cutN 6 (fun aa ww => ∃ x11 h2, St 35 ((11, Value.bool x11) :: [(0, Value.int .i64 i0), (3, Value.pointer none), (4, Value.bool x4), (5, Value.bool x4)]) h2 w0 aa ww ∧ J x11 h2) ?_ ?_
  · rcases Bool.eq_false_or_eq_true x4 with hb | hb
    · replace H := H.1 hb
      refine OL.pure S (Lf.run_move (S.ev rfl)) rfl rfl (GOk.mk rfl rfl hb) ?_
      clear S; intro aa S
      refine OL.pure S (Lf.run_move (S.ev rfl)) rfl rfl (GOk.mk rfl rfl hb) ?_
      clear S; intro aa S
      refine ol_cal S H isfn12 rfl rfl (GOk.mk rfl rfl hb) ?_
      clear S H aa; intro u_1 aa ww h3 H S
      obtain ⟨x8, rfl, H⟩ := H
      refine OL.pure S (Lf.run_lens (S.ev rfl) rfl Try.underlying22) rfl rfl (GOk.mk rfl rfl hb) ?_
      clear S; intro aa S
      refine OL.pure S (Lf.run_eql (S.ev rfl) (S.ev rfl)) rfl rfl (GOk.mk rfl rfl hb) ?_
      clear S; intro aa S
      refine OL.pure S (Lf.run_pickT (S.ev rfl) hb (S.ev rfl)) rfl rfl trivial ?_
      clear S; intro aa S
      refine OL.nil ?_
      exact ⟨_, _, S.sub _ ⟨rfl, rfl, rfl, rfl, rfl, trivial⟩, H⟩
    · replace H := H.2 hb
      refine OL.not S rfl rfl (GNo.mk rfl rfl hb) ?_
      clear S; intro aa S
      refine OL.not S rfl rfl (GNo.mk rfl rfl hb) ?_
      clear S; intro aa S
      refine OL.not S rfl rfl (GNo.mk rfl rfl hb) ?_
      clear S; intro aa S
      refine OL.not S rfl rfl (GNo.mk rfl rfl hb) ?_
      clear S; intro aa S
      refine OL.not S rfl rfl (GNo.mk rfl rfl hb) ?_
      clear S; intro aa S
      refine OL.pure S (Lf.run_pickF (S.ev rfl) hb (S.ev rfl)) rfl rfl trivial ?_
      clear S; intro aa S
      refine OL.nil ?_
      exact ⟨_, _, S.sub _ ⟨rfl, rfl, rfl, rfl, rfl, trivial⟩, H⟩
  · clear S aa
    rintro aa ww ⟨x11, h2, S, HJ⟩
    replace H := HK _ _ HJ
    clear HK HJ
    refine OL.pure S (Lf.run_move (S.ev rfl)) rfl rfl trivial ?_
    clear S; intro aa S
    obtain ⟨J_1, H, HK_1⟩ := H
    refine OL.cutN 4 (fun aa ww => ∃ x16 h4, St 35 ((16, Value.bool x16) :: [(0, Value.int .i64 i0), (3, Value.pointer none), (4, Value.bool x4), (5, Value.bool x4), (11, Value.bool x11), (12, Value.bool x11)]) h4 w0 aa ww ∧ J_1 x16 h4) ?_ ?_
    · rcases Bool.eq_false_or_eq_true x11 with hb_1 | hb_1
      · replace H := H.1 hb_1
        refine OL.pure S (Lf.run_move (S.ev rfl)) rfl rfl (GOk.mk rfl rfl hb_1) ?_
        clear S; intro aa S
        refine ol_cal S H isfn13 rfl rfl (GOk.mk rfl rfl hb_1) ?_
        clear S H aa; intro u_2 aa ww h5 H S
        obtain ⟨x14, rfl, H⟩ := H
        refine OL.pure S (Lf.run_eql (S.ev rfl) (S.ev rfl)) rfl rfl (GOk.mk rfl rfl hb_1) ?_
        clear S; intro aa S
        refine OL.pure S (Lf.run_pickT (S.ev rfl) hb_1 (S.ev rfl)) rfl rfl trivial ?_
        clear S; intro aa S
        refine OL.nil ?_
        exact ⟨_, _, S.sub _ ⟨rfl, rfl, rfl, rfl, rfl, rfl, rfl, trivial⟩, H⟩
      · replace H := H.2 hb_1
        refine OL.not S rfl rfl (GNo.mk rfl rfl hb_1) ?_
        clear S; intro aa S
        refine OL.not S rfl rfl (GNo.mk rfl rfl hb_1) ?_
        clear S; intro aa S
        refine OL.not S rfl rfl (GNo.mk rfl rfl hb_1) ?_
        clear S; intro aa S
        refine OL.pure S (Lf.run_pickF (S.ev rfl) hb_1 (S.ev rfl)) rfl rfl trivial ?_
        clear S; intro aa S
        refine OL.nil ?_
        exact ⟨_, _, S.sub _ ⟨rfl, rfl, rfl, rfl, rfl, rfl, rfl, trivial⟩, H⟩
    · clear S aa
      rintro aa ww ⟨x16, h4, S, HJ⟩
      replace H := HK_1 _ _ HJ
      clear HK_1 HJ
      refine OL.pure S (Lf.run_move (S.ev rfl)) rfl rfl trivial ?_
      clear S; intro aa S
      obtain ⟨J_2, H, HK_2⟩ := H
      refine OL.cutN 6 (fun aa ww => ∃ x23 h6, St 35 ((23, Value.bool x23) :: [(0, Value.int .i64 i0), (3, Value.pointer none), (4, Value.bool x4), (5, Value.bool x4), (11, Value.bool x11), (12, Value.bool x11), (16, Value.bool x16), (17, Value.bool x16)]) h6 w0 aa ww ∧ J_2 x23 h6) ?_ ?_
      · rcases Bool.eq_false_or_eq_true x16 with hb_2 | hb_2
        · replace H := H.1 hb_2
          refine OL.pure S (Lf.run_move (S.ev rfl)) rfl rfl (GOk.mk rfl rfl hb_2) ?_
          clear S; intro aa S
          refine OL.pure S (Lf.run_move (S.ev rfl)) rfl rfl (GOk.mk rfl rfl hb_2) ?_
          clear S; intro aa S
          refine ol_cal S H isfn14 rfl rfl (GOk.mk rfl rfl hb_2) ?_
          clear S H aa; intro u_3 aa ww h7 H S
          obtain ⟨x20, rfl, H⟩ := H
          refine OL.pure S (Lf.run_lens (S.ev rfl) rfl Try.underlying42) rfl rfl (GOk.mk rfl rfl hb_2) ?_
          clear S; intro aa S
          refine OL.pure S (Lf.run_eql (S.ev rfl) (S.ev rfl)) rfl rfl (GOk.mk rfl rfl hb_2) ?_
          clear S; intro aa S
          refine OL.pure S (Lf.run_pickT (S.ev rfl) hb_2 (S.ev rfl)) rfl rfl trivial ?_
          clear S; intro aa S
          refine OL.nil ?_
          exact ⟨_, _, S.sub _ ⟨rfl, rfl, rfl, rfl, rfl, rfl, rfl, rfl, rfl, trivial⟩, H⟩
        · replace H := H.2 hb_2
          refine OL.not S rfl rfl (GNo.mk rfl rfl hb_2) ?_
          clear S; intro aa S
          refine OL.not S rfl rfl (GNo.mk rfl rfl hb_2) ?_
          clear S; intro aa S
          refine OL.not S rfl rfl (GNo.mk rfl rfl hb_2) ?_
          clear S; intro aa S
          refine OL.not S rfl rfl (GNo.mk rfl rfl hb_2) ?_
          clear S; intro aa S
          refine OL.not S rfl rfl (GNo.mk rfl rfl hb_2) ?_
          clear S; intro aa S
          refine OL.pure S (Lf.run_pickF (S.ev rfl) hb_2 (S.ev rfl)) rfl rfl trivial ?_
          clear S; intro aa S
          refine OL.nil ?_
          exact ⟨_, _, S.sub _ ⟨rfl, rfl, rfl, rfl, rfl, rfl, rfl, rfl, rfl, trivial⟩, H⟩
      · clear S aa
        rintro aa ww ⟨x23, h6, S, HJ⟩
        replace H := HK_2 _ _ HJ
        clear HK_2 HJ
        refine OL.pure S (Lf.run_move (S.ev rfl)) rfl rfl trivial ?_
        clear S; intro aa S
        obtain ⟨J_3, H, HK_3⟩ := H
        refine OL.cutN 5 (fun aa ww => ∃ x29 h8, St 35 ((29, Value.bool x29) :: [(0, Value.int .i64 i0), (3, Value.pointer none), (4, Value.bool x4), (5, Value.bool x4), (11, Value.bool x11), (12, Value.bool x11), (16, Value.bool x16), (17, Value.bool x16), (23, Value.bool x23), (24, Value.bool x23)]) h8 w0 aa ww ∧ J_3 x29 h8) ?_ ?_
        · rcases Bool.eq_false_or_eq_true x23 with hb_3 | hb_3
          · replace H := H.1 hb_3
            refine OL.pure S (Lf.run_move (S.ev rfl)) rfl rfl (GOk.mk rfl rfl hb_3) ?_
            clear S; intro aa S
            refine ol_cal S H isfn10 rfl rfl (GOk.mk rfl rfl hb_3) ?_
            clear S H aa; intro u_4 aa ww h9 H S
            obtain ⟨x26, rfl, H⟩ := H
            refine OL.pure S (Lf.run_lens (S.ev rfl) rfl Try.underlying35) rfl rfl (GOk.mk rfl rfl hb_3) ?_
            clear S; intro aa S
            refine OL.pure S (Lf.run_eql (S.ev rfl) (S.ev rfl)) rfl rfl (GOk.mk rfl rfl hb_3) ?_
            clear S; intro aa S
            refine OL.pure S (Lf.run_pickT (S.ev rfl) hb_3 (S.ev rfl)) rfl rfl trivial ?_
            clear S; intro aa S
            refine OL.nil ?_
            exact ⟨_, _, S.sub _ ⟨rfl, rfl, rfl, rfl, rfl, rfl, rfl, rfl, rfl, rfl, rfl, trivial⟩, H⟩
          · replace H := H.2 hb_3
            refine OL.not S rfl rfl (GNo.mk rfl rfl hb_3) ?_
            clear S; intro aa S
            refine OL.not S rfl rfl (GNo.mk rfl rfl hb_3) ?_
            clear S; intro aa S
            refine OL.not S rfl rfl (GNo.mk rfl rfl hb_3) ?_
            clear S; intro aa S
            refine OL.not S rfl rfl (GNo.mk rfl rfl hb_3) ?_
            clear S; intro aa S
            refine OL.pure S (Lf.run_pickF (S.ev rfl) hb_3 (S.ev rfl)) rfl rfl trivial ?_
            clear S; intro aa S
            refine OL.nil ?_
            exact ⟨_, _, S.sub _ ⟨rfl, rfl, rfl, rfl, rfl, rfl, rfl, rfl, rfl, rfl, rfl, trivial⟩, H⟩
        · clear S aa
          rintro aa ww ⟨x29, h8, S, HJ⟩
          replace H := HK_3 _ _ HJ
          clear HK_3 HJ
          refine OL.pure S (Lf.run_move (S.ev rfl)) rfl rfl trivial ?_
          clear S; intro aa S
          obtain ⟨J_4, H, HK_4⟩ := H
          refine OL.cutN 4 (fun aa ww => ∃ x34 h10, St 35 ((34, Value.bool x34) :: [(0, Value.int .i64 i0), (3, Value.pointer none), (4, Value.bool x4), (5, Value.bool x4), (11, Value.bool x11), (12, Value.bool x11), (16, Value.bool x16), (17, Value.bool x16), (23, Value.bool x23), (24, Value.bool x23), (29, Value.bool x29), (30, Value.bool x29)]) h10 w0 aa ww ∧ J_4 x34 h10) ?_ ?_
          · rcases Bool.eq_false_or_eq_true x29 with hb_4 | hb_4
            · replace H := H.1 hb_4
              refine OL.pure S (Lf.run_move (S.ev rfl)) rfl rfl (GOk.mk rfl rfl hb_4) ?_
              clear S; intro aa S
              refine ol_cal S H isfn15 rfl rfl (GOk.mk rfl rfl hb_4) ?_
              clear S H aa; intro u_5 aa ww h11 H S
              obtain ⟨x32, rfl, H⟩ := H
              refine OL.pure S (Lf.run_eqlt (S.ev rfl) (S.ev rfl)) rfl rfl (GOk.mk rfl rfl hb_4) ?_
              clear S; intro aa S
              refine OL.pure S (Lf.run_pickT (S.ev rfl) hb_4 (S.ev rfl)) rfl rfl trivial ?_
              clear S; intro aa S
              refine OL.nil ?_
              exact ⟨_, _, S.sub _ ⟨rfl, rfl, rfl, rfl, rfl, rfl, rfl, rfl, rfl, rfl, rfl, rfl, rfl, trivial⟩, H⟩
            · replace H := H.2 hb_4
              refine OL.not S rfl rfl (GNo.mk rfl rfl hb_4) ?_
              clear S; intro aa S
              refine OL.not S rfl rfl (GNo.mk rfl rfl hb_4) ?_
              clear S; intro aa S
              refine OL.not S rfl rfl (GNo.mk rfl rfl hb_4) ?_
              clear S; intro aa S
              refine OL.pure S (Lf.run_pickF (S.ev rfl) hb_4 (S.ev rfl)) rfl rfl trivial ?_
              clear S; intro aa S
              refine OL.nil ?_
              exact ⟨_, _, S.sub _ ⟨rfl, rfl, rfl, rfl, rfl, rfl, rfl, rfl, rfl, rfl, rfl, rfl, rfl, trivial⟩, H⟩
          · clear S aa
            rintro aa ww ⟨x34, h10, S, HJ⟩
            replace H := HK_4 _ _ HJ
            clear HK_4 HJ
            refine OL.pure S (Lf.run_assign (S.ev rfl)) rfl rfl trivial ?_
            clear S; intro aa S
            refine OL.nil ?_
            refine W.ret ?_
            exact Ret.one S rfl rfl H

/-- chattel chattellaw14.MirPlaces -/
def L6 (a0 : Int) (a0_1 : Sv) (b1 : Int) (b1_1 : Sv) (h : Heap) (R : Value → Heap → Prop) : Prop :=
  new 24 #[Value.int .i64 a0, Value.slice a0_1.a a0_1.n a0_1.c] h fun p2 h1 =>
  new 24 #[Value.int .i64 b1, Value.slice b1_1.a b1_1.n b1_1.c] h1 fun p3 h2 =>
  cal Try.prog 7 #[] h2 fun u h3 => asB u fun x6 =>
  ∃ J : Bool → Prop, (orr (!x6) (fun k =>
    ldS h3 (p2.add 1) fun x10 =>
    k (decide (20 < ((x10.n : Nat) : Int)))) J) ∧ ∀ x13, J x13 →
  ∃ J_1 : Bool → Prop, (orr x13 (fun k_1 =>
    ldS h3 (p3.add 1) fun x16 =>
    k_1 (decide (20 < ((x16.n : Nat) : Int)))) J_1) ∧ ∀ x19, J_1 x19 →
  ifb x19 (
    cal Try.prog 7 #[] h3 fun u_1 h4 => asB u_1 fun x20 =>
    R (Value.bool x20) h4) (
    ∃ (y21 : Int) (y21_1 : Sv), cl h3 p2 = some (Value.int .i64 y21) ∧ cl h3 (p2.add 1) = some (Value.slice y21_1.a y21_1.n y21_1.c) ∧
    cal Try.prog 16 #[Value.agg #[Value.int .i64 y21, Value.slice y21_1.a y21_1.n y21_1.c]] h3 fun u_2 h5 => ∃ (y22 : Int) (y22_1 : Sv), u_2 = Value.agg #[Value.int .i64 y22, Value.slice y22_1.a y22_1.n y22_1.c] ∧
    new 24 #[Value.int .i64 0, Value.slice (⟨none, 0, 0⟩ : Sv).a (⟨none, 0, 0⟩ : Sv).n (⟨none, 0, 0⟩ : Sv).c] h5 fun p5 h6 =>
    stoA h6 p5 [Value.int .i64 y22, Value.slice y22_1.a y22_1.n y22_1.c] fun h7 =>
    ∃ J_2 : Bool → Heap → Prop, (
      ∃ Sq : Heap → Prop, Sq h7 ∧ (
        ∃ (y23 : Int) (y23_1 : Sv), cl h7 p2 = some (Value.int .i64 y23) ∧ cl h7 (p2.add 1) = some (Value.slice y23_1.a y23_1.n y23_1.c) ∧
        ∃ (y24 : Int) (y24_1 : Sv), cl h7 p3 = some (Value.int .i64 y24) ∧ cl h7 (p3.add 1) = some (Value.slice y24_1.a y24_1.n y24_1.c) ∧
        ∃ (y26 : Int) (y26_1 : Sv), hld Sq p2 (Value.int .i64 y26) ∧ hld Sq (p2.add 1) (Value.slice y26_1.a y26_1.n y26_1.c) ∧
        ∃ (y27 : Int) (y27_1 : Sv), hld Sq p3 (Value.int .i64 y27) ∧ hld Sq (p3.add 1) (Value.slice y27_1.a y27_1.n y27_1.c) ∧
        cal Try.prog 17 #[Value.agg #[Value.int .i64 y23, Value.slice y23_1.a y23_1.n y23_1.c], Value.agg #[Value.int .i64 y24, Value.slice y24_1.a y24_1.n y24_1.c]] h7 fun u_3 h8 => asB u_3 fun x25 =>
        Sq h8 ∧
        cal Try.prog 18 #[Value.agg #[Value.int .i64 y26, Value.slice y26_1.a y26_1.n y26_1.c], Value.agg #[Value.int .i64 y27, Value.slice y27_1.a y27_1.n y27_1.c]] h8 fun u_4 h9 => asB u_4 fun x28 =>
        Sq h9 ∧
        ifb (x25 == x28) (
          ∃ (y31 : Int) (y31_1 : Sv), cl h9 p2 = some (Value.int .i64 y31) ∧ cl h9 (p2.add 1) = some (Value.slice y31_1.a y31_1.n y31_1.c) ∧
          ∃ (y32 : Int) (y32_1 : Sv), cl h9 p3 = some (Value.int .i64 y32) ∧ cl h9 (p3.add 1) = some (Value.slice y32_1.a y32_1.n y32_1.c) ∧
          ∃ Sq_1 : Heap → Prop, (∀ h, Sq_1 h → Sq h) ∧ Sq_1 h9 ∧
          ∃ (y34 : Int) (y34_1 : Sv), hld Sq_1 p2 (Value.int .i64 y34) ∧ hld Sq_1 (p2.add 1) (Value.slice y34_1.a y34_1.n y34_1.c) ∧
          ∃ (y35 : Int) (y35_1 : Sv), hld Sq_1 p3 (Value.int .i64 y35) ∧ hld Sq_1 (p3.add 1) (Value.slice y35_1.a y35_1.n y35_1.c) ∧
          cal Try.prog 8 #[Value.agg #[Value.int .i64 y31, Value.slice y31_1.a y31_1.n y31_1.c], Value.agg #[Value.int .i64 y32, Value.slice y32_1.a y32_1.n y32_1.c]] h9 fun u_5 h10 => asB u_5 fun x33 =>
          Sq_1 h10 ∧
          cal Try.prog 18 #[Value.agg #[Value.int .i64 y34, Value.slice y34_1.a y34_1.n y34_1.c], Value.agg #[Value.int .i64 y35, Value.slice y35_1.a y35_1.n y35_1.c]] h10 fun u_6 h11 => asB u_6 fun x36 =>
          Sq_1 h11 ∧
          ifb x36 (
            ifb (x33 == true) (
              ∃ (y46_2 : Int) (y46_3 : Sv), cl h11 p2 = some (Value.int .i64 y46_2) ∧ cl h11 (p2.add 1) = some (Value.slice y46_3.a y46_3.n y46_3.c) ∧
              ∃ Sq_3 : Heap → Prop, (∀ h, Sq_3 h → Sq_1 h) ∧ Sq_3 h11 ∧
              ∃ (y45_2 : Int) (y45_3 : Sv), hld Sq_3 p5 (Value.int .i64 y45_2) ∧ hld Sq_3 (p5.add 1) (Value.slice y45_3.a y45_3.n y45_3.c) ∧
              cal Try.prog 20 #[Value.agg #[Value.int .i64 y46_2, Value.slice y46_3.a y46_3.n y46_3.c]] h11 fun u_11 h16 => ∃ (y47_2 : Int) (y47_3 : Sv), u_11 = Value.agg #[Value.int .i64 y47_2, Value.slice y47_3.a y47_3.n y47_3.c] ∧
              Sq_3 h16 ∧
              cal Try.prog 19 #[Value.agg #[Value.int .i64 y45_2, Value.slice y45_3.a y45_3.n y45_3.c], Value.agg #[Value.int .i64 y47_2, Value.slice y47_3.a y47_3.n y47_3.c]] h16 fun u_12 h17 => asB u_12 fun x48_1 =>
              ifb x48_1 (
                ∃ (y51_2 : Int) (y51_3 : Sv), cl h17 p5 = some (Value.int .i64 y51_2) ∧ cl h17 (p5.add 1) = some (Value.slice y51_3.a y51_3.n y51_3.c) ∧
                ∃ (y52_2 : Int) (y52_3 : Sv), cl h17 p2 = some (Value.int .i64 y52_2) ∧ cl h17 (p2.add 1) = some (Value.slice y52_3.a y52_3.n y52_3.c) ∧
                cal Try.prog 17 #[Value.agg #[Value.int .i64 y51_2, Value.slice y51_3.a y51_3.n y51_3.c], Value.agg #[Value.int .i64 y52_2, Value.slice y52_3.a y52_3.n y52_3.c]] h17 fun u_13 h18 => asB u_13 fun x53_1 =>
                J_2 x53_1 h18) (
                J_2 false h17)) (
              J_2 false h11)) (
            ∃ (y38 : Int) (y38_1 : Sv), cl h11 p3 = some (Value.int .i64 y38) ∧ cl h11 (p3.add 1) = some (Value.slice y38_1.a y38_1.n y38_1.c) ∧
            ∃ (y39 : Int) (y39_1 : Sv), cl h11 p2 = some (Value.int .i64 y39) ∧ cl h11 (p2.add 1) = some (Value.slice y39_1.a y39_1.n y39_1.c) ∧
            cal Try.prog 18 #[Value.agg #[Value.int .i64 y38, Value.slice y38_1.a y38_1.n y38_1.c], Value.agg #[Value.int .i64 y39, Value.slice y39_1.a y39_1.n y39_1.c]] h11 fun u_7 h12 => asB u_7 fun x40 =>
            Sq_1 h12 ∧
            ifb (x33 == x40) (
              ∃ (y46 : Int) (y46_1 : Sv), cl h12 p2 = some (Value.int .i64 y46) ∧ cl h12 (p2.add 1) = some (Value.slice y46_1.a y46_1.n y46_1.c) ∧
              ∃ Sq_2 : Heap → Prop, (∀ h, Sq_2 h → Sq_1 h) ∧ Sq_2 h12 ∧
              ∃ (y45 : Int) (y45_1 : Sv), hld Sq_2 p5 (Value.int .i64 y45) ∧ hld Sq_2 (p5.add 1) (Value.slice y45_1.a y45_1.n y45_1.c) ∧
              cal Try.prog 20 #[Value.agg #[Value.int .i64 y46, Value.slice y46_1.a y46_1.n y46_1.c]] h12 fun u_8 h13 => ∃ (y47 : Int) (y47_1 : Sv), u_8 = Value.agg #[Value.int .i64 y47, Value.slice y47_1.a y47_1.n y47_1.c] ∧
              Sq_2 h13 ∧
              cal Try.prog 19 #[Value.agg #[Value.int .i64 y45, Value.slice y45_1.a y45_1.n y45_1.c], Value.agg #[Value.int .i64 y47, Value.slice y47_1.a y47_1.n y47_1.c]] h13 fun u_9 h14 => asB u_9 fun x48 =>
              ifb x48 (
                ∃ (y51 : Int) (y51_1 : Sv), cl h14 p5 = some (Value.int .i64 y51) ∧ cl h14 (p5.add 1) = some (Value.slice y51_1.a y51_1.n y51_1.c) ∧
                ∃ (y52 : Int) (y52_1 : Sv), cl h14 p2 = some (Value.int .i64 y52) ∧ cl h14 (p2.add 1) = some (Value.slice y52_1.a y52_1.n y52_1.c) ∧
                cal Try.prog 17 #[Value.agg #[Value.int .i64 y51, Value.slice y51_1.a y51_1.n y51_1.c], Value.agg #[Value.int .i64 y52, Value.slice y52_1.a y52_1.n y52_1.c]] h14 fun u_10 h15 => asB u_10 fun x53 =>
                J_2 x53 h15) (
                J_2 false h14)) (
              J_2 false h12))) (
          J_2 false h9))) ∧ (∀ x4 h19, J_2 x4 h19 →
    R (Value.bool x4) h19))

set_option maxRecDepth 100000 in

theorem F6 {a0 a0_1 b1 b1_1 h : _} {R : Value → Heap → Prop} (H : L6 a0 a0_1 b1 b1_1 h R) : CallsH Try.prog 6 #[Value.agg #[Value.int .i64 a0, Value.slice a0_1.a a0_1.n a0_1.c], Value.agg #[Value.int .i64 b1, Value.slice b1_1.a b1_1.n b1_1.c]] h R := by
  refine CallsH.enter (n := 55) Try.func6 rfl rfl rfl rfl ?_
  intro w0 aa ww S
  unfold L6 at H
  refine W.seq ?_
  replace S := S.sub [(0, Value.agg #[Value.int .i64 a0, Value.slice a0_1.a a0_1.n a0_1.c]), (1, Value.agg #[Value.int .i64 b1, Value.slice b1_1.a b1_1.n b1_1.c])] ⟨rfl, rfl, trivial⟩
  refine W.region ?_
  refine ol_box S H rfl rfl rfl trivial ?_
  clear S H aa; intro p2 aa ww h1 H S
  refine ol_box S H rfl rfl rfl trivial ?_
  clear S H aa; intro p3 aa ww h2 H S
  refine OL.pure S (Lf.run_assign (S.ev rfl)) rfl rfl trivial ?_
  clear S; intro aa S
  refine OL.nil ?_
  refine W.seq ?_
  refine W.seq ?_
  replace S := S.sub [(2, Value.pointer (some p2)), (3, Value.pointer (some p3))] ⟨rfl, rfl, trivial⟩
  refine W.region ?_
  refine ol_cal S H isfn7 rfl rfl trivial ?_
  clear S H aa; intro u aa ww h3 H S
  obtain ⟨x6, rfl, H⟩ := H
  refine OL.pure S (Lf.run_not (S.ev rfl)) rfl rfl trivial ?_
  clear S; intro aa S
  refine OL.pure S (Lf.run_move (S.ev rfl)) rfl rfl trivial ?_
  clear S; intro aa S
  obtain ⟨J, H, HK⟩ := H
  refine OL.cutN 5 (fun aa ww => ∃ x13, St 55 ((13, Value.bool x13) :: [(2, Value.pointer (some p2)), (3, Value.pointer (some p3)), (6, Value.bool x6), (7, Value.bool (!x6)), (8, Value.bool (!x6))]) h3 w0 aa ww ∧ J x13) ?_ ?_
  · rcases Bool.eq_false_or_eq_true (!x6) with hb | hb
    · replace H := H.1 hb
      refine OL.not S rfl rfl (GNo.mk rfl rfl hb) ?_
      clear S; intro aa S
      refine OL.not S rfl rfl (GNo.mk rfl rfl hb) ?_
      clear S; intro aa S
      refine OL.not S rfl rfl (GNo.mk rfl rfl hb) ?_
      clear S; intro aa S
      refine OL.not S rfl rfl (GNo.mk rfl rfl hb) ?_
      clear S; intro aa S
      refine OL.pure S (Lf.run_pickT (S.ev rfl) hb (S.ev rfl)) rfl rfl trivial ?_
      clear S; intro aa S
      refine OL.nil ?_
      exact ⟨_, S.sub _ ⟨rfl, rfl, rfl, rfl, rfl, rfl, trivial⟩, H⟩
    · replace H := H.2 hb
      refine OL.pure S (Lf.run_fa (S.ev rfl) fa24_1) rfl rfl (GOk.mk rfl rfl hb) ?_
      clear S; intro aa S
      obtain ⟨x10, c, H⟩ := H
      refine OL.pure S (Lf.run_ld (S.ev rfl) fl22 (S.cl c)) rfl rfl (GOk.mk rfl rfl hb) ?_
      clear S; intro aa S
      refine OL.pure S (Lf.run_lens (S.ev rfl) rfl Try.underlying22) rfl rfl (GOk.mk rfl rfl hb) ?_
      clear S; intro aa S
      refine OL.pure S (Lf.run_gtr (S.ev rfl) (S.ev rfl)) rfl rfl (GOk.mk rfl rfl hb) ?_
      clear S; intro aa S
      refine OL.pure S (Lf.run_pickF (S.ev rfl) hb (S.ev rfl)) rfl rfl trivial ?_
      clear S; intro aa S
      refine OL.nil ?_
      exact ⟨_, S.sub _ ⟨rfl, rfl, rfl, rfl, rfl, rfl, trivial⟩, H⟩
  · clear S aa
    rintro aa ww ⟨x13, S, HJ⟩
    replace H := HK _ HJ
    clear HK HJ
    refine OL.pure S (Lf.run_move (S.ev rfl)) rfl rfl trivial ?_
    clear S; intro aa S
    obtain ⟨J_1, H, HK_1⟩ := H
    refine OL.cutN 5 (fun aa ww => ∃ x19, St 55 ((19, Value.bool x19) :: [(2, Value.pointer (some p2)), (3, Value.pointer (some p3)), (6, Value.bool x6), (7, Value.bool (!x6)), (8, Value.bool (!x6)), (13, Value.bool x13), (14, Value.bool x13)]) h3 w0 aa ww ∧ J_1 x19) ?_ ?_
    · rcases Bool.eq_false_or_eq_true x13 with hb_1 | hb_1
      · replace H := H.1 hb_1
        refine OL.not S rfl rfl (GNo.mk rfl rfl hb_1) ?_
        clear S; intro aa S
        refine OL.not S rfl rfl (GNo.mk rfl rfl hb_1) ?_
        clear S; intro aa S
        refine OL.not S rfl rfl (GNo.mk rfl rfl hb_1) ?_
        clear S; intro aa S
        refine OL.not S rfl rfl (GNo.mk rfl rfl hb_1) ?_
        clear S; intro aa S
        refine OL.pure S (Lf.run_pickT (S.ev rfl) hb_1 (S.ev rfl)) rfl rfl trivial ?_
        clear S; intro aa S
        refine OL.nil ?_
        exact ⟨_, S.sub _ ⟨rfl, rfl, rfl, rfl, rfl, rfl, rfl, rfl, trivial⟩, H⟩
      · replace H := H.2 hb_1
        refine OL.pure S (Lf.run_fa (S.ev rfl) fa24_1) rfl rfl (GOk.mk rfl rfl hb_1) ?_
        clear S; intro aa S
        obtain ⟨x16, c_1, H⟩ := H
        refine OL.pure S (Lf.run_ld (S.ev rfl) fl22 (S.cl c_1)) rfl rfl (GOk.mk rfl rfl hb_1) ?_
        clear S; intro aa S
        refine OL.pure S (Lf.run_lens (S.ev rfl) rfl Try.underlying22) rfl rfl (GOk.mk rfl rfl hb_1) ?_
        clear S; intro aa S
        refine OL.pure S (Lf.run_gtr (S.ev rfl) (S.ev rfl)) rfl rfl (GOk.mk rfl rfl hb_1) ?_
        clear S; intro aa S
        refine OL.pure S (Lf.run_pickF (S.ev rfl) hb_1 (S.ev rfl)) rfl rfl trivial ?_
        clear S; intro aa S
        refine OL.nil ?_
        exact ⟨_, S.sub _ ⟨rfl, rfl, rfl, rfl, rfl, rfl, rfl, rfl, trivial⟩, H⟩
    · clear S aa
      rintro aa ww ⟨x19, S, HJ⟩
      replace H := HK_1 _ HJ
      clear HK_1 HJ
      refine OL.nil ?_
      refine W.cond S (b := x19) rfl (fun hb_2 => ?_) (fun hb_2 => ?_)
      · replace H := H.1 hb_2
        refine W.seq ?_
        replace S := S.sub [] trivial
        refine W.region ?_
        refine ol_cal S H isfn7 rfl rfl trivial ?_
        clear S H aa; intro u_1 aa ww h4 H S
        obtain ⟨x20, rfl, H⟩ := H
        refine OL.pure S (Lf.run_assign (S.ev rfl)) rfl rfl trivial ?_
        clear S; intro aa S
        refine OL.nil ?_
        refine W.ret ?_
        exact Ret.one S rfl rfl H
      · replace H := H.2 hb_2
        refine W.skip ?_
        refine W.seq ?_
        replace S := S.sub [(2, Value.pointer (some p2)), (3, Value.pointer (some p3))] ⟨rfl, rfl, trivial⟩
        refine W.region ?_
        obtain ⟨y21, y21_1, c_57, c_58, H⟩ := H
        refine OL.pure S (Lf.run_ldA (cs := [Value.int .i64 y21, Value.slice y21_1.a y21_1.n y21_1.c]) (S.ev rfl) ag24 ti24 (by rw [S.heap]; exact RowL.toRow ⟨c_57, c_58, trivial⟩)) rfl rfl trivial ?_
        clear S; intro aa S
        refine ol_cal S H isfn16 rfl rfl trivial ?_
        clear S H aa; intro u_2 aa ww h5 H S
        obtain ⟨y22, y22_1, rfl, H⟩ := H
        refine ol_alloc S H ti24 rfl rfl trivial ?_
        clear S H aa; intro p5 aa ww h6 H S
        refine ol_stoA S H rfl rfl ti24 trivial ?_
        clear S H aa; intro aa ww h7 H S
        refine OL.nil ?_
        refine W.seq ?_
        replace S := S.sub [(2, Value.pointer (some p2)), (3, Value.pointer (some p3)), (5, Value.pointer (some p5))] ⟨rfl, rfl, rfl, trivial⟩
        obtain ⟨J_2, H, HK_2⟩ := H
        refine W.mono (N' := fun aa ww => ∃ x4 h19, St 55 [(4, Value.bool x4)] h19 w0 aa ww ∧ J_2 x4 h19) ?_ ?_
        · obtain ⟨Sq, HS, H⟩ := H
          refine W.regionN [3, 4, 11, 12, 22] [2, 5, 10, 13, 17, 24, 25, 30] Sq S (by kernel_rfl) ?_
          clear S; intro ww S
          obtain ⟨y23, y23_1, c_55, c_56, H⟩ := H
          refine BN.load 0 S (fun _ => HS) rfl (by kernel_rfl) (by kernel_rfl) (fun _ hx => Lf.run_ldA (cs := [Value.int .i64 y23, Value.slice y23_1.a y23_1.n y23_1.c]) (S.ev rfl) ag24 ti24 (hx.row (S.row ⟨c_55, c_56, trivial⟩))) rfl rfl trivial ?_
          clear S; intro aa S
          obtain ⟨y24, y24_1, c_53, c_54, H⟩ := H
          refine BN.load 1 S (fun _ => HS) rfl (by kernel_rfl) (by kernel_rfl) (fun _ hx => Lf.run_ldA (cs := [Value.int .i64 y24, Value.slice y24_1.a y24_1.n y24_1.c]) (S.ev rfl) ag24 ti24 (hx.row (S.row ⟨c_53, c_54, trivial⟩))) rfl rfl trivial ?_
          clear S; intro aa S
          obtain ⟨y26, y26_1, c_51, c_52, H⟩ := H
          refine BN.held 3 S HS rfl (by kernel_rfl) (fun _ hq => Lf.run_ldA (cs := [Value.int .i64 y26, Value.slice y26_1.a y26_1.n y26_1.c]) (S.ev rfl) ag24 ti24 (hlRow hq fun h_ hs_ => ⟨c_51 h_ hs_, c_52 h_ hs_, trivial⟩)) rfl rfl trivial ?_
          clear S; intro aa S
          obtain ⟨y27, y27_1, c_49, c_50, H⟩ := H
          refine BN.held 4 S HS rfl (by kernel_rfl) (fun _ hq => Lf.run_ldA (cs := [Value.int .i64 y27, Value.slice y27_1.a y27_1.n y27_1.c]) (S.ev rfl) ag24 ti24 (hlRow hq fun h_ hs_ => ⟨c_49 h_ hs_, c_50 h_ hs_, trivial⟩)) rfl rfl trivial ?_
          clear S; intro aa S
          refine BN.eff 2 rfl (by kernel_rfl) ?_
          refine ol_cal S H isfn17 rfl rfl trivial ?_
          clear S H aa; intro u_3 aa ww h8 H S
          obtain ⟨x25, rfl, H⟩ := H
          refine OL.nil ?_
          clear HS; obtain ⟨HS, H⟩ := H
          refine ⟨fun _ => by rw [S.heap]; exact HS, ?_⟩
          refine BN.eff 5 rfl (by kernel_rfl) ?_
          refine ol_cal S H isfn18 rfl rfl trivial ?_
          clear S H aa; intro u_4 aa ww h9 H S
          obtain ⟨x28, rfl, H⟩ := H
          refine OL.nil ?_
          clear HS; obtain ⟨HS, H⟩ := H
          refine ⟨fun _ => by rw [S.heap]; exact HS, ?_⟩
          refine BN.pure 6 S (fun _ => HS) rfl (by kernel_rfl) (by kernel_rfl) (fun _ => Lf.run_eqlb Try.underlying4 (S.ev rfl) (S.ev rfl)) rfl rfl trivial ?_
          clear S; intro aa S
          refine BN.pure 7 S (fun _ => HS) rfl (by kernel_rfl) (by kernel_rfl) (fun _ => Lf.run_move (S.ev rfl)) rfl rfl trivial ?_
          clear S; intro aa S
          rcases Bool.eq_false_or_eq_true (x25 == x28) with hb_3 | hb_3
          · replace H := H.1 hb_3
            obtain ⟨y31, y31_1, c_47, c_48, H⟩ := H
            refine BN.load 8 S (fun _ => HS) rfl (by kernel_rfl) (by kernel_rfl) (fun _ hx => Lf.run_ldA (cs := [Value.int .i64 y31, Value.slice y31_1.a y31_1.n y31_1.c]) (S.ev rfl) ag24 ti24 (hx.row (S.row ⟨c_47, c_48, trivial⟩))) rfl rfl (GOk.mk rfl rfl hb_3) ?_
            clear S; intro aa S
            obtain ⟨y32, y32_1, c_45, c_46, H⟩ := H
            refine BN.load 9 S (fun _ => HS) rfl (by kernel_rfl) (by kernel_rfl) (fun _ hx => Lf.run_ldA (cs := [Value.int .i64 y32, Value.slice y32_1.a y32_1.n y32_1.c]) (S.ev rfl) ag24 ti24 (hx.row (S.row ⟨c_45, c_46, trivial⟩))) rfl rfl (GOk.mk rfl rfl hb_3) ?_
            clear S; intro aa S
            clear HS; obtain ⟨Sq_1, HI, HS, H⟩ := H
            refine BN.stronger HI ?_
            obtain ⟨y34, y34_1, c_43, c_44, H⟩ := H
            refine BN.held 11 S HS rfl (by kernel_rfl) (fun _ hq => Lf.run_ldA (cs := [Value.int .i64 y34, Value.slice y34_1.a y34_1.n y34_1.c]) (S.ev rfl) ag24 ti24 (hlRow hq fun h_ hs_ => ⟨c_43 h_ hs_, c_44 h_ hs_, trivial⟩)) rfl rfl (GOk.mk rfl rfl hb_3) ?_
            clear S; intro aa S
            obtain ⟨y35, y35_1, c_41, c_42, H⟩ := H
            refine BN.held 12 S HS rfl (by kernel_rfl) (fun _ hq => Lf.run_ldA (cs := [Value.int .i64 y35, Value.slice y35_1.a y35_1.n y35_1.c]) (S.ev rfl) ag24 ti24 (hlRow hq fun h_ hs_ => ⟨c_41 h_ hs_, c_42 h_ hs_, trivial⟩)) rfl rfl (GOk.mk rfl rfl hb_3) ?_
            clear S; intro aa S
            refine BN.eff 10 rfl (by kernel_rfl) ?_
            refine ol_cal S H isfn8 rfl rfl (GOk.mk rfl rfl hb_3) ?_
            clear S H aa; intro u_5 aa ww h10 H S
            obtain ⟨x33, rfl, H⟩ := H
            refine OL.nil ?_
            clear HS; obtain ⟨HS, H⟩ := H
            refine ⟨fun _ => by rw [S.heap]; exact HS, ?_⟩
            refine BN.eff 13 rfl (by kernel_rfl) ?_
            refine ol_cal S H isfn18 rfl rfl (GOk.mk rfl rfl hb_3) ?_
            clear S H aa; intro u_6 aa ww h11 H S
            obtain ⟨x36, rfl, H⟩ := H
            refine OL.nil ?_
            clear HS; obtain ⟨HS, H⟩ := H
            refine ⟨fun _ => by rw [S.heap]; exact HS, ?_⟩
            refine BN.pure 14 S (fun _ => HS) rfl (by kernel_rfl) (by kernel_rfl) (fun _ => Lf.run_move (S.ev rfl)) rfl rfl (GOk.mk rfl rfl hb_3) ?_
            clear S; intro aa S
            rcases Bool.eq_false_or_eq_true x36 with hb_4 | hb_4
            · replace H := H.1 hb_4
              refine BN.not 15 S (fun _ => HS) rfl (by kernel_rfl) (by kernel_rfl) rfl rfl (GNo.mk rfl rfl hb_4) ?_
              clear S; intro aa S
              refine BN.not 16 S (fun _ => HS) rfl (by kernel_rfl) (by kernel_rfl) rfl rfl (GNo.mk rfl rfl hb_4) ?_
              clear S; intro aa S
              refine BN.eff 17 rfl (by kernel_rfl) ?_
              refine OL.not S rfl rfl (GNo.mk rfl rfl hb_4) ?_
              clear S; intro aa S
              refine OL.nil ?_
              refine ⟨fun _ => by rw [S.heap]; exact HS, ?_⟩
              refine BN.pure 18 S (fun _ => HS) rfl (by kernel_rfl) (by kernel_rfl) (fun _ => run_pickT (S.ev rfl) hb_4 (S.ev rfl)) rfl rfl (GOk.mk rfl rfl hb_3) ?_
              clear S; intro aa S
              refine BN.pure 19 S (fun _ => HS) rfl (by kernel_rfl) (by kernel_rfl) (fun _ => Lf.run_eqlb Try.underlying4 (S.ev rfl) (S.ev rfl)) rfl rfl (GOk.mk rfl rfl hb_3) ?_
              clear S; intro aa S
              refine BN.pure 20 S (fun _ => HS) rfl (by kernel_rfl) (by kernel_rfl) (fun _ => run_pickT (S.ev rfl) hb_3 (S.ev rfl)) rfl rfl trivial ?_
              clear S; intro aa S
              refine BN.pure 21 S (fun _ => HS) rfl (by kernel_rfl) (by kernel_rfl) (fun _ => Lf.run_move (S.ev rfl)) rfl rfl trivial ?_
              clear S; intro aa S
              rcases Bool.eq_false_or_eq_true (x33 == true) with hb_8 | hb_8
              · replace H := H.1 hb_8
                obtain ⟨y46_2, y46_3, c_39, c_40, H⟩ := H
                refine BN.load 23 S (fun _ => HS) rfl (by kernel_rfl) (by kernel_rfl) (fun _ hx => Lf.run_ldA (cs := [Value.int .i64 y46_2, Value.slice y46_3.a y46_3.n y46_3.c]) (S.ev rfl) ag24 ti24 (hx.row (S.row ⟨c_39, c_40, trivial⟩))) rfl rfl (GOk.mk rfl rfl hb_8) ?_
                clear S; intro aa S
                clear HS; obtain ⟨Sq_3, HI_2, HS, H⟩ := H
                refine BN.stronger HI_2 ?_
                obtain ⟨y45_2, y45_3, c_37, c_38, H⟩ := H
                refine BN.held 22 S HS rfl (by kernel_rfl) (fun _ hq => Lf.run_ldA (cs := [Value.int .i64 y45_2, Value.slice y45_3.a y45_3.n y45_3.c]) (S.ev rfl) ag24 ti24 (hlRow hq fun h_ hs_ => ⟨c_37 h_ hs_, c_38 h_ hs_, trivial⟩)) rfl rfl (GOk.mk rfl rfl hb_8) ?_
                clear S; intro aa S
                refine BN.eff 24 rfl (by kernel_rfl) ?_
                refine ol_cal S H isfn20 rfl rfl (GOk.mk rfl rfl hb_8) ?_
                clear S H aa; intro u_11 aa ww h16 H S
                obtain ⟨y47_2, y47_3, rfl, H⟩ := H
                refine OL.nil ?_
                clear HS; obtain ⟨HS, H⟩ := H
                refine ⟨fun _ => by rw [S.heap]; exact HS, ?_⟩
                refine BN.eff 25 rfl (by kernel_rfl) ?_
                refine ol_cal S H isfn19 rfl rfl (GOk.mk rfl rfl hb_8) ?_
                clear S H aa; intro u_12 aa ww h17 H S
                obtain ⟨x48_1, rfl, H⟩ := H
                refine OL.nil ?_
                refine ⟨noNeed (by kernel_rfl), ?_⟩
                refine BN.pure 26 S (noNeed (by kernel_rfl)) rfl (by kernel_rfl) (by kernel_rfl) (fun _ => run_pickT (S.ev rfl) hb_8 (S.ev rfl)) rfl rfl trivial ?_
                clear S; intro aa S
                refine BN.pure 27 S (noNeed (by kernel_rfl)) rfl (by kernel_rfl) (by kernel_rfl) (fun _ => Lf.run_move (S.ev rfl)) rfl rfl trivial ?_
                clear S; intro aa S
                rcases Bool.eq_false_or_eq_true x48_1 with hb_9 | hb_9
                · replace H := H.1 hb_9
                  obtain ⟨y51_2, y51_3, c_35, c_36, H⟩ := H
                  refine BN.load 28 S (noNeed (by kernel_rfl)) rfl (by kernel_rfl) (by kernel_rfl) (fun _ hx => Lf.run_ldA (cs := [Value.int .i64 y51_2, Value.slice y51_3.a y51_3.n y51_3.c]) (S.ev rfl) ag24 ti24 (hx.row (S.row ⟨c_35, c_36, trivial⟩))) rfl rfl (GOk.mk rfl rfl hb_9) ?_
                  clear S; intro aa S
                  obtain ⟨y52_2, y52_3, c_33, c_34, H⟩ := H
                  refine BN.load 29 S (noNeed (by kernel_rfl)) rfl (by kernel_rfl) (by kernel_rfl) (fun _ hx => Lf.run_ldA (cs := [Value.int .i64 y52_2, Value.slice y52_3.a y52_3.n y52_3.c]) (S.ev rfl) ag24 ti24 (hx.row (S.row ⟨c_33, c_34, trivial⟩))) rfl rfl (GOk.mk rfl rfl hb_9) ?_
                  clear S; intro aa S
                  refine BN.eff 30 rfl (by kernel_rfl) ?_
                  refine ol_cal S H isfn17 rfl rfl (GOk.mk rfl rfl hb_9) ?_
                  clear S H aa; intro u_13 aa ww h18 H S
                  obtain ⟨x53_1, rfl, H⟩ := H
                  refine OL.nil ?_
                  refine ⟨noNeed (by kernel_rfl), ?_⟩
                  refine BN.pure 31 S (noNeed (by kernel_rfl)) rfl (by kernel_rfl) (by kernel_rfl) (fun _ => run_pickT (S.ev rfl) hb_9 (S.ev rfl)) rfl rfl trivial ?_
                  clear S; intro aa S
                  refine BN.pure 32 S (noNeed (by kernel_rfl)) rfl (by kernel_rfl) (by kernel_rfl) (fun _ => Lf.run_assign (S.ev rfl)) rfl rfl trivial ?_
                  clear S; intro aa S
                  refine BN.done (by kernel_rfl) ?_
                  exact ⟨x53_1, h18, S.sub _ ⟨rfl, trivial⟩, H⟩
                · replace H := H.2 hb_9
                  refine BN.not 28 S (noNeed (by kernel_rfl)) rfl (by kernel_rfl) (by kernel_rfl) rfl rfl (GNo.mk rfl rfl hb_9) ?_
                  clear S; intro aa S
                  refine BN.not 29 S (noNeed (by kernel_rfl)) rfl (by kernel_rfl) (by kernel_rfl) rfl rfl (GNo.mk rfl rfl hb_9) ?_
                  clear S; intro aa S
                  refine BN.eff 30 rfl (by kernel_rfl) ?_
                  refine OL.not S rfl rfl (GNo.mk rfl rfl hb_9) ?_
                  clear S; intro aa S
                  refine OL.nil ?_
                  refine ⟨noNeed (by kernel_rfl), ?_⟩
                  refine BN.pure 31 S (noNeed (by kernel_rfl)) rfl (by kernel_rfl) (by kernel_rfl) (fun _ => run_pickF (S.ev rfl) hb_9 (S.ev rfl)) rfl rfl trivial ?_
                  clear S; intro aa S
                  refine BN.pure 32 S (noNeed (by kernel_rfl)) rfl (by kernel_rfl) (by kernel_rfl) (fun _ => Lf.run_assign (S.ev rfl)) rfl rfl trivial ?_
                  clear S; intro aa S
                  refine BN.done (by kernel_rfl) ?_
                  exact ⟨false, h17, S.sub _ ⟨rfl, trivial⟩, H⟩
              · replace H := H.2 hb_8
                refine BN.not 22 S (fun _ => HS) rfl (by kernel_rfl) (by kernel_rfl) rfl rfl (GNo.mk rfl rfl hb_8) ?_
                clear S; intro aa S
                refine BN.not 23 S (fun _ => HS) rfl (by kernel_rfl) (by kernel_rfl) rfl rfl (GNo.mk rfl rfl hb_8) ?_
                clear S; intro aa S
                refine BN.eff 24 rfl (by kernel_rfl) ?_
                refine OL.not S rfl rfl (GNo.mk rfl rfl hb_8) ?_
                clear S; intro aa S
                refine OL.nil ?_
                refine ⟨fun _ => by rw [S.heap]; exact HS, ?_⟩
                refine BN.eff 25 rfl (by kernel_rfl) ?_
                refine OL.not S rfl rfl (GNo.mk rfl rfl hb_8) ?_
                clear S; intro aa S
                refine OL.nil ?_
                refine ⟨noNeed (by kernel_rfl), ?_⟩
                refine BN.pure 26 S (noNeed (by kernel_rfl)) rfl (by kernel_rfl) (by kernel_rfl) (fun _ => run_pickF (S.ev rfl) hb_8 (S.ev rfl)) rfl rfl trivial ?_
                clear S; intro aa S
                refine BN.pure 27 S (noNeed (by kernel_rfl)) rfl (by kernel_rfl) (by kernel_rfl) (fun _ => Lf.run_move (S.ev rfl)) rfl rfl trivial ?_
                clear S; intro aa S
                have hb_10 : (false : Bool) = false := rfl
                refine BN.not 28 S (noNeed (by kernel_rfl)) rfl (by kernel_rfl) (by kernel_rfl) rfl rfl (GNo.mk rfl rfl hb_10) ?_
                clear S; intro aa S
                refine BN.not 29 S (noNeed (by kernel_rfl)) rfl (by kernel_rfl) (by kernel_rfl) rfl rfl (GNo.mk rfl rfl hb_10) ?_
                clear S; intro aa S
                refine BN.eff 30 rfl (by kernel_rfl) ?_
                refine OL.not S rfl rfl (GNo.mk rfl rfl hb_10) ?_
                clear S; intro aa S
                refine OL.nil ?_
                refine ⟨noNeed (by kernel_rfl), ?_⟩
                refine BN.pure 31 S (noNeed (by kernel_rfl)) rfl (by kernel_rfl) (by kernel_rfl) (fun _ => run_pickF (S.ev rfl) hb_10 (S.ev rfl)) rfl rfl trivial ?_
                clear S; intro aa S
                refine BN.pure 32 S (noNeed (by kernel_rfl)) rfl (by kernel_rfl) (by kernel_rfl) (fun _ => Lf.run_assign (S.ev rfl)) rfl rfl trivial ?_
                clear S; intro aa S
                refine BN.done (by kernel_rfl) ?_
                exact ⟨false, h11, S.sub _ ⟨rfl, trivial⟩, H⟩
            · replace H := H.2 hb_4
              obtain ⟨y38, y38_1, c_27, c_28, H⟩ := H
              refine BN.load 15 S (fun _ => HS) rfl (by kernel_rfl) (by kernel_rfl) (fun _ hx => Lf.run_ldA (cs := [Value.int .i64 y38, Value.slice y38_1.a y38_1.n y38_1.c]) (S.ev rfl) ag24 ti24 (hx.row (S.row ⟨c_27, c_28, trivial⟩))) rfl rfl (GOk.mk rfl rfl hb_4) ?_
              clear S; intro aa S
              obtain ⟨y39, y39_1, c_25, c_26, H⟩ := H
              refine BN.load 16 S (fun _ => HS) rfl (by kernel_rfl) (by kernel_rfl) (fun _ hx => Lf.run_ldA (cs := [Value.int .i64 y39, Value.slice y39_1.a y39_1.n y39_1.c]) (S.ev rfl) ag24 ti24 (hx.row (S.row ⟨c_25, c_26, trivial⟩))) rfl rfl (GOk.mk rfl rfl hb_4) ?_
              clear S; intro aa S
              refine BN.eff 17 rfl (by kernel_rfl) ?_
              refine ol_cal S H isfn18 rfl rfl (GOk.mk rfl rfl hb_4) ?_
              clear S H aa; intro u_7 aa ww h12 H S
              obtain ⟨x40, rfl, H⟩ := H
              refine OL.nil ?_
              clear HS; obtain ⟨HS, H⟩ := H
              refine ⟨fun _ => by rw [S.heap]; exact HS, ?_⟩
              refine BN.pure 18 S (fun _ => HS) rfl (by kernel_rfl) (by kernel_rfl) (fun _ => run_pickF (S.ev rfl) hb_4 (S.ev rfl)) rfl rfl (GOk.mk rfl rfl hb_3) ?_
              clear S; intro aa S
              refine BN.pure 19 S (fun _ => HS) rfl (by kernel_rfl) (by kernel_rfl) (fun _ => Lf.run_eqlb Try.underlying4 (S.ev rfl) (S.ev rfl)) rfl rfl (GOk.mk rfl rfl hb_3) ?_
              clear S; intro aa S
              refine BN.pure 20 S (fun _ => HS) rfl (by kernel_rfl) (by kernel_rfl) (fun _ => run_pickT (S.ev rfl) hb_3 (S.ev rfl)) rfl rfl trivial ?_
              clear S; intro aa S
              refine BN.pure 21 S (fun _ => HS) rfl (by kernel_rfl) (by kernel_rfl) (fun _ => Lf.run_move (S.ev rfl)) rfl rfl trivial ?_
              clear S; intro aa S
              rcases Bool.eq_false_or_eq_true (x33 == x40) with hb_5 | hb_5
              · replace H := H.1 hb_5
                obtain ⟨y46, y46_1, c_23, c_24, H⟩ := H
                refine BN.load 23 S (fun _ => HS) rfl (by kernel_rfl) (by kernel_rfl) (fun _ hx => Lf.run_ldA (cs := [Value.int .i64 y46, Value.slice y46_1.a y46_1.n y46_1.c]) (S.ev rfl) ag24 ti24 (hx.row (S.row ⟨c_23, c_24, trivial⟩))) rfl rfl (GOk.mk rfl rfl hb_5) ?_
                clear S; intro aa S
                clear HS; obtain ⟨Sq_2, HI_1, HS, H⟩ := H
                refine BN.stronger HI_1 ?_
                obtain ⟨y45, y45_1, c_21, c_22, H⟩ := H
                refine BN.held 22 S HS rfl (by kernel_rfl) (fun _ hq => Lf.run_ldA (cs := [Value.int .i64 y45, Value.slice y45_1.a y45_1.n y45_1.c]) (S.ev rfl) ag24 ti24 (hlRow hq fun h_ hs_ => ⟨c_21 h_ hs_, c_22 h_ hs_, trivial⟩)) rfl rfl (GOk.mk rfl rfl hb_5) ?_
                clear S; intro aa S
                refine BN.eff 24 rfl (by kernel_rfl) ?_
                refine ol_cal S H isfn20 rfl rfl (GOk.mk rfl rfl hb_5) ?_
                clear S H aa; intro u_8 aa ww h13 H S
                obtain ⟨y47, y47_1, rfl, H⟩ := H
                refine OL.nil ?_
                clear HS; obtain ⟨HS, H⟩ := H
                refine ⟨fun _ => by rw [S.heap]; exact HS, ?_⟩
                refine BN.eff 25 rfl (by kernel_rfl) ?_
                refine ol_cal S H isfn19 rfl rfl (GOk.mk rfl rfl hb_5) ?_
                clear S H aa; intro u_9 aa ww h14 H S
                obtain ⟨x48, rfl, H⟩ := H
                refine OL.nil ?_
                refine ⟨noNeed (by kernel_rfl), ?_⟩
                refine BN.pure 26 S (noNeed (by kernel_rfl)) rfl (by kernel_rfl) (by kernel_rfl) (fun _ => run_pickT (S.ev rfl) hb_5 (S.ev rfl)) rfl rfl trivial ?_
                clear S; intro aa S
                refine BN.pure 27 S (noNeed (by kernel_rfl)) rfl (by kernel_rfl) (by kernel_rfl) (fun _ => Lf.run_move (S.ev rfl)) rfl rfl trivial ?_
                clear S; intro aa S
                rcases Bool.eq_false_or_eq_true x48 with hb_6 | hb_6
                · replace H := H.1 hb_6
                  obtain ⟨y51, y51_1, c_19, c_20, H⟩ := H
                  refine BN.load 28 S (noNeed (by kernel_rfl)) rfl (by kernel_rfl) (by kernel_rfl) (fun _ hx => Lf.run_ldA (cs := [Value.int .i64 y51, Value.slice y51_1.a y51_1.n y51_1.c]) (S.ev rfl) ag24 ti24 (hx.row (S.row ⟨c_19, c_20, trivial⟩))) rfl rfl (GOk.mk rfl rfl hb_6) ?_
                  clear S; intro aa S
                  obtain ⟨y52, y52_1, c_17, c_18, H⟩ := H
                  refine BN.load 29 S (noNeed (by kernel_rfl)) rfl (by kernel_rfl) (by kernel_rfl) (fun _ hx => Lf.run_ldA (cs := [Value.int .i64 y52, Value.slice y52_1.a y52_1.n y52_1.c]) (S.ev rfl) ag24 ti24 (hx.row (S.row ⟨c_17, c_18, trivial⟩))) rfl rfl (GOk.mk rfl rfl hb_6) ?_
                  clear S; intro aa S
                  refine BN.eff 30 rfl (by kernel_rfl) ?_
                  refine ol_cal S H isfn17 rfl rfl (GOk.mk rfl rfl hb_6) ?_
                  clear S H aa; intro u_10 aa ww h15 H S
                  obtain ⟨x53, rfl, H⟩ := H
                  refine OL.nil ?_
                  refine ⟨noNeed (by kernel_rfl), ?_⟩
                  refine BN.pure 31 S (noNeed (by kernel_rfl)) rfl (by kernel_rfl) (by kernel_rfl) (fun _ => run_pickT (S.ev rfl) hb_6 (S.ev rfl)) rfl rfl trivial ?_
                  clear S; intro aa S
                  refine BN.pure 32 S (noNeed (by kernel_rfl)) rfl (by kernel_rfl) (by kernel_rfl) (fun _ => Lf.run_assign (S.ev rfl)) rfl rfl trivial ?_
                  clear S; intro aa S
                  refine BN.done (by kernel_rfl) ?_
                  exact ⟨x53, h15, S.sub _ ⟨rfl, trivial⟩, H⟩
                · replace H := H.2 hb_6
                  refine BN.not 28 S (noNeed (by kernel_rfl)) rfl (by kernel_rfl) (by kernel_rfl) rfl rfl (GNo.mk rfl rfl hb_6) ?_
                  clear S; intro aa S
                  refine BN.not 29 S (noNeed (by kernel_rfl)) rfl (by kernel_rfl) (by kernel_rfl) rfl rfl (GNo.mk rfl rfl hb_6) ?_
                  clear S; intro aa S
                  refine BN.eff 30 rfl (by kernel_rfl) ?_
                  refine OL.not S rfl rfl (GNo.mk rfl rfl hb_6) ?_
                  clear S; intro aa S
                  refine OL.nil ?_
                  refine ⟨noNeed (by kernel_rfl), ?_⟩
                  refine BN.pure 31 S (noNeed (by kernel_rfl)) rfl (by kernel_rfl) (by kernel_rfl) (fun _ => run_pickF (S.ev rfl) hb_6 (S.ev rfl)) rfl rfl trivial ?_
                  clear S; intro aa S
                  refine BN.pure 32 S (noNeed (by kernel_rfl)) rfl (by kernel_rfl) (by kernel_rfl) (fun _ => Lf.run_assign (S.ev rfl)) rfl rfl trivial ?_
                  clear S; intro aa S
                  refine BN.done (by kernel_rfl) ?_
                  exact ⟨false, h14, S.sub _ ⟨rfl, trivial⟩, H⟩
              · replace H := H.2 hb_5
                refine BN.not 22 S (fun _ => HS) rfl (by kernel_rfl) (by kernel_rfl) rfl rfl (GNo.mk rfl rfl hb_5) ?_
                clear S; intro aa S
                refine BN.not 23 S (fun _ => HS) rfl (by kernel_rfl) (by kernel_rfl) rfl rfl (GNo.mk rfl rfl hb_5) ?_
                clear S; intro aa S
                refine BN.eff 24 rfl (by kernel_rfl) ?_
                refine OL.not S rfl rfl (GNo.mk rfl rfl hb_5) ?_
                clear S; intro aa S
                refine OL.nil ?_
                refine ⟨fun _ => by rw [S.heap]; exact HS, ?_⟩
                refine BN.eff 25 rfl (by kernel_rfl) ?_
                refine OL.not S rfl rfl (GNo.mk rfl rfl hb_5) ?_
                clear S; intro aa S
                refine OL.nil ?_
                refine ⟨noNeed (by kernel_rfl), ?_⟩
                refine BN.pure 26 S (noNeed (by kernel_rfl)) rfl (by kernel_rfl) (by kernel_rfl) (fun _ => run_pickF (S.ev rfl) hb_5 (S.ev rfl)) rfl rfl trivial ?_
                clear S; intro aa S
                refine BN.pure 27 S (noNeed (by kernel_rfl)) rfl (by kernel_rfl) (by kernel_rfl) (fun _ => Lf.run_move (S.ev rfl)) rfl rfl trivial ?_
                clear S; intro aa S
                have hb_7 : (false : Bool) = false := rfl
                refine BN.not 28 S (noNeed (by kernel_rfl)) rfl (by kernel_rfl) (by kernel_rfl) rfl rfl (GNo.mk rfl rfl hb_7) ?_
                clear S; intro aa S
                refine BN.not 29 S (noNeed (by kernel_rfl)) rfl (by kernel_rfl) (by kernel_rfl) rfl rfl (GNo.mk rfl rfl hb_7) ?_
                clear S; intro aa S
                refine BN.eff 30 rfl (by kernel_rfl) ?_
                refine OL.not S rfl rfl (GNo.mk rfl rfl hb_7) ?_
                clear S; intro aa S
                refine OL.nil ?_
                refine ⟨noNeed (by kernel_rfl), ?_⟩
                refine BN.pure 31 S (noNeed (by kernel_rfl)) rfl (by kernel_rfl) (by kernel_rfl) (fun _ => run_pickF (S.ev rfl) hb_7 (S.ev rfl)) rfl rfl trivial ?_
                clear S; intro aa S
                refine BN.pure 32 S (noNeed (by kernel_rfl)) rfl (by kernel_rfl) (by kernel_rfl) (fun _ => Lf.run_assign (S.ev rfl)) rfl rfl trivial ?_
                clear S; intro aa S
                refine BN.done (by kernel_rfl) ?_
                exact ⟨false, h12, S.sub _ ⟨rfl, trivial⟩, H⟩
          · replace H := H.2 hb_3
            refine BN.not 8 S (fun _ => HS) rfl (by kernel_rfl) (by kernel_rfl) rfl rfl (GNo.mk rfl rfl hb_3) ?_
            clear S; intro aa S
            refine BN.not 9 S (fun _ => HS) rfl (by kernel_rfl) (by kernel_rfl) rfl rfl (GNo.mk rfl rfl hb_3) ?_
            clear S; intro aa S
            refine BN.not 11 S (fun _ => HS) rfl (by kernel_rfl) (by kernel_rfl) rfl rfl (GNo.mk rfl rfl hb_3) ?_
            clear S; intro aa S
            refine BN.not 12 S (fun _ => HS) rfl (by kernel_rfl) (by kernel_rfl) rfl rfl (GNo.mk rfl rfl hb_3) ?_
            clear S; intro aa S
            refine BN.eff 10 rfl (by kernel_rfl) ?_
            refine OL.not S rfl rfl (GNo.mk rfl rfl hb_3) ?_
            clear S; intro aa S
            refine OL.nil ?_
            refine ⟨fun _ => by rw [S.heap]; exact HS, ?_⟩
            refine BN.eff 13 rfl (by kernel_rfl) ?_
            refine OL.not S rfl rfl (GNo.mk rfl rfl hb_3) ?_
            clear S; intro aa S
            refine OL.nil ?_
            refine ⟨fun _ => by rw [S.heap]; exact HS, ?_⟩
            refine BN.not 14 S (fun _ => HS) rfl (by kernel_rfl) (by kernel_rfl) rfl rfl (GNo.mk rfl rfl hb_3) ?_
            clear S; intro aa S
            refine BN.not 15 S (fun _ => HS) rfl (by kernel_rfl) (by kernel_rfl) rfl rfl (GNo.un rfl rfl) ?_
            clear S; intro aa S
            refine BN.not 16 S (fun _ => HS) rfl (by kernel_rfl) (by kernel_rfl) rfl rfl (GNo.un rfl rfl) ?_
            clear S; intro aa S
            refine BN.eff 17 rfl (by kernel_rfl) ?_
            refine OL.not S rfl rfl (GNo.un rfl rfl) ?_
            clear S; intro aa S
            refine OL.nil ?_
            refine ⟨fun _ => by rw [S.heap]; exact HS, ?_⟩
            refine BN.not 18 S (fun _ => HS) rfl (by kernel_rfl) (by kernel_rfl) rfl rfl (GNo.mk rfl rfl hb_3) ?_
            clear S; intro aa S
            refine BN.not 19 S (fun _ => HS) rfl (by kernel_rfl) (by kernel_rfl) rfl rfl (GNo.mk rfl rfl hb_3) ?_
            clear S; intro aa S
            refine BN.pure 20 S (fun _ => HS) rfl (by kernel_rfl) (by kernel_rfl) (fun _ => run_pickF (S.ev rfl) hb_3 (S.ev rfl)) rfl rfl trivial ?_
            clear S; intro aa S
            refine BN.pure 21 S (fun _ => HS) rfl (by kernel_rfl) (by kernel_rfl) (fun _ => Lf.run_move (S.ev rfl)) rfl rfl trivial ?_
            clear S; intro aa S
            have hb_11 : (false : Bool) = false := rfl
            refine BN.not 22 S (fun _ => HS) rfl (by kernel_rfl) (by kernel_rfl) rfl rfl (GNo.mk rfl rfl hb_11) ?_
            clear S; intro aa S
            refine BN.not 23 S (fun _ => HS) rfl (by kernel_rfl) (by kernel_rfl) rfl rfl (GNo.mk rfl rfl hb_11) ?_
            clear S; intro aa S
            refine BN.eff 24 rfl (by kernel_rfl) ?_
            refine OL.not S rfl rfl (GNo.mk rfl rfl hb_11) ?_
            clear S; intro aa S
            refine OL.nil ?_
            refine ⟨fun _ => by rw [S.heap]; exact HS, ?_⟩
            refine BN.eff 25 rfl (by kernel_rfl) ?_
            refine OL.not S rfl rfl (GNo.mk rfl rfl hb_11) ?_
            clear S; intro aa S
            refine OL.nil ?_
            refine ⟨noNeed (by kernel_rfl), ?_⟩
            refine BN.pure 26 S (noNeed (by kernel_rfl)) rfl (by kernel_rfl) (by kernel_rfl) (fun _ => run_pickF (S.ev rfl) hb_11 (S.ev rfl)) rfl rfl trivial ?_
            clear S; intro aa S
            refine BN.pure 27 S (noNeed (by kernel_rfl)) rfl (by kernel_rfl) (by kernel_rfl) (fun _ => Lf.run_move (S.ev rfl)) rfl rfl trivial ?_
            clear S; intro aa S
            have hb_12 : (false : Bool) = false := rfl
            refine BN.not 28 S (noNeed (by kernel_rfl)) rfl (by kernel_rfl) (by kernel_rfl) rfl rfl (GNo.mk rfl rfl hb_12) ?_
            clear S; intro aa S
            refine BN.not 29 S (noNeed (by kernel_rfl)) rfl (by kernel_rfl) (by kernel_rfl) rfl rfl (GNo.mk rfl rfl hb_12) ?_
            clear S; intro aa S
            refine BN.eff 30 rfl (by kernel_rfl) ?_
            refine OL.not S rfl rfl (GNo.mk rfl rfl hb_12) ?_
            clear S; intro aa S
            refine OL.nil ?_
            refine ⟨noNeed (by kernel_rfl), ?_⟩
            refine BN.pure 31 S (noNeed (by kernel_rfl)) rfl (by kernel_rfl) (by kernel_rfl) (fun _ => run_pickF (S.ev rfl) hb_12 (S.ev rfl)) rfl rfl trivial ?_
            clear S; intro aa S
            refine BN.pure 32 S (noNeed (by kernel_rfl)) rfl (by kernel_rfl) (by kernel_rfl) (fun _ => Lf.run_assign (S.ev rfl)) rfl rfl trivial ?_
            clear S; intro aa S
            refine BN.done (by kernel_rfl) ?_
            exact ⟨false, h9, S.sub _ ⟨rfl, trivial⟩, H⟩
        · clear H S aa
          rintro aa ww ⟨x4, h19, S, HJ⟩
          have H := HK_2 _ _ HJ
          clear HK_2 HJ
          refine W.ret ?_
          exact Ret.one S rfl rfl H

/-- chattel chattellaw14.coded -/
def L7  (h : Heap) (R : Value → Heap → Prop) : Prop :=
  newS 53 #[Value.string (⟨#[]⟩ : ByteArray), Value.int .i64 0, Value.string (⟨#[]⟩ : ByteArray), Value.bool false, Value.int .i64 0, Value.slice (⟨none, 0, 0⟩ : Sv).a (⟨none, 0, 0⟩ : Sv).n (⟨none, 0, 0⟩ : Sv).c, Value.slice (⟨none, 0, 0⟩ : Sv).a (⟨none, 0, 0⟩ : Sv).n (⟨none, 0, 0⟩ : Sv).c, Value.int .i64 0, Value.int .i64 0] 1 h fun s4 h1 =>
  newS 61 #[Value.int .i64 3, Value.int .i64 0, Value.int .i64 0, Value.slice (⟨none, 0, 0⟩ : Sv).a (⟨none, 0, 0⟩ : Sv).n (⟨none, 0, 0⟩ : Sv).c, Value.int .i64 10, Value.slice (⟨none, 0, 0⟩ : Sv).a (⟨none, 0, 0⟩ : Sv).n (⟨none, 0, 0⟩ : Sv).c, Value.int .i64 0, Value.slice (⟨none, 0, 0⟩ : Sv).a (⟨none, 0, 0⟩ : Sv).n (⟨none, 0, 0⟩ : Sv).c, Value.bool false, Value.string (⟨#[]⟩ : ByteArray), Value.int .i64 0, Value.slice (⟨none, 0, 0⟩ : Sv).a (⟨none, 0, 0⟩ : Sv).n (⟨none, 0, 0⟩ : Sv).c, Value.int .i64 0, Value.int .i64 0, Value.slice (⟨none, 0, 0⟩ : Sv).a (⟨none, 0, 0⟩ : Sv).n (⟨none, 0, 0⟩ : Sv).c, Value.int .i64 0, Value.int .u64 0, Value.int .i64 0, Value.int .i64 0, Value.int .i64 0, Value.int .i64 0, Value.int .i64 6, Value.int .i64 0, Value.int .i64 0, Value.slice (⟨none, 0, 0⟩ : Sv).a (⟨none, 0, 0⟩ : Sv).n (⟨none, 0, 0⟩ : Sv).c, Value.int .i64 0, Value.slice (⟨none, 0, 0⟩ : Sv).a (⟨none, 0, 0⟩ : Sv).n (⟨none, 0, 0⟩ : Sv).c, Value.int .i64 0, Value.slice (⟨none, 0, 0⟩ : Sv).a (⟨none, 0, 0⟩ : Sv).n (⟨none, 0, 0⟩ : Sv).c, Value.bool false, Value.string (⟨#[]⟩ : ByteArray), Value.int .i64 0, Value.slice (⟨none, 0, 0⟩ : Sv).a (⟨none, 0, 0⟩ : Sv).n (⟨none, 0, 0⟩ : Sv).c, Value.int .i64 0, Value.int .i64 0, Value.slice (⟨none, 0, 0⟩ : Sv).a (⟨none, 0, 0⟩ : Sv).n (⟨none, 0, 0⟩ : Sv).c, Value.int .i64 0, Value.int .u64 0, Value.int .i64 0, Value.int .i64 0, Value.int .i64 0, Value.int .i64 0] 2 h1 fun s8 h2 =>
  new 33 #[Value.string (⟨#[]⟩ : ByteArray), Value.int .i64 0, Value.slice s4.a s4.n s4.c, Value.slice s8.a s8.n s8.c] h2 fun p10 h3 =>
  newS 53 #[Value.string (⟨#[]⟩ : ByteArray), Value.int .i64 0, Value.string (⟨#[]⟩ : ByteArray), Value.bool false, Value.int .i64 0, Value.slice (⟨none, 0, 0⟩ : Sv).a (⟨none, 0, 0⟩ : Sv).n (⟨none, 0, 0⟩ : Sv).c, Value.slice (⟨none, 0, 0⟩ : Sv).a (⟨none, 0, 0⟩ : Sv).n (⟨none, 0, 0⟩ : Sv).c, Value.int .i64 0, Value.int .i64 0] 1 h3 fun s12 h4 =>
  newS 61 #[Value.int .i64 4, Value.int .i64 0, Value.int .i64 0, Value.slice (⟨none, 0, 0⟩ : Sv).a (⟨none, 0, 0⟩ : Sv).n (⟨none, 0, 0⟩ : Sv).c, Value.int .i64 0, Value.slice (⟨none, 0, 0⟩ : Sv).a (⟨none, 0, 0⟩ : Sv).n (⟨none, 0, 0⟩ : Sv).c, Value.int .i64 0, Value.slice (⟨none, 0, 0⟩ : Sv).a (⟨none, 0, 0⟩ : Sv).n (⟨none, 0, 0⟩ : Sv).c, Value.bool false, Value.string (⟨#[]⟩ : ByteArray), Value.int .i64 0, Value.slice (⟨none, 0, 0⟩ : Sv).a (⟨none, 0, 0⟩ : Sv).n (⟨none, 0, 0⟩ : Sv).c, Value.int .i64 0, Value.int .i64 0, Value.slice (⟨none, 0, 0⟩ : Sv).a (⟨none, 0, 0⟩ : Sv).n (⟨none, 0, 0⟩ : Sv).c, Value.int .i64 0, Value.int .u64 0, Value.int .i64 1, Value.int .i64 0, Value.int .i64 0, Value.int .i64 0] 1 h4 fun s14 h5 =>
  new 33 #[Value.string (⟨#[]⟩ : ByteArray), Value.int .i64 0, Value.slice s12.a s12.n s12.c, Value.slice s14.a s14.n s14.c] h5 fun p16 h6 =>
  cal Try.prog 13 #[Value.pointer (some p10)] h6 fun u h7 => asI .i64 u fun x18 =>
  ∃ J : Bool → Heap → Prop, (andj (x18 == (-1)) (fun k =>
    cal Try.prog 13 #[Value.pointer (some p16)] h7 fun u_1 h9 => asI .i64 u_1 fun x22 =>
    k (x22 == 0) h9) h7 J) ∧ ∀ x24 h8, J x24 h8 →
  ∃ J_1 : Bool → Heap → Prop, (andj x24 (fun k_1 =>
    cal Try.prog 12 #[Value.pointer (some p10), Value.int .i64 0] h8 fun u_2 h11 => asS u_2 fun x27 =>
    newS 3 #[Value.int .i64 1] 1 h11 fun s28 h12 =>
    cal Try.prog 21 #[Value.slice x27.a x27.n x27.c, Value.slice s28.a s28.n s28.c] h12 fun u_3 h13 => asB u_3 fun x29 =>
    k_1 x29 h13) h8 J_1) ∧ ∀ x30 h10, J_1 x30 h10 →
  ∃ J_2 : Bool → Heap → Prop, (andj x30 (fun k_2 =>
    cal Try.prog 14 #[Value.pointer (some p10), Value.int .i64 0] h10 fun u_4 h15 => asS u_4 fun x33 =>
    k_2 (((x33.n : Nat) : Int) == 1) h15) h10 J_2) ∧ ∀ x36 h14, J_2 x36 h14 →
  ∃ J_3 : Bool → Heap → Prop, (andj x36 (fun k_3 =>
    cal Try.prog 15 #[Value.pointer (some p10)] h14 fun u_5 h17 => asT u_5 fun x39 =>
    cal Try.prog 15 #[Value.pointer (some p16)] h17 fun u_6 h18 => asT u_6 fun x41 =>
    k_3 (x39.toList != x41.toList) h18) h14 J_3) ∧ ∀ x43 h16, J_3 x43 h16 →
  ∃ J_4 : Bool → Heap → Prop, (andj x43 (fun k_4 =>
    newS 3 #[Value.int .i64 0] 1 h16 fun s45 h20 =>
    newS 3 #[Value.int .i64 0, Value.int .i64 (-1)] 2 h20 fun s47 h21 =>
    cal Try.prog 8 #[Value.agg #[Value.int .i64 1, Value.slice s45.a s45.n s45.c], Value.agg #[Value.int .i64 1, Value.slice s47.a s47.n s47.c]] h21 fun u_7 h22 => asB u_7 fun x49 =>
    k_4 x49 h22) h16 J_4) ∧ ∀ x50 h19, J_4 x50 h19 →
  R (Value.bool x50) h19

set_option maxRecDepth 100000 in

theorem F7 {h : _} {R : Value → Heap → Prop} (H : L7 h R) : CallsH Try.prog 7 #[] h R := by
  refine CallsH.enter (n := 51) Try.func7 rfl rfl rfl rfl ?_
  intro w0 aa ww S
  unfold L7 at H
  refine W.seq ?_
  replace S := S.sub [] trivial
  refine W.region ?_
  refine OL.pure S (Lf.run_assign (S.ev rfl)) rfl rfl trivial ?_
  clear S; intro aa S
  refine OL.nil ?_
  refine W.seq ?_
  replace S := S.sub [] trivial
  refine W.region ?_
  refine OL.pure S (Lf.run_build (cs := #[Value.string (⟨#[]⟩ : ByteArray), Value.int .i64 0, Value.string (⟨#[]⟩ : ByteArray), Value.bool false, Value.int .i64 0, Value.slice (⟨none, 0, 0⟩ : Sv).a (⟨none, 0, 0⟩ : Sv).n (⟨none, 0, 0⟩ : Sv).c, Value.slice (⟨none, 0, 0⟩ : Sv).a (⟨none, 0, 0⟩ : Sv).n (⟨none, 0, 0⟩ : Sv).c, Value.int .i64 0, Value.int .i64 0]) pl53 ti53 (parts_map S rfl) (by kernel_rfl)) rfl rfl trivial ?_
  clear S; intro aa S
  refine ol_newS S H Try.underlying30 ti53 (by decide) (parts_map S rfl) (by kernel_rfl) (by decide) rfl trivial ?_
  clear S H aa; intro s4 aa ww h1 H S
  refine OL.pure S (Lf.run_build (cs := #[Value.int .i64 10, Value.slice (⟨none, 0, 0⟩ : Sv).a (⟨none, 0, 0⟩ : Sv).n (⟨none, 0, 0⟩ : Sv).c, Value.int .i64 0, Value.slice (⟨none, 0, 0⟩ : Sv).a (⟨none, 0, 0⟩ : Sv).n (⟨none, 0, 0⟩ : Sv).c, Value.bool false, Value.string (⟨#[]⟩ : ByteArray), Value.int .i64 0, Value.slice (⟨none, 0, 0⟩ : Sv).a (⟨none, 0, 0⟩ : Sv).n (⟨none, 0, 0⟩ : Sv).c]) pl56 ti56 (parts_map S rfl) (by kernel_rfl)) rfl rfl trivial ?_
  clear S; intro aa S
  refine OL.pure S (Lf.run_build (cs := #[Value.int .i64 3, Value.int .i64 0, Value.int .i64 0, Value.slice (⟨none, 0, 0⟩ : Sv).a (⟨none, 0, 0⟩ : Sv).n (⟨none, 0, 0⟩ : Sv).c, Value.int .i64 10, Value.slice (⟨none, 0, 0⟩ : Sv).a (⟨none, 0, 0⟩ : Sv).n (⟨none, 0, 0⟩ : Sv).c, Value.int .i64 0, Value.slice (⟨none, 0, 0⟩ : Sv).a (⟨none, 0, 0⟩ : Sv).n (⟨none, 0, 0⟩ : Sv).c, Value.bool false, Value.string (⟨#[]⟩ : ByteArray), Value.int .i64 0, Value.slice (⟨none, 0, 0⟩ : Sv).a (⟨none, 0, 0⟩ : Sv).n (⟨none, 0, 0⟩ : Sv).c, Value.int .i64 0, Value.int .i64 0, Value.slice (⟨none, 0, 0⟩ : Sv).a (⟨none, 0, 0⟩ : Sv).n (⟨none, 0, 0⟩ : Sv).c, Value.int .i64 0, Value.int .u64 0, Value.int .i64 0, Value.int .i64 0, Value.int .i64 0, Value.int .i64 0]) pl61 ti61 (parts_map S rfl) (by kernel_rfl)) rfl rfl trivial ?_
  clear S; intro aa S
  refine OL.pure S (Lf.run_build (cs := #[Value.int .i64 6, Value.int .i64 0, Value.int .i64 0, Value.slice (⟨none, 0, 0⟩ : Sv).a (⟨none, 0, 0⟩ : Sv).n (⟨none, 0, 0⟩ : Sv).c, Value.int .i64 0, Value.slice (⟨none, 0, 0⟩ : Sv).a (⟨none, 0, 0⟩ : Sv).n (⟨none, 0, 0⟩ : Sv).c, Value.int .i64 0, Value.slice (⟨none, 0, 0⟩ : Sv).a (⟨none, 0, 0⟩ : Sv).n (⟨none, 0, 0⟩ : Sv).c, Value.bool false, Value.string (⟨#[]⟩ : ByteArray), Value.int .i64 0, Value.slice (⟨none, 0, 0⟩ : Sv).a (⟨none, 0, 0⟩ : Sv).n (⟨none, 0, 0⟩ : Sv).c, Value.int .i64 0, Value.int .i64 0, Value.slice (⟨none, 0, 0⟩ : Sv).a (⟨none, 0, 0⟩ : Sv).n (⟨none, 0, 0⟩ : Sv).c, Value.int .i64 0, Value.int .u64 0, Value.int .i64 0, Value.int .i64 0, Value.int .i64 0, Value.int .i64 0]) pl61 ti61 (parts_map S rfl) (by kernel_rfl)) rfl rfl trivial ?_
  clear S; intro aa S
  refine ol_newS S H Try.underlying31 ti61 (by decide) (parts_map S rfl) (by kernel_rfl) (by decide) rfl trivial ?_
  clear S H aa; intro s8 aa ww h2 H S
  refine OL.pure S (Lf.run_build (cs := #[Value.string (⟨#[]⟩ : ByteArray), Value.int .i64 0, Value.slice s4.a s4.n s4.c, Value.slice s8.a s8.n s8.c]) pl33 ti33 (parts_map S rfl) (by kernel_rfl)) rfl rfl trivial ?_
  clear S; intro aa S
  refine ol_box S H rfl rfl rfl trivial ?_
  clear S H aa; intro p10 aa ww h3 H S
  refine OL.pure S (Lf.run_assign (S.ev rfl)) rfl rfl trivial ?_
  clear S; intro aa S
  refine OL.nil ?_
  refine W.seq ?_
  replace S := S.sub [(1, Value.pointer (some p10))] ⟨rfl, trivial⟩
  refine W.region ?_
  refine OL.pure S (Lf.run_build (cs := #[Value.string (⟨#[]⟩ : ByteArray), Value.int .i64 0, Value.string (⟨#[]⟩ : ByteArray), Value.bool false, Value.int .i64 0, Value.slice (⟨none, 0, 0⟩ : Sv).a (⟨none, 0, 0⟩ : Sv).n (⟨none, 0, 0⟩ : Sv).c, Value.slice (⟨none, 0, 0⟩ : Sv).a (⟨none, 0, 0⟩ : Sv).n (⟨none, 0, 0⟩ : Sv).c, Value.int .i64 0, Value.int .i64 0]) pl53 ti53 (parts_map S rfl) (by kernel_rfl)) rfl rfl trivial ?_
  clear S; intro aa S
  refine ol_newS S H Try.underlying30 ti53 (by decide) (parts_map S rfl) (by kernel_rfl) (by decide) rfl trivial ?_
  clear S H aa; intro s12 aa ww h4 H S
  refine OL.pure S (Lf.run_build (cs := #[Value.int .i64 4, Value.int .i64 0, Value.int .i64 0, Value.slice (⟨none, 0, 0⟩ : Sv).a (⟨none, 0, 0⟩ : Sv).n (⟨none, 0, 0⟩ : Sv).c, Value.int .i64 0, Value.slice (⟨none, 0, 0⟩ : Sv).a (⟨none, 0, 0⟩ : Sv).n (⟨none, 0, 0⟩ : Sv).c, Value.int .i64 0, Value.slice (⟨none, 0, 0⟩ : Sv).a (⟨none, 0, 0⟩ : Sv).n (⟨none, 0, 0⟩ : Sv).c, Value.bool false, Value.string (⟨#[]⟩ : ByteArray), Value.int .i64 0, Value.slice (⟨none, 0, 0⟩ : Sv).a (⟨none, 0, 0⟩ : Sv).n (⟨none, 0, 0⟩ : Sv).c, Value.int .i64 0, Value.int .i64 0, Value.slice (⟨none, 0, 0⟩ : Sv).a (⟨none, 0, 0⟩ : Sv).n (⟨none, 0, 0⟩ : Sv).c, Value.int .i64 0, Value.int .u64 0, Value.int .i64 1, Value.int .i64 0, Value.int .i64 0, Value.int .i64 0]) pl61 ti61 (parts_map S rfl) (by kernel_rfl)) rfl rfl trivial ?_
  clear S; intro aa S
  refine ol_newS S H Try.underlying31 ti61 (by decide) (parts_map S rfl) (by kernel_rfl) (by decide) rfl trivial ?_
  clear S H aa; intro s14 aa ww h5 H S
  refine OL.pure S (Lf.run_build (cs := #[Value.string (⟨#[]⟩ : ByteArray), Value.int .i64 0, Value.slice s12.a s12.n s12.c, Value.slice s14.a s14.n s14.c]) pl33 ti33 (parts_map S rfl) (by kernel_rfl)) rfl rfl trivial ?_
  clear S; intro aa S
  refine ol_box S H rfl rfl rfl trivial ?_
  clear S H aa; intro p16 aa ww h6 H S
  refine OL.pure S (Lf.run_assign (S.ev rfl)) rfl rfl trivial ?_
  clear S; intro aa S
  refine OL.nil ?_
  refine W.seq ?_
  replace S := S.sub [(1, Value.pointer (some p10)), (2, Value.pointer (some p16))] ⟨rfl, rfl, trivial⟩
  refine W.region ?_
  refine OL.pure S (Lf.run_move (S.ev rfl)) rfl rfl trivial ?_
  clear S; intro aa S
  refine ol_cal S H isfn13 rfl rfl trivial ?_
  clear S H aa; intro u aa ww h7 H S
  obtain ⟨x18, rfl, H⟩ := H
  refine OL.pure S (Lf.run_eql (S.ev rfl) (S.ev rfl)) rfl rfl trivial ?_
  clear S; intro aa S
  refine OL.pure S (Lf.run_move (S.ev rfl)) rfl rfl trivial ?_
  clear S; intro aa S
  obtain ⟨J, H, HK⟩ := H
  refine OL.cutN 4 (fun aa ww => ∃ x24 h8, St 51 ((24, Value.bool x24) :: [(1, Value.pointer (some p10)), (2, Value.pointer (some p16)), (17, Value.pointer (some p10)), (18, Value.int .i64 x18), (19, Value.bool (x18 == (-1))), (20, Value.bool (x18 == (-1)))]) h8 w0 aa ww ∧ J x24 h8) ?_ ?_
  · rcases Bool.eq_false_or_eq_true (x18 == (-1)) with hb | hb
    · replace H := H.1 hb
      refine OL.pure S (Lf.run_move (S.ev rfl)) rfl rfl (GOk.mk rfl rfl hb) ?_
      clear S; intro aa S
      refine ol_cal S H isfn13 rfl rfl (GOk.mk rfl rfl hb) ?_
      clear S H aa; intro u_1 aa ww h9 H S
      obtain ⟨x22, rfl, H⟩ := H
      refine OL.pure S (Lf.run_eql (S.ev rfl) (S.ev rfl)) rfl rfl (GOk.mk rfl rfl hb) ?_
      clear S; intro aa S
      refine OL.pure S (Lf.run_pickT (S.ev rfl) hb (S.ev rfl)) rfl rfl trivial ?_
      clear S; intro aa S
      refine OL.nil ?_
      exact ⟨_, _, S.sub _ ⟨rfl, rfl, rfl, rfl, rfl, rfl, rfl, trivial⟩, H⟩
    · replace H := H.2 hb
      refine OL.not S rfl rfl (GNo.mk rfl rfl hb) ?_
      clear S; intro aa S
      refine OL.not S rfl rfl (GNo.mk rfl rfl hb) ?_
      clear S; intro aa S
      refine OL.not S rfl rfl (GNo.mk rfl rfl hb) ?_
      clear S; intro aa S
      refine OL.pure S (Lf.run_pickF (S.ev rfl) hb (S.ev rfl)) rfl rfl trivial ?_
      clear S; intro aa S
      refine OL.nil ?_
      exact ⟨_, _, S.sub _ ⟨rfl, rfl, rfl, rfl, rfl, rfl, rfl, trivial⟩, H⟩
  · clear S aa
    rintro aa ww ⟨x24, h8, S, HJ⟩
    replace H := HK _ _ HJ
    clear HK HJ
    refine OL.pure S (Lf.run_move (S.ev rfl)) rfl rfl trivial ?_
    clear S; intro aa S
    obtain ⟨J_1, H, HK_1⟩ := H
    refine OL.cutN 5 (fun aa ww => ∃ x30 h10, St 51 ((30, Value.bool x30) :: [(1, Value.pointer (some p10)), (2, Value.pointer (some p16)), (17, Value.pointer (some p10)), (18, Value.int .i64 x18), (19, Value.bool (x18 == (-1))), (20, Value.bool (x18 == (-1))), (24, Value.bool x24), (25, Value.bool x24)]) h10 w0 aa ww ∧ J_1 x30 h10) ?_ ?_
    · rcases Bool.eq_false_or_eq_true x24 with hb_1 | hb_1
      · replace H := H.1 hb_1
        refine OL.pure S (Lf.run_move (S.ev rfl)) rfl rfl (GOk.mk rfl rfl hb_1) ?_
        clear S; intro aa S
        refine ol_cal S H isfn12 rfl rfl (GOk.mk rfl rfl hb_1) ?_
        clear S H aa; intro u_2 aa ww h11 H S
        obtain ⟨x27, rfl, H⟩ := H
        refine ol_newS S H Try.underlying22 ti3 (by decide) (parts_map S rfl) (by kernel_rfl) (by decide) rfl (GOk.mk rfl rfl hb_1) ?_
        clear S H aa; intro s28 aa ww h12 H S
        refine ol_cal S H isfn21 rfl rfl (GOk.mk rfl rfl hb_1) ?_
        clear S H aa; intro u_3 aa ww h13 H S
        obtain ⟨x29, rfl, H⟩ := H
        refine OL.pure S (Lf.run_pickT (S.ev rfl) hb_1 (S.ev rfl)) rfl rfl trivial ?_
        clear S; intro aa S
        refine OL.nil ?_
        exact ⟨_, _, S.sub _ ⟨rfl, rfl, rfl, rfl, rfl, rfl, rfl, rfl, rfl, trivial⟩, H⟩
      · replace H := H.2 hb_1
        refine OL.not S rfl rfl (GNo.mk rfl rfl hb_1) ?_
        clear S; intro aa S
        refine OL.not S rfl rfl (GNo.mk rfl rfl hb_1) ?_
        clear S; intro aa S
        refine OL.not S rfl rfl (GNo.mk rfl rfl hb_1) ?_
        clear S; intro aa S
        refine OL.not S rfl rfl (GNo.mk rfl rfl hb_1) ?_
        clear S; intro aa S
        refine OL.pure S (Lf.run_pickF (S.ev rfl) hb_1 (S.ev rfl)) rfl rfl trivial ?_
        clear S; intro aa S
        refine OL.nil ?_
        exact ⟨_, _, S.sub _ ⟨rfl, rfl, rfl, rfl, rfl, rfl, rfl, rfl, rfl, trivial⟩, H⟩
    · clear S aa
      rintro aa ww ⟨x30, h10, S, HJ⟩
      replace H := HK_1 _ _ HJ
      clear HK_1 HJ
      refine OL.pure S (Lf.run_move (S.ev rfl)) rfl rfl trivial ?_
      clear S; intro aa S
      obtain ⟨J_2, H, HK_2⟩ := H
      refine OL.cutN 5 (fun aa ww => ∃ x36 h14, St 51 ((36, Value.bool x36) :: [(1, Value.pointer (some p10)), (2, Value.pointer (some p16)), (17, Value.pointer (some p10)), (18, Value.int .i64 x18), (19, Value.bool (x18 == (-1))), (20, Value.bool (x18 == (-1))), (24, Value.bool x24), (25, Value.bool x24), (30, Value.bool x30), (31, Value.bool x30)]) h14 w0 aa ww ∧ J_2 x36 h14) ?_ ?_
      · rcases Bool.eq_false_or_eq_true x30 with hb_2 | hb_2
        · replace H := H.1 hb_2
          refine OL.pure S (Lf.run_move (S.ev rfl)) rfl rfl (GOk.mk rfl rfl hb_2) ?_
          clear S; intro aa S
          refine ol_cal S H isfn14 rfl rfl (GOk.mk rfl rfl hb_2) ?_
          clear S H aa; intro u_4 aa ww h15 H S
          obtain ⟨x33, rfl, H⟩ := H
          refine OL.pure S (Lf.run_lens (S.ev rfl) rfl Try.underlying42) rfl rfl (GOk.mk rfl rfl hb_2) ?_
          clear S; intro aa S
          refine OL.pure S (Lf.run_eql (S.ev rfl) (S.ev rfl)) rfl rfl (GOk.mk rfl rfl hb_2) ?_
          clear S; intro aa S
          refine OL.pure S (Lf.run_pickT (S.ev rfl) hb_2 (S.ev rfl)) rfl rfl trivial ?_
          clear S; intro aa S
          refine OL.nil ?_
          exact ⟨_, _, S.sub _ ⟨rfl, rfl, rfl, rfl, rfl, rfl, rfl, rfl, rfl, rfl, rfl, trivial⟩, H⟩
        · replace H := H.2 hb_2
          refine OL.not S rfl rfl (GNo.mk rfl rfl hb_2) ?_
          clear S; intro aa S
          refine OL.not S rfl rfl (GNo.mk rfl rfl hb_2) ?_
          clear S; intro aa S
          refine OL.not S rfl rfl (GNo.mk rfl rfl hb_2) ?_
          clear S; intro aa S
          refine OL.not S rfl rfl (GNo.mk rfl rfl hb_2) ?_
          clear S; intro aa S
          refine OL.pure S (Lf.run_pickF (S.ev rfl) hb_2 (S.ev rfl)) rfl rfl trivial ?_
          clear S; intro aa S
          refine OL.nil ?_
          exact ⟨_, _, S.sub _ ⟨rfl, rfl, rfl, rfl, rfl, rfl, rfl, rfl, rfl, rfl, rfl, trivial⟩, H⟩
      · clear S aa
        rintro aa ww ⟨x36, h14, S, HJ⟩
        replace H := HK_2 _ _ HJ
        clear HK_2 HJ
        refine OL.pure S (Lf.run_move (S.ev rfl)) rfl rfl trivial ?_
        clear S; intro aa S
        obtain ⟨J_3, H, HK_3⟩ := H
        refine OL.cutN 6 (fun aa ww => ∃ x43 h16, St 51 ((43, Value.bool x43) :: [(1, Value.pointer (some p10)), (2, Value.pointer (some p16)), (17, Value.pointer (some p10)), (18, Value.int .i64 x18), (19, Value.bool (x18 == (-1))), (20, Value.bool (x18 == (-1))), (24, Value.bool x24), (25, Value.bool x24), (30, Value.bool x30), (31, Value.bool x30), (36, Value.bool x36), (37, Value.bool x36)]) h16 w0 aa ww ∧ J_3 x43 h16) ?_ ?_
        · rcases Bool.eq_false_or_eq_true x36 with hb_3 | hb_3
          · replace H := H.1 hb_3
            refine OL.pure S (Lf.run_move (S.ev rfl)) rfl rfl (GOk.mk rfl rfl hb_3) ?_
            clear S; intro aa S
            refine ol_cal S H isfn15 rfl rfl (GOk.mk rfl rfl hb_3) ?_
            clear S H aa; intro u_5 aa ww h17 H S
            obtain ⟨x39, rfl, H⟩ := H
            refine OL.pure S (Lf.run_move (S.ev rfl)) rfl rfl (GOk.mk rfl rfl hb_3) ?_
            clear S; intro aa S
            refine ol_cal S H isfn15 rfl rfl (GOk.mk rfl rfl hb_3) ?_
            clear S H aa; intro u_6 aa ww h18 H S
            obtain ⟨x41, rfl, H⟩ := H
            refine OL.pure S (Lf.run_neqt (S.ev rfl) (S.ev rfl)) rfl rfl (GOk.mk rfl rfl hb_3) ?_
            clear S; intro aa S
            refine OL.pure S (Lf.run_pickT (S.ev rfl) hb_3 (S.ev rfl)) rfl rfl trivial ?_
            clear S; intro aa S
            refine OL.nil ?_
            exact ⟨_, _, S.sub _ ⟨rfl, rfl, rfl, rfl, rfl, rfl, rfl, rfl, rfl, rfl, rfl, rfl, rfl, trivial⟩, H⟩
          · replace H := H.2 hb_3
            refine OL.not S rfl rfl (GNo.mk rfl rfl hb_3) ?_
            clear S; intro aa S
            refine OL.not S rfl rfl (GNo.mk rfl rfl hb_3) ?_
            clear S; intro aa S
            refine OL.not S rfl rfl (GNo.mk rfl rfl hb_3) ?_
            clear S; intro aa S
            refine OL.not S rfl rfl (GNo.mk rfl rfl hb_3) ?_
            clear S; intro aa S
            refine OL.not S rfl rfl (GNo.mk rfl rfl hb_3) ?_
            clear S; intro aa S
            refine OL.pure S (Lf.run_pickF (S.ev rfl) hb_3 (S.ev rfl)) rfl rfl trivial ?_
            clear S; intro aa S
            refine OL.nil ?_
            exact ⟨_, _, S.sub _ ⟨rfl, rfl, rfl, rfl, rfl, rfl, rfl, rfl, rfl, rfl, rfl, rfl, rfl, trivial⟩, H⟩
        · clear S aa
          rintro aa ww ⟨x43, h16, S, HJ⟩
          replace H := HK_3 _ _ HJ
          clear HK_3 HJ
          refine OL.pure S (Lf.run_move (S.ev rfl)) rfl rfl trivial ?_
          clear S; intro aa S
          obtain ⟨J_4, H, HK_4⟩ := H
          refine OL.cutN 6 (fun aa ww => ∃ x50 h19, St 51 ((50, Value.bool x50) :: [(1, Value.pointer (some p10)), (2, Value.pointer (some p16)), (17, Value.pointer (some p10)), (18, Value.int .i64 x18), (19, Value.bool (x18 == (-1))), (20, Value.bool (x18 == (-1))), (24, Value.bool x24), (25, Value.bool x24), (30, Value.bool x30), (31, Value.bool x30), (36, Value.bool x36), (37, Value.bool x36), (43, Value.bool x43), (44, Value.bool x43)]) h19 w0 aa ww ∧ J_4 x50 h19) ?_ ?_
          · rcases Bool.eq_false_or_eq_true x43 with hb_4 | hb_4
            · replace H := H.1 hb_4
              refine ol_newS S H Try.underlying22 ti3 (by decide) (parts_map S rfl) (by kernel_rfl) (by decide) rfl (GOk.mk rfl rfl hb_4) ?_
              clear S H aa; intro s45 aa ww h20 H S
              refine OL.pure S (Lf.run_build (cs := #[Value.int .i64 1, Value.slice s45.a s45.n s45.c]) pl24 ti24 (parts_map S rfl) (by kernel_rfl)) rfl rfl (GOk.mk rfl rfl hb_4) ?_
              clear S; intro aa S
              refine ol_newS S H Try.underlying22 ti3 (by decide) (parts_map S rfl) (by kernel_rfl) (by decide) rfl (GOk.mk rfl rfl hb_4) ?_
              clear S H aa; intro s47 aa ww h21 H S
              refine OL.pure S (Lf.run_build (cs := #[Value.int .i64 1, Value.slice s47.a s47.n s47.c]) pl24 ti24 (parts_map S rfl) (by kernel_rfl)) rfl rfl (GOk.mk rfl rfl hb_4) ?_
              clear S; intro aa S
              refine ol_cal S H isfn8 rfl rfl (GOk.mk rfl rfl hb_4) ?_
              clear S H aa; intro u_7 aa ww h22 H S
              obtain ⟨x49, rfl, H⟩ := H
              refine OL.pure S (Lf.run_pickT (S.ev rfl) hb_4 (S.ev rfl)) rfl rfl trivial ?_
              clear S; intro aa S
              refine OL.nil ?_
              exact ⟨_, _, S.sub _ ⟨rfl, rfl, rfl, rfl, rfl, rfl, rfl, rfl, rfl, rfl, rfl, rfl, rfl, rfl, rfl, trivial⟩, H⟩
            · replace H := H.2 hb_4
              refine OL.not S rfl rfl (GNo.mk rfl rfl hb_4) ?_
              clear S; intro aa S
              refine OL.not S rfl rfl (GNo.mk rfl rfl hb_4) ?_
              clear S; intro aa S
              refine OL.not S rfl rfl (GNo.mk rfl rfl hb_4) ?_
              clear S; intro aa S
              refine OL.not S rfl rfl (GNo.mk rfl rfl hb_4) ?_
              clear S; intro aa S
              refine OL.not S rfl rfl (GNo.mk rfl rfl hb_4) ?_
              clear S; intro aa S
              refine OL.pure S (Lf.run_pickF (S.ev rfl) hb_4 (S.ev rfl)) rfl rfl trivial ?_
              clear S; intro aa S
              refine OL.nil ?_
              exact ⟨_, _, S.sub _ ⟨rfl, rfl, rfl, rfl, rfl, rfl, rfl, rfl, rfl, rfl, rfl, rfl, rfl, rfl, rfl, trivial⟩, H⟩
          · clear S aa
            rintro aa ww ⟨x50, h19, S, HJ⟩
            replace H := HK_4 _ _ HJ
            clear HK_4 HJ
            refine OL.pure S (Lf.run_assign (S.ev rfl)) rfl rfl trivial ?_
            clear S; intro aa S
            refine OL.nil ?_
            refine W.ret ?_
            exact Ret.one S rfl rfl H

/-- chattel mir.Meet -/
def L8 (a0 : Int) (a0_1 : Sv) (b1 : Int) (b1_1 : Sv) (h : Heap) (R : Value → Heap → Prop) : Prop :=
  new 24 #[Value.int .i64 a0, Value.slice a0_1.a a0_1.n a0_1.c] h fun p2 h1 =>
  new 24 #[Value.int .i64 b1, Value.slice b1_1.a b1_1.n b1_1.c] h1 fun p3 h2 =>
  ∃ (y5 : Int) (y5_1 : Sv), cl h2 p2 = some (Value.int .i64 y5) ∧ cl h2 (p2.add 1) = some (Value.slice y5_1.a y5_1.n y5_1.c) ∧
  ∃ (y6 : Int) (y6_1 : Sv), cl h2 p3 = some (Value.int .i64 y6) ∧ cl h2 (p3.add 1) = some (Value.slice y6_1.a y6_1.n y6_1.c) ∧
  cal Try.prog 17 #[Value.agg #[Value.int .i64 y5, Value.slice y5_1.a y5_1.n y5_1.c], Value.agg #[Value.int .i64 y6, Value.slice y6_1.a y6_1.n y6_1.c]] h2 fun u h3 => asB u fun x7 =>
  ∃ J : Bool → Heap → Prop, (orj x7 (fun k =>
    ∃ (y9 : Int) (y9_1 : Sv), cl h3 p3 = some (Value.int .i64 y9) ∧ cl h3 (p3.add 1) = some (Value.slice y9_1.a y9_1.n y9_1.c) ∧
    ∃ (y10 : Int) (y10_1 : Sv), cl h3 p2 = some (Value.int .i64 y10) ∧ cl h3 (p2.add 1) = some (Value.slice y10_1.a y10_1.n y10_1.c) ∧
    cal Try.prog 17 #[Value.agg #[Value.int .i64 y9, Value.slice y9_1.a y9_1.n y9_1.c], Value.agg #[Value.int .i64 y10, Value.slice y10_1.a y10_1.n y10_1.c]] h3 fun u_1 h5 => asB u_1 fun x11 =>
    k x11 h5) h3 J) ∧ ∀ x12 h4, J x12 h4 →
  R (Value.bool x12) h4

set_option maxRecDepth 100000 in

theorem F8 {a0 a0_1 b1 b1_1 h : _} {R : Value → Heap → Prop} (H : L8 a0 a0_1 b1 b1_1 h R) : CallsH Try.prog 8 #[Value.agg #[Value.int .i64 a0, Value.slice a0_1.a a0_1.n a0_1.c], Value.agg #[Value.int .i64 b1, Value.slice b1_1.a b1_1.n b1_1.c]] h R := by
  refine CallsH.enter (n := 13) Try.func8 rfl rfl rfl rfl ?_
  intro w0 aa ww S
  unfold L8 at H
  refine W.seq ?_
  replace S := S.sub [(0, Value.agg #[Value.int .i64 a0, Value.slice a0_1.a a0_1.n a0_1.c]), (1, Value.agg #[Value.int .i64 b1, Value.slice b1_1.a b1_1.n b1_1.c])] ⟨rfl, rfl, trivial⟩
  refine W.region ?_
  refine ol_box S H rfl rfl rfl trivial ?_
  clear S H aa; intro p2 aa ww h1 H S
  refine ol_box S H rfl rfl rfl trivial ?_
  clear S H aa; intro p3 aa ww h2 H S
  refine OL.pure S (Lf.run_assign (S.ev rfl)) rfl rfl trivial ?_
  clear S; intro aa S
  refine OL.nil ?_
  refine W.seq ?_
  replace S := S.sub [(2, Value.pointer (some p2)), (3, Value.pointer (some p3))] ⟨rfl, rfl, trivial⟩
  refine W.region ?_
  obtain ⟨y5, y5_1, c_10, c_11, H⟩ := H
  refine OL.pure S (Lf.run_ldA (cs := [Value.int .i64 y5, Value.slice y5_1.a y5_1.n y5_1.c]) (S.ev rfl) ag24 ti24 (by rw [S.heap]; exact RowL.toRow ⟨c_10, c_11, trivial⟩)) rfl rfl trivial ?_
  clear S; intro aa S
  obtain ⟨y6, y6_1, c_8, c_9, H⟩ := H
  refine OL.pure S (Lf.run_ldA (cs := [Value.int .i64 y6, Value.slice y6_1.a y6_1.n y6_1.c]) (S.ev rfl) ag24 ti24 (by rw [S.heap]; exact RowL.toRow ⟨c_8, c_9, trivial⟩)) rfl rfl trivial ?_
  clear S; intro aa S
  refine ol_cal S H isfn17 rfl rfl trivial ?_
  clear S H aa; intro u aa ww h3 H S
  obtain ⟨x7, rfl, H⟩ := H
  refine OL.pure S (Lf.run_move (S.ev rfl)) rfl rfl trivial ?_
  clear S; intro aa S
  obtain ⟨J, H, HK⟩ := H
  refine OL.cutN 4 (fun aa ww => ∃ x12 h4, St 13 ((12, Value.bool x12) :: [(2, Value.pointer (some p2)), (3, Value.pointer (some p3)), (5, Value.agg #[Value.int .i64 y5, Value.slice y5_1.a y5_1.n y5_1.c]), (6, Value.agg #[Value.int .i64 y6, Value.slice y6_1.a y6_1.n y6_1.c]), (7, Value.bool x7), (8, Value.bool x7)]) h4 w0 aa ww ∧ J x12 h4) ?_ ?_
  · rcases Bool.eq_false_or_eq_true x7 with hb | hb
    · replace H := H.1 hb
      refine OL.not S rfl rfl (GNo.mk rfl rfl hb) ?_
      clear S; intro aa S
      refine OL.not S rfl rfl (GNo.mk rfl rfl hb) ?_
      clear S; intro aa S
      refine OL.not S rfl rfl (GNo.mk rfl rfl hb) ?_
      clear S; intro aa S
      refine OL.pure S (Lf.run_pickT (S.ev rfl) hb (S.ev rfl)) rfl rfl trivial ?_
      clear S; intro aa S
      refine OL.nil ?_
      exact ⟨_, _, S.sub _ ⟨rfl, rfl, rfl, rfl, rfl, rfl, rfl, trivial⟩, H⟩
    · replace H := H.2 hb
      obtain ⟨y9, y9_1, c_6, c_7, H⟩ := H
      refine OL.pure S (Lf.run_ldA (cs := [Value.int .i64 y9, Value.slice y9_1.a y9_1.n y9_1.c]) (S.ev rfl) ag24 ti24 (by rw [S.heap]; exact RowL.toRow ⟨c_6, c_7, trivial⟩)) rfl rfl (GOk.mk rfl rfl hb) ?_
      clear S; intro aa S
      obtain ⟨y10, y10_1, c_4, c_5, H⟩ := H
      refine OL.pure S (Lf.run_ldA (cs := [Value.int .i64 y10, Value.slice y10_1.a y10_1.n y10_1.c]) (S.ev rfl) ag24 ti24 (by rw [S.heap]; exact RowL.toRow ⟨c_4, c_5, trivial⟩)) rfl rfl (GOk.mk rfl rfl hb) ?_
      clear S; intro aa S
      refine ol_cal S H isfn17 rfl rfl (GOk.mk rfl rfl hb) ?_
      clear S H aa; intro u_1 aa ww h5 H S
      obtain ⟨x11, rfl, H⟩ := H
      refine OL.pure S (Lf.run_pickF (S.ev rfl) hb (S.ev rfl)) rfl rfl trivial ?_
      clear S; intro aa S
      refine OL.nil ?_
      exact ⟨_, _, S.sub _ ⟨rfl, rfl, rfl, rfl, rfl, rfl, rfl, trivial⟩, H⟩
  · clear S aa
    rintro aa ww ⟨x12, h4, S, HJ⟩
    replace H := HK _ _ HJ
    clear HK HJ
    refine OL.pure S (Lf.run_assign (S.ev rfl)) rfl rfl trivial ?_
    clear S; intro aa S
    refine OL.nil ?_
    refine W.ret ?_
    exact Ret.one S rfl rfl H

end Go.Proofs.Ytifjmbbnpkgmaaa

/- Lifted by program off the elaborated code: each Go function, read as a proposition over typed variables and the heap. -/
import Derived.Test.YteaidgpiolakcaaG0
import Derived.Test.YteaidgpiolakcaaLiftY
namespace Go.Proofs.Yteaidgpiolakcaa
open Go Go.Lf
set_option linter.unusedVariables false
set_option maxRecDepth 100000

/-- chattel chatteltop.TopVaries -/
def L3 (f0 : Sv) (f0_1 : Int) (f0_2 : Int) (f0_3 : Int) (f0_4 : Int) (f0_5 : Int) (f0_6 : Int) (f0_7 : Int) (f0_8 : Int) (f0_9 : Int) (f0_10 : Int) (f0_11 : Int) (f0_12 : Int) (f0_13 : Int) (f0_14 : Int) (f0_15 : Int) (f0_16 : Int) (h : Heap) (R : Value → Heap → Prop) : Prop :=
  new 27 #[Value.slice f0.a f0.n f0.c, Value.int .i64 f0_1, Value.int .i64 f0_2, Value.int .i64 f0_3, Value.int .i64 f0_4, Value.int .i64 f0_5, Value.int .i64 f0_6, Value.int .i64 f0_7, Value.int .i64 f0_8, Value.int .u64 f0_9, Value.int .u64 f0_10, Value.int .u64 f0_11, Value.int .u64 f0_12, Value.int .u64 f0_13, Value.int .u64 f0_14, Value.int .u64 f0_15, Value.int .u64 f0_16] h fun p1 h1 =>
  cal Try.prog 4 #[] h1 fun u h2 => asB u fun x18 =>
  ∃ J : Bool → Prop, (orr (!x18) (fun k =>
    ldS h2 p1 fun x22 =>
    k (decide (5 < ((x22.n : Nat) : Int)))) J) ∧ ∀ x25, J x25 →
  ifb x25 (
    cal Try.prog 4 #[] h2 fun u_1 h3 => asB u_1 fun x26 =>
    R (Value.bool x26) h3) (
    ∃ (I : Sv → Int → Heap → Prop) (m : Sv → Int → Heap → Nat), I (⟨none, 0, 0⟩ : Sv) 0 h2 ∧ ∀ l3 i4 h4, I l3 i4 h4 →
    ldS h4 p1 fun x29 =>
    ifb (decide (i4 < ((x29.n : Nat) : Int))) (
      ldS h4 p1 fun x35 =>
      ixS x35 i4 fun q37 =>
      ∃ (y38 : Int) (y38_1 : ByteArray) (y38_2 : Bool) (y38_3 : Int) (y38_4 : Sv) (y38_5 : Sv), cl h4 (q37.add ((i4 : Int).toNat * 6)) = some (Value.int .i64 y38) ∧ cl h4 ((q37.add ((i4 : Int).toNat * 6)).add 1) = some (Value.string y38_1) ∧ cl h4 ((q37.add ((i4 : Int).toNat * 6)).add 2) = some (Value.bool y38_2) ∧ cl h4 ((q37.add ((i4 : Int).toNat * 6)).add 3) = some (Value.int .i64 y38_3) ∧ cl h4 ((q37.add ((i4 : Int).toNat * 6)).add 4) = some (Value.slice y38_4.a y38_4.n y38_4.c) ∧ cl h4 ((q37.add ((i4 : Int).toNat * 6)).add 5) = some (Value.slice y38_5.a y38_5.n y38_5.c) ∧
      cal Try.prog 5 #[Value.agg #[Value.int .i64 y38, Value.string y38_1, Value.bool y38_2, Value.int .i64 y38_3, Value.slice y38_4.a y38_4.n y38_4.c, Value.slice y38_5.a y38_5.n y38_5.c], Value.int .i64 5] h4 fun u_2 h5 => asB u_2 fun x39 =>
      ifb (!x39) (
        R (Value.bool true) h5) (
        ldS h5 p1 fun x42 =>
        ixS x42 i4 fun q44 =>
        ∃ (y45 : Int) (y45_1 : ByteArray) (y45_2 : Bool) (y45_3 : Int) (y45_4 : Sv) (y45_5 : Sv), cl h5 (q44.add ((i4 : Int).toNat * 6)) = some (Value.int .i64 y45) ∧ cl h5 ((q44.add ((i4 : Int).toNat * 6)).add 1) = some (Value.string y45_1) ∧ cl h5 ((q44.add ((i4 : Int).toNat * 6)).add 2) = some (Value.bool y45_2) ∧ cl h5 ((q44.add ((i4 : Int).toNat * 6)).add 3) = some (Value.int .i64 y45_3) ∧ cl h5 ((q44.add ((i4 : Int).toNat * 6)).add 4) = some (Value.slice y45_4.a y45_4.n y45_4.c) ∧ cl h5 ((q44.add ((i4 : Int).toNat * 6)).add 5) = some (Value.slice y45_5.a y45_5.n y45_5.c) ∧
        cal Try.prog 6 #[Value.agg #[Value.int .i64 y45, Value.string y45_1, Value.bool y45_2, Value.int .i64 y45_3, Value.slice y45_4.a y45_4.n y45_4.c, Value.slice y45_5.a y45_5.n y45_5.c]] h5 fun u_3 h6 => asS u_3 fun x46 =>
        ∃ (I_1 : Int → Heap → Prop) (m_1 : Int → Heap → Nat), I_1 0 h6 ∧ ∀ k6 h7, I_1 k6 h7 →
        ifb (decide (k6 < ((x46.n : Nat) : Int))) (
          ixS x46 k6 fun q57 =>
          ldI .i64 h7 (q57.add ((k6 : Int).toNat * 1)) fun x58 =>
          ixS x46 k6 fun q63 =>
          sto h7 (q63.add ((k6 : Int).toNat * 1)) (Value.int .i64 (IntKind.i64.wrap (1 + (IntKind.i64.wrap (((IntKind.u64.wrap x58) : Int).tmod 4))))) fun h8 =>
          I_1 (IntKind.i64.wrap (k6 + 1)) h8 ∧ m_1 (IntKind.i64.wrap (k6 + 1)) h8 < m_1 k6 h7) (
          ldS h7 p1 fun x66 =>
          ixS x66 i4 fun q68 =>
          ∃ (y69 : Int) (y69_1 : ByteArray) (y69_2 : Bool) (y69_3 : Int) (y69_4 : Sv) (y69_5 : Sv), cl h7 (q68.add ((i4 : Int).toNat * 6)) = some (Value.int .i64 y69) ∧ cl h7 ((q68.add ((i4 : Int).toNat * 6)).add 1) = some (Value.string y69_1) ∧ cl h7 ((q68.add ((i4 : Int).toNat * 6)).add 2) = some (Value.bool y69_2) ∧ cl h7 ((q68.add ((i4 : Int).toNat * 6)).add 3) = some (Value.int .i64 y69_3) ∧ cl h7 ((q68.add ((i4 : Int).toNat * 6)).add 4) = some (Value.slice y69_4.a y69_4.n y69_4.c) ∧ cl h7 ((q68.add ((i4 : Int).toNat * 6)).add 5) = some (Value.slice y69_5.a y69_5.n y69_5.c) ∧
          cal Try.prog 7 #[Value.agg #[Value.int .i64 y69, Value.string y69_1, Value.bool y69_2, Value.int .i64 y69_3, Value.slice y69_4.a y69_4.n y69_4.c, Value.slice y69_5.a y69_5.n y69_5.c], Value.slice x46.a x46.n x46.c] h7 fun u_4 h9 => asTup u_4 fun r71 =>
          elt r71 0 fun u_5 => ∃ (y72 : Int) (y72_1 : ByteArray) (y72_2 : Bool) (y72_3 : Int) (y72_4 : Sv) (y72_5 : Sv), u_5 = Value.agg #[Value.int .i64 y72, Value.string y72_1, Value.bool y72_2, Value.int .i64 y72_3, Value.slice y72_4.a y72_4.n y72_4.c, Value.slice y72_5.a y72_5.n y72_5.c] ∧
          elt r71 1 fun u_6 => asS u_6 fun x73 =>
          new 32 #[Value.int .i64 0, Value.string (⟨#[]⟩ : ByteArray), Value.bool false, Value.int .i64 0, Value.slice (⟨none, 0, 0⟩ : Sv).a (⟨none, 0, 0⟩ : Sv).n (⟨none, 0, 0⟩ : Sv).c, Value.slice (⟨none, 0, 0⟩ : Sv).a (⟨none, 0, 0⟩ : Sv).n (⟨none, 0, 0⟩ : Sv).c] h9 fun p7 h10 =>
          stoA h10 p7 [Value.int .i64 y72, Value.string y72_1, Value.bool y72_2, Value.int .i64 y72_3, Value.slice y72_4.a y72_4.n y72_4.c, Value.slice y72_5.a y72_5.n y72_5.c] fun h11 =>
          ∃ (y75 : Int) (y75_1 : ByteArray) (y75_2 : Bool) (y75_3 : Int) (y75_4 : Sv) (y75_5 : Sv), cl h11 p7 = some (Value.int .i64 y75) ∧ cl h11 (p7.add 1) = some (Value.string y75_1) ∧ cl h11 (p7.add 2) = some (Value.bool y75_2) ∧ cl h11 (p7.add 3) = some (Value.int .i64 y75_3) ∧ cl h11 (p7.add 4) = some (Value.slice y75_4.a y75_4.n y75_4.c) ∧ cl h11 (p7.add 5) = some (Value.slice y75_5.a y75_5.n y75_5.c) ∧
          newS 32 #[Value.int .i64 y75, Value.string y75_1, Value.bool y75_2, Value.int .i64 y75_3, Value.slice y75_4.a y75_4.n y75_4.c, Value.slice y75_5.a y75_5.n y75_5.c] 1 h11 fun s76 h12 =>
          appS 32 (Value.agg #[Value.int .i64 0, Value.string (⟨#[]⟩ : ByteArray), Value.bool false, Value.int .i64 0, Value.slice (⟨none, 0, 0⟩ : Sv).a (⟨none, 0, 0⟩ : Sv).n (⟨none, 0, 0⟩ : Sv).c, Value.slice (⟨none, 0, 0⟩ : Sv).a (⟨none, 0, 0⟩ : Sv).n (⟨none, 0, 0⟩ : Sv).c]).cells 6 88 h12 l3 s76 fun s77 h13 =>
          I s77 (IntKind.i64.wrap (i4 + 1)) h13 ∧ m s77 (IntKind.i64.wrap (i4 + 1)) h13 < m l3 i4 h4))) (
      newS 41 #[Value.string (⟨#[90]⟩ : ByteArray), Value.int .i64 4, Value.slice (⟨none, 0, 0⟩ : Sv).a (⟨none, 0, 0⟩ : Sv).n (⟨none, 0, 0⟩ : Sv).c, Value.slice l3.a l3.n l3.c] 1 h4 fun s80 h14 =>
      cal Try.prog 8 #[Value.slice s80.a s80.n s80.c] h14 fun u_7 h15 => asM u_7 fun x81 =>
      new 32 #[Value.int .i64 0, Value.string (⟨#[]⟩ : ByteArray), Value.bool false, Value.int .i64 0, Value.slice (⟨none, 0, 0⟩ : Sv).a (⟨none, 0, 0⟩ : Sv).n (⟨none, 0, 0⟩ : Sv).c, Value.slice (⟨none, 0, 0⟩ : Sv).a (⟨none, 0, 0⟩ : Sv).n (⟨none, 0, 0⟩ : Sv).c] h15 fun p10 h16 =>
      new 32 #[Value.int .i64 0, Value.string (⟨#[]⟩ : ByteArray), Value.bool false, Value.int .i64 0, Value.slice (⟨none, 0, 0⟩ : Sv).a (⟨none, 0, 0⟩ : Sv).n (⟨none, 0, 0⟩ : Sv).c, Value.slice (⟨none, 0, 0⟩ : Sv).a (⟨none, 0, 0⟩ : Sv).n (⟨none, 0, 0⟩ : Sv).c] h16 fun p11 h17 =>
      stoA h17 p10 [Value.int .i64 5, Value.string (⟨#[90]⟩ : ByteArray), Value.bool false, Value.int .i64 0, Value.slice (⟨none, 0, 0⟩ : Sv).a (⟨none, 0, 0⟩ : Sv).n (⟨none, 0, 0⟩ : Sv).c, Value.slice (⟨none, 0, 0⟩ : Sv).a (⟨none, 0, 0⟩ : Sv).n (⟨none, 0, 0⟩ : Sv).c] fun h18 =>
      stoA h18 p11 [Value.int .i64 5, Value.string (⟨#[90]⟩ : ByteArray), Value.bool false, Value.int .i64 0, Value.slice (⟨none, 0, 0⟩ : Sv).a (⟨none, 0, 0⟩ : Sv).n (⟨none, 0, 0⟩ : Sv).c, Value.slice (⟨none, 0, 0⟩ : Sv).a (⟨none, 0, 0⟩ : Sv).n (⟨none, 0, 0⟩ : Sv).c] fun h19 =>
      ∃ (I_2 : Int → Heap → Prop) (m_2 : Int → Heap → Nat), I_2 0 h19 ∧ ∀ i12 h20, I_2 i12 h20 →
      ifb (decide (i12 < 4)) (
        ldS h20 (p10.add 4) fun x89 =>
        ixA 4 i12 (
        ldI .i64 h20 ((p1.add 1).add ((i12 : Int).toNat * 1)) fun x93 =>
        newS 3 #[Value.int .i64 (IntKind.i64.wrap (((IntKind.u64.wrap x93) : Int).tmod 8))] 1 h20 fun s97 h21 =>
        appS 3 (Value.int .i64 0).cells 1 8 h21 x89 s97 fun s98 h22 =>
        sto h22 (p10.add 4) (Value.slice s98.a s98.n s98.c) fun h23 =>
        ldS h23 (p11.add 4) fun x101 =>
        ixA 4 i12 (
        ldI .i64 h23 ((p1.add 5).add ((i12 : Int).toNat * 1)) fun x105 =>
        newS 3 #[Value.int .i64 (IntKind.i64.wrap (((IntKind.u64.wrap x105) : Int).tmod 8))] 1 h23 fun s109 h24 =>
        appS 3 (Value.int .i64 0).cells 1 8 h24 x101 s109 fun s110 h25 =>
        sto h25 (p11.add 4) (Value.slice s110.a s110.n s110.c) fun h26 =>
        I_2 (IntKind.i64.wrap (i12 + 1)) h26 ∧ m_2 (IntKind.i64.wrap (i12 + 1)) h26 < m_2 i12 h20))) (
        ∃ (y114 : Int) (y114_1 : ByteArray) (y114_2 : Bool) (y114_3 : Int) (y114_4 : Sv) (y114_5 : Sv), cl h20 p10 = some (Value.int .i64 y114) ∧ cl h20 (p10.add 1) = some (Value.string y114_1) ∧ cl h20 (p10.add 2) = some (Value.bool y114_2) ∧ cl h20 (p10.add 3) = some (Value.int .i64 y114_3) ∧ cl h20 (p10.add 4) = some (Value.slice y114_4.a y114_4.n y114_4.c) ∧ cl h20 (p10.add 5) = some (Value.slice y114_5.a y114_5.n y114_5.c) ∧
        ∃ (y115 : Int) (y115_1 : ByteArray) (y115_2 : Bool) (y115_3 : Int) (y115_4 : Sv) (y115_5 : Sv), cl h20 p11 = some (Value.int .i64 y115) ∧ cl h20 (p11.add 1) = some (Value.string y115_1) ∧ cl h20 (p11.add 2) = some (Value.bool y115_2) ∧ cl h20 (p11.add 3) = some (Value.int .i64 y115_3) ∧ cl h20 (p11.add 4) = some (Value.slice y115_4.a y115_4.n y115_4.c) ∧ cl h20 (p11.add 5) = some (Value.slice y115_5.a y115_5.n y115_5.c) ∧
        cal Try.prog 9 #[Value.map x81, Value.agg #[Value.int .i64 y114, Value.string y114_1, Value.bool y114_2, Value.int .i64 y114_3, Value.slice y114_4.a y114_4.n y114_4.c, Value.slice y114_5.a y114_5.n y114_5.c], Value.agg #[Value.int .i64 y115, Value.string y115_1, Value.bool y115_2, Value.int .i64 y115_3, Value.slice y115_4.a y115_4.n y115_4.c, Value.slice y115_5.a y115_5.n y115_5.c]] h20 fun u_8 h27 => asTup u_8 fun r116 =>
        elt r116 0 fun u_9 => asS u_9 fun x117 =>
        elt r116 1 fun u_10 => asB u_10 fun x118 =>
        ∃ J_1 : Bool → Heap → Prop, (orj (!x118) (fun k_1 =>
          cal Try.prog 10 #[Value.slice x117.a x117.n x117.c, Value.slice (⟨some (p1.add 9), 8, 8⟩ : Sv).a (⟨some (p1.add 9), 8, 8⟩ : Sv).n (⟨some (p1.add 9), 8, 8⟩ : Sv).c] h27 fun u_11 h29 => asB u_11 fun x125 =>
          k_1 (!x125) h29) h27 J_1) ∧ ∀ x127 h28, J_1 x127 h28 →
        ifb x127 (
          R (Value.bool x118) h28) (
          ∃ (I_3 : Int → Heap → Prop) (m_3 : Int → Heap → Nat), I_3 0 h28 ∧ ∀ i15 h30, I_3 i15 h30 →
          ifb (decide (i15 < ((l3.n : Nat) : Int))) (
            ∃ Sq : Heap → Prop, Sq h30 ∧ (
              ixS l3 i15 fun q139 =>
              ∃ (y140 : Int) (y140_1 : ByteArray) (y140_2 : Bool) (y140_3 : Int) (y140_4 : Sv) (y140_5 : Sv), cl h30 (q139.add ((i15 : Int).toNat * 6)) = some (Value.int .i64 y140) ∧ cl h30 ((q139.add ((i15 : Int).toNat * 6)).add 1) = some (Value.string y140_1) ∧ cl h30 ((q139.add ((i15 : Int).toNat * 6)).add 2) = some (Value.bool y140_2) ∧ cl h30 ((q139.add ((i15 : Int).toNat * 6)).add 3) = some (Value.int .i64 y140_3) ∧ cl h30 ((q139.add ((i15 : Int).toNat * 6)).add 4) = some (Value.slice y140_4.a y140_4.n y140_4.c) ∧ cl h30 ((q139.add ((i15 : Int).toNat * 6)).add 5) = some (Value.slice y140_5.a y140_5.n y140_5.c) ∧
              ldS h30 (p10.add 4) fun x142 =>
              ixS l3 i15 fun q146 =>
              ∃ (y147 : Int) (y147_1 : ByteArray) (y147_2 : Bool) (y147_3 : Int) (y147_4 : Sv) (y147_5 : Sv), hld Sq (q146.add ((i15 : Int).toNat * 6)) (Value.int .i64 y147) ∧ hld Sq ((q146.add ((i15 : Int).toNat * 6)).add 1) (Value.string y147_1) ∧ hld Sq ((q146.add ((i15 : Int).toNat * 6)).add 2) (Value.bool y147_2) ∧ hld Sq ((q146.add ((i15 : Int).toNat * 6)).add 3) (Value.int .i64 y147_3) ∧ hld Sq ((q146.add ((i15 : Int).toNat * 6)).add 4) (Value.slice y147_4.a y147_4.n y147_4.c) ∧ hld Sq ((q146.add ((i15 : Int).toNat * 6)).add 5) (Value.slice y147_5.a y147_5.n y147_5.c) ∧
              hlS Sq (p11.add 4) fun x149 =>
              cal Try.prog 11 #[Value.agg #[Value.int .i64 y140, Value.string y140_1, Value.bool y140_2, Value.int .i64 y140_3, Value.slice y140_4.a y140_4.n y140_4.c, Value.slice y140_5.a y140_5.n y140_5.c], Value.slice x142.a x142.n x142.c, Value.slice (⟨none, 0, 0⟩ : Sv).a (⟨none, 0, 0⟩ : Sv).n (⟨none, 0, 0⟩ : Sv).c, Value.slice (⟨none, 0, 0⟩ : Sv).a (⟨none, 0, 0⟩ : Sv).n (⟨none, 0, 0⟩ : Sv).c] h30 fun u_12 h31 => ∃ (y143 : Int) (y143_1 : ByteArray) (y143_2 : Bool) (y143_3 : Int) (y143_4 : Sv) (y143_5 : Sv), u_12 = Value.agg #[Value.int .i64 y143, Value.string y143_1, Value.bool y143_2, Value.int .i64 y143_3, Value.slice y143_4.a y143_4.n y143_4.c, Value.slice y143_5.a y143_5.n y143_5.c] ∧
              Sq h31 ∧
              cal Try.prog 11 #[Value.agg #[Value.int .i64 y147, Value.string y147_1, Value.bool y147_2, Value.int .i64 y147_3, Value.slice y147_4.a y147_4.n y147_4.c, Value.slice y147_5.a y147_5.n y147_5.c], Value.slice x149.a x149.n x149.c, Value.slice (⟨none, 0, 0⟩ : Sv).a (⟨none, 0, 0⟩ : Sv).n (⟨none, 0, 0⟩ : Sv).c, Value.slice (⟨none, 0, 0⟩ : Sv).a (⟨none, 0, 0⟩ : Sv).n (⟨none, 0, 0⟩ : Sv).c] h31 fun u_13 h32 => ∃ (y150 : Int) (y150_1 : ByteArray) (y150_2 : Bool) (y150_3 : Int) (y150_4 : Sv) (y150_5 : Sv), u_13 = Value.agg #[Value.int .i64 y150, Value.string y150_1, Value.bool y150_2, Value.int .i64 y150_3, Value.slice y150_4.a y150_4.n y150_4.c, Value.slice y150_5.a y150_5.n y150_5.c] ∧
              cal Try.prog 9 #[Value.map x81, Value.agg #[Value.int .i64 y143, Value.string y143_1, Value.bool y143_2, Value.int .i64 y143_3, Value.slice y143_4.a y143_4.n y143_4.c, Value.slice y143_5.a y143_5.n y143_5.c], Value.agg #[Value.int .i64 y150, Value.string y150_1, Value.bool y150_2, Value.int .i64 y150_3, Value.slice y150_4.a y150_4.n y150_4.c, Value.slice y150_5.a y150_5.n y150_5.c]] h32 fun u_14 h33 => asTup u_14 fun r151 =>
              elt r151 0 fun u_15 => asS u_15 fun x152 =>
              elt r151 1 fun u_16 => asB u_16 fun x153 =>
              ∃ J_2 : Bool → Heap → Prop, (orj (!x153) (fun k_2 =>
                cal Try.prog 10 #[Value.slice x152.a x152.n x152.c, Value.slice (⟨some (p1.add 9), 8, 8⟩ : Sv).a (⟨some (p1.add 9), 8, 8⟩ : Sv).n (⟨some (p1.add 9), 8, 8⟩ : Sv).c] h33 fun u_17 h35 => asB u_17 fun x160 =>
                k_2 (!x160) h35) h33 J_2) ∧ ∀ x162 h34, J_2 x162 h34 →
              ifb x162 (
                R (Value.bool false) h34) (
                I_3 (IntKind.i64.wrap (i15 + 1)) h34 ∧ m_3 (IntKind.i64.wrap (i15 + 1)) h34 < m_3 i15 h30))) (
            R (Value.bool true) h30)))))

set_option maxRecDepth 100000 in

theorem F3 {f0 f0_1 f0_2 f0_3 f0_4 f0_5 f0_6 f0_7 f0_8 f0_9 f0_10 f0_11 f0_12 f0_13 f0_14 f0_15 f0_16 h : _} {R : Value → Heap → Prop} (H : L3 f0 f0_1 f0_2 f0_3 f0_4 f0_5 f0_6 f0_7 f0_8 f0_9 f0_10 f0_11 f0_12 f0_13 f0_14 f0_15 f0_16 h R) : CallsH Try.prog 3 #[Value.agg #[Value.slice f0.a f0.n f0.c, Value.int .i64 f0_1, Value.int .i64 f0_2, Value.int .i64 f0_3, Value.int .i64 f0_4, Value.int .i64 f0_5, Value.int .i64 f0_6, Value.int .i64 f0_7, Value.int .i64 f0_8, Value.int .u64 f0_9, Value.int .u64 f0_10, Value.int .u64 f0_11, Value.int .u64 f0_12, Value.int .u64 f0_13, Value.int .u64 f0_14, Value.int .u64 f0_15, Value.int .u64 f0_16]] h R := by
  refine CallsH.enter (n := 163) Try.func3 rfl rfl rfl rfl ?_
  intro w0 aa ww S
  unfold L3 at H
  refine W.seq ?_
  replace S := S.sub [(0, Value.agg #[Value.slice f0.a f0.n f0.c, Value.int .i64 f0_1, Value.int .i64 f0_2, Value.int .i64 f0_3, Value.int .i64 f0_4, Value.int .i64 f0_5, Value.int .i64 f0_6, Value.int .i64 f0_7, Value.int .i64 f0_8, Value.int .u64 f0_9, Value.int .u64 f0_10, Value.int .u64 f0_11, Value.int .u64 f0_12, Value.int .u64 f0_13, Value.int .u64 f0_14, Value.int .u64 f0_15, Value.int .u64 f0_16])] ⟨rfl, trivial⟩
  refine W.region ?_
  refine ol_box S H rfl rfl rfl trivial ?_
  clear S H aa; intro p1 aa ww h1 H S
  refine OL.pure S (Lf.run_assign (S.ev rfl)) rfl rfl trivial ?_
  clear S; intro aa S
  refine OL.nil ?_
  refine W.seq ?_
  refine W.seq ?_
  replace S := S.sub [(1, Value.pointer (some p1))] ⟨rfl, trivial⟩
  refine W.region ?_
  refine ol_cal S H isfn4 rfl rfl trivial ?_
  clear S H aa; intro u aa ww h2 H S
  obtain ⟨x18, rfl, H⟩ := H
  refine OL.pure S (Lf.run_not (S.ev rfl)) rfl rfl trivial ?_
  clear S; intro aa S
  refine OL.pure S (Lf.run_move (S.ev rfl)) rfl rfl trivial ?_
  clear S; intro aa S
  obtain ⟨J, H, HK⟩ := H
  refine OL.cutN 5 (fun aa ww => ∃ x25, St 163 ((25, Value.bool x25) :: [(1, Value.pointer (some p1)), (18, Value.bool x18), (19, Value.bool (!x18)), (20, Value.bool (!x18))]) h2 w0 aa ww ∧ J x25) ?_ ?_
  · rcases Bool.eq_false_or_eq_true (!x18) with hb | hb
    · replace H := H.1 hb
      refine OL.not S rfl rfl (GNo.mk rfl rfl hb) ?_
      clear S; intro aa S
      refine OL.not S rfl rfl (GNo.mk rfl rfl hb) ?_
      clear S; intro aa S
      refine OL.not S rfl rfl (GNo.mk rfl rfl hb) ?_
      clear S; intro aa S
      refine OL.not S rfl rfl (GNo.mk rfl rfl hb) ?_
      clear S; intro aa S
      refine OL.pure S (Lf.run_pickT (S.ev rfl) hb (S.ev rfl)) rfl rfl trivial ?_
      clear S; intro aa S
      refine OL.nil ?_
      exact ⟨_, S.sub _ ⟨rfl, rfl, rfl, rfl, rfl, trivial⟩, H⟩
    · replace H := H.2 hb
      refine OL.pure S (Lf.run_fa (S.ev rfl) fa27_0) rfl rfl (GOk.mk rfl rfl hb) ?_
      clear S; intro aa S
      obtain ⟨x22, c, H⟩ := H
      refine OL.pure S (Lf.run_ld (S.ev rfl) fl22 (S.cl c)) rfl rfl (GOk.mk rfl rfl hb) ?_
      clear S; intro aa S
      refine OL.pure S (Lf.run_lens (S.ev rfl) rfl Try.underlying22) rfl rfl (GOk.mk rfl rfl hb) ?_
      clear S; intro aa S
      refine OL.pure S (Lf.run_gtr (S.ev rfl) (S.ev rfl)) rfl rfl (GOk.mk rfl rfl hb) ?_
      clear S; intro aa S
      refine OL.pure S (Lf.run_pickF (S.ev rfl) hb (S.ev rfl)) rfl rfl trivial ?_
      clear S; intro aa S
      refine OL.nil ?_
      exact ⟨_, S.sub _ ⟨rfl, rfl, rfl, rfl, rfl, trivial⟩, H⟩
  · clear S aa
    rintro aa ww ⟨x25, S, HJ⟩
    replace H := HK _ HJ
    clear HK HJ
    refine OL.nil ?_
    refine W.cond S (b := x25) rfl (fun hb_1 => ?_) (fun hb_1 => ?_)
    · replace H := H.1 hb_1
      refine W.seq ?_
      replace S := S.sub [] trivial
      refine W.region ?_
      refine ol_cal S H isfn4 rfl rfl trivial ?_
      clear S H aa; intro u_1 aa ww h3 H S
      obtain ⟨x26, rfl, H⟩ := H
      refine OL.pure S (Lf.run_assign (S.ev rfl)) rfl rfl trivial ?_
      clear S; intro aa S
      refine OL.nil ?_
      refine W.ret ?_
      exact Ret.one S rfl rfl H
    · replace H := H.2 hb_1
      refine W.skip ?_
      refine W.seq ?_
      replace S := S.sub [(1, Value.pointer (some p1))] ⟨rfl, trivial⟩
      refine W.region ?_
      refine OL.pure S (Lf.run_assign (S.ev rfl)) rfl rfl trivial ?_
      clear S; intro aa S
      refine OL.nil ?_
      refine W.seq ?_
      refine W.seq ?_
      replace S := S.sub [(1, Value.pointer (some p1)), (3, Value.slice (⟨none, 0, 0⟩ : Sv).a (⟨none, 0, 0⟩ : Sv).n (⟨none, 0, 0⟩ : Sv).c)] ⟨rfl, rfl, trivial⟩
      refine W.region ?_
      refine OL.pure S (Lf.run_assign (S.ev rfl)) rfl rfl trivial ?_
      clear S; intro aa S
      refine OL.nil ?_
      refine W.block ?_
      obtain ⟨I, m, H, HB_3⟩ := H
      refine W.loopS (σ := Sv × Int × Heap) (fun s aa ww => St 163 [(1, Value.pointer (some p1)), (3, Value.slice s.1.a s.1.n s.1.c), (4, Value.int .i64 s.2.1)] s.2.2 w0 aa ww ∧ I s.1 s.2.1 s.2.2) (fun s => m s.1 s.2.1 s.2.2) ((⟨none, 0, 0⟩ : Sv), 0, h2) ⟨S.sub _ ⟨rfl, rfl, rfl, trivial⟩, H⟩ ?_
      clear H S aa
      rintro ⟨l3, i4, h4⟩ aa ww ⟨S, HI⟩
      replace S : St 163 [(1, Value.pointer (some p1)), (3, Value.slice l3.a l3.n l3.c), (4, Value.int .i64 i4)] h4 w0 aa ww := S
      have H := HB_3 l3 i4 h4 HI
      clear HI
      refine W.seq ?_
      refine W.seq ?_
      replace S := S.sub [(1, Value.pointer (some p1)), (3, Value.slice l3.a l3.n l3.c), (4, Value.int .i64 i4)] ⟨rfl, rfl, rfl, trivial⟩
      refine W.region ?_
      refine OL.pure S (Lf.run_move (S.ev rfl)) rfl rfl trivial ?_
      clear S; intro aa S
      refine OL.pure S (Lf.run_fa (S.ev rfl) fa27_0) rfl rfl trivial ?_
      clear S; intro aa S
      obtain ⟨x29, c_1, H⟩ := H
      refine OL.pure S (Lf.run_ld (S.ev rfl) fl22 (S.cl c_1)) rfl rfl trivial ?_
      clear S; intro aa S
      refine OL.pure S (Lf.run_lens (S.ev rfl) rfl Try.underlying22) rfl rfl trivial ?_
      clear S; intro aa S
      refine OL.pure S (Lf.run_lss (S.ev rfl) (S.ev rfl)) rfl rfl trivial ?_
      clear S; intro aa S
      refine OL.nil ?_
      refine W.cond S (b := (decide (i4 < ((x29.n : Nat) : Int)))) rfl (fun hb_2 => ?_) (fun hb_2 => ?_)
      · replace H := H.1 hb_2
        refine W.skip ?_
        refine W.seq ?_
        refine W.block ?_
        refine W.seq ?_
        refine W.seq ?_
        replace S := S.sub [(1, Value.pointer (some p1)), (3, Value.slice l3.a l3.n l3.c), (4, Value.int .i64 i4)] ⟨rfl, rfl, rfl, trivial⟩
        refine W.region ?_
        refine OL.pure S (Lf.run_fa (S.ev rfl) fa27_0) rfl rfl trivial ?_
        clear S; intro aa S
        obtain ⟨x35, c_2, H⟩ := H
        refine OL.pure S (Lf.run_ld (S.ev rfl) fl22 (S.cl c_2)) rfl rfl trivial ?_
        clear S; intro aa S
        refine OL.pure S (Lf.run_move (S.ev rfl)) rfl rfl trivial ?_
        clear S; intro aa S
        obtain ⟨q37, e, e_1, e_2, H⟩ := H
        refine OL.pure S (Lf.run_ixs (S.ev rfl) (S.ev rfl) Try.underlying22 ti32 e e_1 e_2) rfl rfl trivial ?_
        clear S; intro aa S
        obtain ⟨y38, y38_1, y38_2, y38_3, y38_4, y38_5, c_29, c_30, c_31, c_32, c_33, c_34, H⟩ := H
        refine OL.pure S (Lf.run_ldA (cs := [Value.int .i64 y38, Value.string y38_1, Value.bool y38_2, Value.int .i64 y38_3, Value.slice y38_4.a y38_4.n y38_4.c, Value.slice y38_5.a y38_5.n y38_5.c]) (S.ev rfl) ag32 ti32 (by rw [S.heap]; exact RowL.toRow ⟨c_29, c_30, c_31, c_32, c_33, c_34, trivial⟩)) rfl rfl trivial ?_
        clear S; intro aa S
        refine ol_cal S H isfn5 rfl rfl trivial ?_
        clear S H aa; intro u_2 aa ww h5 H S
        obtain ⟨x39, rfl, H⟩ := H
        refine OL.pure S (Lf.run_not (S.ev rfl)) rfl rfl trivial ?_
        clear S; intro aa S
        refine OL.nil ?_
        refine W.cond S (b := (!x39)) rfl (fun hb_3 => ?_) (fun hb_3 => ?_)
        · replace H := H.1 hb_3
          refine W.seq ?_
          replace S := S.sub [] trivial
          refine W.region ?_
          refine OL.pure S (Lf.run_assign (S.ev rfl)) rfl rfl trivial ?_
          clear S; intro aa S
          refine OL.nil ?_
          refine W.ret ?_
          exact Ret.one S rfl rfl H
        · replace H := H.2 hb_3
          refine W.skip ?_
          refine W.seq ?_
          replace S := S.sub [(1, Value.pointer (some p1)), (3, Value.slice l3.a l3.n l3.c), (4, Value.int .i64 i4)] ⟨rfl, rfl, rfl, trivial⟩
          refine W.region ?_
          refine OL.pure S (Lf.run_fa (S.ev rfl) fa27_0) rfl rfl trivial ?_
          clear S; intro aa S
          obtain ⟨x42, c_4, H⟩ := H
          refine OL.pure S (Lf.run_ld (S.ev rfl) fl22 (S.cl c_4)) rfl rfl trivial ?_
          clear S; intro aa S
          refine OL.pure S (Lf.run_move (S.ev rfl)) rfl rfl trivial ?_
          clear S; intro aa S
          obtain ⟨q44, e_3, e_4, e_5, H⟩ := H
          refine OL.pure S (Lf.run_ixs (S.ev rfl) (S.ev rfl) Try.underlying22 ti32 e_3 e_4 e_5) rfl rfl trivial ?_
          clear S; intro aa S
          obtain ⟨y45, y45_1, y45_2, y45_3, y45_4, y45_5, c_23, c_24, c_25, c_26, c_27, c_28, H⟩ := H
          refine OL.pure S (Lf.run_ldA (cs := [Value.int .i64 y45, Value.string y45_1, Value.bool y45_2, Value.int .i64 y45_3, Value.slice y45_4.a y45_4.n y45_4.c, Value.slice y45_5.a y45_5.n y45_5.c]) (S.ev rfl) ag32 ti32 (by rw [S.heap]; exact RowL.toRow ⟨c_23, c_24, c_25, c_26, c_27, c_28, trivial⟩)) rfl rfl trivial ?_
          clear S; intro aa S
          refine ol_cal S H isfn6 rfl rfl trivial ?_
          clear S H aa; intro u_3 aa ww h6 H S
          obtain ⟨x46, rfl, H⟩ := H
          refine OL.pure S (Lf.run_assign (S.ev rfl)) rfl rfl trivial ?_
          clear S; intro aa S
          refine OL.nil ?_
          refine W.seq ?_
          refine W.seq ?_
          replace S := S.sub [(1, Value.pointer (some p1)), (3, Value.slice l3.a l3.n l3.c), (4, Value.int .i64 i4), (5, Value.slice x46.a x46.n x46.c)] ⟨rfl, rfl, rfl, rfl, trivial⟩
          refine W.region ?_
          refine OL.pure S (Lf.run_assign (S.ev rfl)) rfl rfl trivial ?_
          clear S; intro aa S
          refine OL.nil ?_
          refine W.block ?_
          obtain ⟨I_1, m_1, H, HB⟩ := H
          refine W.loopS (σ := Int × Heap) (fun s aa ww => St 163 [(1, Value.pointer (some p1)), (3, Value.slice l3.a l3.n l3.c), (4, Value.int .i64 i4), (5, Value.slice x46.a x46.n x46.c), (6, Value.int .i64 s.1)] s.2 w0 aa ww ∧ I_1 s.1 s.2) (fun s => m_1 s.1 s.2) (0, h6) ⟨S.sub _ ⟨rfl, rfl, rfl, rfl, rfl, trivial⟩, H⟩ ?_
          clear H S aa
          rintro ⟨k6, h7⟩ aa ww ⟨S, HI⟩
          replace S : St 163 [(1, Value.pointer (some p1)), (3, Value.slice l3.a l3.n l3.c), (4, Value.int .i64 i4), (5, Value.slice x46.a x46.n x46.c), (6, Value.int .i64 k6)] h7 w0 aa ww := S
          have H := HB k6 h7 HI
          clear HI
          refine W.seq ?_
          refine W.seq ?_
          replace S := S.sub [(1, Value.pointer (some p1)), (3, Value.slice l3.a l3.n l3.c), (4, Value.int .i64 i4), (5, Value.slice x46.a x46.n x46.c), (6, Value.int .i64 k6)] ⟨rfl, rfl, rfl, rfl, rfl, trivial⟩
          refine W.region ?_
          refine OL.pure S (Lf.run_move (S.ev rfl)) rfl rfl trivial ?_
          clear S; intro aa S
          refine OL.pure S (Lf.run_move (S.ev rfl)) rfl rfl trivial ?_
          clear S; intro aa S
          refine OL.pure S (Lf.run_lens (S.ev rfl) rfl Try.underlying30) rfl rfl trivial ?_
          clear S; intro aa S
          refine OL.pure S (Lf.run_lss (S.ev rfl) (S.ev rfl)) rfl rfl trivial ?_
          clear S; intro aa S
          refine OL.nil ?_
          refine W.cond S (b := (decide (k6 < ((x46.n : Nat) : Int)))) rfl (fun hb_4 => ?_) (fun hb_4 => ?_)
          · replace H := H.1 hb_4
            refine W.skip ?_
            refine W.seq ?_
            refine W.block ?_
            replace S := S.sub [(1, Value.pointer (some p1)), (3, Value.slice l3.a l3.n l3.c), (4, Value.int .i64 i4), (5, Value.slice x46.a x46.n x46.c), (6, Value.int .i64 k6)] ⟨rfl, rfl, rfl, rfl, rfl, trivial⟩
            refine W.region ?_
            refine OL.pure S (Lf.run_move (S.ev rfl)) rfl rfl trivial ?_
            clear S; intro aa S
            refine OL.pure S (Lf.run_move (S.ev rfl)) rfl rfl trivial ?_
            clear S; intro aa S
            refine OL.pure S (Lf.run_move (S.ev rfl)) rfl rfl trivial ?_
            clear S; intro aa S
            refine OL.pure S (Lf.run_move (S.ev rfl)) rfl rfl trivial ?_
            clear S; intro aa S
            obtain ⟨q57, e_6, e_7, e_8, H⟩ := H
            refine OL.pure S (Lf.run_ixs (S.ev rfl) (S.ev rfl) Try.underlying30 ti3 e_6 e_7 e_8) rfl rfl trivial ?_
            clear S; intro aa S
            obtain ⟨x58, c_6, H⟩ := H
            refine OL.pure S (Lf.run_ld (S.ev rfl) fl3 (S.cl c_6)) rfl rfl trivial ?_
            clear S; intro aa S
            refine OL.pure S (Lf.run_cvi Try.underlying3 Try.underlying24 (S.ev rfl)) rfl rfl trivial ?_
            clear S; intro aa S
            refine OL.pure S (Lf.run_rem (S.ev rfl) (S.ev rfl) (by decide)) rfl rfl trivial ?_
            clear S; intro aa S
            refine OL.pure S (Lf.run_cvi Try.underlying24 Try.underlying3 (S.ev rfl)) rfl rfl trivial ?_
            clear S; intro aa S
            refine OL.pure S (Lf.run_add (S.ev rfl) (S.ev rfl)) rfl rfl trivial ?_
            clear S; intro aa S
            obtain ⟨q63, e_9, e_10, e_11, H⟩ := H
            refine OL.pure S (Lf.run_ixs (S.ev rfl) (S.ev rfl) Try.underlying30 ti3 e_9 e_10 e_11) rfl rfl trivial ?_
            clear S; intro aa S
            refine ol_sto S H rfl rfl rfl ti3 trivial ?_
            clear S H aa; intro aa ww h8 H S
            refine OL.nil ?_
            replace S := S.sub [(1, Value.pointer (some p1)), (3, Value.slice l3.a l3.n l3.c), (4, Value.int .i64 i4), (5, Value.slice x46.a x46.n x46.c), (6, Value.int .i64 k6)] ⟨rfl, rfl, rfl, rfl, rfl, trivial⟩
            refine W.region ?_
            refine OL.pure S (Lf.run_move (S.ev rfl)) rfl rfl trivial ?_
            clear S; intro aa S
            refine OL.pure S (Lf.run_add (S.ev rfl) (S.ev rfl)) rfl rfl trivial ?_
            clear S; intro aa S
            refine OL.pure S (Lf.run_assign (S.ev rfl)) rfl rfl trivial ?_
            clear S; intro aa S
            refine OL.nil ?_
            exact ⟨((IntKind.i64.wrap (k6 + 1)), h8), ⟨S.sub _ ⟨rfl, rfl, rfl, rfl, rfl, trivial⟩, H.1⟩, H.2⟩
          · replace H := H.2 hb_4
            refine W.exit_ ?_
            refine xhit ?_
            refine W.seq ?_
            replace S := S.sub [(1, Value.pointer (some p1)), (3, Value.slice l3.a l3.n l3.c), (4, Value.int .i64 i4), (5, Value.slice x46.a x46.n x46.c)] ⟨rfl, rfl, rfl, rfl, trivial⟩
            refine W.region ?_
            refine OL.pure S (Lf.run_fa (S.ev rfl) fa27_0) rfl rfl trivial ?_
            clear S; intro aa S
            obtain ⟨x66, c_8, H⟩ := H
            refine OL.pure S (Lf.run_ld (S.ev rfl) fl22 (S.cl c_8)) rfl rfl trivial ?_
            clear S; intro aa S
            refine OL.pure S (Lf.run_move (S.ev rfl)) rfl rfl trivial ?_
            clear S; intro aa S
            obtain ⟨q68, e_12, e_13, e_14, H⟩ := H
            refine OL.pure S (Lf.run_ixs (S.ev rfl) (S.ev rfl) Try.underlying22 ti32 e_12 e_13 e_14) rfl rfl trivial ?_
            clear S; intro aa S
            obtain ⟨y69, y69_1, y69_2, y69_3, y69_4, y69_5, c_17, c_18, c_19, c_20, c_21, c_22, H⟩ := H
            refine OL.pure S (Lf.run_ldA (cs := [Value.int .i64 y69, Value.string y69_1, Value.bool y69_2, Value.int .i64 y69_3, Value.slice y69_4.a y69_4.n y69_4.c, Value.slice y69_5.a y69_5.n y69_5.c]) (S.ev rfl) ag32 ti32 (by rw [S.heap]; exact RowL.toRow ⟨c_17, c_18, c_19, c_20, c_21, c_22, trivial⟩)) rfl rfl trivial ?_
            clear S; intro aa S
            refine OL.pure S (Lf.run_move (S.ev rfl)) rfl rfl trivial ?_
            clear S; intro aa S
            refine ol_cal S H isfn7 rfl rfl trivial ?_
            clear S H aa; intro u_4 aa ww h9 H S
            obtain ⟨r71, rfl, H⟩ := H
            refine OL.pure S (Lf.run_move (S.ev rfl)) rfl rfl trivial ?_
            clear S; intro aa S
            obtain ⟨u_5, e_15, y72, y72_1, y72_2, y72_3, y72_4, y72_5, rfl, H⟩ := H
            refine OL.pure S (Lf.run_ex (S.ev rfl) e_15) rfl rfl trivial ?_
            clear S; intro aa S
            obtain ⟨u_6, e_16, x73, rfl, H⟩ := H
            refine OL.pure S (Lf.run_ex (S.ev rfl) e_16) rfl rfl trivial ?_
            clear S; intro aa S
            refine ol_alloc S H ti32 rfl rfl trivial ?_
            clear S H aa; intro p7 aa ww h10 H S
            refine ol_stoA S H rfl rfl ti32 trivial ?_
            clear S H aa; intro aa ww h11 H S
            refine OL.pure S (Lf.run_assign (S.ev rfl)) rfl rfl trivial ?_
            clear S; intro aa S
            refine OL.nil ?_
            replace S := S.sub [(1, Value.pointer (some p1)), (3, Value.slice l3.a l3.n l3.c), (4, Value.int .i64 i4), (7, Value.pointer (some p7))] ⟨rfl, rfl, rfl, rfl, trivial⟩
            refine W.region ?_
            refine OL.pure S (Lf.run_move (S.ev rfl)) rfl rfl trivial ?_
            clear S; intro aa S
            obtain ⟨y75, y75_1, y75_2, y75_3, y75_4, y75_5, c_11, c_12, c_13, c_14, c_15, c_16, H⟩ := H
            refine OL.pure S (Lf.run_ldA (cs := [Value.int .i64 y75, Value.string y75_1, Value.bool y75_2, Value.int .i64 y75_3, Value.slice y75_4.a y75_4.n y75_4.c, Value.slice y75_5.a y75_5.n y75_5.c]) (S.ev rfl) ag32 ti32 (by rw [S.heap]; exact RowL.toRow ⟨c_11, c_12, c_13, c_14, c_15, c_16, trivial⟩)) rfl rfl trivial ?_
            clear S; intro aa S
            refine ol_newS S H Try.underlying22 ti32 (by decide) (parts_map S rfl) (by kernel_rfl) (by decide) rfl trivial ?_
            clear S H aa; intro s76 aa ww h12 H S
            refine ol_appS S H Try.underlying22 ti32 rfl rfl rfl trivial ?_
            clear S H aa; intro s77 aa ww h13 H S
            refine OL.pure S (Lf.run_assign (S.ev rfl)) rfl rfl trivial ?_
            clear S; intro aa S
            refine OL.nil ?_
            replace S := S.sub [(1, Value.pointer (some p1)), (3, Value.slice s77.a s77.n s77.c), (4, Value.int .i64 i4)] ⟨rfl, rfl, rfl, trivial⟩
            refine W.region ?_
            refine OL.pure S (Lf.run_move (S.ev rfl)) rfl rfl trivial ?_
            clear S; intro aa S
            refine OL.pure S (Lf.run_add (S.ev rfl) (S.ev rfl)) rfl rfl trivial ?_
            clear S; intro aa S
            refine OL.pure S (Lf.run_assign (S.ev rfl)) rfl rfl trivial ?_
            clear S; intro aa S
            refine OL.nil ?_
            exact ⟨(s77, (IntKind.i64.wrap (i4 + 1)), h13), ⟨S.sub _ ⟨rfl, rfl, rfl, trivial⟩, H.1⟩, H.2⟩
      · replace H := H.2 hb_2
        refine W.exit_ ?_
        refine xhit ?_
        refine W.seq ?_
        replace S := S.sub [(1, Value.pointer (some p1)), (3, Value.slice l3.a l3.n l3.c)] ⟨rfl, rfl, trivial⟩
        refine W.region ?_
        refine OL.pure S (Lf.run_move (S.ev rfl)) rfl rfl trivial ?_
        clear S; intro aa S
        refine OL.pure S (Lf.run_build (cs := #[Value.string (⟨#[90]⟩ : ByteArray), Value.int .i64 4, Value.slice (⟨none, 0, 0⟩ : Sv).a (⟨none, 0, 0⟩ : Sv).n (⟨none, 0, 0⟩ : Sv).c, Value.slice l3.a l3.n l3.c]) pl41 ti41 (parts_map S rfl) (by kernel_rfl)) rfl rfl trivial ?_
        clear S; intro aa S
        refine ol_newS S H Try.underlying42 ti41 (by decide) (parts_map S rfl) (by kernel_rfl) (by decide) rfl trivial ?_
        clear S H aa; intro s80 aa ww h14 H S
        refine ol_cal S H isfn8 rfl rfl trivial ?_
        clear S H aa; intro u_7 aa ww h15 H S
        obtain ⟨x81, rfl, H⟩ := H
        refine OL.pure S (Lf.run_assign (S.ev rfl)) rfl rfl trivial ?_
        clear S; intro aa S
        refine OL.nil ?_
        refine W.seq ?_
        replace S := S.sub [(1, Value.pointer (some p1)), (3, Value.slice l3.a l3.n l3.c), (9, Value.map x81)] ⟨rfl, rfl, rfl, trivial⟩
        refine W.region ?_
        refine OL.pure S (Lf.run_build (cs := #[Value.int .i64 5, Value.string (⟨#[90]⟩ : ByteArray), Value.bool false, Value.int .i64 0, Value.slice (⟨none, 0, 0⟩ : Sv).a (⟨none, 0, 0⟩ : Sv).n (⟨none, 0, 0⟩ : Sv).c, Value.slice (⟨none, 0, 0⟩ : Sv).a (⟨none, 0, 0⟩ : Sv).n (⟨none, 0, 0⟩ : Sv).c]) pl32 ti32 (parts_map S rfl) (by kernel_rfl)) rfl rfl trivial ?_
        clear S; intro aa S
        refine OL.pure S (Lf.run_build (cs := #[Value.int .i64 5, Value.string (⟨#[90]⟩ : ByteArray), Value.bool false, Value.int .i64 0, Value.slice (⟨none, 0, 0⟩ : Sv).a (⟨none, 0, 0⟩ : Sv).n (⟨none, 0, 0⟩ : Sv).c, Value.slice (⟨none, 0, 0⟩ : Sv).a (⟨none, 0, 0⟩ : Sv).n (⟨none, 0, 0⟩ : Sv).c]) pl32 ti32 (parts_map S rfl) (by kernel_rfl)) rfl rfl trivial ?_
        clear S; intro aa S
        refine ol_alloc S H ti32 rfl rfl trivial ?_
        clear S H aa; intro p10 aa ww h16 H S
        refine ol_alloc S H ti32 rfl rfl trivial ?_
        clear S H aa; intro p11 aa ww h17 H S
        refine ol_stoA S H rfl rfl ti32 trivial ?_
        clear S H aa; intro aa ww h18 H S
        refine ol_stoA S H rfl rfl ti32 trivial ?_
        clear S H aa; intro aa ww h19 H S
        refine OL.nil ?_
        refine W.seq ?_
        refine W.seq ?_
        replace S := S.sub [(1, Value.pointer (some p1)), (3, Value.slice l3.a l3.n l3.c), (9, Value.map x81), (10, Value.pointer (some p10)), (11, Value.pointer (some p11))] ⟨rfl, rfl, rfl, rfl, rfl, trivial⟩
        refine W.region ?_
        refine OL.pure S (Lf.run_assign (S.ev rfl)) rfl rfl trivial ?_
        clear S; intro aa S
        refine OL.nil ?_
        refine W.block ?_
        obtain ⟨I_2, m_2, H, HB_2⟩ := H
        refine W.loopS (σ := Int × Heap) (fun s aa ww => St 163 [(1, Value.pointer (some p1)), (3, Value.slice l3.a l3.n l3.c), (9, Value.map x81), (10, Value.pointer (some p10)), (11, Value.pointer (some p11)), (12, Value.int .i64 s.1)] s.2 w0 aa ww ∧ I_2 s.1 s.2) (fun s => m_2 s.1 s.2) (0, h19) ⟨S.sub _ ⟨rfl, rfl, rfl, rfl, rfl, rfl, trivial⟩, H⟩ ?_
        clear H S aa
        rintro ⟨i12, h20⟩ aa ww ⟨S, HI⟩
        replace S : St 163 [(1, Value.pointer (some p1)), (3, Value.slice l3.a l3.n l3.c), (9, Value.map x81), (10, Value.pointer (some p10)), (11, Value.pointer (some p11)), (12, Value.int .i64 i12)] h20 w0 aa ww := S
        have H := HB_2 i12 h20 HI
        clear HI
        refine W.seq ?_
        refine W.seq ?_
        replace S := S.sub [(1, Value.pointer (some p1)), (3, Value.slice l3.a l3.n l3.c), (9, Value.map x81), (10, Value.pointer (some p10)), (11, Value.pointer (some p11)), (12, Value.int .i64 i12)] ⟨rfl, rfl, rfl, rfl, rfl, rfl, trivial⟩
        refine W.region ?_
        refine OL.pure S (Lf.run_move (S.ev rfl)) rfl rfl trivial ?_
        clear S; intro aa S
        refine OL.pure S (Lf.run_lss (S.ev rfl) (S.ev rfl)) rfl rfl trivial ?_
        clear S; intro aa S
        refine OL.nil ?_
        refine W.cond S (b := (decide (i12 < 4))) rfl (fun hb_5 => ?_) (fun hb_5 => ?_)
        · replace H := H.1 hb_5
          refine W.skip ?_
          refine W.seq ?_
          refine W.block ?_
          refine W.seq ?_
          replace S := S.sub [(1, Value.pointer (some p1)), (3, Value.slice l3.a l3.n l3.c), (9, Value.map x81), (10, Value.pointer (some p10)), (11, Value.pointer (some p11)), (12, Value.int .i64 i12)] ⟨rfl, rfl, rfl, rfl, rfl, rfl, trivial⟩
          refine W.regionD S (by kernel_rfl) ?_
          clear S; intro ww S
          refine AN.pure 0 S rfl (by kernel_rfl) (fun _ => Lf.run_fa (S.ev rfl) fa32_4) rfl rfl trivial ?_
          clear S; intro aa S
          obtain ⟨x89, c_35, H⟩ := H
          refine AN.load 1 S rfl (by kernel_rfl) (fun _ hx => Lf.run_ld (S.ev rfl) fl30 (hx.cell _ _ (S.cl c_35))) rfl rfl trivial ?_
          clear S; intro aa S
          refine AN.pure 2 S rfl (by kernel_rfl) (fun _ => Lf.run_move (S.ev rfl)) rfl rfl trivial ?_
          clear S; intro aa S
          refine AN.pure 3 S rfl (by kernel_rfl) (fun _ => Lf.run_fa (S.ev rfl) fa27_1) rfl rfl trivial ?_
          clear S; intro aa S
          obtain ⟨e_17, e_18, H⟩ := H
          refine AN.pure 4 S rfl (by kernel_rfl) (fun _ => Lf.run_ixa (S.ev rfl) (S.ev rfl) Try.underlying23 ti3 e_17 e_18) rfl rfl trivial ?_
          clear S; intro aa S
          obtain ⟨x93, c_36, H⟩ := H
          refine AN.load 5 S rfl (by kernel_rfl) (fun _ hx => Lf.run_ld (S.ev rfl) fl3 (hx.cell _ _ (S.cl c_36))) rfl rfl trivial ?_
          clear S; intro aa S
          refine AN.pure 6 S rfl (by kernel_rfl) (fun _ => Lf.run_cvi Try.underlying3 Try.underlying24 (S.ev rfl)) rfl rfl trivial ?_
          clear S; intro aa S
          refine AN.pure 7 S rfl (by kernel_rfl) (fun _ => Lf.run_rem (S.ev rfl) (S.ev rfl) (by decide)) rfl rfl trivial ?_
          clear S; intro aa S
          refine AN.pure 8 S rfl (by kernel_rfl) (fun _ => Lf.run_cvi Try.underlying24 Try.underlying3 (S.ev rfl)) rfl rfl trivial ?_
          clear S; intro aa S
          refine AN.eff 9 rfl (by kernel_rfl) ?_
          refine ol_newS S H Try.underlying30 ti3 (by decide) (parts_map S rfl) (by kernel_rfl) (by decide) rfl trivial ?_
          clear S H aa; intro s97 aa ww h21 H S
          refine OL.nil ?_
          refine AN.eff 10 rfl (by kernel_rfl) ?_
          refine ol_appS S H Try.underlying30 ti3 rfl rfl rfl trivial ?_
          clear S H aa; intro s98 aa ww h22 H S
          refine OL.nil ?_
          refine AN.pure 11 S rfl (by kernel_rfl) (fun _ => Lf.run_fa (S.ev rfl) fa32_4) rfl rfl trivial ?_
          clear S; intro aa S
          refine AN.eff 12 rfl (by kernel_rfl) ?_
          refine ol_sto S H rfl rfl rfl ti30 trivial ?_
          clear S H aa; intro aa ww h23 H S
          refine OL.nil ?_
          refine AN.done (by kernel_rfl) ?_
          replace S := S.sub [(1, Value.pointer (some p1)), (3, Value.slice l3.a l3.n l3.c), (9, Value.map x81), (10, Value.pointer (some p10)), (11, Value.pointer (some p11)), (12, Value.int .i64 i12)] ⟨rfl, rfl, rfl, rfl, rfl, rfl, trivial⟩
          refine W.regionD S (by kernel_rfl) ?_
          clear S; intro ww S
          refine AN.pure 0 S rfl (by kernel_rfl) (fun _ => Lf.run_fa (S.ev rfl) fa32_4) rfl rfl trivial ?_
          clear S; intro aa S
          obtain ⟨x101, c_37, H⟩ := H
          refine AN.load 1 S rfl (by kernel_rfl) (fun _ hx => Lf.run_ld (S.ev rfl) fl30 (hx.cell _ _ (S.cl c_37))) rfl rfl trivial ?_
          clear S; intro aa S
          refine AN.pure 2 S rfl (by kernel_rfl) (fun _ => Lf.run_move (S.ev rfl)) rfl rfl trivial ?_
          clear S; intro aa S
          refine AN.pure 3 S rfl (by kernel_rfl) (fun _ => Lf.run_fa (S.ev rfl) fa27_2) rfl rfl trivial ?_
          clear S; intro aa S
          obtain ⟨e_19, e_20, H⟩ := H
          refine AN.pure 4 S rfl (by kernel_rfl) (fun _ => Lf.run_ixa (S.ev rfl) (S.ev rfl) Try.underlying23 ti3 e_19 e_20) rfl rfl trivial ?_
          clear S; intro aa S
          obtain ⟨x105, c_38, H⟩ := H
          refine AN.load 5 S rfl (by kernel_rfl) (fun _ hx => Lf.run_ld (S.ev rfl) fl3 (hx.cell _ _ (S.cl c_38))) rfl rfl trivial ?_
          clear S; intro aa S
          refine AN.pure 6 S rfl (by kernel_rfl) (fun _ => Lf.run_cvi Try.underlying3 Try.underlying24 (S.ev rfl)) rfl rfl trivial ?_
          clear S; intro aa S
          refine AN.pure 7 S rfl (by kernel_rfl) (fun _ => Lf.run_rem (S.ev rfl) (S.ev rfl) (by decide)) rfl rfl trivial ?_
          clear S; intro aa S
          refine AN.pure 8 S rfl (by kernel_rfl) (fun _ => Lf.run_cvi Try.underlying24 Try.underlying3 (S.ev rfl)) rfl rfl trivial ?_
          clear S; intro aa S
          refine AN.eff 9 rfl (by kernel_rfl) ?_
          refine ol_newS S H Try.underlying30 ti3 (by decide) (parts_map S rfl) (by kernel_rfl) (by decide) rfl trivial ?_
          clear S H aa; intro s109 aa ww h24 H S
          refine OL.nil ?_
          refine AN.eff 10 rfl (by kernel_rfl) ?_
          refine ol_appS S H Try.underlying30 ti3 rfl rfl rfl trivial ?_
          clear S H aa; intro s110 aa ww h25 H S
          refine OL.nil ?_
          refine AN.pure 11 S rfl (by kernel_rfl) (fun _ => Lf.run_fa (S.ev rfl) fa32_4) rfl rfl trivial ?_
          clear S; intro aa S
          refine AN.eff 12 rfl (by kernel_rfl) ?_
          refine ol_sto S H rfl rfl rfl ti30 trivial ?_
          clear S H aa; intro aa ww h26 H S
          refine OL.nil ?_
          refine AN.done (by kernel_rfl) ?_
          replace S := S.sub [(1, Value.pointer (some p1)), (3, Value.slice l3.a l3.n l3.c), (9, Value.map x81), (10, Value.pointer (some p10)), (11, Value.pointer (some p11)), (12, Value.int .i64 i12)] ⟨rfl, rfl, rfl, rfl, rfl, rfl, trivial⟩
          refine W.region ?_
          refine OL.pure S (Lf.run_move (S.ev rfl)) rfl rfl trivial ?_
          clear S; intro aa S
          refine OL.pure S (Lf.run_add (S.ev rfl) (S.ev rfl)) rfl rfl trivial ?_
          clear S; intro aa S
          refine OL.pure S (Lf.run_assign (S.ev rfl)) rfl rfl trivial ?_
          clear S; intro aa S
          refine OL.nil ?_
          exact ⟨((IntKind.i64.wrap (i12 + 1)), h26), ⟨S.sub _ ⟨rfl, rfl, rfl, rfl, rfl, rfl, trivial⟩, H.1⟩, H.2⟩
        · replace H := H.2 hb_5
          refine W.exit_ ?_
          refine xhit ?_
          refine W.seq ?_
          replace S := S.sub [(1, Value.pointer (some p1)), (3, Value.slice l3.a l3.n l3.c), (9, Value.map x81), (10, Value.pointer (some p10)), (11, Value.pointer (some p11))] ⟨rfl, rfl, rfl, rfl, rfl, trivial⟩
          refine W.region ?_
          refine OL.pure S (Lf.run_move (S.ev rfl)) rfl rfl trivial ?_
          clear S; intro aa S
          obtain ⟨y114, y114_1, y114_2, y114_3, y114_4, y114_5, c_73, c_74, c_75, c_76, c_77, c_78, H⟩ := H
          refine OL.pure S (Lf.run_ldA (cs := [Value.int .i64 y114, Value.string y114_1, Value.bool y114_2, Value.int .i64 y114_3, Value.slice y114_4.a y114_4.n y114_4.c, Value.slice y114_5.a y114_5.n y114_5.c]) (S.ev rfl) ag32 ti32 (by rw [S.heap]; exact RowL.toRow ⟨c_73, c_74, c_75, c_76, c_77, c_78, trivial⟩)) rfl rfl trivial ?_
          clear S; intro aa S
          obtain ⟨y115, y115_1, y115_2, y115_3, y115_4, y115_5, c_67, c_68, c_69, c_70, c_71, c_72, H⟩ := H
          refine OL.pure S (Lf.run_ldA (cs := [Value.int .i64 y115, Value.string y115_1, Value.bool y115_2, Value.int .i64 y115_3, Value.slice y115_4.a y115_4.n y115_4.c, Value.slice y115_5.a y115_5.n y115_5.c]) (S.ev rfl) ag32 ti32 (by rw [S.heap]; exact RowL.toRow ⟨c_67, c_68, c_69, c_70, c_71, c_72, trivial⟩)) rfl rfl trivial ?_
          clear S; intro aa S
          refine ol_cal S H isfn9 rfl rfl trivial ?_
          clear S H aa; intro u_8 aa ww h27 H S
          obtain ⟨r116, rfl, H⟩ := H
          refine OL.pure S (Lf.run_move (S.ev rfl)) rfl rfl trivial ?_
          clear S; intro aa S
          obtain ⟨u_9, e_21, x117, rfl, H⟩ := H
          refine OL.pure S (Lf.run_ex (S.ev rfl) e_21) rfl rfl trivial ?_
          clear S; intro aa S
          obtain ⟨u_10, e_22, x118, rfl, H⟩ := H
          refine OL.pure S (Lf.run_ex (S.ev rfl) e_22) rfl rfl trivial ?_
          clear S; intro aa S
          refine OL.pure S (Lf.run_assign (S.ev rfl)) rfl rfl trivial ?_
          clear S; intro aa S
          refine OL.pure S (Lf.run_assign (S.ev rfl)) rfl rfl trivial ?_
          clear S; intro aa S
          refine OL.nil ?_
          refine W.seq ?_
          refine W.seq ?_
          replace S := S.sub [(1, Value.pointer (some p1)), (3, Value.slice l3.a l3.n l3.c), (9, Value.map x81), (10, Value.pointer (some p10)), (11, Value.pointer (some p11)), (13, Value.slice x117.a x117.n x117.c), (14, Value.bool x118)] ⟨rfl, rfl, rfl, rfl, rfl, rfl, rfl, trivial⟩
          refine W.region ?_
          refine OL.pure S (Lf.run_move (S.ev rfl)) rfl rfl trivial ?_
          clear S; intro aa S
          refine OL.pure S (Lf.run_not (S.ev rfl)) rfl rfl trivial ?_
          clear S; intro aa S
          refine OL.pure S (Lf.run_move (S.ev rfl)) rfl rfl trivial ?_
          clear S; intro aa S
          obtain ⟨J_1, H, HK_1⟩ := H
          refine OL.cutN 6 (fun aa ww => ∃ x127 h28, St 163 ((127, Value.bool x127) :: [(1, Value.pointer (some p1)), (3, Value.slice l3.a l3.n l3.c), (9, Value.map x81), (10, Value.pointer (some p10)), (11, Value.pointer (some p11)), (13, Value.slice x117.a x117.n x117.c), (14, Value.bool x118), (119, Value.bool x118), (120, Value.bool (!x118)), (121, Value.bool (!x118))]) h28 w0 aa ww ∧ J_1 x127 h28) ?_ ?_
          · rcases Bool.eq_false_or_eq_true (!x118) with hb_6 | hb_6
            · replace H := H.1 hb_6
              refine OL.not S rfl rfl (GNo.mk rfl rfl hb_6) ?_
              clear S; intro aa S
              refine OL.not S rfl rfl (GNo.mk rfl rfl hb_6) ?_
              clear S; intro aa S
              refine OL.not S rfl rfl (GNo.mk rfl rfl hb_6) ?_
              clear S; intro aa S
              refine OL.not S rfl rfl (GNo.mk rfl rfl hb_6) ?_
              clear S; intro aa S
              refine OL.not S rfl rfl (GNo.mk rfl rfl hb_6) ?_
              clear S; intro aa S
              refine OL.pure S (Lf.run_pickT (S.ev rfl) hb_6 (S.ev rfl)) rfl rfl trivial ?_
              clear S; intro aa S
              refine OL.nil ?_
              exact ⟨_, _, S.sub _ ⟨rfl, rfl, rfl, rfl, rfl, rfl, rfl, rfl, rfl, rfl, rfl, trivial⟩, H⟩
            · replace H := H.2 hb_6
              refine OL.pure S (Lf.run_move (S.ev rfl)) rfl rfl (GOk.mk rfl rfl hb_6) ?_
              clear S; intro aa S
              refine OL.pure S (Lf.run_fa (S.ev rfl) fa27_3) rfl rfl (GOk.mk rfl rfl hb_6) ?_
              clear S; intro aa S
              refine OL.pure S (Lf.run_saNN Try.underlying25 ti24 (S.ev rfl)) rfl rfl (GOk.mk rfl rfl hb_6) ?_
              clear S; intro aa S
              refine ol_cal S H isfn10 rfl rfl (GOk.mk rfl rfl hb_6) ?_
              clear S H aa; intro u_11 aa ww h29 H S
              obtain ⟨x125, rfl, H⟩ := H
              refine OL.pure S (Lf.run_not (S.ev rfl)) rfl rfl (GOk.mk rfl rfl hb_6) ?_
              clear S; intro aa S
              refine OL.pure S (Lf.run_pickF (S.ev rfl) hb_6 (S.ev rfl)) rfl rfl trivial ?_
              clear S; intro aa S
              refine OL.nil ?_
              exact ⟨_, _, S.sub _ ⟨rfl, rfl, rfl, rfl, rfl, rfl, rfl, rfl, rfl, rfl, rfl, trivial⟩, H⟩
          · clear S aa
            rintro aa ww ⟨x127, h28, S, HJ⟩
            replace H := HK_1 _ _ HJ
            clear HK_1 HJ
            refine OL.nil ?_
            refine W.cond S (b := x127) rfl (fun hb_7 => ?_) (fun hb_7 => ?_)
            · replace H := H.1 hb_7
              refine W.seq ?_
              replace S := S.sub [(14, Value.bool x118)] ⟨rfl, trivial⟩
              refine W.region ?_
              refine OL.pure S (Lf.run_move (S.ev rfl)) rfl rfl trivial ?_
              clear S; intro aa S
              refine OL.pure S (Lf.run_assign (S.ev rfl)) rfl rfl trivial ?_
              clear S; intro aa S
              refine OL.nil ?_
              refine W.ret ?_
              exact Ret.one S rfl rfl H
            · replace H := H.2 hb_7
              refine W.skip ?_
              refine W.seq ?_
              refine W.seq ?_
              replace S := S.sub [(1, Value.pointer (some p1)), (3, Value.slice l3.a l3.n l3.c), (9, Value.map x81), (10, Value.pointer (some p10)), (11, Value.pointer (some p11))] ⟨rfl, rfl, rfl, rfl, rfl, trivial⟩
              refine W.region ?_
              refine OL.pure S (Lf.run_assign (S.ev rfl)) rfl rfl trivial ?_
              clear S; intro aa S
              refine OL.nil ?_
              refine W.block ?_
              obtain ⟨I_3, m_3, H, HB_1⟩ := H
              refine W.loopS (σ := Int × Heap) (fun s aa ww => St 163 [(1, Value.pointer (some p1)), (3, Value.slice l3.a l3.n l3.c), (9, Value.map x81), (10, Value.pointer (some p10)), (11, Value.pointer (some p11)), (15, Value.int .i64 s.1)] s.2 w0 aa ww ∧ I_3 s.1 s.2) (fun s => m_3 s.1 s.2) (0, h28) ⟨S.sub _ ⟨rfl, rfl, rfl, rfl, rfl, rfl, trivial⟩, H⟩ ?_
              clear H S aa
              rintro ⟨i15, h30⟩ aa ww ⟨S, HI⟩
              replace S : St 163 [(1, Value.pointer (some p1)), (3, Value.slice l3.a l3.n l3.c), (9, Value.map x81), (10, Value.pointer (some p10)), (11, Value.pointer (some p11)), (15, Value.int .i64 i15)] h30 w0 aa ww := S
              have H := HB_1 i15 h30 HI
              clear HI
              refine W.seq ?_
              refine W.seq ?_
              replace S := S.sub [(1, Value.pointer (some p1)), (3, Value.slice l3.a l3.n l3.c), (9, Value.map x81), (10, Value.pointer (some p10)), (11, Value.pointer (some p11)), (15, Value.int .i64 i15)] ⟨rfl, rfl, rfl, rfl, rfl, rfl, trivial⟩
              refine W.region ?_
              refine OL.pure S (Lf.run_move (S.ev rfl)) rfl rfl trivial ?_
              clear S; intro aa S
              refine OL.pure S (Lf.run_move (S.ev rfl)) rfl rfl trivial ?_
              clear S; intro aa S
              refine OL.pure S (Lf.run_lens (S.ev rfl) rfl Try.underlying22) rfl rfl trivial ?_
              clear S; intro aa S
              refine OL.pure S (Lf.run_lss (S.ev rfl) (S.ev rfl)) rfl rfl trivial ?_
              clear S; intro aa S
              refine OL.nil ?_
              refine W.cond S (b := (decide (i15 < ((l3.n : Nat) : Int)))) rfl (fun hb_8 => ?_) (fun hb_8 => ?_)
              · replace H := H.1 hb_8
                refine W.skip ?_
                refine W.seq ?_
                refine W.block ?_
                refine W.seq ?_
                replace S := S.sub [(1, Value.pointer (some p1)), (3, Value.slice l3.a l3.n l3.c), (9, Value.map x81), (10, Value.pointer (some p10)), (11, Value.pointer (some p11)), (15, Value.int .i64 i15)] ⟨rfl, rfl, rfl, rfl, rfl, rfl, trivial⟩
                obtain ⟨Sq, HS, H⟩ := H
                refine W.regionN [11, 13] [7, 14, 15] Sq S (by kernel_rfl) ?_
                clear S; intro ww S
                refine BN.pure 0 S (fun _ => HS) rfl (by kernel_rfl) (by kernel_rfl) (fun _ => Lf.run_move (S.ev rfl)) rfl rfl trivial ?_
                clear S; intro aa S
                refine BN.pure 1 S (fun _ => HS) rfl (by kernel_rfl) (by kernel_rfl) (fun _ => Lf.run_move (S.ev rfl)) rfl rfl trivial ?_
                clear S; intro aa S
                refine BN.pure 2 S (fun _ => HS) rfl (by kernel_rfl) (by kernel_rfl) (fun _ => Lf.run_move (S.ev rfl)) rfl rfl trivial ?_
                clear S; intro aa S
                obtain ⟨q139, e_23, e_24, e_25, H⟩ := H
                refine BN.pure 3 S (fun _ => HS) rfl (by kernel_rfl) (by kernel_rfl) (fun _ => Lf.run_ixs (S.ev rfl) (S.ev rfl) Try.underlying22 ti32 e_23 e_24 e_25) rfl rfl trivial ?_
                clear S; intro aa S
                obtain ⟨y140, y140_1, y140_2, y140_3, y140_4, y140_5, c_61, c_62, c_63, c_64, c_65, c_66, H⟩ := H
                refine BN.load 4 S (fun _ => HS) rfl (by kernel_rfl) (by kernel_rfl) (fun _ hx => Lf.run_ldA (cs := [Value.int .i64 y140, Value.string y140_1, Value.bool y140_2, Value.int .i64 y140_3, Value.slice y140_4.a y140_4.n y140_4.c, Value.slice y140_5.a y140_5.n y140_5.c]) (S.ev rfl) ag32 ti32 (hx.row (S.row ⟨c_61, c_62, c_63, c_64, c_65, c_66, trivial⟩))) rfl rfl trivial ?_
                clear S; intro aa S
                refine BN.pure 5 S (fun _ => HS) rfl (by kernel_rfl) (by kernel_rfl) (fun _ => Lf.run_fa (S.ev rfl) fa32_4) rfl rfl trivial ?_
                clear S; intro aa S
                obtain ⟨x142, c_48, H⟩ := H
                refine BN.load 6 S (fun _ => HS) rfl (by kernel_rfl) (by kernel_rfl) (fun _ hx => Lf.run_ld (S.ev rfl) fl30 (hx.cell _ _ (S.cl c_48))) rfl rfl trivial ?_
                clear S; intro aa S
                refine BN.pure 8 S (fun _ => HS) rfl (by kernel_rfl) (by kernel_rfl) (fun _ => Lf.run_move (S.ev rfl)) rfl rfl trivial ?_
                clear S; intro aa S
                refine BN.pure 9 S (fun _ => HS) rfl (by kernel_rfl) (by kernel_rfl) (fun _ => Lf.run_move (S.ev rfl)) rfl rfl trivial ?_
                clear S; intro aa S
                obtain ⟨q146, e_26, e_27, e_28, H⟩ := H
                refine BN.pure 10 S (fun _ => HS) rfl (by kernel_rfl) (by kernel_rfl) (fun _ => Lf.run_ixs (S.ev rfl) (S.ev rfl) Try.underlying22 ti32 e_26 e_27 e_28) rfl rfl trivial ?_
                clear S; intro aa S
                refine BN.pure 12 S (fun _ => HS) rfl (by kernel_rfl) (by kernel_rfl) (fun _ => Lf.run_fa (S.ev rfl) fa32_4) rfl rfl trivial ?_
                clear S; intro aa S
                obtain ⟨y147, y147_1, y147_2, y147_3, y147_4, y147_5, c_55, c_56, c_57, c_58, c_59, c_60, H⟩ := H
                refine BN.held 11 S HS rfl (by kernel_rfl) (fun _ hq => Lf.run_ldA (cs := [Value.int .i64 y147, Value.string y147_1, Value.bool y147_2, Value.int .i64 y147_3, Value.slice y147_4.a y147_4.n y147_4.c, Value.slice y147_5.a y147_5.n y147_5.c]) (S.ev rfl) ag32 ti32 (hlRow hq fun h_ hs_ => ⟨c_55 h_ hs_, c_56 h_ hs_, c_57 h_ hs_, c_58 h_ hs_, c_59 h_ hs_, c_60 h_ hs_, trivial⟩)) rfl rfl trivial ?_
                clear S; intro aa S
                obtain ⟨x149, c_50, H⟩ := H
                refine BN.held 13 S HS rfl (by kernel_rfl) (fun _ hq => Lf.run_ld (S.ev rfl) fl30 (c_50 _ hq)) rfl rfl trivial ?_
                clear S; intro aa S
                refine BN.eff 7 rfl (by kernel_rfl) ?_
                refine ol_cal S H isfn11 rfl rfl trivial ?_
                clear S H aa; intro u_12 aa ww h31 H S
                obtain ⟨y143, y143_1, y143_2, y143_3, y143_4, y143_5, rfl, H⟩ := H
                refine OL.nil ?_
                clear HS; obtain ⟨HS, H⟩ := H
                refine ⟨fun _ => by rw [S.heap]; exact HS, ?_⟩
                refine BN.eff 14 rfl (by kernel_rfl) ?_
                refine ol_cal S H isfn11 rfl rfl trivial ?_
                clear S H aa; intro u_13 aa ww h32 H S
                obtain ⟨y150, y150_1, y150_2, y150_3, y150_4, y150_5, rfl, H⟩ := H
                refine OL.nil ?_
                refine ⟨noNeed (by kernel_rfl), ?_⟩
                refine BN.eff 15 rfl (by kernel_rfl) ?_
                refine ol_cal S H isfn9 rfl rfl trivial ?_
                clear S H aa; intro u_14 aa ww h33 H S
                obtain ⟨r151, rfl, H⟩ := H
                refine OL.nil ?_
                refine ⟨noNeed (by kernel_rfl), ?_⟩
                refine BN.pure 16 S (noNeed (by kernel_rfl)) rfl (by kernel_rfl) (by kernel_rfl) (fun _ => Lf.run_move (S.ev rfl)) rfl rfl trivial ?_
                clear S; intro aa S
                obtain ⟨u_15, e_29, x152, rfl, H⟩ := H
                refine BN.pure 17 S (noNeed (by kernel_rfl)) rfl (by kernel_rfl) (by kernel_rfl) (fun _ => Lf.run_ex (S.ev rfl) e_29) rfl rfl trivial ?_
                clear S; intro aa S
                obtain ⟨u_16, e_30, x153, rfl, H⟩ := H
                refine BN.pure 18 S (noNeed (by kernel_rfl)) rfl (by kernel_rfl) (by kernel_rfl) (fun _ => Lf.run_ex (S.ev rfl) e_30) rfl rfl trivial ?_
                clear S; intro aa S
                refine BN.pure 19 S (noNeed (by kernel_rfl)) rfl (by kernel_rfl) (by kernel_rfl) (fun _ => Lf.run_assign (S.ev rfl)) rfl rfl trivial ?_
                clear S; intro aa S
                refine BN.pure 20 S (noNeed (by kernel_rfl)) rfl (by kernel_rfl) (by kernel_rfl) (fun _ => Lf.run_assign (S.ev rfl)) rfl rfl trivial ?_
                clear S; intro aa S
                refine BN.done (by kernel_rfl) ?_
                refine W.seq ?_
                replace S := S.sub [(1, Value.pointer (some p1)), (3, Value.slice l3.a l3.n l3.c), (9, Value.map x81), (10, Value.pointer (some p10)), (11, Value.pointer (some p11)), (15, Value.int .i64 i15), (16, Value.slice x152.a x152.n x152.c), (17, Value.bool x153)] ⟨rfl, rfl, rfl, rfl, rfl, rfl, rfl, rfl, trivial⟩
                refine W.region ?_
                refine OL.pure S (Lf.run_move (S.ev rfl)) rfl rfl trivial ?_
                clear S; intro aa S
                refine OL.pure S (Lf.run_not (S.ev rfl)) rfl rfl trivial ?_
                clear S; intro aa S
                refine OL.pure S (Lf.run_move (S.ev rfl)) rfl rfl trivial ?_
                clear S; intro aa S
                obtain ⟨J_2, H, HK_2⟩ := H
                refine OL.cutN 6 (fun aa ww => ∃ x162 h34, St 163 ((162, Value.bool x162) :: [(1, Value.pointer (some p1)), (3, Value.slice l3.a l3.n l3.c), (9, Value.map x81), (10, Value.pointer (some p10)), (11, Value.pointer (some p11)), (15, Value.int .i64 i15), (16, Value.slice x152.a x152.n x152.c), (17, Value.bool x153), (154, Value.bool x153), (155, Value.bool (!x153)), (156, Value.bool (!x153))]) h34 w0 aa ww ∧ J_2 x162 h34) ?_ ?_
                · rcases Bool.eq_false_or_eq_true (!x153) with hb_9 | hb_9
                  · replace H := H.1 hb_9
                    refine OL.not S rfl rfl (GNo.mk rfl rfl hb_9) ?_
                    clear S; intro aa S
                    refine OL.not S rfl rfl (GNo.mk rfl rfl hb_9) ?_
                    clear S; intro aa S
                    refine OL.not S rfl rfl (GNo.mk rfl rfl hb_9) ?_
                    clear S; intro aa S
                    refine OL.not S rfl rfl (GNo.mk rfl rfl hb_9) ?_
                    clear S; intro aa S
                    refine OL.not S rfl rfl (GNo.mk rfl rfl hb_9) ?_
                    clear S; intro aa S
                    refine OL.pure S (Lf.run_pickT (S.ev rfl) hb_9 (S.ev rfl)) rfl rfl trivial ?_
                    clear S; intro aa S
                    refine OL.nil ?_
                    exact ⟨_, _, S.sub _ ⟨rfl, rfl, rfl, rfl, rfl, rfl, rfl, rfl, rfl, rfl, rfl, rfl, trivial⟩, H⟩
                  · replace H := H.2 hb_9
                    refine OL.pure S (Lf.run_move (S.ev rfl)) rfl rfl (GOk.mk rfl rfl hb_9) ?_
                    clear S; intro aa S
                    refine OL.pure S (Lf.run_fa (S.ev rfl) fa27_3) rfl rfl (GOk.mk rfl rfl hb_9) ?_
                    clear S; intro aa S
                    refine OL.pure S (Lf.run_saNN Try.underlying25 ti24 (S.ev rfl)) rfl rfl (GOk.mk rfl rfl hb_9) ?_
                    clear S; intro aa S
                    refine ol_cal S H isfn10 rfl rfl (GOk.mk rfl rfl hb_9) ?_
                    clear S H aa; intro u_17 aa ww h35 H S
                    obtain ⟨x160, rfl, H⟩ := H
                    refine OL.pure S (Lf.run_not (S.ev rfl)) rfl rfl (GOk.mk rfl rfl hb_9) ?_
                    clear S; intro aa S
                    refine OL.pure S (Lf.run_pickF (S.ev rfl) hb_9 (S.ev rfl)) rfl rfl trivial ?_
                    clear S; intro aa S
                    refine OL.nil ?_
                    exact ⟨_, _, S.sub _ ⟨rfl, rfl, rfl, rfl, rfl, rfl, rfl, rfl, rfl, rfl, rfl, rfl, trivial⟩, H⟩
                · clear S aa
                  rintro aa ww ⟨x162, h34, S, HJ⟩
                  replace H := HK_2 _ _ HJ
                  clear HK_2 HJ
                  refine OL.nil ?_
                  refine W.cond S (b := x162) rfl (fun hb_10 => ?_) (fun hb_10 => ?_)
                  · replace H := H.1 hb_10
                    refine W.seq ?_
                    replace S := S.sub [] trivial
                    refine W.region ?_
                    refine OL.pure S (Lf.run_assign (S.ev rfl)) rfl rfl trivial ?_
                    clear S; intro aa S
                    refine OL.nil ?_
                    refine W.ret ?_
                    exact Ret.one S rfl rfl H
                  · replace H := H.2 hb_10
                    refine W.skip ?_
                    replace S := S.sub [(1, Value.pointer (some p1)), (3, Value.slice l3.a l3.n l3.c), (9, Value.map x81), (10, Value.pointer (some p10)), (11, Value.pointer (some p11)), (15, Value.int .i64 i15)] ⟨rfl, rfl, rfl, rfl, rfl, rfl, trivial⟩
                    refine W.region ?_
                    refine OL.pure S (Lf.run_move (S.ev rfl)) rfl rfl trivial ?_
                    clear S; intro aa S
                    refine OL.pure S (Lf.run_add (S.ev rfl) (S.ev rfl)) rfl rfl trivial ?_
                    clear S; intro aa S
                    refine OL.pure S (Lf.run_assign (S.ev rfl)) rfl rfl trivial ?_
                    clear S; intro aa S
                    refine OL.nil ?_
                    exact ⟨((IntKind.i64.wrap (i15 + 1)), h34), ⟨S.sub _ ⟨rfl, rfl, rfl, rfl, rfl, rfl, trivial⟩, H.1⟩, H.2⟩
              · replace H := H.2 hb_8
                refine W.exit_ ?_
                refine xhit ?_
                refine W.seq ?_
                replace S := S.sub [] trivial
                refine W.region ?_
                refine OL.pure S (Lf.run_assign (S.ev rfl)) rfl rfl trivial ?_
                clear S; intro aa S
                refine OL.nil ?_
                refine W.ret ?_
                exact Ret.one S rfl rfl H

/-- chattel chatteltop.varied -/
def L4  (h : Heap) (R : Value → Heap → Prop) : Prop :=
  newS 32 #[Value.int .i64 1, Value.string (⟨#[]⟩ : ByteArray), Value.bool false, Value.int .i64 0, Value.slice (⟨none, 0, 0⟩ : Sv).a (⟨none, 0, 0⟩ : Sv).n (⟨none, 0, 0⟩ : Sv).c, Value.slice (⟨none, 0, 0⟩ : Sv).a (⟨none, 0, 0⟩ : Sv).n (⟨none, 0, 0⟩ : Sv).c] 1 h fun s6 h1 =>
  new 32 #[Value.int .i64 0, Value.string (⟨#[]⟩ : ByteArray), Value.bool false, Value.int .i64 0, Value.slice (⟨none, 0, 0⟩ : Sv).a (⟨none, 0, 0⟩ : Sv).n (⟨none, 0, 0⟩ : Sv).c, Value.slice (⟨none, 0, 0⟩ : Sv).a (⟨none, 0, 0⟩ : Sv).n (⟨none, 0, 0⟩ : Sv).c] h1 fun p1 h2 =>
  stoA h2 p1 [Value.int .i64 7, Value.string (⟨#[]⟩ : ByteArray), Value.bool false, Value.int .i64 1, Value.slice (⟨none, 0, 0⟩ : Sv).a (⟨none, 0, 0⟩ : Sv).n (⟨none, 0, 0⟩ : Sv).c, Value.slice s6.a s6.n s6.c] fun h3 =>
  ∃ (y8 : Int) (y8_1 : ByteArray) (y8_2 : Bool) (y8_3 : Int) (y8_4 : Sv) (y8_5 : Sv), cl h3 p1 = some (Value.int .i64 y8) ∧ cl h3 (p1.add 1) = some (Value.string y8_1) ∧ cl h3 (p1.add 2) = some (Value.bool y8_2) ∧ cl h3 (p1.add 3) = some (Value.int .i64 y8_3) ∧ cl h3 (p1.add 4) = some (Value.slice y8_4.a y8_4.n y8_4.c) ∧ cl h3 (p1.add 5) = some (Value.slice y8_5.a y8_5.n y8_5.c) ∧
  newS 32 #[Value.int .i64 y8, Value.string y8_1, Value.bool y8_2, Value.int .i64 y8_3, Value.slice y8_4.a y8_4.n y8_4.c, Value.slice y8_5.a y8_5.n y8_5.c] 1 h3 fun s9 h4 =>
  newS 41 #[Value.string (⟨#[90]⟩ : ByteArray), Value.int .i64 1, Value.slice (⟨none, 0, 0⟩ : Sv).a (⟨none, 0, 0⟩ : Sv).n (⟨none, 0, 0⟩ : Sv).c, Value.slice s9.a s9.n s9.c] 1 h4 fun s11 h5 =>
  cal Try.prog 8 #[Value.slice s11.a s11.n s11.c] h5 fun u h6 => asM u fun x12 =>
  newS 3 #[Value.int .i64 1] 1 h6 fun s15 h7 =>
  newS 3 #[Value.int .i64 2] 1 h7 fun s17 h8 =>
  cal Try.prog 9 #[Value.map x12, Value.agg #[Value.int .i64 5, Value.string (⟨#[90]⟩ : ByteArray), Value.bool false, Value.int .i64 0, Value.slice s15.a s15.n s15.c, Value.slice (⟨none, 0, 0⟩ : Sv).a (⟨none, 0, 0⟩ : Sv).n (⟨none, 0, 0⟩ : Sv).c], Value.agg #[Value.int .i64 5, Value.string (⟨#[90]⟩ : ByteArray), Value.bool false, Value.int .i64 0, Value.slice s17.a s17.n s17.c, Value.slice (⟨none, 0, 0⟩ : Sv).a (⟨none, 0, 0⟩ : Sv).n (⟨none, 0, 0⟩ : Sv).c]] h8 fun u_1 h9 => asTup u_1 fun r19 =>
  elt r19 0 fun u_2 => asS u_2 fun x20 =>
  elt r19 1 fun u_3 => asB u_3 fun x21 =>
  ∃ J : Bool → Prop, (andr (x21 && (((x20.n : Nat) : Int) == 1)) (fun k =>
    ixS x20 0 fun q30 =>
    ∃ (y31 : Int) (y31_1 : Int), cl h9 q30 = some (Value.int .i64 y31) ∧ cl h9 (q30.add 1) = some (Value.int .i64 y31_1) ∧
    k (y31 == 1 && y31_1 == 2)) J) ∧ ∀ x34, J x34 →
  R (Value.bool x34) h9

set_option maxRecDepth 100000 in

theorem F4 {h : _} {R : Value → Heap → Prop} (H : L4 h R) : CallsH Try.prog 4 #[] h R := by
  refine CallsH.enter (n := 35) Try.func4 rfl rfl rfl rfl ?_
  intro w0 aa ww S
  unfold L4 at H
  refine W.seq ?_
  replace S := S.sub [] trivial
  refine W.region ?_
  refine OL.pure S (Lf.run_assign (S.ev rfl)) rfl rfl trivial ?_
  clear S; intro aa S
  refine OL.nil ?_
  refine W.seq ?_
  replace S := S.sub [] trivial
  refine W.region ?_
  refine OL.pure S (Lf.run_build (cs := #[Value.int .i64 1, Value.string (⟨#[]⟩ : ByteArray), Value.bool false, Value.int .i64 0, Value.slice (⟨none, 0, 0⟩ : Sv).a (⟨none, 0, 0⟩ : Sv).n (⟨none, 0, 0⟩ : Sv).c, Value.slice (⟨none, 0, 0⟩ : Sv).a (⟨none, 0, 0⟩ : Sv).n (⟨none, 0, 0⟩ : Sv).c]) pl32 ti32 (parts_map S rfl) (by kernel_rfl)) rfl rfl trivial ?_
  clear S; intro aa S
  refine ol_newS S H Try.underlying22 ti32 (by decide) (parts_map S rfl) (by kernel_rfl) (by decide) rfl trivial ?_
  clear S H aa; intro s6 aa ww h1 H S
  refine OL.pure S (Lf.run_build (cs := #[Value.int .i64 7, Value.string (⟨#[]⟩ : ByteArray), Value.bool false, Value.int .i64 1, Value.slice (⟨none, 0, 0⟩ : Sv).a (⟨none, 0, 0⟩ : Sv).n (⟨none, 0, 0⟩ : Sv).c, Value.slice s6.a s6.n s6.c]) pl32 ti32 (parts_map S rfl) (by kernel_rfl)) rfl rfl trivial ?_
  clear S; intro aa S
  refine ol_alloc S H ti32 rfl rfl trivial ?_
  clear S H aa; intro p1 aa ww h2 H S
  refine ol_stoA S H rfl rfl ti32 trivial ?_
  clear S H aa; intro aa ww h3 H S
  refine OL.nil ?_
  refine W.seq ?_
  replace S := S.sub [(1, Value.pointer (some p1))] ⟨rfl, trivial⟩
  refine W.region ?_
  obtain ⟨y8, y8_1, y8_2, y8_3, y8_4, y8_5, c_4, c_5, c_6, c_7, c_8, c_9, H⟩ := H
  refine OL.pure S (Lf.run_ldA (cs := [Value.int .i64 y8, Value.string y8_1, Value.bool y8_2, Value.int .i64 y8_3, Value.slice y8_4.a y8_4.n y8_4.c, Value.slice y8_5.a y8_5.n y8_5.c]) (S.ev rfl) ag32 ti32 (by rw [S.heap]; exact RowL.toRow ⟨c_4, c_5, c_6, c_7, c_8, c_9, trivial⟩)) rfl rfl trivial ?_
  clear S; intro aa S
  refine ol_newS S H Try.underlying22 ti32 (by decide) (parts_map S rfl) (by kernel_rfl) (by decide) rfl trivial ?_
  clear S H aa; intro s9 aa ww h4 H S
  refine OL.pure S (Lf.run_build (cs := #[Value.string (⟨#[90]⟩ : ByteArray), Value.int .i64 1, Value.slice (⟨none, 0, 0⟩ : Sv).a (⟨none, 0, 0⟩ : Sv).n (⟨none, 0, 0⟩ : Sv).c, Value.slice s9.a s9.n s9.c]) pl41 ti41 (parts_map S rfl) (by kernel_rfl)) rfl rfl trivial ?_
  clear S; intro aa S
  refine ol_newS S H Try.underlying42 ti41 (by decide) (parts_map S rfl) (by kernel_rfl) (by decide) rfl trivial ?_
  clear S H aa; intro s11 aa ww h5 H S
  refine ol_cal S H isfn8 rfl rfl trivial ?_
  clear S H aa; intro u aa ww h6 H S
  obtain ⟨x12, rfl, H⟩ := H
  refine OL.pure S (Lf.run_assign (S.ev rfl)) rfl rfl trivial ?_
  clear S; intro aa S
  refine OL.nil ?_
  refine W.seq ?_
  replace S := S.sub [(2, Value.map x12)] ⟨rfl, trivial⟩
  refine W.region ?_
  refine OL.pure S (Lf.run_move (S.ev rfl)) rfl rfl trivial ?_
  clear S; intro aa S
  refine ol_newS S H Try.underlying30 ti3 (by decide) (parts_map S rfl) (by kernel_rfl) (by decide) rfl trivial ?_
  clear S H aa; intro s15 aa ww h7 H S
  refine OL.pure S (Lf.run_build (cs := #[Value.int .i64 5, Value.string (⟨#[90]⟩ : ByteArray), Value.bool false, Value.int .i64 0, Value.slice s15.a s15.n s15.c, Value.slice (⟨none, 0, 0⟩ : Sv).a (⟨none, 0, 0⟩ : Sv).n (⟨none, 0, 0⟩ : Sv).c]) pl32 ti32 (parts_map S rfl) (by kernel_rfl)) rfl rfl trivial ?_
  clear S; intro aa S
  refine ol_newS S H Try.underlying30 ti3 (by decide) (parts_map S rfl) (by kernel_rfl) (by decide) rfl trivial ?_
  clear S H aa; intro s17 aa ww h8 H S
  refine OL.pure S (Lf.run_build (cs := #[Value.int .i64 5, Value.string (⟨#[90]⟩ : ByteArray), Value.bool false, Value.int .i64 0, Value.slice s17.a s17.n s17.c, Value.slice (⟨none, 0, 0⟩ : Sv).a (⟨none, 0, 0⟩ : Sv).n (⟨none, 0, 0⟩ : Sv).c]) pl32 ti32 (parts_map S rfl) (by kernel_rfl)) rfl rfl trivial ?_
  clear S; intro aa S
  refine ol_cal S H isfn9 rfl rfl trivial ?_
  clear S H aa; intro u_1 aa ww h9 H S
  obtain ⟨r19, rfl, H⟩ := H
  refine OL.pure S (Lf.run_move (S.ev rfl)) rfl rfl trivial ?_
  clear S; intro aa S
  obtain ⟨u_2, e, x20, rfl, H⟩ := H
  refine OL.pure S (Lf.run_ex (S.ev rfl) e) rfl rfl trivial ?_
  clear S; intro aa S
  obtain ⟨u_3, e_1, x21, rfl, H⟩ := H
  refine OL.pure S (Lf.run_ex (S.ev rfl) e_1) rfl rfl trivial ?_
  clear S; intro aa S
  refine OL.pure S (Lf.run_assign (S.ev rfl)) rfl rfl trivial ?_
  clear S; intro aa S
  refine OL.pure S (Lf.run_assign (S.ev rfl)) rfl rfl trivial ?_
  clear S; intro aa S
  refine OL.nil ?_
  refine W.seq ?_
  replace S := S.sub [(3, Value.slice x20.a x20.n x20.c), (4, Value.bool x21)] ⟨rfl, rfl, trivial⟩
  refine W.region ?_
  refine OL.pure S (Lf.run_move (S.ev rfl)) rfl rfl trivial ?_
  clear S; intro aa S
  refine OL.pure S (Lf.run_move (S.ev rfl)) rfl rfl trivial ?_
  clear S; intro aa S
  refine OL.cutN 4 (fun aa ww => St 35 ((27, Value.bool (x21 && (((x20.n : Nat) : Int) == 1))) :: [(3, Value.slice x20.a x20.n x20.c), (4, Value.bool x21), (22, Value.bool x21), (23, Value.bool x21)]) h9 w0 aa ww) ?_ ?_
  · rcases Bool.eq_false_or_eq_true x21 with hb | hb
    · refine OL.pure S (Lf.run_move (S.ev rfl)) rfl rfl (GOk.mk rfl rfl hb) ?_
      clear S; intro aa S
      refine OL.pure S (Lf.run_lens (S.ev rfl) rfl Try.underlying43) rfl rfl (GOk.mk rfl rfl hb) ?_
      clear S; intro aa S
      refine OL.pure S (Lf.run_eql (S.ev rfl) (S.ev rfl)) rfl rfl (GOk.mk rfl rfl hb) ?_
      clear S; intro aa S
      refine OL.pure S (Lf.run_pickT (S.ev rfl) hb (S.ev rfl)) rfl rfl trivial ?_
      clear S; intro aa S
      refine OL.nil ?_
      exact (S.hd (by rw [hb, Bool.true_and])).sub _ ⟨rfl, rfl, rfl, rfl, rfl, trivial⟩
    · refine OL.not S rfl rfl (GNo.mk rfl rfl hb) ?_
      clear S; intro aa S
      refine OL.not S rfl rfl (GNo.mk rfl rfl hb) ?_
      clear S; intro aa S
      refine OL.not S rfl rfl (GNo.mk rfl rfl hb) ?_
      clear S; intro aa S
      refine OL.pure S (Lf.run_pickF (S.ev rfl) hb (S.ev rfl)) rfl rfl trivial ?_
      clear S; intro aa S
      refine OL.nil ?_
      exact (S.hd (by rw [hb, Bool.false_and])).sub _ ⟨rfl, rfl, rfl, rfl, rfl, trivial⟩
  · clear S aa
    intro aa ww S
    refine OL.pure S (Lf.run_move (S.ev rfl)) rfl rfl trivial ?_
    clear S; intro aa S
    obtain ⟨J, H, HK⟩ := H
    refine OL.cutN 6 (fun aa ww => ∃ x34, St 35 ((34, Value.bool x34) :: [(3, Value.slice x20.a x20.n x20.c), (4, Value.bool x21), (22, Value.bool x21), (23, Value.bool x21), (27, Value.bool (x21 && (((x20.n : Nat) : Int) == 1))), (28, Value.bool (x21 && (((x20.n : Nat) : Int) == 1)))]) h9 w0 aa ww ∧ J x34) ?_ ?_
    · rcases Bool.eq_false_or_eq_true (x21 && (((x20.n : Nat) : Int) == 1)) with hb_1 | hb_1
      · replace H := H.1 hb_1
        refine OL.pure S (Lf.run_move (S.ev rfl)) rfl rfl (GOk.mk rfl rfl hb_1) ?_
        clear S; intro aa S
        obtain ⟨q30, e_2, e_3, e_4, H⟩ := H
        refine OL.pure S (Lf.run_ixs (S.ev rfl) (S.ev rfl) Try.underlying43 ti50 e_2 e_3 e_4) rfl rfl (GOk.mk rfl rfl hb_1) ?_
        clear S; intro aa S
        obtain ⟨y31, y31_1, c_2, c_3, H⟩ := H
        refine OL.pure S (Lf.run_ldA (cs := [Value.int .i64 y31, Value.int .i64 y31_1]) (S.ev rfl) ag50 ti50 (by rw [S.heap]; exact RowL.toRow ⟨c_2, c_3, trivial⟩)) rfl rfl (GOk.mk rfl rfl hb_1) ?_
        clear S; intro aa S
        refine OL.pure S (Lf.run_buildArr (cs := #[Value.int .i64 1, Value.int .i64 2]) Try.underlying50 ti3 ti50 (parts_map S rfl) (by kernel_rfl)) rfl rfl (GOk.mk rfl rfl hb_1) ?_
        clear S; intro aa S
        refine OL.pure S (Lf.run_eqlA2 Try.underlying50 Try.underlying3 ti3 (by kernel_rfl) (S.ev rfl) (S.ev rfl)) rfl rfl (GOk.mk rfl rfl hb_1) ?_
        clear S; intro aa S
        refine OL.pure S (Lf.run_pickT (S.ev rfl) hb_1 (S.ev rfl)) rfl rfl trivial ?_
        clear S; intro aa S
        refine OL.nil ?_
        exact ⟨_, S.sub _ ⟨rfl, rfl, rfl, rfl, rfl, rfl, rfl, trivial⟩, H⟩
      · replace H := H.2 hb_1
        refine OL.not S rfl rfl (GNo.mk rfl rfl hb_1) ?_
        clear S; intro aa S
        refine OL.not S rfl rfl (GNo.mk rfl rfl hb_1) ?_
        clear S; intro aa S
        refine OL.not S rfl rfl (GNo.mk rfl rfl hb_1) ?_
        clear S; intro aa S
        refine OL.not S rfl rfl (GNo.mk rfl rfl hb_1) ?_
        clear S; intro aa S
        refine OL.not S rfl rfl (GNo.mk rfl rfl hb_1) ?_
        clear S; intro aa S
        refine OL.pure S (Lf.run_pickF (S.ev rfl) hb_1 (S.ev rfl)) rfl rfl trivial ?_
        clear S; intro aa S
        refine OL.nil ?_
        exact ⟨_, S.sub _ ⟨rfl, rfl, rfl, rfl, rfl, rfl, rfl, trivial⟩, H⟩
    · clear S aa
      rintro aa ww ⟨x34, S, HJ⟩
      replace H := HK _ HJ
      clear HK HJ
      refine OL.pure S (Lf.run_assign (S.ev rfl)) rfl rfl trivial ?_
      clear S; intro aa S
      refine OL.nil ?_
      refine W.ret ?_
      exact Ret.one S rfl rfl H

/-- chattel chattelref07.Small -/
def L5 (x0 : Int) (x0_1 : ByteArray) (x0_2 : Bool) (x0_3 : Int) (x0_4 : Sv) (x0_5 : Sv) (deep1 : Int) (h : Heap) (R : Value → Heap → Prop) : Prop :=
  new 32 #[Value.int .i64 x0, Value.string x0_1, Value.bool x0_2, Value.int .i64 x0_3, Value.slice x0_4.a x0_4.n x0_4.c, Value.slice x0_5.a x0_5.n x0_5.c] h fun p2 h1 =>
  ∃ J : Bool → Prop, (orr (deep1 == 0) (fun k =>
    ldS h1 (p2.add 5) fun x10 =>
    k (decide (4 < ((x10.n : Nat) : Int)))) J) ∧ ∀ x13, J x13 →
  ∃ J_1 : Bool → Prop, (orr x13 (fun k_1 =>
    ldS h1 (p2.add 4) fun x16 =>
    k_1 (decide (6 < ((x16.n : Nat) : Int)))) J_1) ∧ ∀ x19, J_1 x19 →
  ∃ J_2 : Bool → Prop, (orr x19 (fun k_2 =>
    ldT h1 (p2.add 1) fun x22 =>
    k_2 (decide (60 < ((x22.size : Nat) : Int)))) J_2) ∧ ∀ x25, J_2 x25 →
  ifb x25 (
    R (Value.bool false) h1) (
    ∃ (I : Int → Heap → Prop) (m : Int → Heap → Nat), I 0 h1 ∧ ∀ i5 h2, I i5 h2 →
    ldS h2 (p2.add 5) fun x28 =>
    ifb (decide (i5 < ((x28.n : Nat) : Int))) (
      ldS h2 (p2.add 5) fun x34 =>
      ixS x34 i5 fun q36 =>
      ∃ (y37 : Int) (y37_1 : ByteArray) (y37_2 : Bool) (y37_3 : Int) (y37_4 : Sv) (y37_5 : Sv), cl h2 (q36.add ((i5 : Int).toNat * 6)) = some (Value.int .i64 y37) ∧ cl h2 ((q36.add ((i5 : Int).toNat * 6)).add 1) = some (Value.string y37_1) ∧ cl h2 ((q36.add ((i5 : Int).toNat * 6)).add 2) = some (Value.bool y37_2) ∧ cl h2 ((q36.add ((i5 : Int).toNat * 6)).add 3) = some (Value.int .i64 y37_3) ∧ cl h2 ((q36.add ((i5 : Int).toNat * 6)).add 4) = some (Value.slice y37_4.a y37_4.n y37_4.c) ∧ cl h2 ((q36.add ((i5 : Int).toNat * 6)).add 5) = some (Value.slice y37_5.a y37_5.n y37_5.c) ∧
      cal Try.prog 5 #[Value.agg #[Value.int .i64 y37, Value.string y37_1, Value.bool y37_2, Value.int .i64 y37_3, Value.slice y37_4.a y37_4.n y37_4.c, Value.slice y37_5.a y37_5.n y37_5.c], Value.int .i64 (IntKind.i64.wrap (deep1 - 1))] h2 fun u h3 => asB u fun x40 =>
      ifb (!x40) (
        R (Value.bool false) h3) (
        I (IntKind.i64.wrap (i5 + 1)) h3 ∧ m (IntKind.i64.wrap (i5 + 1)) h3 < m i5 h2)) (
      R (Value.bool true) h2))

set_option maxRecDepth 100000 in

theorem F5 {x0 x0_1 x0_2 x0_3 x0_4 x0_5 deep1 h : _} {R : Value → Heap → Prop} (H : L5 x0 x0_1 x0_2 x0_3 x0_4 x0_5 deep1 h R) : CallsH Try.prog 5 #[Value.agg #[Value.int .i64 x0, Value.string x0_1, Value.bool x0_2, Value.int .i64 x0_3, Value.slice x0_4.a x0_4.n x0_4.c, Value.slice x0_5.a x0_5.n x0_5.c], Value.int .i64 deep1] h R := by
  refine CallsH.enter (n := 42) Try.func5 rfl rfl rfl rfl ?_
  intro w0 aa ww S
  unfold L5 at H
  refine W.seq ?_
  replace S := S.sub [(0, Value.agg #[Value.int .i64 x0, Value.string x0_1, Value.bool x0_2, Value.int .i64 x0_3, Value.slice x0_4.a x0_4.n x0_4.c, Value.slice x0_5.a x0_5.n x0_5.c]), (1, Value.int .i64 deep1)] ⟨rfl, rfl, trivial⟩
  refine W.region ?_
  refine ol_box S H rfl rfl rfl trivial ?_
  clear S H aa; intro p2 aa ww h1 H S
  refine OL.pure S (Lf.run_assign (S.ev rfl)) rfl rfl trivial ?_
  clear S; intro aa S
  refine OL.nil ?_
  refine W.seq ?_
  refine W.seq ?_
  replace S := S.sub [(1, Value.int .i64 deep1), (2, Value.pointer (some p2))] ⟨rfl, rfl, trivial⟩
  refine W.region ?_
  refine OL.pure S (Lf.run_move (S.ev rfl)) rfl rfl trivial ?_
  clear S; intro aa S
  refine OL.pure S (Lf.run_eql (S.ev rfl) (S.ev rfl)) rfl rfl trivial ?_
  clear S; intro aa S
  refine OL.pure S (Lf.run_move (S.ev rfl)) rfl rfl trivial ?_
  clear S; intro aa S
  obtain ⟨J, H, HK⟩ := H
  refine OL.cutN 5 (fun aa ww => ∃ x13, St 42 ((13, Value.bool x13) :: [(1, Value.int .i64 deep1), (2, Value.pointer (some p2)), (6, Value.int .i64 deep1), (7, Value.bool (deep1 == 0)), (8, Value.bool (deep1 == 0))]) h1 w0 aa ww ∧ J x13) ?_ ?_
  · rcases Bool.eq_false_or_eq_true (deep1 == 0) with hb | hb
    · replace H := H.1 hb
      refine OL.not S rfl rfl (GNo.mk rfl rfl hb) ?_
      clear S; intro aa S
      refine OL.not S rfl rfl (GNo.mk rfl rfl hb) ?_
      clear S; intro aa S
      refine OL.not S rfl rfl (GNo.mk rfl rfl hb) ?_
      clear S; intro aa S
      refine OL.not S rfl rfl (GNo.mk rfl rfl hb) ?_
      clear S; intro aa S
      refine OL.pure S (Lf.run_pickT (S.ev rfl) hb (S.ev rfl)) rfl rfl trivial ?_
      clear S; intro aa S
      refine OL.nil ?_
      exact ⟨_, S.sub _ ⟨rfl, rfl, rfl, rfl, rfl, rfl, trivial⟩, H⟩
    · replace H := H.2 hb
      refine OL.pure S (Lf.run_fa (S.ev rfl) fa32_5) rfl rfl (GOk.mk rfl rfl hb) ?_
      clear S; intro aa S
      obtain ⟨x10, c, H⟩ := H
      refine OL.pure S (Lf.run_ld (S.ev rfl) fl22 (S.cl c)) rfl rfl (GOk.mk rfl rfl hb) ?_
      clear S; intro aa S
      refine OL.pure S (Lf.run_lens (S.ev rfl) rfl Try.underlying22) rfl rfl (GOk.mk rfl rfl hb) ?_
      clear S; intro aa S
      refine OL.pure S (Lf.run_gtr (S.ev rfl) (S.ev rfl)) rfl rfl (GOk.mk rfl rfl hb) ?_
      clear S; intro aa S
      refine OL.pure S (Lf.run_pickF (S.ev rfl) hb (S.ev rfl)) rfl rfl trivial ?_
      clear S; intro aa S
      refine OL.nil ?_
      exact ⟨_, S.sub _ ⟨rfl, rfl, rfl, rfl, rfl, rfl, trivial⟩, H⟩
  · clear S aa
    rintro aa ww ⟨x13, S, HJ⟩
    replace H := HK _ HJ
    clear HK HJ
    refine OL.pure S (Lf.run_move (S.ev rfl)) rfl rfl trivial ?_
    clear S; intro aa S
    obtain ⟨J_1, H, HK_1⟩ := H
    refine OL.cutN 5 (fun aa ww => ∃ x19, St 42 ((19, Value.bool x19) :: [(1, Value.int .i64 deep1), (2, Value.pointer (some p2)), (6, Value.int .i64 deep1), (7, Value.bool (deep1 == 0)), (8, Value.bool (deep1 == 0)), (13, Value.bool x13), (14, Value.bool x13)]) h1 w0 aa ww ∧ J_1 x19) ?_ ?_
    · rcases Bool.eq_false_or_eq_true x13 with hb_1 | hb_1
      · replace H := H.1 hb_1
        refine OL.not S rfl rfl (GNo.mk rfl rfl hb_1) ?_
        clear S; intro aa S
        refine OL.not S rfl rfl (GNo.mk rfl rfl hb_1) ?_
        clear S; intro aa S
        refine OL.not S rfl rfl (GNo.mk rfl rfl hb_1) ?_
        clear S; intro aa S
        refine OL.not S rfl rfl (GNo.mk rfl rfl hb_1) ?_
        clear S; intro aa S
        refine OL.pure S (Lf.run_pickT (S.ev rfl) hb_1 (S.ev rfl)) rfl rfl trivial ?_
        clear S; intro aa S
        refine OL.nil ?_
        exact ⟨_, S.sub _ ⟨rfl, rfl, rfl, rfl, rfl, rfl, rfl, rfl, trivial⟩, H⟩
      · replace H := H.2 hb_1
        refine OL.pure S (Lf.run_fa (S.ev rfl) fa32_4) rfl rfl (GOk.mk rfl rfl hb_1) ?_
        clear S; intro aa S
        obtain ⟨x16, c_1, H⟩ := H
        refine OL.pure S (Lf.run_ld (S.ev rfl) fl30 (S.cl c_1)) rfl rfl (GOk.mk rfl rfl hb_1) ?_
        clear S; intro aa S
        refine OL.pure S (Lf.run_lens (S.ev rfl) rfl Try.underlying30) rfl rfl (GOk.mk rfl rfl hb_1) ?_
        clear S; intro aa S
        refine OL.pure S (Lf.run_gtr (S.ev rfl) (S.ev rfl)) rfl rfl (GOk.mk rfl rfl hb_1) ?_
        clear S; intro aa S
        refine OL.pure S (Lf.run_pickF (S.ev rfl) hb_1 (S.ev rfl)) rfl rfl trivial ?_
        clear S; intro aa S
        refine OL.nil ?_
        exact ⟨_, S.sub _ ⟨rfl, rfl, rfl, rfl, rfl, rfl, rfl, rfl, trivial⟩, H⟩
    · clear S aa
      rintro aa ww ⟨x19, S, HJ⟩
      replace H := HK_1 _ HJ
      clear HK_1 HJ
      refine OL.pure S (Lf.run_move (S.ev rfl)) rfl rfl trivial ?_
      clear S; intro aa S
      obtain ⟨J_2, H, HK_2⟩ := H
      refine OL.cutN 5 (fun aa ww => ∃ x25, St 42 ((25, Value.bool x25) :: [(1, Value.int .i64 deep1), (2, Value.pointer (some p2)), (6, Value.int .i64 deep1), (7, Value.bool (deep1 == 0)), (8, Value.bool (deep1 == 0)), (13, Value.bool x13), (14, Value.bool x13), (19, Value.bool x19), (20, Value.bool x19)]) h1 w0 aa ww ∧ J_2 x25) ?_ ?_
      · rcases Bool.eq_false_or_eq_true x19 with hb_2 | hb_2
        · replace H := H.1 hb_2
          refine OL.not S rfl rfl (GNo.mk rfl rfl hb_2) ?_
          clear S; intro aa S
          refine OL.not S rfl rfl (GNo.mk rfl rfl hb_2) ?_
          clear S; intro aa S
          refine OL.not S rfl rfl (GNo.mk rfl rfl hb_2) ?_
          clear S; intro aa S
          refine OL.not S rfl rfl (GNo.mk rfl rfl hb_2) ?_
          clear S; intro aa S
          refine OL.pure S (Lf.run_pickT (S.ev rfl) hb_2 (S.ev rfl)) rfl rfl trivial ?_
          clear S; intro aa S
          refine OL.nil ?_
          exact ⟨_, S.sub _ ⟨rfl, rfl, rfl, rfl, rfl, rfl, rfl, rfl, rfl, rfl, trivial⟩, H⟩
        · replace H := H.2 hb_2
          refine OL.pure S (Lf.run_fa (S.ev rfl) fa32_1) rfl rfl (GOk.mk rfl rfl hb_2) ?_
          clear S; intro aa S
          obtain ⟨x22, c_2, H⟩ := H
          refine OL.pure S (Lf.run_ld (S.ev rfl) fl9 (S.cl c_2)) rfl rfl (GOk.mk rfl rfl hb_2) ?_
          clear S; intro aa S
          refine OL.pure S (Lf.run_lent (S.ev rfl) rfl Try.underlying9) rfl rfl (GOk.mk rfl rfl hb_2) ?_
          clear S; intro aa S
          refine OL.pure S (Lf.run_gtr (S.ev rfl) (S.ev rfl)) rfl rfl (GOk.mk rfl rfl hb_2) ?_
          clear S; intro aa S
          refine OL.pure S (Lf.run_pickF (S.ev rfl) hb_2 (S.ev rfl)) rfl rfl trivial ?_
          clear S; intro aa S
          refine OL.nil ?_
          exact ⟨_, S.sub _ ⟨rfl, rfl, rfl, rfl, rfl, rfl, rfl, rfl, rfl, rfl, trivial⟩, H⟩
      · clear S aa
        rintro aa ww ⟨x25, S, HJ⟩
        replace H := HK_2 _ HJ
        clear HK_2 HJ
        refine OL.nil ?_
        refine W.cond S (b := x25) rfl (fun hb_3 => ?_) (fun hb_3 => ?_)
        · replace H := H.1 hb_3
          refine W.seq ?_
          replace S := S.sub [] trivial
          refine W.region ?_
          refine OL.pure S (Lf.run_assign (S.ev rfl)) rfl rfl trivial ?_
          clear S; intro aa S
          refine OL.nil ?_
          refine W.ret ?_
          exact Ret.one S rfl rfl H
        · replace H := H.2 hb_3
          refine W.skip ?_
          refine W.seq ?_
          refine W.seq ?_
          replace S := S.sub [(1, Value.int .i64 deep1), (2, Value.pointer (some p2))] ⟨rfl, rfl, trivial⟩
          refine W.region ?_
          refine OL.pure S (Lf.run_assign (S.ev rfl)) rfl rfl trivial ?_
          clear S; intro aa S
          refine OL.nil ?_
          refine W.block ?_
          obtain ⟨I, m, H, HB⟩ := H
          refine W.loopS (σ := Int × Heap) (fun s aa ww => St 42 [(1, Value.int .i64 deep1), (2, Value.pointer (some p2)), (5, Value.int .i64 s.1)] s.2 w0 aa ww ∧ I s.1 s.2) (fun s => m s.1 s.2) (0, h1) ⟨S.sub _ ⟨rfl, rfl, rfl, trivial⟩, H⟩ ?_
          clear H S aa
          rintro ⟨i5, h2⟩ aa ww ⟨S, HI⟩
          replace S : St 42 [(1, Value.int .i64 deep1), (2, Value.pointer (some p2)), (5, Value.int .i64 i5)] h2 w0 aa ww := S
          have H := HB i5 h2 HI
          clear HI
          refine W.seq ?_
          refine W.seq ?_
          replace S := S.sub [(1, Value.int .i64 deep1), (2, Value.pointer (some p2)), (5, Value.int .i64 i5)] ⟨rfl, rfl, rfl, trivial⟩
          refine W.region ?_
          refine OL.pure S (Lf.run_move (S.ev rfl)) rfl rfl trivial ?_
          clear S; intro aa S
          refine OL.pure S (Lf.run_fa (S.ev rfl) fa32_5) rfl rfl trivial ?_
          clear S; intro aa S
          obtain ⟨x28, c_3, H⟩ := H
          refine OL.pure S (Lf.run_ld (S.ev rfl) fl22 (S.cl c_3)) rfl rfl trivial ?_
          clear S; intro aa S
          refine OL.pure S (Lf.run_lens (S.ev rfl) rfl Try.underlying22) rfl rfl trivial ?_
          clear S; intro aa S
          refine OL.pure S (Lf.run_lss (S.ev rfl) (S.ev rfl)) rfl rfl trivial ?_
          clear S; intro aa S
          refine OL.nil ?_
          refine W.cond S (b := (decide (i5 < ((x28.n : Nat) : Int)))) rfl (fun hb_4 => ?_) (fun hb_4 => ?_)
          · replace H := H.1 hb_4
            refine W.skip ?_
            refine W.seq ?_
            refine W.block ?_
            refine W.seq ?_
            replace S := S.sub [(1, Value.int .i64 deep1), (2, Value.pointer (some p2)), (5, Value.int .i64 i5)] ⟨rfl, rfl, rfl, trivial⟩
            refine W.region ?_
            refine OL.pure S (Lf.run_fa (S.ev rfl) fa32_5) rfl rfl trivial ?_
            clear S; intro aa S
            obtain ⟨x34, c_4, H⟩ := H
            refine OL.pure S (Lf.run_ld (S.ev rfl) fl22 (S.cl c_4)) rfl rfl trivial ?_
            clear S; intro aa S
            refine OL.pure S (Lf.run_move (S.ev rfl)) rfl rfl trivial ?_
            clear S; intro aa S
            obtain ⟨q36, e, e_1, e_2, H⟩ := H
            refine OL.pure S (Lf.run_ixs (S.ev rfl) (S.ev rfl) Try.underlying22 ti32 e e_1 e_2) rfl rfl trivial ?_
            clear S; intro aa S
            obtain ⟨y37, y37_1, y37_2, y37_3, y37_4, y37_5, c_6, c_7, c_8, c_9, c_10, c_11, H⟩ := H
            refine OL.pure S (Lf.run_ldA (cs := [Value.int .i64 y37, Value.string y37_1, Value.bool y37_2, Value.int .i64 y37_3, Value.slice y37_4.a y37_4.n y37_4.c, Value.slice y37_5.a y37_5.n y37_5.c]) (S.ev rfl) ag32 ti32 (by rw [S.heap]; exact RowL.toRow ⟨c_6, c_7, c_8, c_9, c_10, c_11, trivial⟩)) rfl rfl trivial ?_
            clear S; intro aa S
            refine OL.pure S (Lf.run_move (S.ev rfl)) rfl rfl trivial ?_
            clear S; intro aa S
            refine OL.pure S (Lf.run_sub (S.ev rfl) (S.ev rfl)) rfl rfl trivial ?_
            clear S; intro aa S
            refine ol_cal S H isfn5 rfl rfl trivial ?_
            clear S H aa; intro u aa ww h3 H S
            obtain ⟨x40, rfl, H⟩ := H
            refine OL.pure S (Lf.run_not (S.ev rfl)) rfl rfl trivial ?_
            clear S; intro aa S
            refine OL.nil ?_
            refine W.cond S (b := (!x40)) rfl (fun hb_5 => ?_) (fun hb_5 => ?_)
            · replace H := H.1 hb_5
              refine W.seq ?_
              replace S := S.sub [] trivial
              refine W.region ?_
              refine OL.pure S (Lf.run_assign (S.ev rfl)) rfl rfl trivial ?_
              clear S; intro aa S
              refine OL.nil ?_
              refine W.ret ?_
              exact Ret.one S rfl rfl H
            · replace H := H.2 hb_5
              refine W.skip ?_
              replace S := S.sub [(1, Value.int .i64 deep1), (2, Value.pointer (some p2)), (5, Value.int .i64 i5)] ⟨rfl, rfl, rfl, trivial⟩
              refine W.region ?_
              refine OL.pure S (Lf.run_move (S.ev rfl)) rfl rfl trivial ?_
              clear S; intro aa S
              refine OL.pure S (Lf.run_add (S.ev rfl) (S.ev rfl)) rfl rfl trivial ?_
              clear S; intro aa S
              refine OL.pure S (Lf.run_assign (S.ev rfl)) rfl rfl trivial ?_
              clear S; intro aa S
              refine OL.nil ?_
              exact ⟨((IntKind.i64.wrap (i5 + 1)), h3), ⟨S.sub _ ⟨rfl, rfl, rfl, trivial⟩, H.1⟩, H.2⟩
          · replace H := H.2 hb_4
            refine W.exit_ ?_
            refine xhit ?_
            refine W.seq ?_
            replace S := S.sub [] trivial
            refine W.region ?_
            refine OL.pure S (Lf.run_assign (S.ev rfl)) rfl rfl trivial ?_
            clear S; intro aa S
            refine OL.nil ?_
            refine W.ret ?_
            exact Ret.one S rfl rfl H

/-- chattel chattelref07.All -/
def L6 (x0 : Int) (x0_1 : ByteArray) (x0_2 : Bool) (x0_3 : Int) (x0_4 : Sv) (x0_5 : Sv) (h : Heap) (R : Value → Heap → Prop) : Prop :=
  new 32 #[Value.int .i64 x0, Value.string x0_1, Value.bool x0_2, Value.int .i64 x0_3, Value.slice x0_4.a x0_4.n x0_4.c, Value.slice x0_5.a x0_5.n x0_5.c] h fun p1 h1 =>
  newS 3 #[] 0 h1 fun s5 h2 =>
  ∃ (y6 : Int) (y6_1 : ByteArray) (y6_2 : Bool) (y6_3 : Int) (y6_4 : Sv) (y6_5 : Sv), cl h2 p1 = some (Value.int .i64 y6) ∧ cl h2 (p1.add 1) = some (Value.string y6_1) ∧ cl h2 (p1.add 2) = some (Value.bool y6_2) ∧ cl h2 (p1.add 3) = some (Value.int .i64 y6_3) ∧ cl h2 (p1.add 4) = some (Value.slice y6_4.a y6_4.n y6_4.c) ∧ cl h2 (p1.add 5) = some (Value.slice y6_5.a y6_5.n y6_5.c) ∧
  cal Try.prog 12 #[Value.agg #[Value.int .i64 y6, Value.string y6_1, Value.bool y6_2, Value.int .i64 y6_3, Value.slice y6_4.a y6_4.n y6_4.c, Value.slice y6_5.a y6_5.n y6_5.c]] h2 fun u h3 => asS u fun x7 =>
  appS 3 (Value.int .i64 0).cells 1 8 h3 s5 x7 fun s8 h4 =>
  ∃ (I : Sv → Int → Heap → Prop) (m : Sv → Int → Heap → Nat), I s8 0 h4 ∧ ∀ out3 i4 h5, I out3 i4 h5 →
  ldS h5 (p1.add 5) fun x11 =>
  ifb (decide (i4 < ((x11.n : Nat) : Int))) (
    ldS h5 (p1.add 5) fun x18 =>
    ixS x18 i4 fun q20 =>
    ∃ (y21 : Int) (y21_1 : ByteArray) (y21_2 : Bool) (y21_3 : Int) (y21_4 : Sv) (y21_5 : Sv), cl h5 (q20.add ((i4 : Int).toNat * 6)) = some (Value.int .i64 y21) ∧ cl h5 ((q20.add ((i4 : Int).toNat * 6)).add 1) = some (Value.string y21_1) ∧ cl h5 ((q20.add ((i4 : Int).toNat * 6)).add 2) = some (Value.bool y21_2) ∧ cl h5 ((q20.add ((i4 : Int).toNat * 6)).add 3) = some (Value.int .i64 y21_3) ∧ cl h5 ((q20.add ((i4 : Int).toNat * 6)).add 4) = some (Value.slice y21_4.a y21_4.n y21_4.c) ∧ cl h5 ((q20.add ((i4 : Int).toNat * 6)).add 5) = some (Value.slice y21_5.a y21_5.n y21_5.c) ∧
    cal Try.prog 6 #[Value.agg #[Value.int .i64 y21, Value.string y21_1, Value.bool y21_2, Value.int .i64 y21_3, Value.slice y21_4.a y21_4.n y21_4.c, Value.slice y21_5.a y21_5.n y21_5.c]] h5 fun u_1 h6 => asS u_1 fun x22 =>
    appS 3 (Value.int .i64 0).cells 1 8 h6 out3 x22 fun s23 h7 =>
    I s23 (IntKind.i64.wrap (i4 + 1)) h7 ∧ m s23 (IntKind.i64.wrap (i4 + 1)) h7 < m out3 i4 h5) (
    R (Value.slice out3.a out3.n out3.c) h5)

set_option maxRecDepth 100000 in

theorem F6 {x0 x0_1 x0_2 x0_3 x0_4 x0_5 h : _} {R : Value → Heap → Prop} (H : L6 x0 x0_1 x0_2 x0_3 x0_4 x0_5 h R) : CallsH Try.prog 6 #[Value.agg #[Value.int .i64 x0, Value.string x0_1, Value.bool x0_2, Value.int .i64 x0_3, Value.slice x0_4.a x0_4.n x0_4.c, Value.slice x0_5.a x0_5.n x0_5.c]] h R := by
  refine CallsH.enter (n := 25) Try.func6 rfl rfl rfl rfl ?_
  intro w0 aa ww S
  unfold L6 at H
  refine W.seq ?_
  replace S := S.sub [(0, Value.agg #[Value.int .i64 x0, Value.string x0_1, Value.bool x0_2, Value.int .i64 x0_3, Value.slice x0_4.a x0_4.n x0_4.c, Value.slice x0_5.a x0_5.n x0_5.c])] ⟨rfl, trivial⟩
  refine W.region ?_
  refine ol_box S H rfl rfl rfl trivial ?_
  clear S H aa; intro p1 aa ww h1 H S
  refine OL.pure S (Lf.run_assign (S.ev rfl)) rfl rfl trivial ?_
  clear S; intro aa S
  refine OL.nil ?_
  refine W.seq ?_
  replace S := S.sub [(1, Value.pointer (some p1))] ⟨rfl, trivial⟩
  refine W.region ?_
  refine ol_newS0 S H Try.underlying30 ti3 rfl rfl trivial ?_
  clear S H aa; intro s5 aa ww h2 H S
  obtain ⟨y6, y6_1, y6_2, y6_3, y6_4, y6_5, c_10, c_11, c_12, c_13, c_14, c_15, H⟩ := H
  refine OL.pure S (Lf.run_ldA (cs := [Value.int .i64 y6, Value.string y6_1, Value.bool y6_2, Value.int .i64 y6_3, Value.slice y6_4.a y6_4.n y6_4.c, Value.slice y6_5.a y6_5.n y6_5.c]) (S.ev rfl) ag32 ti32 (by rw [S.heap]; exact RowL.toRow ⟨c_10, c_11, c_12, c_13, c_14, c_15, trivial⟩)) rfl rfl trivial ?_
  clear S; intro aa S
  refine ol_cal S H isfn12 rfl rfl trivial ?_
  clear S H aa; intro u aa ww h3 H S
  obtain ⟨x7, rfl, H⟩ := H
  refine ol_appS S H Try.underlying30 ti3 rfl rfl rfl trivial ?_
  clear S H aa; intro s8 aa ww h4 H S
  refine OL.pure S (Lf.run_assign (S.ev rfl)) rfl rfl trivial ?_
  clear S; intro aa S
  refine OL.nil ?_
  refine W.seq ?_
  refine W.seq ?_
  replace S := S.sub [(1, Value.pointer (some p1)), (3, Value.slice s8.a s8.n s8.c)] ⟨rfl, rfl, trivial⟩
  refine W.region ?_
  refine OL.pure S (Lf.run_assign (S.ev rfl)) rfl rfl trivial ?_
  clear S; intro aa S
  refine OL.nil ?_
  refine W.block ?_
  obtain ⟨I, m, H, HB⟩ := H
  refine W.loopS (σ := Sv × Int × Heap) (fun s aa ww => St 25 [(1, Value.pointer (some p1)), (3, Value.slice s.1.a s.1.n s.1.c), (4, Value.int .i64 s.2.1)] s.2.2 w0 aa ww ∧ I s.1 s.2.1 s.2.2) (fun s => m s.1 s.2.1 s.2.2) (s8, 0, h4) ⟨S.sub _ ⟨rfl, rfl, rfl, trivial⟩, H⟩ ?_
  clear H S aa
  rintro ⟨out3, i4, h5⟩ aa ww ⟨S, HI⟩
  replace S : St 25 [(1, Value.pointer (some p1)), (3, Value.slice out3.a out3.n out3.c), (4, Value.int .i64 i4)] h5 w0 aa ww := S
  have H := HB out3 i4 h5 HI
  clear HI
  refine W.seq ?_
  refine W.seq ?_
  replace S := S.sub [(1, Value.pointer (some p1)), (3, Value.slice out3.a out3.n out3.c), (4, Value.int .i64 i4)] ⟨rfl, rfl, rfl, trivial⟩
  refine W.region ?_
  refine OL.pure S (Lf.run_move (S.ev rfl)) rfl rfl trivial ?_
  clear S; intro aa S
  refine OL.pure S (Lf.run_fa (S.ev rfl) fa32_5) rfl rfl trivial ?_
  clear S; intro aa S
  obtain ⟨x11, c_1, H⟩ := H
  refine OL.pure S (Lf.run_ld (S.ev rfl) fl22 (S.cl c_1)) rfl rfl trivial ?_
  clear S; intro aa S
  refine OL.pure S (Lf.run_lens (S.ev rfl) rfl Try.underlying22) rfl rfl trivial ?_
  clear S; intro aa S
  refine OL.pure S (Lf.run_lss (S.ev rfl) (S.ev rfl)) rfl rfl trivial ?_
  clear S; intro aa S
  refine OL.nil ?_
  refine W.cond S (b := (decide (i4 < ((x11.n : Nat) : Int)))) rfl (fun hb => ?_) (fun hb => ?_)
  · replace H := H.1 hb
    refine W.skip ?_
    refine W.seq ?_
    refine W.block ?_
    replace S := S.sub [(1, Value.pointer (some p1)), (3, Value.slice out3.a out3.n out3.c), (4, Value.int .i64 i4)] ⟨rfl, rfl, rfl, trivial⟩
    refine W.region ?_
    refine OL.pure S (Lf.run_move (S.ev rfl)) rfl rfl trivial ?_
    clear S; intro aa S
    refine OL.pure S (Lf.run_fa (S.ev rfl) fa32_5) rfl rfl trivial ?_
    clear S; intro aa S
    obtain ⟨x18, c_2, H⟩ := H
    refine OL.pure S (Lf.run_ld (S.ev rfl) fl22 (S.cl c_2)) rfl rfl trivial ?_
    clear S; intro aa S
    refine OL.pure S (Lf.run_move (S.ev rfl)) rfl rfl trivial ?_
    clear S; intro aa S
    obtain ⟨q20, e, e_1, e_2, H⟩ := H
    refine OL.pure S (Lf.run_ixs (S.ev rfl) (S.ev rfl) Try.underlying22 ti32 e e_1 e_2) rfl rfl trivial ?_
    clear S; intro aa S
    obtain ⟨y21, y21_1, y21_2, y21_3, y21_4, y21_5, c_4, c_5, c_6, c_7, c_8, c_9, H⟩ := H
    refine OL.pure S (Lf.run_ldA (cs := [Value.int .i64 y21, Value.string y21_1, Value.bool y21_2, Value.int .i64 y21_3, Value.slice y21_4.a y21_4.n y21_4.c, Value.slice y21_5.a y21_5.n y21_5.c]) (S.ev rfl) ag32 ti32 (by rw [S.heap]; exact RowL.toRow ⟨c_4, c_5, c_6, c_7, c_8, c_9, trivial⟩)) rfl rfl trivial ?_
    clear S; intro aa S
    refine ol_cal S H isfn6 rfl rfl trivial ?_
    clear S H aa; intro u_1 aa ww h6 H S
    obtain ⟨x22, rfl, H⟩ := H
    refine ol_appS S H Try.underlying30 ti3 rfl rfl rfl trivial ?_
    clear S H aa; intro s23 aa ww h7 H S
    refine OL.pure S (Lf.run_assign (S.ev rfl)) rfl rfl trivial ?_
    clear S; intro aa S
    refine OL.nil ?_
    replace S := S.sub [(1, Value.pointer (some p1)), (3, Value.slice s23.a s23.n s23.c), (4, Value.int .i64 i4)] ⟨rfl, rfl, rfl, trivial⟩
    refine W.region ?_
    refine OL.pure S (Lf.run_move (S.ev rfl)) rfl rfl trivial ?_
    clear S; intro aa S
    refine OL.pure S (Lf.run_add (S.ev rfl) (S.ev rfl)) rfl rfl trivial ?_
    clear S; intro aa S
    refine OL.pure S (Lf.run_assign (S.ev rfl)) rfl rfl trivial ?_
    clear S; intro aa S
    refine OL.nil ?_
    exact ⟨(s23, (IntKind.i64.wrap (i4 + 1)), h7), ⟨S.sub _ ⟨rfl, rfl, rfl, trivial⟩, H.1⟩, H.2⟩
  · replace H := H.2 hb
    refine W.exit_ ?_
    refine xhit ?_
    refine W.seq ?_
    replace S := S.sub [(3, Value.slice out3.a out3.n out3.c)] ⟨rfl, trivial⟩
    refine W.region ?_
    refine OL.pure S (Lf.run_move (S.ev rfl)) rfl rfl trivial ?_
    clear S; intro aa S
    refine OL.pure S (Lf.run_assign (S.ev rfl)) rfl rfl trivial ?_
    clear S; intro aa S
    refine OL.nil ?_
    refine W.ret ?_
    exact Ret.one S rfl rfl H

/-- chattel chattelref07.With -/
def L7 (x0 : Int) (x0_1 : ByteArray) (x0_2 : Bool) (x0_3 : Int) (x0_4 : Sv) (x0_5 : Sv) (l1 : Sv) (h : Heap) (R : Value → Heap → Prop) : Prop :=
  new 32 #[Value.int .i64 x0, Value.string x0_1, Value.bool x0_2, Value.int .i64 x0_3, Value.slice x0_4.a x0_4.n x0_4.c, Value.slice x0_5.a x0_5.n x0_5.c] h fun p2 h1 =>
  new 32 #[Value.int .i64 0, Value.string (⟨#[]⟩ : ByteArray), Value.bool false, Value.int .i64 0, Value.slice (⟨none, 0, 0⟩ : Sv).a (⟨none, 0, 0⟩ : Sv).n (⟨none, 0, 0⟩ : Sv).c, Value.slice (⟨none, 0, 0⟩ : Sv).a (⟨none, 0, 0⟩ : Sv).n (⟨none, 0, 0⟩ : Sv).c] h1 fun p4 h2 =>
  ldI .i64 h2 p2 fun x12 =>
  ldT h2 (p2.add 1) fun x14 =>
  ldB h2 (p2.add 2) fun x16 =>
  ldI .i64 h2 (p2.add 3) fun x18 =>
  ldS h2 (p2.add 4) fun x20 =>
  new 32 #[Value.int .i64 0, Value.string (⟨#[]⟩ : ByteArray), Value.bool false, Value.int .i64 0, Value.slice (⟨none, 0, 0⟩ : Sv).a (⟨none, 0, 0⟩ : Sv).n (⟨none, 0, 0⟩ : Sv).c, Value.slice (⟨none, 0, 0⟩ : Sv).a (⟨none, 0, 0⟩ : Sv).n (⟨none, 0, 0⟩ : Sv).c] h2 fun p6 h3 =>
  stoA h3 p6 [Value.int .i64 x12, Value.string x14, Value.bool x16, Value.int .i64 x18, Value.slice x20.a x20.n x20.c, Value.slice (⟨none, 0, 0⟩ : Sv).a (⟨none, 0, 0⟩ : Sv).n (⟨none, 0, 0⟩ : Sv).c] fun h4 =>
  ∃ (y22 : Int) (y22_1 : ByteArray) (y22_2 : Bool) (y22_3 : Int) (y22_4 : Sv) (y22_5 : Sv), cl h4 p2 = some (Value.int .i64 y22) ∧ cl h4 (p2.add 1) = some (Value.string y22_1) ∧ cl h4 (p2.add 2) = some (Value.bool y22_2) ∧ cl h4 (p2.add 3) = some (Value.int .i64 y22_3) ∧ cl h4 (p2.add 4) = some (Value.slice y22_4.a y22_4.n y22_4.c) ∧ cl h4 (p2.add 5) = some (Value.slice y22_5.a y22_5.n y22_5.c) ∧
  cal Try.prog 12 #[Value.agg #[Value.int .i64 y22, Value.string y22_1, Value.bool y22_2, Value.int .i64 y22_3, Value.slice y22_4.a y22_4.n y22_4.c, Value.slice y22_5.a y22_5.n y22_5.c]] h4 fun u h5 => asS u fun x23 =>
  ifb (decide (((l1.n : Nat) : Int) < ((x23.n : Nat) : Int))) (
    ∃ (y29 : Int) (y29_1 : ByteArray) (y29_2 : Bool) (y29_3 : Int) (y29_4 : Sv) (y29_5 : Sv), cl h5 p6 = some (Value.int .i64 y29) ∧ cl h5 (p6.add 1) = some (Value.string y29_1) ∧ cl h5 (p6.add 2) = some (Value.bool y29_2) ∧ cl h5 (p6.add 3) = some (Value.int .i64 y29_3) ∧ cl h5 (p6.add 4) = some (Value.slice y29_4.a y29_4.n y29_4.c) ∧ cl h5 (p6.add 5) = some (Value.slice y29_5.a y29_5.n y29_5.c) ∧
    stoA h5 p4 [Value.int .i64 y29, Value.string y29_1, Value.bool y29_2, Value.int .i64 y29_3, Value.slice y29_4.a y29_4.n y29_4.c, Value.slice y29_5.a y29_5.n y29_5.c] fun h6 =>
    ∃ (y : Int) (y_1 : ByteArray) (y_2 : Bool) (y_3 : Int) (y_4 : Sv) (y_5 : Sv), cl h6 p4 = some (Value.int .i64 y) ∧ cl h6 (p4.add 1) = some (Value.string y_1) ∧ cl h6 (p4.add 2) = some (Value.bool y_2) ∧ cl h6 (p4.add 3) = some (Value.int .i64 y_3) ∧ cl h6 (p4.add 4) = some (Value.slice y_4.a y_4.n y_4.c) ∧ cl h6 (p4.add 5) = some (Value.slice y_5.a y_5.n y_5.c) ∧
    R (.tuple #[Value.agg #[Value.int .i64 y, Value.string y_1, Value.bool y_2, Value.int .i64 y_3, Value.slice y_4.a y_4.n y_4.c, Value.slice y_5.a y_5.n y_5.c], Value.slice (⟨none, 0, 0⟩ : Sv).a (⟨none, 0, 0⟩ : Sv).n (⟨none, 0, 0⟩ : Sv).c]) h6) (
    ∃ J : Heap → Prop, (
      ldI .i64 h5 p2 fun x31 =>
      ifb (x31 == 5) (
        newS 3 #[] 0 h5 fun s33 h7 =>
        slS l1 1 0 ((x23.n : Nat) : Int) fun s36 =>
        appS 3 (Value.int .i64 0).cells 1 8 h7 s33 s36 fun s37 h8 =>
        sto h8 (p6.add 4) (Value.slice s37.a s37.n s37.c) fun h9 =>
        J h9) (
        ifb (((x23.n : Nat) : Int) == 1) (
          ixS l1 0 fun q42 =>
          ldI .i64 h5 q42 fun x43 =>
          sto h5 (p6.add 3) (Value.int .i64 x43) fun h10 =>
          J h10) (
          J h5))) ∧ (∀ h11, J h11 →
    slS l1 1 ((x23.n : Nat) : Int) ((l1.n : Nat) : Int) fun s47 =>
    ∃ (I : Sv → Int → Heap → Prop) (m : Sv → Int → Heap → Nat), I s47 0 h11 ∧ ∀ l1_1 i8 h12, I l1_1 i8 h12 →
    ldS h12 (p2.add 5) fun x50 =>
    ifb (decide (i8 < ((x50.n : Nat) : Int))) (
      ldS h12 (p2.add 5) fun x57 =>
      ixS x57 i8 fun q59 =>
      ∃ (y60 : Int) (y60_1 : ByteArray) (y60_2 : Bool) (y60_3 : Int) (y60_4 : Sv) (y60_5 : Sv), cl h12 (q59.add ((i8 : Int).toNat * 6)) = some (Value.int .i64 y60) ∧ cl h12 ((q59.add ((i8 : Int).toNat * 6)).add 1) = some (Value.string y60_1) ∧ cl h12 ((q59.add ((i8 : Int).toNat * 6)).add 2) = some (Value.bool y60_2) ∧ cl h12 ((q59.add ((i8 : Int).toNat * 6)).add 3) = some (Value.int .i64 y60_3) ∧ cl h12 ((q59.add ((i8 : Int).toNat * 6)).add 4) = some (Value.slice y60_4.a y60_4.n y60_4.c) ∧ cl h12 ((q59.add ((i8 : Int).toNat * 6)).add 5) = some (Value.slice y60_5.a y60_5.n y60_5.c) ∧
      cal Try.prog 7 #[Value.agg #[Value.int .i64 y60, Value.string y60_1, Value.bool y60_2, Value.int .i64 y60_3, Value.slice y60_4.a y60_4.n y60_4.c, Value.slice y60_5.a y60_5.n y60_5.c], Value.slice l1_1.a l1_1.n l1_1.c] h12 fun u_1 h13 => asTup u_1 fun r62 =>
      elt r62 0 fun u_2 => ∃ (y63 : Int) (y63_1 : ByteArray) (y63_2 : Bool) (y63_3 : Int) (y63_4 : Sv) (y63_5 : Sv), u_2 = Value.agg #[Value.int .i64 y63, Value.string y63_1, Value.bool y63_2, Value.int .i64 y63_3, Value.slice y63_4.a y63_4.n y63_4.c, Value.slice y63_5.a y63_5.n y63_5.c] ∧
      elt r62 1 fun u_3 => asS u_3 fun x64 =>
      new 32 #[Value.int .i64 0, Value.string (⟨#[]⟩ : ByteArray), Value.bool false, Value.int .i64 0, Value.slice (⟨none, 0, 0⟩ : Sv).a (⟨none, 0, 0⟩ : Sv).n (⟨none, 0, 0⟩ : Sv).c, Value.slice (⟨none, 0, 0⟩ : Sv).a (⟨none, 0, 0⟩ : Sv).n (⟨none, 0, 0⟩ : Sv).c] h13 fun p9 h14 =>
      stoA h14 p9 [Value.int .i64 y63, Value.string y63_1, Value.bool y63_2, Value.int .i64 y63_3, Value.slice y63_4.a y63_4.n y63_4.c, Value.slice y63_5.a y63_5.n y63_5.c] fun h15 =>
      ldS h15 (p6.add 5) fun x66 =>
      ∃ (y67 : Int) (y67_1 : ByteArray) (y67_2 : Bool) (y67_3 : Int) (y67_4 : Sv) (y67_5 : Sv), cl h15 p9 = some (Value.int .i64 y67) ∧ cl h15 (p9.add 1) = some (Value.string y67_1) ∧ cl h15 (p9.add 2) = some (Value.bool y67_2) ∧ cl h15 (p9.add 3) = some (Value.int .i64 y67_3) ∧ cl h15 (p9.add 4) = some (Value.slice y67_4.a y67_4.n y67_4.c) ∧ cl h15 (p9.add 5) = some (Value.slice y67_5.a y67_5.n y67_5.c) ∧
      newS 32 #[Value.int .i64 y67, Value.string y67_1, Value.bool y67_2, Value.int .i64 y67_3, Value.slice y67_4.a y67_4.n y67_4.c, Value.slice y67_5.a y67_5.n y67_5.c] 1 h15 fun s68 h16 =>
      appS 32 (Value.agg #[Value.int .i64 0, Value.string (⟨#[]⟩ : ByteArray), Value.bool false, Value.int .i64 0, Value.slice (⟨none, 0, 0⟩ : Sv).a (⟨none, 0, 0⟩ : Sv).n (⟨none, 0, 0⟩ : Sv).c, Value.slice (⟨none, 0, 0⟩ : Sv).a (⟨none, 0, 0⟩ : Sv).n (⟨none, 0, 0⟩ : Sv).c]).cells 6 88 h16 x66 s68 fun s69 h17 =>
      sto h17 (p6.add 5) (Value.slice s69.a s69.n s69.c) fun h18 =>
      I x64 (IntKind.i64.wrap (i8 + 1)) h18 ∧ m x64 (IntKind.i64.wrap (i8 + 1)) h18 < m l1_1 i8 h12) (
      ∃ (y72 : Int) (y72_1 : ByteArray) (y72_2 : Bool) (y72_3 : Int) (y72_4 : Sv) (y72_5 : Sv), cl h12 p6 = some (Value.int .i64 y72) ∧ cl h12 (p6.add 1) = some (Value.string y72_1) ∧ cl h12 (p6.add 2) = some (Value.bool y72_2) ∧ cl h12 (p6.add 3) = some (Value.int .i64 y72_3) ∧ cl h12 (p6.add 4) = some (Value.slice y72_4.a y72_4.n y72_4.c) ∧ cl h12 (p6.add 5) = some (Value.slice y72_5.a y72_5.n y72_5.c) ∧
      stoA h12 p4 [Value.int .i64 y72, Value.string y72_1, Value.bool y72_2, Value.int .i64 y72_3, Value.slice y72_4.a y72_4.n y72_4.c, Value.slice y72_5.a y72_5.n y72_5.c] fun h19 =>
      ∃ (y_6 : Int) (y_7 : ByteArray) (y_8 : Bool) (y_9 : Int) (y_10 : Sv) (y_11 : Sv), cl h19 p4 = some (Value.int .i64 y_6) ∧ cl h19 (p4.add 1) = some (Value.string y_7) ∧ cl h19 (p4.add 2) = some (Value.bool y_8) ∧ cl h19 (p4.add 3) = some (Value.int .i64 y_9) ∧ cl h19 (p4.add 4) = some (Value.slice y_10.a y_10.n y_10.c) ∧ cl h19 (p4.add 5) = some (Value.slice y_11.a y_11.n y_11.c) ∧
      R (.tuple #[Value.agg #[Value.int .i64 y_6, Value.string y_7, Value.bool y_8, Value.int .i64 y_9, Value.slice y_10.a y_10.n y_10.c, Value.slice y_11.a y_11.n y_11.c], Value.slice l1_1.a l1_1.n l1_1.c]) h19)))

set_option maxRecDepth 100000 in

theorem F7 {x0 x0_1 x0_2 x0_3 x0_4 x0_5 l1 h : _} {R : Value → Heap → Prop} (H : L7 x0 x0_1 x0_2 x0_3 x0_4 x0_5 l1 h R) : CallsH Try.prog 7 #[Value.agg #[Value.int .i64 x0, Value.string x0_1, Value.bool x0_2, Value.int .i64 x0_3, Value.slice x0_4.a x0_4.n x0_4.c, Value.slice x0_5.a x0_5.n x0_5.c], Value.slice l1.a l1.n l1.c] h R := by
  refine CallsH.enter (n := 74) Try.func7 rfl rfl rfl rfl ?_
  intro w0 aa ww S
  unfold L7 at H
  refine W.seq ?_
  replace S := S.sub [(0, Value.agg #[Value.int .i64 x0, Value.string x0_1, Value.bool x0_2, Value.int .i64 x0_3, Value.slice x0_4.a x0_4.n x0_4.c, Value.slice x0_5.a x0_5.n x0_5.c]), (1, Value.slice l1.a l1.n l1.c)] ⟨rfl, rfl, trivial⟩
  refine W.region ?_
  refine ol_box S H rfl rfl rfl trivial ?_
  clear S H aa; intro p2 aa ww h1 H S
  refine ol_alloc S H ti32 rfl rfl trivial ?_
  clear S H aa; intro p4 aa ww h2 H S
  refine OL.pure S (Lf.run_assign (S.ev rfl)) rfl rfl trivial ?_
  clear S; intro aa S
  refine OL.nil ?_
  refine W.seq ?_
  replace S := S.sub [(1, Value.slice l1.a l1.n l1.c), (2, Value.pointer (some p2)), (4, Value.pointer (some p4))] ⟨rfl, rfl, rfl, trivial⟩
  refine W.region ?_
  refine OL.pure S (Lf.run_fa (S.ev rfl) fa32_0) rfl rfl trivial ?_
  clear S; intro aa S
  obtain ⟨x12, c, H⟩ := H
  refine OL.pure S (Lf.run_ld (S.ev rfl) fl3 (S.cl c)) rfl rfl trivial ?_
  clear S; intro aa S
  refine OL.pure S (Lf.run_fa (S.ev rfl) fa32_1) rfl rfl trivial ?_
  clear S; intro aa S
  obtain ⟨x14, c_1, H⟩ := H
  refine OL.pure S (Lf.run_ld (S.ev rfl) fl9 (S.cl c_1)) rfl rfl trivial ?_
  clear S; intro aa S
  refine OL.pure S (Lf.run_fa (S.ev rfl) fa32_2) rfl rfl trivial ?_
  clear S; intro aa S
  obtain ⟨x16, c_2, H⟩ := H
  refine OL.pure S (Lf.run_ld (S.ev rfl) fl4 (S.cl c_2)) rfl rfl trivial ?_
  clear S; intro aa S
  refine OL.pure S (Lf.run_fa (S.ev rfl) fa32_3) rfl rfl trivial ?_
  clear S; intro aa S
  obtain ⟨x18, c_3, H⟩ := H
  refine OL.pure S (Lf.run_ld (S.ev rfl) fl3 (S.cl c_3)) rfl rfl trivial ?_
  clear S; intro aa S
  refine OL.pure S (Lf.run_fa (S.ev rfl) fa32_4) rfl rfl trivial ?_
  clear S; intro aa S
  obtain ⟨x20, c_4, H⟩ := H
  refine OL.pure S (Lf.run_ld (S.ev rfl) fl30 (S.cl c_4)) rfl rfl trivial ?_
  clear S; intro aa S
  refine OL.pure S (Lf.run_build (cs := #[Value.int .i64 x12, Value.string x14, Value.bool x16, Value.int .i64 x18, Value.slice x20.a x20.n x20.c, Value.slice (⟨none, 0, 0⟩ : Sv).a (⟨none, 0, 0⟩ : Sv).n (⟨none, 0, 0⟩ : Sv).c]) pl32 ti32 (parts_map S rfl) (by kernel_rfl)) rfl rfl trivial ?_
  clear S; intro aa S
  refine ol_alloc S H ti32 rfl rfl trivial ?_
  clear S H aa; intro p6 aa ww h3 H S
  refine ol_stoA S H rfl rfl ti32 trivial ?_
  clear S H aa; intro aa ww h4 H S
  refine OL.nil ?_
  refine W.seq ?_
  replace S := S.sub [(1, Value.slice l1.a l1.n l1.c), (2, Value.pointer (some p2)), (4, Value.pointer (some p4)), (6, Value.pointer (some p6))] ⟨rfl, rfl, rfl, rfl, trivial⟩
  refine W.region ?_
  obtain ⟨y22, y22_1, y22_2, y22_3, y22_4, y22_5, c_59, c_60, c_61, c_62, c_63, c_64, H⟩ := H
  refine OL.pure S (Lf.run_ldA (cs := [Value.int .i64 y22, Value.string y22_1, Value.bool y22_2, Value.int .i64 y22_3, Value.slice y22_4.a y22_4.n y22_4.c, Value.slice y22_5.a y22_5.n y22_5.c]) (S.ev rfl) ag32 ti32 (by rw [S.heap]; exact RowL.toRow ⟨c_59, c_60, c_61, c_62, c_63, c_64, trivial⟩)) rfl rfl trivial ?_
  clear S; intro aa S
  refine ol_cal S H isfn12 rfl rfl trivial ?_
  clear S H aa; intro u aa ww h5 H S
  obtain ⟨x23, rfl, H⟩ := H
  refine OL.pure S (Lf.run_lens (S.ev rfl) rfl Try.underlying30) rfl rfl trivial ?_
  clear S; intro aa S
  refine OL.pure S (Lf.run_assign (S.ev rfl)) rfl rfl trivial ?_
  clear S; intro aa S
  refine OL.nil ?_
  refine W.seq ?_
  refine W.seq ?_
  replace S := S.sub [(1, Value.slice l1.a l1.n l1.c), (2, Value.pointer (some p2)), (4, Value.pointer (some p4)), (6, Value.pointer (some p6)), (7, Value.int .i64 ((x23.n : Nat) : Int))] ⟨rfl, rfl, rfl, rfl, rfl, trivial⟩
  refine W.region ?_
  refine OL.pure S (Lf.run_move (S.ev rfl)) rfl rfl trivial ?_
  clear S; intro aa S
  refine OL.pure S (Lf.run_move (S.ev rfl)) rfl rfl trivial ?_
  clear S; intro aa S
  refine OL.pure S (Lf.run_lens (S.ev rfl) rfl Try.underlying30) rfl rfl trivial ?_
  clear S; intro aa S
  refine OL.pure S (Lf.run_gtr (S.ev rfl) (S.ev rfl)) rfl rfl trivial ?_
  clear S; intro aa S
  refine OL.nil ?_
  refine W.cond S (b := (decide (((l1.n : Nat) : Int) < ((x23.n : Nat) : Int)))) rfl (fun hb => ?_) (fun hb => ?_)
  · replace H := H.1 hb
    refine W.seq ?_
    replace S := S.sub [(4, Value.pointer (some p4)), (6, Value.pointer (some p6))] ⟨rfl, rfl, trivial⟩
    refine W.region ?_
    obtain ⟨y29, y29_1, y29_2, y29_3, y29_4, y29_5, c_13, c_14, c_15, c_16, c_17, c_18, H⟩ := H
    refine OL.pure S (Lf.run_ldA (cs := [Value.int .i64 y29, Value.string y29_1, Value.bool y29_2, Value.int .i64 y29_3, Value.slice y29_4.a y29_4.n y29_4.c, Value.slice y29_5.a y29_5.n y29_5.c]) (S.ev rfl) ag32 ti32 (by rw [S.heap]; exact RowL.toRow ⟨c_13, c_14, c_15, c_16, c_17, c_18, trivial⟩)) rfl rfl trivial ?_
    clear S; intro aa S
    refine ol_stoA S H rfl rfl ti32 trivial ?_
    clear S H aa; intro aa ww h6 H S
    refine OL.pure S (Lf.run_assign (S.ev rfl)) rfl rfl trivial ?_
    clear S; intro aa S
    refine OL.nil ?_
    refine W.ret ?_
    obtain ⟨y, y_1, y_2, y_3, y_4, y_5, c_7, c_8, c_9, c_10, c_11, c_12, H⟩ := H
    exact Ret.gen S rfl (RV.cellA (cs := [Value.int .i64 y, Value.string y_1, Value.bool y_2, Value.int .i64 y_3, Value.slice y_4.a y_4.n y_4.c, Value.slice y_5.a y_5.n y_5.c]) rfl ag32 ti32 ⟨c_7, c_8, c_9, c_10, c_11, c_12, trivial⟩ (RV.tmp rfl RV.nil)) rfl H
  · replace H := H.2 hb
    refine W.skip ?_
    obtain ⟨J, H, HK⟩ := H
    refine W.seqJ (fun aa ww => ∃ h11, St 74 [(1, Value.slice l1.a l1.n l1.c), (2, Value.pointer (some p2)), (4, Value.pointer (some p4)), (6, Value.pointer (some p6)), (7, Value.int .i64 ((x23.n : Nat) : Int))] h11 w0 aa ww ∧ J h11) ?_ ?_
    · clear HK
      refine W.seq ?_
      replace S := S.sub [(1, Value.slice l1.a l1.n l1.c), (2, Value.pointer (some p2)), (4, Value.pointer (some p4)), (6, Value.pointer (some p6)), (7, Value.int .i64 ((x23.n : Nat) : Int))] ⟨rfl, rfl, rfl, rfl, rfl, trivial⟩
      refine W.region ?_
      refine OL.pure S (Lf.run_fa (S.ev rfl) fa32_0) rfl rfl trivial ?_
      clear S; intro aa S
      obtain ⟨x31, c_19, H⟩ := H
      refine OL.pure S (Lf.run_ld (S.ev rfl) fl3 (S.cl c_19)) rfl rfl trivial ?_
      clear S; intro aa S
      refine OL.pure S (Lf.run_eql (S.ev rfl) (S.ev rfl)) rfl rfl trivial ?_
      clear S; intro aa S
      refine OL.nil ?_
      refine W.cond S (b := (x31 == 5)) rfl (fun hb_1 => ?_) (fun hb_1 => ?_)
      · replace H := H.1 hb_1
        replace S := S.sub [(1, Value.slice l1.a l1.n l1.c), (2, Value.pointer (some p2)), (4, Value.pointer (some p4)), (6, Value.pointer (some p6)), (7, Value.int .i64 ((x23.n : Nat) : Int))] ⟨rfl, rfl, rfl, rfl, rfl, trivial⟩
        refine W.region ?_
        refine ol_newS0 S H Try.underlying30 ti3 rfl rfl trivial ?_
        clear S H aa; intro s33 aa ww h7 H S
        refine OL.pure S (Lf.run_move (S.ev rfl)) rfl rfl trivial ?_
        clear S; intro aa S
        refine OL.pure S (Lf.run_move (S.ev rfl)) rfl rfl trivial ?_
        clear S; intro aa S
        obtain ⟨s36, c_20, c_21, c_22, c_23, H⟩ := slS_ex H
        refine OL.pure S (Lf.run_slNS Try.underlying30 ti3 (S.ev rfl) (S.ev rfl) c_21 c_22 c_23) rfl rfl trivial ?_
        clear S; intro aa S
        refine ol_appS S H Try.underlying30 ti3 rfl rfl rfl trivial ?_
        clear S H aa; intro s37 aa ww h8 H S
        refine OL.pure S (Lf.run_fa (S.ev rfl) fa32_4) rfl rfl trivial ?_
        clear S; intro aa S
        refine ol_sto S H rfl rfl rfl ti30 trivial ?_
        clear S H aa; intro aa ww h9 H S
        refine OL.nil ?_
        exact ⟨h9, S.sub _ ⟨rfl, rfl, rfl, rfl, rfl, trivial⟩, H⟩
      · replace H := H.2 hb_1
        refine W.seq ?_
        replace S := S.sub [(1, Value.slice l1.a l1.n l1.c), (2, Value.pointer (some p2)), (4, Value.pointer (some p4)), (6, Value.pointer (some p6)), (7, Value.int .i64 ((x23.n : Nat) : Int))] ⟨rfl, rfl, rfl, rfl, rfl, trivial⟩
        refine W.region ?_
        refine OL.pure S (Lf.run_move (S.ev rfl)) rfl rfl trivial ?_
        clear S; intro aa S
        refine OL.pure S (Lf.run_eql (S.ev rfl) (S.ev rfl)) rfl rfl trivial ?_
        clear S; intro aa S
        refine OL.nil ?_
        refine W.cond S (b := (((x23.n : Nat) : Int) == 1)) rfl (fun hb_2 => ?_) (fun hb_2 => ?_)
        · replace H := H.1 hb_2
          replace S := S.sub [(1, Value.slice l1.a l1.n l1.c), (2, Value.pointer (some p2)), (4, Value.pointer (some p4)), (6, Value.pointer (some p6)), (7, Value.int .i64 ((x23.n : Nat) : Int))] ⟨rfl, rfl, rfl, rfl, rfl, trivial⟩
          refine W.region ?_
          refine OL.pure S (Lf.run_move (S.ev rfl)) rfl rfl trivial ?_
          clear S; intro aa S
          obtain ⟨q42, e, e_1, e_2, H⟩ := H
          refine OL.pure S (Lf.run_ixs (S.ev rfl) (S.ev rfl) Try.underlying30 ti3 e e_1 e_2) rfl rfl trivial ?_
          clear S; intro aa S
          obtain ⟨x43, c_24, H⟩ := H
          refine OL.pure S (Lf.run_ld (S.ev rfl) fl3 (S.cl c_24)) rfl rfl trivial ?_
          clear S; intro aa S
          refine OL.pure S (Lf.run_fa (S.ev rfl) fa32_3) rfl rfl trivial ?_
          clear S; intro aa S
          refine ol_sto S H rfl rfl rfl ti3 trivial ?_
          clear S H aa; intro aa ww h10 H S
          refine OL.nil ?_
          exact ⟨h10, S.sub _ ⟨rfl, rfl, rfl, rfl, rfl, trivial⟩, H⟩
        · replace H := H.2 hb_2
          refine W.skip ?_
          exact ⟨h5, S.sub _ ⟨rfl, rfl, rfl, rfl, rfl, trivial⟩, H⟩
    · clear H S aa
      rintro aa ww ⟨h11, S, HJ⟩
      have H := HK _ HJ
      clear HK HJ
      refine W.seq ?_
      replace S := S.sub [(1, Value.slice l1.a l1.n l1.c), (2, Value.pointer (some p2)), (4, Value.pointer (some p4)), (6, Value.pointer (some p6)), (7, Value.int .i64 ((x23.n : Nat) : Int))] ⟨rfl, rfl, rfl, rfl, rfl, trivial⟩
      refine W.region ?_
      refine OL.pure S (Lf.run_move (S.ev rfl)) rfl rfl trivial ?_
      clear S; intro aa S
      refine OL.pure S (Lf.run_move (S.ev rfl)) rfl rfl trivial ?_
      clear S; intro aa S
      obtain ⟨s47, c_25, c_26, c_27, c_28, H⟩ := slS_ex H
      refine OL.pure S (Lf.run_slSN Try.underlying30 ti3 (S.ev rfl) (S.ev rfl) c_25 c_26 c_27 c_28) rfl rfl trivial ?_
      clear S; intro aa S
      refine OL.pure S (Lf.run_assign (S.ev rfl)) rfl rfl trivial ?_
      clear S; intro aa S
      refine OL.nil ?_
      refine W.seq ?_
      refine W.seq ?_
      replace S := S.sub [(1, Value.slice s47.a s47.n s47.c), (2, Value.pointer (some p2)), (4, Value.pointer (some p4)), (6, Value.pointer (some p6))] ⟨rfl, rfl, rfl, rfl, trivial⟩
      refine W.region ?_
      refine OL.pure S (Lf.run_assign (S.ev rfl)) rfl rfl trivial ?_
      clear S; intro aa S
      refine OL.nil ?_
      refine W.block ?_
      obtain ⟨I, m, H, HB⟩ := H
      refine W.loopS (σ := Sv × Int × Heap) (fun s aa ww => St 74 [(1, Value.slice s.1.a s.1.n s.1.c), (2, Value.pointer (some p2)), (4, Value.pointer (some p4)), (6, Value.pointer (some p6)), (8, Value.int .i64 s.2.1)] s.2.2 w0 aa ww ∧ I s.1 s.2.1 s.2.2) (fun s => m s.1 s.2.1 s.2.2) (s47, 0, h11) ⟨S.sub _ ⟨rfl, rfl, rfl, rfl, rfl, trivial⟩, H⟩ ?_
      clear H S aa
      rintro ⟨l1_1, i8, h12⟩ aa ww ⟨S, HI⟩
      replace S : St 74 [(1, Value.slice l1_1.a l1_1.n l1_1.c), (2, Value.pointer (some p2)), (4, Value.pointer (some p4)), (6, Value.pointer (some p6)), (8, Value.int .i64 i8)] h12 w0 aa ww := S
      have H := HB l1_1 i8 h12 HI
      clear HI
      refine W.seq ?_
      refine W.seq ?_
      replace S := S.sub [(1, Value.slice l1_1.a l1_1.n l1_1.c), (2, Value.pointer (some p2)), (4, Value.pointer (some p4)), (6, Value.pointer (some p6)), (8, Value.int .i64 i8)] ⟨rfl, rfl, rfl, rfl, rfl, trivial⟩
      refine W.region ?_
      refine OL.pure S (Lf.run_move (S.ev rfl)) rfl rfl trivial ?_
      clear S; intro aa S
      refine OL.pure S (Lf.run_fa (S.ev rfl) fa32_5) rfl rfl trivial ?_
      clear S; intro aa S
      obtain ⟨x50, c_29, H⟩ := H
      refine OL.pure S (Lf.run_ld (S.ev rfl) fl22 (S.cl c_29)) rfl rfl trivial ?_
      clear S; intro aa S
      refine OL.pure S (Lf.run_lens (S.ev rfl) rfl Try.underlying22) rfl rfl trivial ?_
      clear S; intro aa S
      refine OL.pure S (Lf.run_lss (S.ev rfl) (S.ev rfl)) rfl rfl trivial ?_
      clear S; intro aa S
      refine OL.nil ?_
      refine W.cond S (b := (decide (i8 < ((x50.n : Nat) : Int)))) rfl (fun hb_3 => ?_) (fun hb_3 => ?_)
      · replace H := H.1 hb_3
        refine W.skip ?_
        refine W.seq ?_
        refine W.block ?_
        refine W.seq ?_
        replace S := S.sub [(1, Value.slice l1_1.a l1_1.n l1_1.c), (2, Value.pointer (some p2)), (4, Value.pointer (some p4)), (6, Value.pointer (some p6)), (8, Value.int .i64 i8)] ⟨rfl, rfl, rfl, rfl, rfl, trivial⟩
        refine W.region ?_
        refine OL.pure S (Lf.run_fa (S.ev rfl) fa32_5) rfl rfl trivial ?_
        clear S; intro aa S
        obtain ⟨x57, c_30, H⟩ := H
        refine OL.pure S (Lf.run_ld (S.ev rfl) fl22 (S.cl c_30)) rfl rfl trivial ?_
        clear S; intro aa S
        refine OL.pure S (Lf.run_move (S.ev rfl)) rfl rfl trivial ?_
        clear S; intro aa S
        obtain ⟨q59, e_3, e_4, e_5, H⟩ := H
        refine OL.pure S (Lf.run_ixs (S.ev rfl) (S.ev rfl) Try.underlying22 ti32 e_3 e_4 e_5) rfl rfl trivial ?_
        clear S; intro aa S
        obtain ⟨y60, y60_1, y60_2, y60_3, y60_4, y60_5, c_40, c_41, c_42, c_43, c_44, c_45, H⟩ := H
        refine OL.pure S (Lf.run_ldA (cs := [Value.int .i64 y60, Value.string y60_1, Value.bool y60_2, Value.int .i64 y60_3, Value.slice y60_4.a y60_4.n y60_4.c, Value.slice y60_5.a y60_5.n y60_5.c]) (S.ev rfl) ag32 ti32 (by rw [S.heap]; exact RowL.toRow ⟨c_40, c_41, c_42, c_43, c_44, c_45, trivial⟩)) rfl rfl trivial ?_
        clear S; intro aa S
        refine OL.pure S (Lf.run_move (S.ev rfl)) rfl rfl trivial ?_
        clear S; intro aa S
        refine ol_cal S H isfn7 rfl rfl trivial ?_
        clear S H aa; intro u_1 aa ww h13 H S
        obtain ⟨r62, rfl, H⟩ := H
        refine OL.pure S (Lf.run_move (S.ev rfl)) rfl rfl trivial ?_
        clear S; intro aa S
        obtain ⟨u_2, e_6, y63, y63_1, y63_2, y63_3, y63_4, y63_5, rfl, H⟩ := H
        refine OL.pure S (Lf.run_ex (S.ev rfl) e_6) rfl rfl trivial ?_
        clear S; intro aa S
        obtain ⟨u_3, e_7, x64, rfl, H⟩ := H
        refine OL.pure S (Lf.run_ex (S.ev rfl) e_7) rfl rfl trivial ?_
        clear S; intro aa S
        refine ol_alloc S H ti32 rfl rfl trivial ?_
        clear S H aa; intro p9 aa ww h14 H S
        refine ol_stoA S H rfl rfl ti32 trivial ?_
        clear S H aa; intro aa ww h15 H S
        refine OL.pure S (Lf.run_assign (S.ev rfl)) rfl rfl trivial ?_
        clear S; intro aa S
        refine OL.nil ?_
        refine W.seq ?_
        replace S := S.sub [(2, Value.pointer (some p2)), (4, Value.pointer (some p4)), (6, Value.pointer (some p6)), (8, Value.int .i64 i8), (9, Value.pointer (some p9)), (10, Value.slice x64.a x64.n x64.c)] ⟨rfl, rfl, rfl, rfl, rfl, rfl, trivial⟩
        refine W.region ?_
        refine OL.pure S (Lf.run_fa (S.ev rfl) fa32_5) rfl rfl trivial ?_
        clear S; intro aa S
        obtain ⟨x66, c_32, H⟩ := H
        refine OL.pure S (Lf.run_ld (S.ev rfl) fl22 (S.cl c_32)) rfl rfl trivial ?_
        clear S; intro aa S
        obtain ⟨y67, y67_1, y67_2, y67_3, y67_4, y67_5, c_34, c_35, c_36, c_37, c_38, c_39, H⟩ := H
        refine OL.pure S (Lf.run_ldA (cs := [Value.int .i64 y67, Value.string y67_1, Value.bool y67_2, Value.int .i64 y67_3, Value.slice y67_4.a y67_4.n y67_4.c, Value.slice y67_5.a y67_5.n y67_5.c]) (S.ev rfl) ag32 ti32 (by rw [S.heap]; exact RowL.toRow ⟨c_34, c_35, c_36, c_37, c_38, c_39, trivial⟩)) rfl rfl trivial ?_
        clear S; intro aa S
        refine ol_newS S H Try.underlying22 ti32 (by decide) (parts_map S rfl) (by kernel_rfl) (by decide) rfl trivial ?_
        clear S H aa; intro s68 aa ww h16 H S
        refine ol_appS S H Try.underlying22 ti32 rfl rfl rfl trivial ?_
        clear S H aa; intro s69 aa ww h17 H S
        refine OL.pure S (Lf.run_fa (S.ev rfl) fa32_5) rfl rfl trivial ?_
        clear S; intro aa S
        refine ol_sto S H rfl rfl rfl ti22 trivial ?_
        clear S H aa; intro aa ww h18 H S
        refine OL.nil ?_
        replace S := S.sub [(2, Value.pointer (some p2)), (4, Value.pointer (some p4)), (6, Value.pointer (some p6)), (8, Value.int .i64 i8), (10, Value.slice x64.a x64.n x64.c)] ⟨rfl, rfl, rfl, rfl, rfl, trivial⟩
        refine W.region ?_
        refine OL.pure S (Lf.run_move (S.ev rfl)) rfl rfl trivial ?_
        clear S; intro aa S
        refine OL.pure S (Lf.run_assign (S.ev rfl)) rfl rfl trivial ?_
        clear S; intro aa S
        refine OL.nil ?_
        replace S := S.sub [(1, Value.slice x64.a x64.n x64.c), (2, Value.pointer (some p2)), (4, Value.pointer (some p4)), (6, Value.pointer (some p6)), (8, Value.int .i64 i8)] ⟨rfl, rfl, rfl, rfl, rfl, trivial⟩
        refine W.region ?_
        refine OL.pure S (Lf.run_move (S.ev rfl)) rfl rfl trivial ?_
        clear S; intro aa S
        refine OL.pure S (Lf.run_add (S.ev rfl) (S.ev rfl)) rfl rfl trivial ?_
        clear S; intro aa S
        refine OL.pure S (Lf.run_assign (S.ev rfl)) rfl rfl trivial ?_
        clear S; intro aa S
        refine OL.nil ?_
        exact ⟨(x64, (IntKind.i64.wrap (i8 + 1)), h18), ⟨S.sub _ ⟨rfl, rfl, rfl, rfl, rfl, trivial⟩, H.1⟩, H.2⟩
      · replace H := H.2 hb_3
        refine W.exit_ ?_
        refine xhit ?_
        refine W.seq ?_
        replace S := S.sub [(1, Value.slice l1_1.a l1_1.n l1_1.c), (4, Value.pointer (some p4)), (6, Value.pointer (some p6))] ⟨rfl, rfl, rfl, trivial⟩
        refine W.region ?_
        obtain ⟨y72, y72_1, y72_2, y72_3, y72_4, y72_5, c_53, c_54, c_55, c_56, c_57, c_58, H⟩ := H
        refine OL.pure S (Lf.run_ldA (cs := [Value.int .i64 y72, Value.string y72_1, Value.bool y72_2, Value.int .i64 y72_3, Value.slice y72_4.a y72_4.n y72_4.c, Value.slice y72_5.a y72_5.n y72_5.c]) (S.ev rfl) ag32 ti32 (by rw [S.heap]; exact RowL.toRow ⟨c_53, c_54, c_55, c_56, c_57, c_58, trivial⟩)) rfl rfl trivial ?_
        clear S; intro aa S
        refine OL.pure S (Lf.run_move (S.ev rfl)) rfl rfl trivial ?_
        clear S; intro aa S
        refine ol_stoA S H rfl rfl ti32 trivial ?_
        clear S H aa; intro aa ww h19 H S
        refine OL.pure S (Lf.run_assign (S.ev rfl)) rfl rfl trivial ?_
        clear S; intro aa S
        refine OL.nil ?_
        refine W.ret ?_
        obtain ⟨y_6, y_7, y_8, y_9, y_10, y_11, c_47, c_48, c_49, c_50, c_51, c_52, H⟩ := H
        exact Ret.gen S rfl (RV.cellA (cs := [Value.int .i64 y_6, Value.string y_7, Value.bool y_8, Value.int .i64 y_9, Value.slice y_10.a y_10.n y_10.c, Value.slice y_11.a y_11.n y_11.c]) rfl ag32 ti32 ⟨c_47, c_48, c_49, c_50, c_51, c_52, trivial⟩ (RV.tmp rfl RV.nil)) rfl H

/-- chattel vary.Find -/
def L8 (l0 : Sv) (h : Heap) (R : Value → Heap → Prop) : Prop :=
  newM h fun m7 h1 =>
  ∃ (I : Int → Heap → Prop) (m : Int → Heap → Nat), I 0 h1 ∧ ∀ x10 h2, I x10 h2 →
  ifb (decide (x10 < ((l0.n : Nat) : Int))) (
    ixS l0 x10 fun q12 =>
    ∃ (y13 : ByteArray) (y13_1 : Int) (y13_2 : Sv) (y13_3 : Sv), cl h2 (q12.add ((x10 : Int).toNat * 4)) = some (Value.string y13) ∧ cl h2 ((q12.add ((x10 : Int).toNat * 4)).add 1) = some (Value.int .i64 y13_1) ∧ cl h2 ((q12.add ((x10 : Int).toNat * 4)).add 2) = some (Value.slice y13_2.a y13_2.n y13_2.c) ∧ cl h2 ((q12.add ((x10 : Int).toNat * 4)).add 3) = some (Value.slice y13_3.a y13_3.n y13_3.c) ∧
    new 41 #[Value.string (⟨#[]⟩ : ByteArray), Value.int .i64 0, Value.slice (⟨none, 0, 0⟩ : Sv).a (⟨none, 0, 0⟩ : Sv).n (⟨none, 0, 0⟩ : Sv).c, Value.slice (⟨none, 0, 0⟩ : Sv).a (⟨none, 0, 0⟩ : Sv).n (⟨none, 0, 0⟩ : Sv).c] h2 fun p5 h3 =>
    stoA h3 p5 [Value.string y13, Value.int .i64 y13_1, Value.slice y13_2.a y13_2.n y13_2.c, Value.slice y13_3.a y13_3.n y13_3.c] fun h4 =>
    ∃ Sq : Heap → Prop, Sq h4 ∧ (
      hlT Sq p5 fun x16 =>
      hlI .i64 Sq (p5.add 1) fun x18 =>
      ldS h4 (p5.add 2) fun x22 =>
      mkS 3 (Value.int .i64 0).cells 1 8 (IntKind.i64.wrap ((if (if 100 < x18 then 100 else x18) > 0 then (if 100 < x18 then 100 else x18) else 0) + ((x22.n : Nat) : Int))) (IntKind.i64.wrap ((if (if 100 < x18 then 100 else x18) > 0 then (if 100 < x18 then 100 else x18) else 0) + ((x22.n : Nat) : Int))) h4 fun s25 h5 =>
      Sq h5 ∧
      updS h5 (Value.map (some m7)) x16 (Value.slice s25.a s25.n s25.c) fun h6 =>
      I (IntKind.i64.wrap (x10 + 1)) h6 ∧ m (IntKind.i64.wrap (x10 + 1)) h6 < m x10 h2)) (
    ∃ (I_1 : Option Nat → Heap → Prop) (m_1 : Option Nat → Heap → Nat), I_1 (some m7) h2 ∧ ∀ ways3 h7, I_1 ways3 h7 →
    cal Try.prog 13 #[Value.slice l0.a l0.n l0.c, Value.map ways3] h7 fun u h8 => asM u fun x29 =>
    cal Try.prog 14 #[Value.map x29, Value.map ways3, (Value.func (.func 15) #[] #[])] h8 fun u_1 h9 => asB u_1 fun x32 =>
    ifb x32 (
      R (Value.map ways3) h9) (
      I_1 x29 h9 ∧ m_1 x29 h9 < m_1 ways3 h7))

set_option maxRecDepth 100000 in

theorem F8 {l0 h : _} {R : Value → Heap → Prop} (H : L8 l0 h R) : CallsH Try.prog 8 #[Value.slice l0.a l0.n l0.c] h R := by
  refine CallsH.enter (n := 35) Try.func8 rfl rfl rfl rfl ?_
  intro w0 aa ww S
  unfold L8 at H
  refine W.seq ?_
  replace S := S.sub [(0, Value.slice l0.a l0.n l0.c)] ⟨rfl, trivial⟩
  refine W.region ?_
  refine OL.pure S (Lf.run_assign (S.ev rfl)) rfl rfl trivial ?_
  clear S; intro aa S
  refine OL.nil ?_
  refine W.seq ?_
  replace S := S.sub [(0, Value.slice l0.a l0.n l0.c)] ⟨rfl, trivial⟩
  refine W.region ?_
  refine ol_newM S H rfl trivial ?_
  clear S H aa; intro m7 aa ww h1 H S
  refine OL.pure S (Lf.run_assign (S.ev rfl)) rfl rfl trivial ?_
  clear S; intro aa S
  refine OL.nil ?_
  refine W.seq ?_
  refine W.seq ?_
  replace S := S.sub [(0, Value.slice l0.a l0.n l0.c), (3, Value.map (some m7))] ⟨rfl, rfl, trivial⟩
  refine W.region ?_
  refine OL.pure S (Lf.run_move (S.ev rfl)) rfl rfl trivial ?_
  clear S; intro aa S
  refine OL.pure S (Lf.run_lens (S.ev rfl) rfl Try.underlying42) rfl rfl trivial ?_
  clear S; intro aa S
  refine OL.pure S (Lf.run_move (S.ev rfl)) rfl rfl trivial ?_
  clear S; intro aa S
  refine OL.nil ?_
  refine W.block ?_
  obtain ⟨I, m, H, HB_1⟩ := H
  refine W.loopS (σ := Int × Heap) (fun s aa ww => St 35 [(0, Value.slice l0.a l0.n l0.c), (3, Value.map (some m7)), (8, Value.slice l0.a l0.n l0.c), (9, Value.int .i64 ((l0.n : Nat) : Int)), (10, Value.int .i64 s.1)] s.2 w0 aa ww ∧ I s.1 s.2) (fun s => m s.1 s.2) (0, h1) ⟨S.sub _ ⟨rfl, rfl, rfl, rfl, rfl, trivial⟩, H⟩ ?_
  clear H S aa
  rintro ⟨x10, h2⟩ aa ww ⟨S, HI⟩
  replace S : St 35 [(0, Value.slice l0.a l0.n l0.c), (3, Value.map (some m7)), (8, Value.slice l0.a l0.n l0.c), (9, Value.int .i64 ((l0.n : Nat) : Int)), (10, Value.int .i64 x10)] h2 w0 aa ww := S
  have H := HB_1 x10 h2 HI
  clear HI
  refine W.seq ?_
  replace S := S.sub [(0, Value.slice l0.a l0.n l0.c), (3, Value.map (some m7)), (8, Value.slice l0.a l0.n l0.c), (9, Value.int .i64 ((l0.n : Nat) : Int)), (10, Value.int .i64 x10)] ⟨rfl, rfl, rfl, rfl, rfl, trivial⟩
  refine W.region ?_
  refine OL.pure S (Lf.run_lss (S.ev rfl) (S.ev rfl)) rfl rfl trivial ?_
  clear S; intro aa S
  refine OL.nil ?_
  refine W.seq ?_
  refine W.cond S (b := (decide (x10 < ((l0.n : Nat) : Int)))) rfl (fun hb => ?_) (fun hb => ?_)
  · replace H := H.1 hb
    refine W.skip ?_
    refine W.seq ?_
    refine W.block ?_
    refine W.seq ?_
    replace S := S.sub [(0, Value.slice l0.a l0.n l0.c), (3, Value.map (some m7)), (8, Value.slice l0.a l0.n l0.c), (9, Value.int .i64 ((l0.n : Nat) : Int)), (10, Value.int .i64 x10)] ⟨rfl, rfl, rfl, rfl, rfl, trivial⟩
    refine W.region ?_
    obtain ⟨q12, e, e_1, e_2, H⟩ := H
    refine OL.pure S (Lf.run_ixs (S.ev rfl) (S.ev rfl) Try.underlying42 ti41 e e_1 e_2) rfl rfl trivial ?_
    clear S; intro aa S
    obtain ⟨y13, y13_1, y13_2, y13_3, c_4, c_5, c_6, c_7, H⟩ := H
    refine OL.pure S (Lf.run_ldA (cs := [Value.string y13, Value.int .i64 y13_1, Value.slice y13_2.a y13_2.n y13_2.c, Value.slice y13_3.a y13_3.n y13_3.c]) (S.ev rfl) ag41 ti41 (by rw [S.heap]; exact RowL.toRow ⟨c_4, c_5, c_6, c_7, trivial⟩)) rfl rfl trivial ?_
    clear S; intro aa S
    refine ol_alloc S H ti41 rfl rfl trivial ?_
    clear S H aa; intro p5 aa ww h3 H S
    refine ol_stoA S H rfl rfl ti41 trivial ?_
    clear S H aa; intro aa ww h4 H S
    refine OL.nil ?_
    replace S := S.sub [(0, Value.slice l0.a l0.n l0.c), (3, Value.map (some m7)), (5, Value.pointer (some p5)), (8, Value.slice l0.a l0.n l0.c), (9, Value.int .i64 ((l0.n : Nat) : Int)), (10, Value.int .i64 x10)] ⟨rfl, rfl, rfl, rfl, rfl, rfl, trivial⟩
    obtain ⟨Sq, HS, H⟩ := H
    refine W.regionN [2, 4] [11, 12] Sq S (by kernel_rfl) ?_
    clear S; intro ww S
    refine BN.pure 0 S (fun _ => HS) rfl (by kernel_rfl) (by kernel_rfl) (fun _ => Lf.run_move (S.ev rfl)) rfl rfl trivial ?_
    clear S; intro aa S
    refine BN.pure 1 S (fun _ => HS) rfl (by kernel_rfl) (by kernel_rfl) (fun _ => Lf.run_fa (S.ev rfl) fa41_0) rfl rfl trivial ?_
    clear S; intro aa S
    refine BN.pure 3 S (fun _ => HS) rfl (by kernel_rfl) (by kernel_rfl) (fun _ => Lf.run_fa (S.ev rfl) fa41_1) rfl rfl trivial ?_
    clear S; intro aa S
    refine BN.pure 7 S (fun _ => HS) rfl (by kernel_rfl) (by kernel_rfl) (fun _ => Lf.run_fa (S.ev rfl) fa41_2) rfl rfl trivial ?_
    clear S; intro aa S
    obtain ⟨x16, c_1, H⟩ := H
    refine BN.held 2 S HS rfl (by kernel_rfl) (fun _ hq => Lf.run_ld (S.ev rfl) fl9 (c_1 _ hq)) rfl rfl trivial ?_
    clear S; intro aa S
    obtain ⟨x18, c_2, H⟩ := H
    refine BN.held 4 S HS rfl (by kernel_rfl) (fun _ hq => Lf.run_ld (S.ev rfl) fl3 (c_2 _ hq)) rfl rfl trivial ?_
    clear S; intro aa S
    refine BN.pure 5 S (fun _ => HS) rfl (by kernel_rfl) (by kernel_rfl) (fun _ => Lf.run_min (S.ev rfl) (S.ev rfl)) rfl rfl trivial ?_
    clear S; intro aa S
    refine BN.pure 6 S (fun _ => HS) rfl (by kernel_rfl) (by kernel_rfl) (fun _ => Lf.run_max (S.ev rfl) (S.ev rfl)) rfl rfl trivial ?_
    clear S; intro aa S
    obtain ⟨x22, c_3, H⟩ := H
    refine BN.load 8 S (fun _ => HS) rfl (by kernel_rfl) (by kernel_rfl) (fun _ hx => Lf.run_ld (S.ev rfl) fl39 (hx.cell _ _ (S.cl c_3))) rfl rfl trivial ?_
    clear S; intro aa S
    refine BN.pure 9 S (fun _ => HS) rfl (by kernel_rfl) (by kernel_rfl) (fun _ => Lf.run_lens (S.ev rfl) rfl Try.underlying39) rfl rfl trivial ?_
    clear S; intro aa S
    refine BN.pure 10 S (fun _ => HS) rfl (by kernel_rfl) (by kernel_rfl) (fun _ => Lf.run_add (S.ev rfl) (S.ev rfl)) rfl rfl trivial ?_
    clear S; intro aa S
    refine BN.eff 11 rfl (by kernel_rfl) ?_
    refine ol_mkS S H Try.underlying30 ti3 rfl rfl rfl trivial ?_
    clear S H aa; intro s25 aa ww h5 H S
    refine OL.nil ?_
    clear HS; obtain ⟨HS, H⟩ := H
    refine ⟨fun _ => by rw [S.heap]; exact HS, ?_⟩
    refine BN.eff 12 rfl (by kernel_rfl) ?_
    refine ol_updS S H Try.underlying37 Try.underlying9 rfl rfl rfl trivial ?_
    clear S H aa; intro aa ww h6 H S
    refine OL.nil ?_
    refine ⟨noNeed (by kernel_rfl), ?_⟩
    refine BN.done (by kernel_rfl) ?_
    replace S := S.sub [(0, Value.slice l0.a l0.n l0.c), (3, Value.map (some m7)), (8, Value.slice l0.a l0.n l0.c), (9, Value.int .i64 ((l0.n : Nat) : Int)), (10, Value.int .i64 x10)] ⟨rfl, rfl, rfl, rfl, rfl, trivial⟩
    refine W.region ?_
    refine OL.pure S (Lf.run_add (S.ev rfl) (S.ev rfl)) rfl rfl trivial ?_
    clear S; intro aa S
    refine OL.pure S (Lf.run_move (S.ev rfl)) rfl rfl trivial ?_
    clear S; intro aa S
    refine OL.nil ?_
    exact ⟨((IntKind.i64.wrap (x10 + 1)), h6), ⟨S.sub _ ⟨rfl, rfl, rfl, rfl, rfl, trivial⟩, H.1⟩, H.2⟩
  · replace H := H.2 hb
    refine W.exit_ ?_
    refine xhit ?_
    refine W.block ?_
    obtain ⟨I_1, m_1, H, HB⟩ := H
    refine W.loopS (σ := (Option Nat) × Heap) (fun s aa ww => St 35 [(0, Value.slice l0.a l0.n l0.c), (3, Value.map s.1)] s.2 w0 aa ww ∧ I_1 s.1 s.2) (fun s => m_1 s.1 s.2) ((some m7), h2) ⟨S.sub _ ⟨rfl, rfl, trivial⟩, H⟩ ?_
    clear H S aa
    rintro ⟨ways3, h7⟩ aa ww ⟨S, HI⟩
    replace S : St 35 [(0, Value.slice l0.a l0.n l0.c), (3, Value.map ways3)] h7 w0 aa ww := S
    have H := HB ways3 h7 HI
    clear HI
    refine W.block ?_
    refine W.seq ?_
    replace S := S.sub [(0, Value.slice l0.a l0.n l0.c), (3, Value.map ways3)] ⟨rfl, rfl, trivial⟩
    refine W.region ?_
    refine OL.pure S (Lf.run_move (S.ev rfl)) rfl rfl trivial ?_
    clear S; intro aa S
    refine OL.pure S (Lf.run_move (S.ev rfl)) rfl rfl trivial ?_
    clear S; intro aa S
    refine ol_cal S H isfn13 rfl rfl trivial ?_
    clear S H aa; intro u aa ww h8 H S
    obtain ⟨x29, rfl, H⟩ := H
    refine OL.pure S (Lf.run_assign (S.ev rfl)) rfl rfl trivial ?_
    clear S; intro aa S
    refine OL.nil ?_
    refine W.seq ?_
    refine W.seq ?_
    replace S := S.sub [(0, Value.slice l0.a l0.n l0.c), (3, Value.map ways3), (6, Value.map x29)] ⟨rfl, rfl, rfl, trivial⟩
    refine W.region ?_
    refine OL.pure S (Lf.run_move (S.ev rfl)) rfl rfl trivial ?_
    clear S; intro aa S
    refine OL.pure S (Lf.run_move (S.ev rfl)) rfl rfl trivial ?_
    clear S; intro aa S
    refine ol_cal S H isfn14 rfl rfl trivial ?_
    clear S H aa; intro u_1 aa ww h9 H S
    obtain ⟨x32, rfl, H⟩ := H
    refine OL.nil ?_
    refine W.cond S (b := x32) rfl (fun hb_1 => ?_) (fun hb_1 => ?_)
    · replace H := H.1 hb_1
      refine W.seq ?_
      replace S := S.sub [(3, Value.map ways3)] ⟨rfl, trivial⟩
      refine W.region ?_
      refine OL.pure S (Lf.run_move (S.ev rfl)) rfl rfl trivial ?_
      clear S; intro aa S
      refine OL.pure S (Lf.run_assign (S.ev rfl)) rfl rfl trivial ?_
      clear S; intro aa S
      refine OL.nil ?_
      refine W.ret ?_
      exact Ret.one S rfl rfl H
    · replace H := H.2 hb_1
      refine W.skip ?_
      replace S := S.sub [(0, Value.slice l0.a l0.n l0.c), (6, Value.map x29)] ⟨rfl, rfl, trivial⟩
      refine W.region ?_
      refine OL.pure S (Lf.run_move (S.ev rfl)) rfl rfl trivial ?_
      clear S; intro aa S
      refine OL.pure S (Lf.run_assign (S.ev rfl)) rfl rfl trivial ?_
      clear S; intro aa S
      refine OL.nil ?_
      exact ⟨(x29, h9), ⟨S.sub _ ⟨rfl, rfl, trivial⟩, H.1⟩, H.2⟩

/-- chattel sub.Pairs -/
def L9 (ways0 : Option Nat) (a1 : Int) (a1_1 : ByteArray) (a1_2 : Bool) (a1_3 : Int) (a1_4 : Sv) (a1_5 : Sv) (b2 : Int) (b2_1 : ByteArray) (b2_2 : Bool) (b2_3 : Int) (b2_4 : Sv) (b2_5 : Sv) (h : Heap) (R : Value → Heap → Prop) : Prop :=
  new 32 #[Value.int .i64 a1, Value.string a1_1, Value.bool a1_2, Value.int .i64 a1_3, Value.slice a1_4.a a1_4.n a1_4.c, Value.slice a1_5.a a1_5.n a1_5.c] h fun p4 h1 =>
  new 32 #[Value.int .i64 b2, Value.string b2_1, Value.bool b2_2, Value.int .i64 b2_3, Value.slice b2_4.a b2_4.n b2_4.c, Value.slice b2_5.a b2_5.n b2_5.c] h1 fun p5 h2 =>
  ∃ (y9 : Int) (y9_1 : ByteArray) (y9_2 : Bool) (y9_3 : Int) (y9_4 : Sv) (y9_5 : Sv), cl h2 p4 = some (Value.int .i64 y9) ∧ cl h2 (p4.add 1) = some (Value.string y9_1) ∧ cl h2 (p4.add 2) = some (Value.bool y9_2) ∧ cl h2 (p4.add 3) = some (Value.int .i64 y9_3) ∧ cl h2 (p4.add 4) = some (Value.slice y9_4.a y9_4.n y9_4.c) ∧ cl h2 (p4.add 5) = some (Value.slice y9_5.a y9_5.n y9_5.c) ∧
  ∃ (y10 : Int) (y10_1 : ByteArray) (y10_2 : Bool) (y10_3 : Int) (y10_4 : Sv) (y10_5 : Sv), cl h2 p5 = some (Value.int .i64 y10) ∧ cl h2 (p5.add 1) = some (Value.string y10_1) ∧ cl h2 (p5.add 2) = some (Value.bool y10_2) ∧ cl h2 (p5.add 3) = some (Value.int .i64 y10_3) ∧ cl h2 (p5.add 4) = some (Value.slice y10_4.a y10_4.n y10_4.c) ∧ cl h2 (p5.add 5) = some (Value.slice y10_5.a y10_5.n y10_5.c) ∧
  cal Try.prog 16 #[Value.agg #[Value.int .i64 y9, Value.string y9_1, Value.bool y9_2, Value.int .i64 y9_3, Value.slice y9_4.a y9_4.n y9_4.c, Value.slice y9_5.a y9_5.n y9_5.c], Value.agg #[Value.int .i64 y10, Value.string y10_1, Value.bool y10_2, Value.int .i64 y10_3, Value.slice y10_4.a y10_4.n y10_4.c, Value.slice y10_5.a y10_5.n y10_5.c]] h2 fun u h3 => asB u fun x11 =>
  ifb (!x11) (
    R (.tuple #[Value.slice (⟨none, 0, 0⟩ : Sv).a (⟨none, 0, 0⟩ : Sv).n (⟨none, 0, 0⟩ : Sv).c, Value.bool false]) h3) (
    new 57 #[Value.map ways0, Value.slice (⟨none, 0, 0⟩ : Sv).a (⟨none, 0, 0⟩ : Sv).n (⟨none, 0, 0⟩ : Sv).c] h3 fun p15 h4 =>
    ∃ (y17 : Int) (y17_1 : ByteArray) (y17_2 : Bool) (y17_3 : Int) (y17_4 : Sv) (y17_5 : Sv), cl h4 p4 = some (Value.int .i64 y17) ∧ cl h4 (p4.add 1) = some (Value.string y17_1) ∧ cl h4 (p4.add 2) = some (Value.bool y17_2) ∧ cl h4 (p4.add 3) = some (Value.int .i64 y17_3) ∧ cl h4 (p4.add 4) = some (Value.slice y17_4.a y17_4.n y17_4.c) ∧ cl h4 (p4.add 5) = some (Value.slice y17_5.a y17_5.n y17_5.c) ∧
    ∃ (y18 : Int) (y18_1 : ByteArray) (y18_2 : Bool) (y18_3 : Int) (y18_4 : Sv) (y18_5 : Sv), cl h4 p5 = some (Value.int .i64 y18) ∧ cl h4 (p5.add 1) = some (Value.string y18_1) ∧ cl h4 (p5.add 2) = some (Value.bool y18_2) ∧ cl h4 (p5.add 3) = some (Value.int .i64 y18_3) ∧ cl h4 (p5.add 4) = some (Value.slice y18_4.a y18_4.n y18_4.c) ∧ cl h4 (p5.add 5) = some (Value.slice y18_5.a y18_5.n y18_5.c) ∧
    cal Try.prog 17 #[Value.pointer (some p15), Value.agg #[Value.int .i64 y17, Value.string y17_1, Value.bool y17_2, Value.int .i64 y17_3, Value.slice y17_4.a y17_4.n y17_4.c, Value.slice y17_5.a y17_5.n y17_5.c], Value.agg #[Value.int .i64 y18, Value.string y18_1, Value.bool y18_2, Value.int .i64 y18_3, Value.slice y18_4.a y18_4.n y18_4.c, Value.slice y18_5.a y18_5.n y18_5.c], Value.int .i64 1] h4 fun u_1 h5 =>
    ldS h5 (p15.add 1) fun x23 =>
    R (.tuple #[Value.slice x23.a x23.n x23.c, Value.bool true]) h5)

set_option maxRecDepth 100000 in

theorem F9 {ways0 a1 a1_1 a1_2 a1_3 a1_4 a1_5 b2 b2_1 b2_2 b2_3 b2_4 b2_5 h : _} {R : Value → Heap → Prop} (H : L9 ways0 a1 a1_1 a1_2 a1_3 a1_4 a1_5 b2 b2_1 b2_2 b2_3 b2_4 b2_5 h R) : CallsH Try.prog 9 #[Value.map ways0, Value.agg #[Value.int .i64 a1, Value.string a1_1, Value.bool a1_2, Value.int .i64 a1_3, Value.slice a1_4.a a1_4.n a1_4.c, Value.slice a1_5.a a1_5.n a1_5.c], Value.agg #[Value.int .i64 b2, Value.string b2_1, Value.bool b2_2, Value.int .i64 b2_3, Value.slice b2_4.a b2_4.n b2_4.c, Value.slice b2_5.a b2_5.n b2_5.c]] h R := by
  refine CallsH.enter (n := 24) Try.func9 rfl rfl rfl rfl ?_
  intro w0 aa ww S
  unfold L9 at H
  refine W.seq ?_
  replace S := S.sub [(0, Value.map ways0), (1, Value.agg #[Value.int .i64 a1, Value.string a1_1, Value.bool a1_2, Value.int .i64 a1_3, Value.slice a1_4.a a1_4.n a1_4.c, Value.slice a1_5.a a1_5.n a1_5.c]), (2, Value.agg #[Value.int .i64 b2, Value.string b2_1, Value.bool b2_2, Value.int .i64 b2_3, Value.slice b2_4.a b2_4.n b2_4.c, Value.slice b2_5.a b2_5.n b2_5.c])] ⟨rfl, rfl, rfl, trivial⟩
  refine W.region ?_
  refine ol_box S H rfl rfl rfl trivial ?_
  clear S H aa; intro p4 aa ww h1 H S
  refine ol_box S H rfl rfl rfl trivial ?_
  clear S H aa; intro p5 aa ww h2 H S
  refine OL.pure S (Lf.run_assign (S.ev rfl)) rfl rfl trivial ?_
  clear S; intro aa S
  refine OL.pure S (Lf.run_assign (S.ev rfl)) rfl rfl trivial ?_
  clear S; intro aa S
  refine OL.nil ?_
  refine W.seq ?_
  refine W.seq ?_
  replace S := S.sub [(0, Value.map ways0), (4, Value.pointer (some p4)), (5, Value.pointer (some p5))] ⟨rfl, rfl, rfl, trivial⟩
  refine W.region ?_
  obtain ⟨y9, y9_1, y9_2, y9_3, y9_4, y9_5, c_23, c_24, c_25, c_26, c_27, c_28, H⟩ := H
  refine OL.pure S (Lf.run_ldA (cs := [Value.int .i64 y9, Value.string y9_1, Value.bool y9_2, Value.int .i64 y9_3, Value.slice y9_4.a y9_4.n y9_4.c, Value.slice y9_5.a y9_5.n y9_5.c]) (S.ev rfl) ag32 ti32 (by rw [S.heap]; exact RowL.toRow ⟨c_23, c_24, c_25, c_26, c_27, c_28, trivial⟩)) rfl rfl trivial ?_
  clear S; intro aa S
  obtain ⟨y10, y10_1, y10_2, y10_3, y10_4, y10_5, c_17, c_18, c_19, c_20, c_21, c_22, H⟩ := H
  refine OL.pure S (Lf.run_ldA (cs := [Value.int .i64 y10, Value.string y10_1, Value.bool y10_2, Value.int .i64 y10_3, Value.slice y10_4.a y10_4.n y10_4.c, Value.slice y10_5.a y10_5.n y10_5.c]) (S.ev rfl) ag32 ti32 (by rw [S.heap]; exact RowL.toRow ⟨c_17, c_18, c_19, c_20, c_21, c_22, trivial⟩)) rfl rfl trivial ?_
  clear S; intro aa S
  refine ol_cal S H isfn16 rfl rfl trivial ?_
  clear S H aa; intro u aa ww h3 H S
  obtain ⟨x11, rfl, H⟩ := H
  refine OL.pure S (Lf.run_not (S.ev rfl)) rfl rfl trivial ?_
  clear S; intro aa S
  refine OL.nil ?_
  refine W.cond S (b := (!x11)) rfl (fun hb => ?_) (fun hb => ?_)
  · replace H := H.1 hb
    refine W.seq ?_
    replace S := S.sub [] trivial
    refine W.region ?_
    refine OL.pure S (Lf.run_assign (S.ev rfl)) rfl rfl trivial ?_
    clear S; intro aa S
    refine OL.pure S (Lf.run_assign (S.ev rfl)) rfl rfl trivial ?_
    clear S; intro aa S
    refine OL.nil ?_
    refine W.ret ?_
    exact Ret.two S rfl rfl rfl H
  · replace H := H.2 hb
    refine W.skip ?_
    refine W.seq ?_
    replace S := S.sub [(0, Value.map ways0), (4, Value.pointer (some p4)), (5, Value.pointer (some p5))] ⟨rfl, rfl, rfl, trivial⟩
    refine W.region ?_
    refine OL.pure S (Lf.run_move (S.ev rfl)) rfl rfl trivial ?_
    clear S; intro aa S
    refine OL.pure S (Lf.run_build (cs := #[Value.map ways0, Value.slice (⟨none, 0, 0⟩ : Sv).a (⟨none, 0, 0⟩ : Sv).n (⟨none, 0, 0⟩ : Sv).c]) pl57 ti57 (parts_map S rfl) (by kernel_rfl)) rfl rfl trivial ?_
    clear S; intro aa S
    refine ol_box S H rfl rfl rfl trivial ?_
    clear S H aa; intro p15 aa ww h4 H S
    refine OL.pure S (Lf.run_assign (S.ev rfl)) rfl rfl trivial ?_
    clear S; intro aa S
    refine OL.nil ?_
    refine W.seq ?_
    replace S := S.sub [(4, Value.pointer (some p4)), (5, Value.pointer (some p5)), (8, Value.pointer (some p15))] ⟨rfl, rfl, rfl, trivial⟩
    refine W.region ?_
    refine OL.pure S (Lf.run_move (S.ev rfl)) rfl rfl trivial ?_
    clear S; intro aa S
    obtain ⟨y17, y17_1, y17_2, y17_3, y17_4, y17_5, c_11, c_12, c_13, c_14, c_15, c_16, H⟩ := H
    refine OL.pure S (Lf.run_ldA (cs := [Value.int .i64 y17, Value.string y17_1, Value.bool y17_2, Value.int .i64 y17_3, Value.slice y17_4.a y17_4.n y17_4.c, Value.slice y17_5.a y17_5.n y17_5.c]) (S.ev rfl) ag32 ti32 (by rw [S.heap]; exact RowL.toRow ⟨c_11, c_12, c_13, c_14, c_15, c_16, trivial⟩)) rfl rfl trivial ?_
    clear S; intro aa S
    obtain ⟨y18, y18_1, y18_2, y18_3, y18_4, y18_5, c_5, c_6, c_7, c_8, c_9, c_10, H⟩ := H
    refine OL.pure S (Lf.run_ldA (cs := [Value.int .i64 y18, Value.string y18_1, Value.bool y18_2, Value.int .i64 y18_3, Value.slice y18_4.a y18_4.n y18_4.c, Value.slice y18_5.a y18_5.n y18_5.c]) (S.ev rfl) ag32 ti32 (by rw [S.heap]; exact RowL.toRow ⟨c_5, c_6, c_7, c_8, c_9, c_10, trivial⟩)) rfl rfl trivial ?_
    clear S; intro aa S
    refine ol_cal S H isfn17 rfl rfl trivial ?_
    clear S H aa; intro u_1 aa ww h5 H S
    refine OL.nil ?_
    refine W.seq ?_
    replace S := S.sub [(8, Value.pointer (some p15))] ⟨rfl, trivial⟩
    refine W.region ?_
    refine OL.pure S (Lf.run_move (S.ev rfl)) rfl rfl trivial ?_
    clear S; intro aa S
    refine OL.pure S (Lf.run_nc (S.ev rfl)) rfl rfl trivial ?_
    clear S; intro aa S
    refine OL.pure S (Lf.run_fa (S.ev rfl) fa57_1) rfl rfl trivial ?_
    clear S; intro aa S
    obtain ⟨x23, c_4, H⟩ := H
    refine OL.pure S (Lf.run_ld (S.ev rfl) fl43 (S.cl c_4)) rfl rfl trivial ?_
    clear S; intro aa S
    refine OL.pure S (Lf.run_assign (S.ev rfl)) rfl rfl trivial ?_
    clear S; intro aa S
    refine OL.pure S (Lf.run_assign (S.ev rfl)) rfl rfl trivial ?_
    clear S; intro aa S
    refine OL.nil ?_
    refine W.ret ?_
    exact Ret.two S rfl rfl rfl H

/-- chattel chattelref10.Outlive -/
def L10 (l0 : Sv) (sets1 : Sv) (h : Heap) (R : Value → Heap → Prop) : Prop :=
  ∃ (I : Int → Prop) (m : Int → Nat), I 0 ∧ ∀ i5, I i5 →
  ifb (decide (i5 < ((l0.n : Nat) : Int))) (
    ixS l0 i5 fun q16 =>
    ldI .i64 h (q16.add ((i5 : Int).toNat * 2)) fun x18 =>
    ixS l0 i5 fun q21 =>
    ldI .i64 h ((q21.add ((i5 : Int).toNat * 2)).add 1) fun x23 =>
    ∃ J : Bool → Prop, (
      ifb (decide (x18 < 0)) (
        ifb true (
          ifb true (
            ifb true (
              J true) (
              ixS sets1 x23 fun q45_7 =>
              ldI .u64 h (q45_7.add ((x23 : Int).toNat * 1)) fun x46_7 =>
              ixS sets1 x18 fun q49_7 =>
              ldI .u64 h (q49_7.add ((x18 : Int).toNat * 1)) fun x50_7 =>
              J ((bitsI .andNot .u64 x46_7 x50_7) != 0))) (
            ifb (decide (((sets1.n : Nat) : Int) ≤ x23)) (
              J true) (
              ixS sets1 x23 fun q45_6 =>
              ldI .u64 h (q45_6.add ((x23 : Int).toNat * 1)) fun x46_6 =>
              ixS sets1 x18 fun q49_6 =>
              ldI .u64 h (q49_6.add ((x18 : Int).toNat * 1)) fun x50_6 =>
              J ((bitsI .andNot .u64 x46_6 x50_6) != 0)))) (
          ifb (decide (((sets1.n : Nat) : Int) ≤ x18)) (
            ifb true (
              J true) (
              ixS sets1 x23 fun q45_5 =>
              ldI .u64 h (q45_5.add ((x23 : Int).toNat * 1)) fun x46_5 =>
              ixS sets1 x18 fun q49_5 =>
              ldI .u64 h (q49_5.add ((x18 : Int).toNat * 1)) fun x50_5 =>
              J ((bitsI .andNot .u64 x46_5 x50_5) != 0))) (
            ifb (decide (((sets1.n : Nat) : Int) ≤ x23)) (
              J true) (
              ixS sets1 x23 fun q45_4 =>
              ldI .u64 h (q45_4.add ((x23 : Int).toNat * 1)) fun x46_4 =>
              ixS sets1 x18 fun q49_4 =>
              ldI .u64 h (q49_4.add ((x18 : Int).toNat * 1)) fun x50_4 =>
              J ((bitsI .andNot .u64 x46_4 x50_4) != 0))))) (
        ifb (decide (x23 < 0)) (
          ifb true (
            ifb true (
              J true) (
              ixS sets1 x23 fun q45_3 =>
              ldI .u64 h (q45_3.add ((x23 : Int).toNat * 1)) fun x46_3 =>
              ixS sets1 x18 fun q49_3 =>
              ldI .u64 h (q49_3.add ((x18 : Int).toNat * 1)) fun x50_3 =>
              J ((bitsI .andNot .u64 x46_3 x50_3) != 0))) (
            ifb (decide (((sets1.n : Nat) : Int) ≤ x23)) (
              J true) (
              ixS sets1 x23 fun q45_2 =>
              ldI .u64 h (q45_2.add ((x23 : Int).toNat * 1)) fun x46_2 =>
              ixS sets1 x18 fun q49_2 =>
              ldI .u64 h (q49_2.add ((x18 : Int).toNat * 1)) fun x50_2 =>
              J ((bitsI .andNot .u64 x46_2 x50_2) != 0)))) (
          ifb (decide (((sets1.n : Nat) : Int) ≤ x18)) (
            ifb true (
              J true) (
              ixS sets1 x23 fun q45_1 =>
              ldI .u64 h (q45_1.add ((x23 : Int).toNat * 1)) fun x46_1 =>
              ixS sets1 x18 fun q49_1 =>
              ldI .u64 h (q49_1.add ((x18 : Int).toNat * 1)) fun x50_1 =>
              J ((bitsI .andNot .u64 x46_1 x50_1) != 0))) (
            ifb (decide (((sets1.n : Nat) : Int) ≤ x23)) (
              J true) (
              ixS sets1 x23 fun q45 =>
              ldI .u64 h (q45.add ((x23 : Int).toNat * 1)) fun x46 =>
              ixS sets1 x18 fun q49 =>
              ldI .u64 h (q49.add ((x18 : Int).toNat * 1)) fun x50 =>
              J ((bitsI .andNot .u64 x46 x50) != 0)))))) ∧ (∀ x53, J x53 →
    ifb x53 (
      R (Value.bool false) h) (
      I (IntKind.i64.wrap (i5 + 1)) ∧ m (IntKind.i64.wrap (i5 + 1)) < m i5))) (
    R (Value.bool true) h)

set_option maxRecDepth 100000 in

theorem F10 {l0 sets1 h : _} {R : Value → Heap → Prop} (H : L10 l0 sets1 h R) : CallsH Try.prog 10 #[Value.slice l0.a l0.n l0.c, Value.slice sets1.a sets1.n sets1.c] h R := by
  refine CallsH.enter (n := 54) Try.func10 rfl rfl rfl rfl ?_
  intro w0 aa ww S
  unfold L10 at H
  refine W.seq ?_
  replace S := S.sub [(0, Value.slice l0.a l0.n l0.c), (1, Value.slice sets1.a sets1.n sets1.c)] ⟨rfl, rfl, trivial⟩
  refine W.region ?_
  refine OL.pure S (Lf.run_assign (S.ev rfl)) rfl rfl trivial ?_
  clear S; intro aa S
  refine OL.nil ?_
  refine W.seq ?_
  refine W.seq ?_
  replace S := S.sub [(0, Value.slice l0.a l0.n l0.c), (1, Value.slice sets1.a sets1.n sets1.c)] ⟨rfl, rfl, trivial⟩
  refine W.region ?_
  refine OL.pure S (Lf.run_assign (S.ev rfl)) rfl rfl trivial ?_
  clear S; intro aa S
  refine OL.nil ?_
  refine W.block ?_
  obtain ⟨I, m, H, HB⟩ := H
  refine W.loopS (σ := Int) (fun s aa ww => St 54 [(0, Value.slice l0.a l0.n l0.c), (1, Value.slice sets1.a sets1.n sets1.c), (5, Value.int .i64 s)] h w0 aa ww ∧ I s) (fun s => m s) (0) ⟨S.sub _ ⟨rfl, rfl, rfl, trivial⟩, H⟩ ?_
  clear H S aa
  rintro i5 aa ww ⟨S, HI⟩
  replace S : St 54 [(0, Value.slice l0.a l0.n l0.c), (1, Value.slice sets1.a sets1.n sets1.c), (5, Value.int .i64 i5)] h w0 aa ww := S
  have H := HB i5 HI
  clear HI
  refine W.seq ?_
  refine W.seq ?_
  replace S := S.sub [(0, Value.slice l0.a l0.n l0.c), (1, Value.slice sets1.a sets1.n sets1.c), (5, Value.int .i64 i5)] ⟨rfl, rfl, rfl, trivial⟩
  refine W.region ?_
  refine OL.pure S (Lf.run_move (S.ev rfl)) rfl rfl trivial ?_
  clear S; intro aa S
  refine OL.pure S (Lf.run_move (S.ev rfl)) rfl rfl trivial ?_
  clear S; intro aa S
  refine OL.pure S (Lf.run_lens (S.ev rfl) rfl Try.underlying43) rfl rfl trivial ?_
  clear S; intro aa S
  refine OL.pure S (Lf.run_lss (S.ev rfl) (S.ev rfl)) rfl rfl trivial ?_
  clear S; intro aa S
  refine OL.nil ?_
  refine W.cond S (b := (decide (i5 < ((l0.n : Nat) : Int)))) rfl (fun hb => ?_) (fun hb => ?_)
  · replace H := H.1 hb
    refine W.skip ?_
    refine W.seq ?_
    refine W.block ?_
    refine W.seq ?_
    replace S := S.sub [(0, Value.slice l0.a l0.n l0.c), (1, Value.slice sets1.a sets1.n sets1.c), (5, Value.int .i64 i5)] ⟨rfl, rfl, rfl, trivial⟩
    refine W.regionD S (by kernel_rfl) ?_
    clear S; intro ww S
    refine AN.pure 0 S rfl (by kernel_rfl) (fun _ => Lf.run_move (S.ev rfl)) rfl rfl trivial ?_
    clear S; intro aa S
    refine AN.pure 1 S rfl (by kernel_rfl) (fun _ => Lf.run_move (S.ev rfl)) rfl rfl trivial ?_
    clear S; intro aa S
    obtain ⟨q16, e, e_1, e_2, H⟩ := H
    refine AN.pure 2 S rfl (by kernel_rfl) (fun _ => Lf.run_ixs (S.ev rfl) (S.ev rfl) Try.underlying43 ti50 e e_1 e_2) rfl rfl trivial ?_
    clear S; intro aa S
    refine AN.pure 3 S rfl (by kernel_rfl) (fun _ => Lf.run_ixa (S.ev rfl) (S.ev rfl) Try.underlying50 ti3 (by decide) (by decide)) rfl rfl trivial ?_
    clear S; intro aa S
    obtain ⟨x18, c, H⟩ := H
    refine AN.load 4 S rfl (by kernel_rfl) (fun _ hx => Lf.run_ld (S.ev rfl) fl3 (hx.cell _ _ (S.cl c))) rfl rfl trivial ?_
    clear S; intro aa S
    refine AN.pure 5 S rfl (by kernel_rfl) (fun _ => Lf.run_move (S.ev rfl)) rfl rfl trivial ?_
    clear S; intro aa S
    refine AN.pure 6 S rfl (by kernel_rfl) (fun _ => Lf.run_move (S.ev rfl)) rfl rfl trivial ?_
    clear S; intro aa S
    obtain ⟨q21, e_5, e_6, e_7, H⟩ := H
    refine AN.pure 7 S rfl (by kernel_rfl) (fun _ => Lf.run_ixs (S.ev rfl) (S.ev rfl) Try.underlying43 ti50 e_5 e_6 e_7) rfl rfl trivial ?_
    clear S; intro aa S
    refine AN.pure 8 S rfl (by kernel_rfl) (fun _ => Lf.run_ixa (S.ev rfl) (S.ev rfl) Try.underlying50 ti3 (by decide) (by decide)) rfl rfl trivial ?_
    clear S; intro aa S
    obtain ⟨x23, c_1, H⟩ := H
    refine AN.load 9 S rfl (by kernel_rfl) (fun _ hx => Lf.run_ld (S.ev rfl) fl3 (hx.cell _ _ (S.cl c_1))) rfl rfl trivial ?_
    clear S; intro aa S
    refine AN.pure 10 S rfl (by kernel_rfl) (fun _ => Lf.run_assign (S.ev rfl)) rfl rfl trivial ?_
    clear S; intro aa S
    refine AN.pure 11 S rfl (by kernel_rfl) (fun _ => Lf.run_assign (S.ev rfl)) rfl rfl trivial ?_
    clear S; intro aa S
    refine AN.done (by kernel_rfl) ?_
    refine W.seq ?_
    replace S := S.sub [(0, Value.slice l0.a l0.n l0.c), (1, Value.slice sets1.a sets1.n sets1.c), (5, Value.int .i64 i5), (6, Value.int .i64 x18), (7, Value.int .i64 x23)] ⟨rfl, rfl, rfl, rfl, rfl, trivial⟩
    obtain ⟨J, H, HK⟩ := H
    refine W.mono (N' := fun aa ww => ∃ x53, St 54 [(0, Value.slice l0.a l0.n l0.c), (1, Value.slice sets1.a sets1.n sets1.c), (5, Value.int .i64 i5), (53, Value.bool x53)] h w0 aa ww ∧ J x53) ?_ ?_
    · refine W.regionD S (by kernel_rfl) ?_
      clear S; intro ww S
      refine AN.pure 0 S rfl (by kernel_rfl) (fun _ => Lf.run_move (S.ev rfl)) rfl rfl trivial ?_
      clear S; intro aa S
      refine AN.pure 1 S rfl (by kernel_rfl) (fun _ => Lf.run_lss (S.ev rfl) (S.ev rfl)) rfl rfl trivial ?_
      clear S; intro aa S
      refine AN.pure 2 S rfl (by kernel_rfl) (fun _ => Lf.run_move (S.ev rfl)) rfl rfl trivial ?_
      clear S; intro aa S
      rcases Bool.eq_false_or_eq_true (decide (x18 < 0)) with hb_1 | hb_1
      · replace H := H.1 hb_1
        refine AN.not 3 S rfl (by kernel_rfl) rfl rfl (GNo.mk rfl rfl hb_1) ?_
        clear S; intro aa S
        refine AN.not 4 S rfl (by kernel_rfl) rfl rfl (GNo.mk rfl rfl hb_1) ?_
        clear S; intro aa S
        refine AN.pure 5 S rfl (by kernel_rfl) (fun _ => run_pickT (S.ev rfl) hb_1 (S.ev rfl)) rfl rfl trivial ?_
        clear S; intro aa S
        refine AN.pure 6 S rfl (by kernel_rfl) (fun _ => Lf.run_move (S.ev rfl)) rfl rfl trivial ?_
        clear S; intro aa S
        rcases Bool.eq_false_or_eq_true true with hb_9 | hb_9
        · replace H := H.1 hb_9
          refine AN.not 7 S rfl (by kernel_rfl) rfl rfl (GNo.mk rfl rfl hb_9) ?_
          clear S; intro aa S
          refine AN.not 8 S rfl (by kernel_rfl) rfl rfl (GNo.mk rfl rfl hb_9) ?_
          clear S; intro aa S
          refine AN.not 9 S rfl (by kernel_rfl) rfl rfl (GNo.mk rfl rfl hb_9) ?_
          clear S; intro aa S
          refine AN.not 10 S rfl (by kernel_rfl) rfl rfl (GNo.mk rfl rfl hb_9) ?_
          clear S; intro aa S
          refine AN.pure 11 S rfl (by kernel_rfl) (fun _ => run_pickT (S.ev rfl) hb_9 (S.ev rfl)) rfl rfl trivial ?_
          clear S; intro aa S
          refine AN.pure 12 S rfl (by kernel_rfl) (fun _ => Lf.run_move (S.ev rfl)) rfl rfl trivial ?_
          clear S; intro aa S
          rcases Bool.eq_false_or_eq_true true with hb_13 | hb_13
          · replace H := H.1 hb_13
            refine AN.not 13 S rfl (by kernel_rfl) rfl rfl (GNo.mk rfl rfl hb_13) ?_
            clear S; intro aa S
            refine AN.not 14 S rfl (by kernel_rfl) rfl rfl (GNo.mk rfl rfl hb_13) ?_
            clear S; intro aa S
            refine AN.not 15 S rfl (by kernel_rfl) rfl rfl (GNo.mk rfl rfl hb_13) ?_
            clear S; intro aa S
            refine AN.not 16 S rfl (by kernel_rfl) rfl rfl (GNo.mk rfl rfl hb_13) ?_
            clear S; intro aa S
            refine AN.pure 17 S rfl (by kernel_rfl) (fun _ => run_pickT (S.ev rfl) hb_13 (S.ev rfl)) rfl rfl trivial ?_
            clear S; intro aa S
            refine AN.pure 18 S rfl (by kernel_rfl) (fun _ => Lf.run_move (S.ev rfl)) rfl rfl trivial ?_
            clear S; intro aa S
            rcases Bool.eq_false_or_eq_true true with hb_15 | hb_15
            · replace H := H.1 hb_15
              refine AN.not 19 S rfl (by kernel_rfl) rfl rfl (GNo.mk rfl rfl hb_15) ?_
              clear S; intro aa S
              refine AN.not 20 S rfl (by kernel_rfl) rfl rfl (GNo.mk rfl rfl hb_15) ?_
              clear S; intro aa S
              refine AN.not 21 S rfl (by kernel_rfl) rfl rfl (GNo.mk rfl rfl hb_15) ?_
              clear S; intro aa S
              refine AN.not 22 S rfl (by kernel_rfl) rfl rfl (GNo.mk rfl rfl hb_15) ?_
              clear S; intro aa S
              refine AN.not 23 S rfl (by kernel_rfl) rfl rfl (GNo.mk rfl rfl hb_15) ?_
              clear S; intro aa S
              refine AN.not 24 S rfl (by kernel_rfl) rfl rfl (GNo.mk rfl rfl hb_15) ?_
              clear S; intro aa S
              refine AN.not 25 S rfl (by kernel_rfl) rfl rfl (GNo.mk rfl rfl hb_15) ?_
              clear S; intro aa S
              refine AN.not 26 S rfl (by kernel_rfl) rfl rfl (GNo.mk rfl rfl hb_15) ?_
              clear S; intro aa S
              refine AN.not 27 S rfl (by kernel_rfl) rfl rfl (GNo.mk rfl rfl hb_15) ?_
              clear S; intro aa S
              refine AN.not 28 S rfl (by kernel_rfl) rfl rfl (GNo.mk rfl rfl hb_15) ?_
              clear S; intro aa S
              refine AN.pure 29 S rfl (by kernel_rfl) (fun _ => run_pickT (S.ev rfl) hb_15 (S.ev rfl)) rfl rfl trivial ?_
              clear S; intro aa S
              refine AN.done (by kernel_rfl) ?_
              exact ⟨true, S.sub _ ⟨rfl, rfl, rfl, rfl, trivial⟩, H⟩
            · replace H := H.2 hb_15
              refine AN.pure 19 S rfl (by kernel_rfl) (fun _ => Lf.run_move (S.ev rfl)) rfl rfl (GOk.mk rfl rfl hb_15) ?_
              clear S; intro aa S
              refine AN.pure 20 S rfl (by kernel_rfl) (fun _ => Lf.run_move (S.ev rfl)) rfl rfl (GOk.mk rfl rfl hb_15) ?_
              clear S; intro aa S
              obtain ⟨q45_7, e_52, e_53, e_54, H⟩ := H
              refine AN.pure 21 S rfl (by kernel_rfl) (fun _ => Lf.run_ixs (S.ev rfl) (S.ev rfl) Try.underlying47 ti24 e_52 e_53 e_54) rfl rfl (GOk.mk rfl rfl hb_15) ?_
              clear S; intro aa S
              obtain ⟨x46_7, c_16, H⟩ := H
              refine AN.load 22 S rfl (by kernel_rfl) (fun _ hx => Lf.run_ld (S.ev rfl) fl24 (hx.cell _ _ (S.cl c_16))) rfl rfl (GOk.mk rfl rfl hb_15) ?_
              clear S; intro aa S
              refine AN.pure 23 S rfl (by kernel_rfl) (fun _ => Lf.run_move (S.ev rfl)) rfl rfl (GOk.mk rfl rfl hb_15) ?_
              clear S; intro aa S
              refine AN.pure 24 S rfl (by kernel_rfl) (fun _ => Lf.run_move (S.ev rfl)) rfl rfl (GOk.mk rfl rfl hb_15) ?_
              clear S; intro aa S
              obtain ⟨q49_7, e_55, e_56, e_57, H⟩ := H
              refine AN.pure 25 S rfl (by kernel_rfl) (fun _ => Lf.run_ixs (S.ev rfl) (S.ev rfl) Try.underlying47 ti24 e_55 e_56 e_57) rfl rfl (GOk.mk rfl rfl hb_15) ?_
              clear S; intro aa S
              obtain ⟨x50_7, c_17, H⟩ := H
              refine AN.load 26 S rfl (by kernel_rfl) (fun _ hx => Lf.run_ld (S.ev rfl) fl24 (hx.cell _ _ (S.cl c_17))) rfl rfl (GOk.mk rfl rfl hb_15) ?_
              clear S; intro aa S
              refine AN.pure 27 S rfl (by kernel_rfl) (fun _ => Lf.run_bits (op := .andNot) (by simp) (S.ev rfl) (S.ev rfl)) rfl rfl (GOk.mk rfl rfl hb_15) ?_
              clear S; intro aa S
              refine AN.pure 28 S rfl (by kernel_rfl) (fun _ => Lf.run_neq (S.ev rfl) (S.ev rfl)) rfl rfl (GOk.mk rfl rfl hb_15) ?_
              clear S; intro aa S
              refine AN.pure 29 S rfl (by kernel_rfl) (fun _ => run_pickF (S.ev rfl) hb_15 (S.ev rfl)) rfl rfl trivial ?_
              clear S; intro aa S
              refine AN.done (by kernel_rfl) ?_
              exact ⟨((bitsI .andNot .u64 x46_7 x50_7) != 0), S.sub _ ⟨rfl, rfl, rfl, rfl, trivial⟩, H⟩
          · replace H := H.2 hb_13
            refine AN.pure 13 S rfl (by kernel_rfl) (fun _ => Lf.run_move (S.ev rfl)) rfl rfl (GOk.mk rfl rfl hb_13) ?_
            clear S; intro aa S
            refine AN.pure 14 S rfl (by kernel_rfl) (fun _ => Lf.run_move (S.ev rfl)) rfl rfl (GOk.mk rfl rfl hb_13) ?_
            clear S; intro aa S
            refine AN.pure 15 S rfl (by kernel_rfl) (fun _ => Lf.run_lens (S.ev rfl) rfl Try.underlying47) rfl rfl (GOk.mk rfl rfl hb_13) ?_
            clear S; intro aa S
            refine AN.pure 16 S rfl (by kernel_rfl) (fun _ => Lf.run_geq (S.ev rfl) (S.ev rfl)) rfl rfl (GOk.mk rfl rfl hb_13) ?_
            clear S; intro aa S
            refine AN.pure 17 S rfl (by kernel_rfl) (fun _ => run_pickF (S.ev rfl) hb_13 (S.ev rfl)) rfl rfl trivial ?_
            clear S; intro aa S
            refine AN.pure 18 S rfl (by kernel_rfl) (fun _ => Lf.run_move (S.ev rfl)) rfl rfl trivial ?_
            clear S; intro aa S
            rcases Bool.eq_false_or_eq_true (decide (((sets1.n : Nat) : Int) ≤ x23)) with hb_14 | hb_14
            · replace H := H.1 hb_14
              refine AN.not 19 S rfl (by kernel_rfl) rfl rfl (GNo.mk rfl rfl hb_14) ?_
              clear S; intro aa S
              refine AN.not 20 S rfl (by kernel_rfl) rfl rfl (GNo.mk rfl rfl hb_14) ?_
              clear S; intro aa S
              refine AN.not 21 S rfl (by kernel_rfl) rfl rfl (GNo.mk rfl rfl hb_14) ?_
              clear S; intro aa S
              refine AN.not 22 S rfl (by kernel_rfl) rfl rfl (GNo.mk rfl rfl hb_14) ?_
              clear S; intro aa S
              refine AN.not 23 S rfl (by kernel_rfl) rfl rfl (GNo.mk rfl rfl hb_14) ?_
              clear S; intro aa S
              refine AN.not 24 S rfl (by kernel_rfl) rfl rfl (GNo.mk rfl rfl hb_14) ?_
              clear S; intro aa S
              refine AN.not 25 S rfl (by kernel_rfl) rfl rfl (GNo.mk rfl rfl hb_14) ?_
              clear S; intro aa S
              refine AN.not 26 S rfl (by kernel_rfl) rfl rfl (GNo.mk rfl rfl hb_14) ?_
              clear S; intro aa S
              refine AN.not 27 S rfl (by kernel_rfl) rfl rfl (GNo.mk rfl rfl hb_14) ?_
              clear S; intro aa S
              refine AN.not 28 S rfl (by kernel_rfl) rfl rfl (GNo.mk rfl rfl hb_14) ?_
              clear S; intro aa S
              refine AN.pure 29 S rfl (by kernel_rfl) (fun _ => run_pickT (S.ev rfl) hb_14 (S.ev rfl)) rfl rfl trivial ?_
              clear S; intro aa S
              refine AN.done (by kernel_rfl) ?_
              exact ⟨true, S.sub _ ⟨rfl, rfl, rfl, rfl, trivial⟩, H⟩
            · replace H := H.2 hb_14
              refine AN.pure 19 S rfl (by kernel_rfl) (fun _ => Lf.run_move (S.ev rfl)) rfl rfl (GOk.mk rfl rfl hb_14) ?_
              clear S; intro aa S
              refine AN.pure 20 S rfl (by kernel_rfl) (fun _ => Lf.run_move (S.ev rfl)) rfl rfl (GOk.mk rfl rfl hb_14) ?_
              clear S; intro aa S
              obtain ⟨q45_6, e_46, e_47, e_48, H⟩ := H
              refine AN.pure 21 S rfl (by kernel_rfl) (fun _ => Lf.run_ixs (S.ev rfl) (S.ev rfl) Try.underlying47 ti24 e_46 e_47 e_48) rfl rfl (GOk.mk rfl rfl hb_14) ?_
              clear S; intro aa S
              obtain ⟨x46_6, c_14, H⟩ := H
              refine AN.load 22 S rfl (by kernel_rfl) (fun _ hx => Lf.run_ld (S.ev rfl) fl24 (hx.cell _ _ (S.cl c_14))) rfl rfl (GOk.mk rfl rfl hb_14) ?_
              clear S; intro aa S
              refine AN.pure 23 S rfl (by kernel_rfl) (fun _ => Lf.run_move (S.ev rfl)) rfl rfl (GOk.mk rfl rfl hb_14) ?_
              clear S; intro aa S
              refine AN.pure 24 S rfl (by kernel_rfl) (fun _ => Lf.run_move (S.ev rfl)) rfl rfl (GOk.mk rfl rfl hb_14) ?_
              clear S; intro aa S
              obtain ⟨q49_6, e_49, e_50, e_51, H⟩ := H
              refine AN.pure 25 S rfl (by kernel_rfl) (fun _ => Lf.run_ixs (S.ev rfl) (S.ev rfl) Try.underlying47 ti24 e_49 e_50 e_51) rfl rfl (GOk.mk rfl rfl hb_14) ?_
              clear S; intro aa S
              obtain ⟨x50_6, c_15, H⟩ := H
              refine AN.load 26 S rfl (by kernel_rfl) (fun _ hx => Lf.run_ld (S.ev rfl) fl24 (hx.cell _ _ (S.cl c_15))) rfl rfl (GOk.mk rfl rfl hb_14) ?_
              clear S; intro aa S
              refine AN.pure 27 S rfl (by kernel_rfl) (fun _ => Lf.run_bits (op := .andNot) (by simp) (S.ev rfl) (S.ev rfl)) rfl rfl (GOk.mk rfl rfl hb_14) ?_
              clear S; intro aa S
              refine AN.pure 28 S rfl (by kernel_rfl) (fun _ => Lf.run_neq (S.ev rfl) (S.ev rfl)) rfl rfl (GOk.mk rfl rfl hb_14) ?_
              clear S; intro aa S
              refine AN.pure 29 S rfl (by kernel_rfl) (fun _ => run_pickF (S.ev rfl) hb_14 (S.ev rfl)) rfl rfl trivial ?_
              clear S; intro aa S
              refine AN.done (by kernel_rfl) ?_
              exact ⟨((bitsI .andNot .u64 x46_6 x50_6) != 0), S.sub _ ⟨rfl, rfl, rfl, rfl, trivial⟩, H⟩
        · replace H := H.2 hb_9
          refine AN.pure 7 S rfl (by kernel_rfl) (fun _ => Lf.run_move (S.ev rfl)) rfl rfl (GOk.mk rfl rfl hb_9) ?_
          clear S; intro aa S
          refine AN.pure 8 S rfl (by kernel_rfl) (fun _ => Lf.run_move (S.ev rfl)) rfl rfl (GOk.mk rfl rfl hb_9) ?_
          clear S; intro aa S
          refine AN.pure 9 S rfl (by kernel_rfl) (fun _ => Lf.run_lens (S.ev rfl) rfl Try.underlying47) rfl rfl (GOk.mk rfl rfl hb_9) ?_
          clear S; intro aa S
          refine AN.pure 10 S rfl (by kernel_rfl) (fun _ => Lf.run_geq (S.ev rfl) (S.ev rfl)) rfl rfl (GOk.mk rfl rfl hb_9) ?_
          clear S; intro aa S
          refine AN.pure 11 S rfl (by kernel_rfl) (fun _ => run_pickF (S.ev rfl) hb_9 (S.ev rfl)) rfl rfl trivial ?_
          clear S; intro aa S
          refine AN.pure 12 S rfl (by kernel_rfl) (fun _ => Lf.run_move (S.ev rfl)) rfl rfl trivial ?_
          clear S; intro aa S
          rcases Bool.eq_false_or_eq_true (decide (((sets1.n : Nat) : Int) ≤ x18)) with hb_10 | hb_10
          · replace H := H.1 hb_10
            refine AN.not 13 S rfl (by kernel_rfl) rfl rfl (GNo.mk rfl rfl hb_10) ?_
            clear S; intro aa S
            refine AN.not 14 S rfl (by kernel_rfl) rfl rfl (GNo.mk rfl rfl hb_10) ?_
            clear S; intro aa S
            refine AN.not 15 S rfl (by kernel_rfl) rfl rfl (GNo.mk rfl rfl hb_10) ?_
            clear S; intro aa S
            refine AN.not 16 S rfl (by kernel_rfl) rfl rfl (GNo.mk rfl rfl hb_10) ?_
            clear S; intro aa S
            refine AN.pure 17 S rfl (by kernel_rfl) (fun _ => run_pickT (S.ev rfl) hb_10 (S.ev rfl)) rfl rfl trivial ?_
            clear S; intro aa S
            refine AN.pure 18 S rfl (by kernel_rfl) (fun _ => Lf.run_move (S.ev rfl)) rfl rfl trivial ?_
            clear S; intro aa S
            rcases Bool.eq_false_or_eq_true true with hb_12 | hb_12
            · replace H := H.1 hb_12
              refine AN.not 19 S rfl (by kernel_rfl) rfl rfl (GNo.mk rfl rfl hb_12) ?_
              clear S; intro aa S
              refine AN.not 20 S rfl (by kernel_rfl) rfl rfl (GNo.mk rfl rfl hb_12) ?_
              clear S; intro aa S
              refine AN.not 21 S rfl (by kernel_rfl) rfl rfl (GNo.mk rfl rfl hb_12) ?_
              clear S; intro aa S
              refine AN.not 22 S rfl (by kernel_rfl) rfl rfl (GNo.mk rfl rfl hb_12) ?_
              clear S; intro aa S
              refine AN.not 23 S rfl (by kernel_rfl) rfl rfl (GNo.mk rfl rfl hb_12) ?_
              clear S; intro aa S
              refine AN.not 24 S rfl (by kernel_rfl) rfl rfl (GNo.mk rfl rfl hb_12) ?_
              clear S; intro aa S
              refine AN.not 25 S rfl (by kernel_rfl) rfl rfl (GNo.mk rfl rfl hb_12) ?_
              clear S; intro aa S
              refine AN.not 26 S rfl (by kernel_rfl) rfl rfl (GNo.mk rfl rfl hb_12) ?_
              clear S; intro aa S
              refine AN.not 27 S rfl (by kernel_rfl) rfl rfl (GNo.mk rfl rfl hb_12) ?_
              clear S; intro aa S
              refine AN.not 28 S rfl (by kernel_rfl) rfl rfl (GNo.mk rfl rfl hb_12) ?_
              clear S; intro aa S
              refine AN.pure 29 S rfl (by kernel_rfl) (fun _ => run_pickT (S.ev rfl) hb_12 (S.ev rfl)) rfl rfl trivial ?_
              clear S; intro aa S
              refine AN.done (by kernel_rfl) ?_
              exact ⟨true, S.sub _ ⟨rfl, rfl, rfl, rfl, trivial⟩, H⟩
            · replace H := H.2 hb_12
              refine AN.pure 19 S rfl (by kernel_rfl) (fun _ => Lf.run_move (S.ev rfl)) rfl rfl (GOk.mk rfl rfl hb_12) ?_
              clear S; intro aa S
              refine AN.pure 20 S rfl (by kernel_rfl) (fun _ => Lf.run_move (S.ev rfl)) rfl rfl (GOk.mk rfl rfl hb_12) ?_
              clear S; intro aa S
              obtain ⟨q45_5, e_40, e_41, e_42, H⟩ := H
              refine AN.pure 21 S rfl (by kernel_rfl) (fun _ => Lf.run_ixs (S.ev rfl) (S.ev rfl) Try.underlying47 ti24 e_40 e_41 e_42) rfl rfl (GOk.mk rfl rfl hb_12) ?_
              clear S; intro aa S
              obtain ⟨x46_5, c_12, H⟩ := H
              refine AN.load 22 S rfl (by kernel_rfl) (fun _ hx => Lf.run_ld (S.ev rfl) fl24 (hx.cell _ _ (S.cl c_12))) rfl rfl (GOk.mk rfl rfl hb_12) ?_
              clear S; intro aa S
              refine AN.pure 23 S rfl (by kernel_rfl) (fun _ => Lf.run_move (S.ev rfl)) rfl rfl (GOk.mk rfl rfl hb_12) ?_
              clear S; intro aa S
              refine AN.pure 24 S rfl (by kernel_rfl) (fun _ => Lf.run_move (S.ev rfl)) rfl rfl (GOk.mk rfl rfl hb_12) ?_
              clear S; intro aa S
              obtain ⟨q49_5, e_43, e_44, e_45, H⟩ := H
              refine AN.pure 25 S rfl (by kernel_rfl) (fun _ => Lf.run_ixs (S.ev rfl) (S.ev rfl) Try.underlying47 ti24 e_43 e_44 e_45) rfl rfl (GOk.mk rfl rfl hb_12) ?_
              clear S; intro aa S
              obtain ⟨x50_5, c_13, H⟩ := H
              refine AN.load 26 S rfl (by kernel_rfl) (fun _ hx => Lf.run_ld (S.ev rfl) fl24 (hx.cell _ _ (S.cl c_13))) rfl rfl (GOk.mk rfl rfl hb_12) ?_
              clear S; intro aa S
              refine AN.pure 27 S rfl (by kernel_rfl) (fun _ => Lf.run_bits (op := .andNot) (by simp) (S.ev rfl) (S.ev rfl)) rfl rfl (GOk.mk rfl rfl hb_12) ?_
              clear S; intro aa S
              refine AN.pure 28 S rfl (by kernel_rfl) (fun _ => Lf.run_neq (S.ev rfl) (S.ev rfl)) rfl rfl (GOk.mk rfl rfl hb_12) ?_
              clear S; intro aa S
              refine AN.pure 29 S rfl (by kernel_rfl) (fun _ => run_pickF (S.ev rfl) hb_12 (S.ev rfl)) rfl rfl trivial ?_
              clear S; intro aa S
              refine AN.done (by kernel_rfl) ?_
              exact ⟨((bitsI .andNot .u64 x46_5 x50_5) != 0), S.sub _ ⟨rfl, rfl, rfl, rfl, trivial⟩, H⟩
          · replace H := H.2 hb_10
            refine AN.pure 13 S rfl (by kernel_rfl) (fun _ => Lf.run_move (S.ev rfl)) rfl rfl (GOk.mk rfl rfl hb_10) ?_
            clear S; intro aa S
            refine AN.pure 14 S rfl (by kernel_rfl) (fun _ => Lf.run_move (S.ev rfl)) rfl rfl (GOk.mk rfl rfl hb_10) ?_
            clear S; intro aa S
            refine AN.pure 15 S rfl (by kernel_rfl) (fun _ => Lf.run_lens (S.ev rfl) rfl Try.underlying47) rfl rfl (GOk.mk rfl rfl hb_10) ?_
            clear S; intro aa S
            refine AN.pure 16 S rfl (by kernel_rfl) (fun _ => Lf.run_geq (S.ev rfl) (S.ev rfl)) rfl rfl (GOk.mk rfl rfl hb_10) ?_
            clear S; intro aa S
            refine AN.pure 17 S rfl (by kernel_rfl) (fun _ => run_pickF (S.ev rfl) hb_10 (S.ev rfl)) rfl rfl trivial ?_
            clear S; intro aa S
            refine AN.pure 18 S rfl (by kernel_rfl) (fun _ => Lf.run_move (S.ev rfl)) rfl rfl trivial ?_
            clear S; intro aa S
            rcases Bool.eq_false_or_eq_true (decide (((sets1.n : Nat) : Int) ≤ x23)) with hb_11 | hb_11
            · replace H := H.1 hb_11
              refine AN.not 19 S rfl (by kernel_rfl) rfl rfl (GNo.mk rfl rfl hb_11) ?_
              clear S; intro aa S
              refine AN.not 20 S rfl (by kernel_rfl) rfl rfl (GNo.mk rfl rfl hb_11) ?_
              clear S; intro aa S
              refine AN.not 21 S rfl (by kernel_rfl) rfl rfl (GNo.mk rfl rfl hb_11) ?_
              clear S; intro aa S
              refine AN.not 22 S rfl (by kernel_rfl) rfl rfl (GNo.mk rfl rfl hb_11) ?_
              clear S; intro aa S
              refine AN.not 23 S rfl (by kernel_rfl) rfl rfl (GNo.mk rfl rfl hb_11) ?_
              clear S; intro aa S
              refine AN.not 24 S rfl (by kernel_rfl) rfl rfl (GNo.mk rfl rfl hb_11) ?_
              clear S; intro aa S
              refine AN.not 25 S rfl (by kernel_rfl) rfl rfl (GNo.mk rfl rfl hb_11) ?_
              clear S; intro aa S
              refine AN.not 26 S rfl (by kernel_rfl) rfl rfl (GNo.mk rfl rfl hb_11) ?_
              clear S; intro aa S
              refine AN.not 27 S rfl (by kernel_rfl) rfl rfl (GNo.mk rfl rfl hb_11) ?_
              clear S; intro aa S
              refine AN.not 28 S rfl (by kernel_rfl) rfl rfl (GNo.mk rfl rfl hb_11) ?_
              clear S; intro aa S
              refine AN.pure 29 S rfl (by kernel_rfl) (fun _ => run_pickT (S.ev rfl) hb_11 (S.ev rfl)) rfl rfl trivial ?_
              clear S; intro aa S
              refine AN.done (by kernel_rfl) ?_
              exact ⟨true, S.sub _ ⟨rfl, rfl, rfl, rfl, trivial⟩, H⟩
            · replace H := H.2 hb_11
              refine AN.pure 19 S rfl (by kernel_rfl) (fun _ => Lf.run_move (S.ev rfl)) rfl rfl (GOk.mk rfl rfl hb_11) ?_
              clear S; intro aa S
              refine AN.pure 20 S rfl (by kernel_rfl) (fun _ => Lf.run_move (S.ev rfl)) rfl rfl (GOk.mk rfl rfl hb_11) ?_
              clear S; intro aa S
              obtain ⟨q45_4, e_34, e_35, e_36, H⟩ := H
              refine AN.pure 21 S rfl (by kernel_rfl) (fun _ => Lf.run_ixs (S.ev rfl) (S.ev rfl) Try.underlying47 ti24 e_34 e_35 e_36) rfl rfl (GOk.mk rfl rfl hb_11) ?_
              clear S; intro aa S
              obtain ⟨x46_4, c_10, H⟩ := H
              refine AN.load 22 S rfl (by kernel_rfl) (fun _ hx => Lf.run_ld (S.ev rfl) fl24 (hx.cell _ _ (S.cl c_10))) rfl rfl (GOk.mk rfl rfl hb_11) ?_
              clear S; intro aa S
              refine AN.pure 23 S rfl (by kernel_rfl) (fun _ => Lf.run_move (S.ev rfl)) rfl rfl (GOk.mk rfl rfl hb_11) ?_
              clear S; intro aa S
              refine AN.pure 24 S rfl (by kernel_rfl) (fun _ => Lf.run_move (S.ev rfl)) rfl rfl (GOk.mk rfl rfl hb_11) ?_
              clear S; intro aa S
              obtain ⟨q49_4, e_37, e_38, e_39, H⟩ := H
              refine AN.pure 25 S rfl (by kernel_rfl) (fun _ => Lf.run_ixs (S.ev rfl) (S.ev rfl) Try.underlying47 ti24 e_37 e_38 e_39) rfl rfl (GOk.mk rfl rfl hb_11) ?_
              clear S; intro aa S
              obtain ⟨x50_4, c_11, H⟩ := H
              refine AN.load 26 S rfl (by kernel_rfl) (fun _ hx => Lf.run_ld (S.ev rfl) fl24 (hx.cell _ _ (S.cl c_11))) rfl rfl (GOk.mk rfl rfl hb_11) ?_
              clear S; intro aa S
              refine AN.pure 27 S rfl (by kernel_rfl) (fun _ => Lf.run_bits (op := .andNot) (by simp) (S.ev rfl) (S.ev rfl)) rfl rfl (GOk.mk rfl rfl hb_11) ?_
              clear S; intro aa S
              refine AN.pure 28 S rfl (by kernel_rfl) (fun _ => Lf.run_neq (S.ev rfl) (S.ev rfl)) rfl rfl (GOk.mk rfl rfl hb_11) ?_
              clear S; intro aa S
              refine AN.pure 29 S rfl (by kernel_rfl) (fun _ => run_pickF (S.ev rfl) hb_11 (S.ev rfl)) rfl rfl trivial ?_
              clear S; intro aa S
              refine AN.done (by kernel_rfl) ?_
              exact ⟨((bitsI .andNot .u64 x46_4 x50_4) != 0), S.sub _ ⟨rfl, rfl, rfl, rfl, trivial⟩, H⟩
      · replace H := H.2 hb_1
        refine AN.pure 3 S rfl (by kernel_rfl) (fun _ => Lf.run_move (S.ev rfl)) rfl rfl (GOk.mk rfl rfl hb_1) ?_
        clear S; intro aa S
        refine AN.pure 4 S rfl (by kernel_rfl) (fun _ => Lf.run_lss (S.ev rfl) (S.ev rfl)) rfl rfl (GOk.mk rfl rfl hb_1) ?_
        clear S; intro aa S
        refine AN.pure 5 S rfl (by kernel_rfl) (fun _ => run_pickF (S.ev rfl) hb_1 (S.ev rfl)) rfl rfl trivial ?_
        clear S; intro aa S
        refine AN.pure 6 S rfl (by kernel_rfl) (fun _ => Lf.run_move (S.ev rfl)) rfl rfl trivial ?_
        clear S; intro aa S
        rcases Bool.eq_false_or_eq_true (decide (x23 < 0)) with hb_2 | hb_2
        · replace H := H.1 hb_2
          refine AN.not 7 S rfl (by kernel_rfl) rfl rfl (GNo.mk rfl rfl hb_2) ?_
          clear S; intro aa S
          refine AN.not 8 S rfl (by kernel_rfl) rfl rfl (GNo.mk rfl rfl hb_2) ?_
          clear S; intro aa S
          refine AN.not 9 S rfl (by kernel_rfl) rfl rfl (GNo.mk rfl rfl hb_2) ?_
          clear S; intro aa S
          refine AN.not 10 S rfl (by kernel_rfl) rfl rfl (GNo.mk rfl rfl hb_2) ?_
          clear S; intro aa S
          refine AN.pure 11 S rfl (by kernel_rfl) (fun _ => run_pickT (S.ev rfl) hb_2 (S.ev rfl)) rfl rfl trivial ?_
          clear S; intro aa S
          refine AN.pure 12 S rfl (by kernel_rfl) (fun _ => Lf.run_move (S.ev rfl)) rfl rfl trivial ?_
          clear S; intro aa S
          rcases Bool.eq_false_or_eq_true true with hb_6 | hb_6
          · replace H := H.1 hb_6
            refine AN.not 13 S rfl (by kernel_rfl) rfl rfl (GNo.mk rfl rfl hb_6) ?_
            clear S; intro aa S
            refine AN.not 14 S rfl (by kernel_rfl) rfl rfl (GNo.mk rfl rfl hb_6) ?_
            clear S; intro aa S
            refine AN.not 15 S rfl (by kernel_rfl) rfl rfl (GNo.mk rfl rfl hb_6) ?_
            clear S; intro aa S
            refine AN.not 16 S rfl (by kernel_rfl) rfl rfl (GNo.mk rfl rfl hb_6) ?_
            clear S; intro aa S
            refine AN.pure 17 S rfl (by kernel_rfl) (fun _ => run_pickT (S.ev rfl) hb_6 (S.ev rfl)) rfl rfl trivial ?_
            clear S; intro aa S
            refine AN.pure 18 S rfl (by kernel_rfl) (fun _ => Lf.run_move (S.ev rfl)) rfl rfl trivial ?_
            clear S; intro aa S
            rcases Bool.eq_false_or_eq_true true with hb_8 | hb_8
            · replace H := H.1 hb_8
              refine AN.not 19 S rfl (by kernel_rfl) rfl rfl (GNo.mk rfl rfl hb_8) ?_
              clear S; intro aa S
              refine AN.not 20 S rfl (by kernel_rfl) rfl rfl (GNo.mk rfl rfl hb_8) ?_
              clear S; intro aa S
              refine AN.not 21 S rfl (by kernel_rfl) rfl rfl (GNo.mk rfl rfl hb_8) ?_
              clear S; intro aa S
              refine AN.not 22 S rfl (by kernel_rfl) rfl rfl (GNo.mk rfl rfl hb_8) ?_
              clear S; intro aa S
              refine AN.not 23 S rfl (by kernel_rfl) rfl rfl (GNo.mk rfl rfl hb_8) ?_
              clear S; intro aa S
              refine AN.not 24 S rfl (by kernel_rfl) rfl rfl (GNo.mk rfl rfl hb_8) ?_
              clear S; intro aa S
              refine AN.not 25 S rfl (by kernel_rfl) rfl rfl (GNo.mk rfl rfl hb_8) ?_
              clear S; intro aa S
              refine AN.not 26 S rfl (by kernel_rfl) rfl rfl (GNo.mk rfl rfl hb_8) ?_
              clear S; intro aa S
              refine AN.not 27 S rfl (by kernel_rfl) rfl rfl (GNo.mk rfl rfl hb_8) ?_
              clear S; intro aa S
              refine AN.not 28 S rfl (by kernel_rfl) rfl rfl (GNo.mk rfl rfl hb_8) ?_
              clear S; intro aa S
              refine AN.pure 29 S rfl (by kernel_rfl) (fun _ => run_pickT (S.ev rfl) hb_8 (S.ev rfl)) rfl rfl trivial ?_
              clear S; intro aa S
              refine AN.done (by kernel_rfl) ?_
              exact ⟨true, S.sub _ ⟨rfl, rfl, rfl, rfl, trivial⟩, H⟩
            · replace H := H.2 hb_8
              refine AN.pure 19 S rfl (by kernel_rfl) (fun _ => Lf.run_move (S.ev rfl)) rfl rfl (GOk.mk rfl rfl hb_8) ?_
              clear S; intro aa S
              refine AN.pure 20 S rfl (by kernel_rfl) (fun _ => Lf.run_move (S.ev rfl)) rfl rfl (GOk.mk rfl rfl hb_8) ?_
              clear S; intro aa S
              obtain ⟨q45_3, e_28, e_29, e_30, H⟩ := H
              refine AN.pure 21 S rfl (by kernel_rfl) (fun _ => Lf.run_ixs (S.ev rfl) (S.ev rfl) Try.underlying47 ti24 e_28 e_29 e_30) rfl rfl (GOk.mk rfl rfl hb_8) ?_
              clear S; intro aa S
              obtain ⟨x46_3, c_8, H⟩ := H
              refine AN.load 22 S rfl (by kernel_rfl) (fun _ hx => Lf.run_ld (S.ev rfl) fl24 (hx.cell _ _ (S.cl c_8))) rfl rfl (GOk.mk rfl rfl hb_8) ?_
              clear S; intro aa S
              refine AN.pure 23 S rfl (by kernel_rfl) (fun _ => Lf.run_move (S.ev rfl)) rfl rfl (GOk.mk rfl rfl hb_8) ?_
              clear S; intro aa S
              refine AN.pure 24 S rfl (by kernel_rfl) (fun _ => Lf.run_move (S.ev rfl)) rfl rfl (GOk.mk rfl rfl hb_8) ?_
              clear S; intro aa S
              obtain ⟨q49_3, e_31, e_32, e_33, H⟩ := H
              refine AN.pure 25 S rfl (by kernel_rfl) (fun _ => Lf.run_ixs (S.ev rfl) (S.ev rfl) Try.underlying47 ti24 e_31 e_32 e_33) rfl rfl (GOk.mk rfl rfl hb_8) ?_
              clear S; intro aa S
              obtain ⟨x50_3, c_9, H⟩ := H
              refine AN.load 26 S rfl (by kernel_rfl) (fun _ hx => Lf.run_ld (S.ev rfl) fl24 (hx.cell _ _ (S.cl c_9))) rfl rfl (GOk.mk rfl rfl hb_8) ?_
              clear S; intro aa S
              refine AN.pure 27 S rfl (by kernel_rfl) (fun _ => Lf.run_bits (op := .andNot) (by simp) (S.ev rfl) (S.ev rfl)) rfl rfl (GOk.mk rfl rfl hb_8) ?_
              clear S; intro aa S
              refine AN.pure 28 S rfl (by kernel_rfl) (fun _ => Lf.run_neq (S.ev rfl) (S.ev rfl)) rfl rfl (GOk.mk rfl rfl hb_8) ?_
              clear S; intro aa S
              refine AN.pure 29 S rfl (by kernel_rfl) (fun _ => run_pickF (S.ev rfl) hb_8 (S.ev rfl)) rfl rfl trivial ?_
              clear S; intro aa S
              refine AN.done (by kernel_rfl) ?_
              exact ⟨((bitsI .andNot .u64 x46_3 x50_3) != 0), S.sub _ ⟨rfl, rfl, rfl, rfl, trivial⟩, H⟩
          · replace H := H.2 hb_6
            refine AN.pure 13 S rfl (by kernel_rfl) (fun _ => Lf.run_move (S.ev rfl)) rfl rfl (GOk.mk rfl rfl hb_6) ?_
            clear S; intro aa S
            refine AN.pure 14 S rfl (by kernel_rfl) (fun _ => Lf.run_move (S.ev rfl)) rfl rfl (GOk.mk rfl rfl hb_6) ?_
            clear S; intro aa S
            refine AN.pure 15 S rfl (by kernel_rfl) (fun _ => Lf.run_lens (S.ev rfl) rfl Try.underlying47) rfl rfl (GOk.mk rfl rfl hb_6) ?_
            clear S; intro aa S
            refine AN.pure 16 S rfl (by kernel_rfl) (fun _ => Lf.run_geq (S.ev rfl) (S.ev rfl)) rfl rfl (GOk.mk rfl rfl hb_6) ?_
            clear S; intro aa S
            refine AN.pure 17 S rfl (by kernel_rfl) (fun _ => run_pickF (S.ev rfl) hb_6 (S.ev rfl)) rfl rfl trivial ?_
            clear S; intro aa S
            refine AN.pure 18 S rfl (by kernel_rfl) (fun _ => Lf.run_move (S.ev rfl)) rfl rfl trivial ?_
            clear S; intro aa S
            rcases Bool.eq_false_or_eq_true (decide (((sets1.n : Nat) : Int) ≤ x23)) with hb_7 | hb_7
            · replace H := H.1 hb_7
              refine AN.not 19 S rfl (by kernel_rfl) rfl rfl (GNo.mk rfl rfl hb_7) ?_
              clear S; intro aa S
              refine AN.not 20 S rfl (by kernel_rfl) rfl rfl (GNo.mk rfl rfl hb_7) ?_
              clear S; intro aa S
              refine AN.not 21 S rfl (by kernel_rfl) rfl rfl (GNo.mk rfl rfl hb_7) ?_
              clear S; intro aa S
              refine AN.not 22 S rfl (by kernel_rfl) rfl rfl (GNo.mk rfl rfl hb_7) ?_
              clear S; intro aa S
              refine AN.not 23 S rfl (by kernel_rfl) rfl rfl (GNo.mk rfl rfl hb_7) ?_
              clear S; intro aa S
              refine AN.not 24 S rfl (by kernel_rfl) rfl rfl (GNo.mk rfl rfl hb_7) ?_
              clear S; intro aa S
              refine AN.not 25 S rfl (by kernel_rfl) rfl rfl (GNo.mk rfl rfl hb_7) ?_
              clear S; intro aa S
              refine AN.not 26 S rfl (by kernel_rfl) rfl rfl (GNo.mk rfl rfl hb_7) ?_
              clear S; intro aa S
              refine AN.not 27 S rfl (by kernel_rfl) rfl rfl (GNo.mk rfl rfl hb_7) ?_
              clear S; intro aa S
              refine AN.not 28 S rfl (by kernel_rfl) rfl rfl (GNo.mk rfl rfl hb_7) ?_
              clear S; intro aa S
              refine AN.pure 29 S rfl (by kernel_rfl) (fun _ => run_pickT (S.ev rfl) hb_7 (S.ev rfl)) rfl rfl trivial ?_
              clear S; intro aa S
              refine AN.done (by kernel_rfl) ?_
              exact ⟨true, S.sub _ ⟨rfl, rfl, rfl, rfl, trivial⟩, H⟩
            · replace H := H.2 hb_7
              refine AN.pure 19 S rfl (by kernel_rfl) (fun _ => Lf.run_move (S.ev rfl)) rfl rfl (GOk.mk rfl rfl hb_7) ?_
              clear S; intro aa S
              refine AN.pure 20 S rfl (by kernel_rfl) (fun _ => Lf.run_move (S.ev rfl)) rfl rfl (GOk.mk rfl rfl hb_7) ?_
              clear S; intro aa S
              obtain ⟨q45_2, e_22, e_23, e_24, H⟩ := H
              refine AN.pure 21 S rfl (by kernel_rfl) (fun _ => Lf.run_ixs (S.ev rfl) (S.ev rfl) Try.underlying47 ti24 e_22 e_23 e_24) rfl rfl (GOk.mk rfl rfl hb_7) ?_
              clear S; intro aa S
              obtain ⟨x46_2, c_6, H⟩ := H
              refine AN.load 22 S rfl (by kernel_rfl) (fun _ hx => Lf.run_ld (S.ev rfl) fl24 (hx.cell _ _ (S.cl c_6))) rfl rfl (GOk.mk rfl rfl hb_7) ?_
              clear S; intro aa S
              refine AN.pure 23 S rfl (by kernel_rfl) (fun _ => Lf.run_move (S.ev rfl)) rfl rfl (GOk.mk rfl rfl hb_7) ?_
              clear S; intro aa S
              refine AN.pure 24 S rfl (by kernel_rfl) (fun _ => Lf.run_move (S.ev rfl)) rfl rfl (GOk.mk rfl rfl hb_7) ?_
              clear S; intro aa S
              obtain ⟨q49_2, e_25, e_26, e_27, H⟩ := H
              refine AN.pure 25 S rfl (by kernel_rfl) (fun _ => Lf.run_ixs (S.ev rfl) (S.ev rfl) Try.underlying47 ti24 e_25 e_26 e_27) rfl rfl (GOk.mk rfl rfl hb_7) ?_
              clear S; intro aa S
              obtain ⟨x50_2, c_7, H⟩ := H
              refine AN.load 26 S rfl (by kernel_rfl) (fun _ hx => Lf.run_ld (S.ev rfl) fl24 (hx.cell _ _ (S.cl c_7))) rfl rfl (GOk.mk rfl rfl hb_7) ?_
              clear S; intro aa S
              refine AN.pure 27 S rfl (by kernel_rfl) (fun _ => Lf.run_bits (op := .andNot) (by simp) (S.ev rfl) (S.ev rfl)) rfl rfl (GOk.mk rfl rfl hb_7) ?_
              clear S; intro aa S
              refine AN.pure 28 S rfl (by kernel_rfl) (fun _ => Lf.run_neq (S.ev rfl) (S.ev rfl)) rfl rfl (GOk.mk rfl rfl hb_7) ?_
              clear S; intro aa S
              refine AN.pure 29 S rfl (by kernel_rfl) (fun _ => run_pickF (S.ev rfl) hb_7 (S.ev rfl)) rfl rfl trivial ?_
              clear S; intro aa S
              refine AN.done (by kernel_rfl) ?_
              exact ⟨((bitsI .andNot .u64 x46_2 x50_2) != 0), S.sub _ ⟨rfl, rfl, rfl, rfl, trivial⟩, H⟩
        · replace H := H.2 hb_2
          refine AN.pure 7 S rfl (by kernel_rfl) (fun _ => Lf.run_move (S.ev rfl)) rfl rfl (GOk.mk rfl rfl hb_2) ?_
          clear S; intro aa S
          refine AN.pure 8 S rfl (by kernel_rfl) (fun _ => Lf.run_move (S.ev rfl)) rfl rfl (GOk.mk rfl rfl hb_2) ?_
          clear S; intro aa S
          refine AN.pure 9 S rfl (by kernel_rfl) (fun _ => Lf.run_lens (S.ev rfl) rfl Try.underlying47) rfl rfl (GOk.mk rfl rfl hb_2) ?_
          clear S; intro aa S
          refine AN.pure 10 S rfl (by kernel_rfl) (fun _ => Lf.run_geq (S.ev rfl) (S.ev rfl)) rfl rfl (GOk.mk rfl rfl hb_2) ?_
          clear S; intro aa S
          refine AN.pure 11 S rfl (by kernel_rfl) (fun _ => run_pickF (S.ev rfl) hb_2 (S.ev rfl)) rfl rfl trivial ?_
          clear S; intro aa S
          refine AN.pure 12 S rfl (by kernel_rfl) (fun _ => Lf.run_move (S.ev rfl)) rfl rfl trivial ?_
          clear S; intro aa S
          rcases Bool.eq_false_or_eq_true (decide (((sets1.n : Nat) : Int) ≤ x18)) with hb_3 | hb_3
          · replace H := H.1 hb_3
            refine AN.not 13 S rfl (by kernel_rfl) rfl rfl (GNo.mk rfl rfl hb_3) ?_
            clear S; intro aa S
            refine AN.not 14 S rfl (by kernel_rfl) rfl rfl (GNo.mk rfl rfl hb_3) ?_
            clear S; intro aa S
            refine AN.not 15 S rfl (by kernel_rfl) rfl rfl (GNo.mk rfl rfl hb_3) ?_
            clear S; intro aa S
            refine AN.not 16 S rfl (by kernel_rfl) rfl rfl (GNo.mk rfl rfl hb_3) ?_
            clear S; intro aa S
            refine AN.pure 17 S rfl (by kernel_rfl) (fun _ => run_pickT (S.ev rfl) hb_3 (S.ev rfl)) rfl rfl trivial ?_
            clear S; intro aa S
            refine AN.pure 18 S rfl (by kernel_rfl) (fun _ => Lf.run_move (S.ev rfl)) rfl rfl trivial ?_
            clear S; intro aa S
            rcases Bool.eq_false_or_eq_true true with hb_5 | hb_5
            · replace H := H.1 hb_5
              refine AN.not 19 S rfl (by kernel_rfl) rfl rfl (GNo.mk rfl rfl hb_5) ?_
              clear S; intro aa S
              refine AN.not 20 S rfl (by kernel_rfl) rfl rfl (GNo.mk rfl rfl hb_5) ?_
              clear S; intro aa S
              refine AN.not 21 S rfl (by kernel_rfl) rfl rfl (GNo.mk rfl rfl hb_5) ?_
              clear S; intro aa S
              refine AN.not 22 S rfl (by kernel_rfl) rfl rfl (GNo.mk rfl rfl hb_5) ?_
              clear S; intro aa S
              refine AN.not 23 S rfl (by kernel_rfl) rfl rfl (GNo.mk rfl rfl hb_5) ?_
              clear S; intro aa S
              refine AN.not 24 S rfl (by kernel_rfl) rfl rfl (GNo.mk rfl rfl hb_5) ?_
              clear S; intro aa S
              refine AN.not 25 S rfl (by kernel_rfl) rfl rfl (GNo.mk rfl rfl hb_5) ?_
              clear S; intro aa S
              refine AN.not 26 S rfl (by kernel_rfl) rfl rfl (GNo.mk rfl rfl hb_5) ?_
              clear S; intro aa S
              refine AN.not 27 S rfl (by kernel_rfl) rfl rfl (GNo.mk rfl rfl hb_5) ?_
              clear S; intro aa S
              refine AN.not 28 S rfl (by kernel_rfl) rfl rfl (GNo.mk rfl rfl hb_5) ?_
              clear S; intro aa S
              refine AN.pure 29 S rfl (by kernel_rfl) (fun _ => run_pickT (S.ev rfl) hb_5 (S.ev rfl)) rfl rfl trivial ?_
              clear S; intro aa S
              refine AN.done (by kernel_rfl) ?_
              exact ⟨true, S.sub _ ⟨rfl, rfl, rfl, rfl, trivial⟩, H⟩
            · replace H := H.2 hb_5
              refine AN.pure 19 S rfl (by kernel_rfl) (fun _ => Lf.run_move (S.ev rfl)) rfl rfl (GOk.mk rfl rfl hb_5) ?_
              clear S; intro aa S
              refine AN.pure 20 S rfl (by kernel_rfl) (fun _ => Lf.run_move (S.ev rfl)) rfl rfl (GOk.mk rfl rfl hb_5) ?_
              clear S; intro aa S
              obtain ⟨q45_1, e_16, e_17, e_18, H⟩ := H
              refine AN.pure 21 S rfl (by kernel_rfl) (fun _ => Lf.run_ixs (S.ev rfl) (S.ev rfl) Try.underlying47 ti24 e_16 e_17 e_18) rfl rfl (GOk.mk rfl rfl hb_5) ?_
              clear S; intro aa S
              obtain ⟨x46_1, c_4, H⟩ := H
              refine AN.load 22 S rfl (by kernel_rfl) (fun _ hx => Lf.run_ld (S.ev rfl) fl24 (hx.cell _ _ (S.cl c_4))) rfl rfl (GOk.mk rfl rfl hb_5) ?_
              clear S; intro aa S
              refine AN.pure 23 S rfl (by kernel_rfl) (fun _ => Lf.run_move (S.ev rfl)) rfl rfl (GOk.mk rfl rfl hb_5) ?_
              clear S; intro aa S
              refine AN.pure 24 S rfl (by kernel_rfl) (fun _ => Lf.run_move (S.ev rfl)) rfl rfl (GOk.mk rfl rfl hb_5) ?_
              clear S; intro aa S
              obtain ⟨q49_1, e_19, e_20, e_21, H⟩ := H
              refine AN.pure 25 S rfl (by kernel_rfl) (fun _ => Lf.run_ixs (S.ev rfl) (S.ev rfl) Try.underlying47 ti24 e_19 e_20 e_21) rfl rfl (GOk.mk rfl rfl hb_5) ?_
              clear S; intro aa S
              obtain ⟨x50_1, c_5, H⟩ := H
              refine AN.load 26 S rfl (by kernel_rfl) (fun _ hx => Lf.run_ld (S.ev rfl) fl24 (hx.cell _ _ (S.cl c_5))) rfl rfl (GOk.mk rfl rfl hb_5) ?_
              clear S; intro aa S
              refine AN.pure 27 S rfl (by kernel_rfl) (fun _ => Lf.run_bits (op := .andNot) (by simp) (S.ev rfl) (S.ev rfl)) rfl rfl (GOk.mk rfl rfl hb_5) ?_
              clear S; intro aa S
              refine AN.pure 28 S rfl (by kernel_rfl) (fun _ => Lf.run_neq (S.ev rfl) (S.ev rfl)) rfl rfl (GOk.mk rfl rfl hb_5) ?_
              clear S; intro aa S
              refine AN.pure 29 S rfl (by kernel_rfl) (fun _ => run_pickF (S.ev rfl) hb_5 (S.ev rfl)) rfl rfl trivial ?_
              clear S; intro aa S
              refine AN.done (by kernel_rfl) ?_
              exact ⟨((bitsI .andNot .u64 x46_1 x50_1) != 0), S.sub _ ⟨rfl, rfl, rfl, rfl, trivial⟩, H⟩
          · replace H := H.2 hb_3
            refine AN.pure 13 S rfl (by kernel_rfl) (fun _ => Lf.run_move (S.ev rfl)) rfl rfl (GOk.mk rfl rfl hb_3) ?_
            clear S; intro aa S
            refine AN.pure 14 S rfl (by kernel_rfl) (fun _ => Lf.run_move (S.ev rfl)) rfl rfl (GOk.mk rfl rfl hb_3) ?_
            clear S; intro aa S
            refine AN.pure 15 S rfl (by kernel_rfl) (fun _ => Lf.run_lens (S.ev rfl) rfl Try.underlying47) rfl rfl (GOk.mk rfl rfl hb_3) ?_
            clear S; intro aa S
            refine AN.pure 16 S rfl (by kernel_rfl) (fun _ => Lf.run_geq (S.ev rfl) (S.ev rfl)) rfl rfl (GOk.mk rfl rfl hb_3) ?_
            clear S; intro aa S
            refine AN.pure 17 S rfl (by kernel_rfl) (fun _ => run_pickF (S.ev rfl) hb_3 (S.ev rfl)) rfl rfl trivial ?_
            clear S; intro aa S
            refine AN.pure 18 S rfl (by kernel_rfl) (fun _ => Lf.run_move (S.ev rfl)) rfl rfl trivial ?_
            clear S; intro aa S
            rcases Bool.eq_false_or_eq_true (decide (((sets1.n : Nat) : Int) ≤ x23)) with hb_4 | hb_4
            · replace H := H.1 hb_4
              refine AN.not 19 S rfl (by kernel_rfl) rfl rfl (GNo.mk rfl rfl hb_4) ?_
              clear S; intro aa S
              refine AN.not 20 S rfl (by kernel_rfl) rfl rfl (GNo.mk rfl rfl hb_4) ?_
              clear S; intro aa S
              refine AN.not 21 S rfl (by kernel_rfl) rfl rfl (GNo.mk rfl rfl hb_4) ?_
              clear S; intro aa S
              refine AN.not 22 S rfl (by kernel_rfl) rfl rfl (GNo.mk rfl rfl hb_4) ?_
              clear S; intro aa S
              refine AN.not 23 S rfl (by kernel_rfl) rfl rfl (GNo.mk rfl rfl hb_4) ?_
              clear S; intro aa S
              refine AN.not 24 S rfl (by kernel_rfl) rfl rfl (GNo.mk rfl rfl hb_4) ?_
              clear S; intro aa S
              refine AN.not 25 S rfl (by kernel_rfl) rfl rfl (GNo.mk rfl rfl hb_4) ?_
              clear S; intro aa S
              refine AN.not 26 S rfl (by kernel_rfl) rfl rfl (GNo.mk rfl rfl hb_4) ?_
              clear S; intro aa S
              refine AN.not 27 S rfl (by kernel_rfl) rfl rfl (GNo.mk rfl rfl hb_4) ?_
              clear S; intro aa S
              refine AN.not 28 S rfl (by kernel_rfl) rfl rfl (GNo.mk rfl rfl hb_4) ?_
              clear S; intro aa S
              refine AN.pure 29 S rfl (by kernel_rfl) (fun _ => run_pickT (S.ev rfl) hb_4 (S.ev rfl)) rfl rfl trivial ?_
              clear S; intro aa S
              refine AN.done (by kernel_rfl) ?_
              exact ⟨true, S.sub _ ⟨rfl, rfl, rfl, rfl, trivial⟩, H⟩
            · replace H := H.2 hb_4
              refine AN.pure 19 S rfl (by kernel_rfl) (fun _ => Lf.run_move (S.ev rfl)) rfl rfl (GOk.mk rfl rfl hb_4) ?_
              clear S; intro aa S
              refine AN.pure 20 S rfl (by kernel_rfl) (fun _ => Lf.run_move (S.ev rfl)) rfl rfl (GOk.mk rfl rfl hb_4) ?_
              clear S; intro aa S
              obtain ⟨q45, e_10, e_11, e_12, H⟩ := H
              refine AN.pure 21 S rfl (by kernel_rfl) (fun _ => Lf.run_ixs (S.ev rfl) (S.ev rfl) Try.underlying47 ti24 e_10 e_11 e_12) rfl rfl (GOk.mk rfl rfl hb_4) ?_
              clear S; intro aa S
              obtain ⟨x46, c_2, H⟩ := H
              refine AN.load 22 S rfl (by kernel_rfl) (fun _ hx => Lf.run_ld (S.ev rfl) fl24 (hx.cell _ _ (S.cl c_2))) rfl rfl (GOk.mk rfl rfl hb_4) ?_
              clear S; intro aa S
              refine AN.pure 23 S rfl (by kernel_rfl) (fun _ => Lf.run_move (S.ev rfl)) rfl rfl (GOk.mk rfl rfl hb_4) ?_
              clear S; intro aa S
              refine AN.pure 24 S rfl (by kernel_rfl) (fun _ => Lf.run_move (S.ev rfl)) rfl rfl (GOk.mk rfl rfl hb_4) ?_
              clear S; intro aa S
              obtain ⟨q49, e_13, e_14, e_15, H⟩ := H
              refine AN.pure 25 S rfl (by kernel_rfl) (fun _ => Lf.run_ixs (S.ev rfl) (S.ev rfl) Try.underlying47 ti24 e_13 e_14 e_15) rfl rfl (GOk.mk rfl rfl hb_4) ?_
              clear S; intro aa S
              obtain ⟨x50, c_3, H⟩ := H
              refine AN.load 26 S rfl (by kernel_rfl) (fun _ hx => Lf.run_ld (S.ev rfl) fl24 (hx.cell _ _ (S.cl c_3))) rfl rfl (GOk.mk rfl rfl hb_4) ?_
              clear S; intro aa S
              refine AN.pure 27 S rfl (by kernel_rfl) (fun _ => Lf.run_bits (op := .andNot) (by simp) (S.ev rfl) (S.ev rfl)) rfl rfl (GOk.mk rfl rfl hb_4) ?_
              clear S; intro aa S
              refine AN.pure 28 S rfl (by kernel_rfl) (fun _ => Lf.run_neq (S.ev rfl) (S.ev rfl)) rfl rfl (GOk.mk rfl rfl hb_4) ?_
              clear S; intro aa S
              refine AN.pure 29 S rfl (by kernel_rfl) (fun _ => run_pickF (S.ev rfl) hb_4 (S.ev rfl)) rfl rfl trivial ?_
              clear S; intro aa S
              refine AN.done (by kernel_rfl) ?_
              exact ⟨((bitsI .andNot .u64 x46 x50) != 0), S.sub _ ⟨rfl, rfl, rfl, rfl, trivial⟩, H⟩
    · clear H S aa
      rintro aa ww ⟨x53, S, HJ⟩
      have H := HK _ HJ
      clear HK HJ
      refine W.cond S (b := x53) rfl (fun hb_16 => ?_) (fun hb_16 => ?_)
      · replace H := H.1 hb_16
        refine W.seq ?_
        replace S := S.sub [] trivial
        refine W.region ?_
        refine OL.pure S (Lf.run_assign (S.ev rfl)) rfl rfl trivial ?_
        clear S; intro aa S
        refine OL.nil ?_
        refine W.ret ?_
        exact Ret.one S rfl rfl H
      · replace H := H.2 hb_16
        refine W.skip ?_
        replace S := S.sub [(0, Value.slice l0.a l0.n l0.c), (1, Value.slice sets1.a sets1.n sets1.c), (5, Value.int .i64 i5)] ⟨rfl, rfl, rfl, trivial⟩
        refine W.region ?_
        refine OL.pure S (Lf.run_move (S.ev rfl)) rfl rfl trivial ?_
        clear S; intro aa S
        refine OL.pure S (Lf.run_add (S.ev rfl) (S.ev rfl)) rfl rfl trivial ?_
        clear S; intro aa S
        refine OL.pure S (Lf.run_assign (S.ev rfl)) rfl rfl trivial ?_
        clear S; intro aa S
        refine OL.nil ?_
        exact ⟨((IntKind.i64.wrap (i5 + 1))), ⟨S.sub _ ⟨rfl, rfl, rfl, trivial⟩, H.1⟩, H.2⟩
  · replace H := H.2 hb
    refine W.exit_ ?_
    refine xhit ?_
    refine W.seq ?_
    replace S := S.sub [] trivial
    refine W.region ?_
    refine OL.pure S (Lf.run_assign (S.ev rfl)) rfl rfl trivial ?_
    clear S; intro aa S
    refine OL.nil ?_
    refine W.ret ?_
    exact Ret.one S rfl rfl H

end Go.Proofs.Yteaidgpiolakcaa

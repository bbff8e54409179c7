/- HighNoMore: where the program says that one function does not do for another one, and the types do, there are sets of regions, with all that is known, for which none for the one's own lifetimes will do: proved for every input, with no conditions. -/
import Derived.Test.YteofligmdngdgaaNM0
namespace Go.Proofs.Yteofligmdngdgaa
open Go Go.Lf
set_option linter.unusedVariables false
set_option maxRecDepth 100000
def L8 (c0:Int) (c0_1:Sv) (c0_2:Int) (c0_3:Sv) (c0_4:Sv) (c0_5:Sv) (c0_6:Sv) (c0_7:Int) (c0_8:Int) (c0_9:Sv) (c0_10:Sv) (h:Heap) (R:Value→Heap→Prop):Prop:=
 new 27 #[Value.int .i64 c0,Value.slice c0_1.a c0_1.n c0_1.c,Value.int .u64 c0_2,Value.slice c0_3.a c0_3.n c0_3.c,Value.slice c0_4.a c0_4.n c0_4.c,Value.slice c0_5.a c0_5.n c0_5.c,Value.slice c0_6.a c0_6.n c0_6.c,Value.int .i64 c0_7,Value.int .i64 c0_8,Value.slice c0_9.a c0_9.n c0_9.c,Value.slice c0_10.a c0_10.n c0_10.c] h fun p1 h1=>
 new 33 #[Value.int .i64 0,Value.slice (⟨none,0,0⟩:Sv).a (⟨none,0,0⟩:Sv).n (⟨none,0,0⟩:Sv).c,Value.map none,Value.map none] h1 fun p2 h2=>
 new 37 #[Value.int .i64 0,Value.slice (⟨none,0,0⟩:Sv).a (⟨none,0,0⟩:Sv).n (⟨none,0,0⟩:Sv).c,Value.slice (⟨none,0,0⟩:Sv).a (⟨none,0,0⟩:Sv).n (⟨none,0,0⟩:Sv).c,Value.int .i64 0,Value.string (⟨#[]⟩:ByteArray),Value.bool false,Value.int .i64 0,Value.slice (⟨none,0,0⟩:Sv).a (⟨none,0,0⟩:Sv).n (⟨none,0,0⟩:Sv).c,Value.slice (⟨none,0,0⟩:Sv).a (⟨none,0,0⟩:Sv).n (⟨none,0,0⟩:Sv).c] h2 fun p3 h3=>
 new 37 #[Value.int .i64 0,Value.slice (⟨none,0,0⟩:Sv).a (⟨none,0,0⟩:Sv).n (⟨none,0,0⟩:Sv).c,Value.slice (⟨none,0,0⟩:Sv).a (⟨none,0,0⟩:Sv).n (⟨none,0,0⟩:Sv).c,Value.int .i64 0,Value.string (⟨#[]⟩:ByteArray),Value.bool false,Value.int .i64 0,Value.slice (⟨none,0,0⟩:Sv).a (⟨none,0,0⟩:Sv).n (⟨none,0,0⟩:Sv).c,Value.slice (⟨none,0,0⟩:Sv).a (⟨none,0,0⟩:Sv).n (⟨none,0,0⟩:Sv).c] h3 fun p4 h4=>
 ldS h4 (p1.add 1) fun x11=>
 ldS h4 (p1.add 9) fun x14=>
 ldS h4 (p1.add 10) fun x18=>
 ∃J:Bool→Prop,(orr (decide (20<(IntKind.i64.wrap ((IntKind.i64.wrap (((x11.n:Nat):Int)+((x14.n:Nat):Int)))+((x18.n:Nat):Int))))) (fun k=>
  ldS h4 (p1.add 3) fun x24=>
  k (decide (5<((x24.n:Nat):Int)))) J)∧∀x27,J x27 →
 ∃J_1:Bool→Prop,(orr x27 (fun k_1=>
  ldS h4 (p1.add 4) fun x30=>
  k_1 (decide (4<((x30.n:Nat):Int)))) J_1)∧∀x33,J_1 x33 →
 ∃J_2:Bool→Prop,(orr x33 (fun k_2=>
  ldS h4 (p1.add 5) fun x36=>
  ldS h4 (p1.add 6) fun x39=>
  k_2 (decide (60<(IntKind.i64.wrap (((x36.n:Nat):Int)+((x39.n:Nat):Int)))))) J_2)∧∀x43,J_2 x43 →
 ifb x43 (
  stoA h4 p2 [Value.int .i64 0,Value.slice (⟨none,0,0⟩:Sv).a (⟨none,0,0⟩:Sv).n (⟨none,0,0⟩:Sv).c,Value.map none,Value.map none] fun h5=>
  stoA h5 p3 [Value.int .i64 0,Value.slice (⟨none,0,0⟩:Sv).a (⟨none,0,0⟩:Sv).n (⟨none,0,0⟩:Sv).c,Value.slice (⟨none,0,0⟩:Sv).a (⟨none,0,0⟩:Sv).n (⟨none,0,0⟩:Sv).c,Value.int .i64 0,Value.string (⟨#[]⟩:ByteArray),Value.bool false,Value.int .i64 0,Value.slice (⟨none,0,0⟩:Sv).a (⟨none,0,0⟩:Sv).n (⟨none,0,0⟩:Sv).c,Value.slice (⟨none,0,0⟩:Sv).a (⟨none,0,0⟩:Sv).n (⟨none,0,0⟩:Sv).c] fun h6=>
  stoA h6 p4 [Value.int .i64 0,Value.slice (⟨none,0,0⟩:Sv).a (⟨none,0,0⟩:Sv).n (⟨none,0,0⟩:Sv).c,Value.slice (⟨none,0,0⟩:Sv).a (⟨none,0,0⟩:Sv).n (⟨none,0,0⟩:Sv).c,Value.int .i64 0,Value.string (⟨#[]⟩:ByteArray),Value.bool false,Value.int .i64 0,Value.slice (⟨none,0,0⟩:Sv).a (⟨none,0,0⟩:Sv).n (⟨none,0,0⟩:Sv).c,Value.slice (⟨none,0,0⟩:Sv).a (⟨none,0,0⟩:Sv).n (⟨none,0,0⟩:Sv).c] fun h7=>
  ∃(y:Int) (y_1:Sv) (y_2:Option Nat) (y_3:Option Nat),cl h7 p2=some (Value.int .i64 y)∧cl h7 (p2.add 1)=some (Value.slice y_1.a y_1.n y_1.c)∧cl h7 (p2.add 2)=some (Value.map y_2)∧cl h7 (p2.add 3)=some (Value.map y_3) ∧
  ∃(y_4:Int) (y_5:Sv) (y_6:Sv) (y_7:Int) (y_8:ByteArray) (y_9:Bool) (y_10:Int) (y_11:Sv) (y_12:Sv),cl h7 p3=some (Value.int .i64 y_4)∧cl h7 (p3.add 1)=some (Value.slice y_5.a y_5.n y_5.c)∧cl h7 (p3.add 2)=some (Value.slice y_6.a y_6.n y_6.c)∧cl h7 (p3.add 3)=some (Value.int .i64 y_7)∧cl h7 (p3.add 4)=some (Value.string y_8)∧cl h7 (p3.add 5)=some (Value.bool y_9)∧cl h7 (p3.add 6)=some (Value.int .i64 y_10)∧cl h7 (p3.add 7)=some (Value.slice y_11.a y_11.n y_11.c)∧cl h7 (p3.add 8)=some (Value.slice y_12.a y_12.n y_12.c) ∧
  ∃(y_13:Int) (y_14:Sv) (y_15:Sv) (y_16:Int) (y_17:ByteArray) (y_18:Bool) (y_19:Int) (y_20:Sv) (y_21:Sv),cl h7 p4=some (Value.int .i64 y_13)∧cl h7 (p4.add 1)=some (Value.slice y_14.a y_14.n y_14.c)∧cl h7 (p4.add 2)=some (Value.slice y_15.a y_15.n y_15.c)∧cl h7 (p4.add 3)=some (Value.int .i64 y_16)∧cl h7 (p4.add 4)=some (Value.string y_17)∧cl h7 (p4.add 5)=some (Value.bool y_18)∧cl h7 (p4.add 6)=some (Value.int .i64 y_19)∧cl h7 (p4.add 7)=some (Value.slice y_20.a y_20.n y_20.c)∧cl h7 (p4.add 8)=some (Value.slice y_21.a y_21.n y_21.c) ∧
  R (.tuple #[Value.agg #[Value.int .i64 y,Value.slice y_1.a y_1.n y_1.c,Value.map y_2,Value.map y_3],Value.agg #[Value.int .i64 y_4,Value.slice y_5.a y_5.n y_5.c,Value.slice y_6.a y_6.n y_6.c,Value.int .i64 y_7,Value.string y_8,Value.bool y_9,Value.int .i64 y_10,Value.slice y_11.a y_11.n y_11.c,Value.slice y_12.a y_12.n y_12.c],Value.agg #[Value.int .i64 y_13,Value.slice y_14.a y_14.n y_14.c,Value.slice y_15.a y_15.n y_15.c,Value.int .i64 y_16,Value.string y_17,Value.bool y_18,Value.int .i64 y_19,Value.slice y_20.a y_20.n y_20.c,Value.slice y_21.a y_21.n y_21.c],Value.bool false]) h7) (
  ∃(I:Int→Heap→Prop) (m:Int→Heap→Nat),I 0 h4∧∀i6 h8,I i6 h8 →
  ldS h8 (p1.add 4) fun x49=>
  ifb (decide (i6<((x49.n:Nat):Int))) (
   ldS h8 (p1.add 4) fun x55=>
   ixS x55 i6 fun q57=>
   ∃(y58:Int) (y58_1:ByteArray) (y58_2:Bool) (y58_3:Int) (y58_4:Sv) (y58_5:Sv),cl h8 (q57.add ((i6:Int).toNat*6))=some (Value.int .i64 y58)∧cl h8 ((q57.add ((i6:Int).toNat*6)).add 1)=some (Value.string y58_1)∧cl h8 ((q57.add ((i6:Int).toNat*6)).add 2)=some (Value.bool y58_2)∧cl h8 ((q57.add ((i6:Int).toNat*6)).add 3)=some (Value.int .i64 y58_3)∧cl h8 ((q57.add ((i6:Int).toNat*6)).add 4)=some (Value.slice y58_4.a y58_4.n y58_4.c)∧cl h8 ((q57.add ((i6:Int).toNat*6)).add 5)=some (Value.slice y58_5.a y58_5.n y58_5.c) ∧
   cal Try.prog 18 #[Value.agg #[Value.int .i64 y58,Value.string y58_1,Value.bool y58_2,Value.int .i64 y58_3,Value.slice y58_4.a y58_4.n y58_4.c,Value.slice y58_5.a y58_5.n y58_5.c],Value.int .i64 5] h8 fun u h9=>asB u fun x59=>
   ifb (!x59) (
    stoA h9 p2 [Value.int .i64 0,Value.slice (⟨none,0,0⟩:Sv).a (⟨none,0,0⟩:Sv).n (⟨none,0,0⟩:Sv).c,Value.map none,Value.map none] fun h10=>
    stoA h10 p3 [Value.int .i64 0,Value.slice (⟨none,0,0⟩:Sv).a (⟨none,0,0⟩:Sv).n (⟨none,0,0⟩:Sv).c,Value.slice (⟨none,0,0⟩:Sv).a (⟨none,0,0⟩:Sv).n (⟨none,0,0⟩:Sv).c,Value.int .i64 0,Value.string (⟨#[]⟩:ByteArray),Value.bool false,Value.int .i64 0,Value.slice (⟨none,0,0⟩:Sv).a (⟨none,0,0⟩:Sv).n (⟨none,0,0⟩:Sv).c,Value.slice (⟨none,0,0⟩:Sv).a (⟨none,0,0⟩:Sv).n (⟨none,0,0⟩:Sv).c] fun h11=>
    stoA h11 p4 [Value.int .i64 0,Value.slice (⟨none,0,0⟩:Sv).a (⟨none,0,0⟩:Sv).n (⟨none,0,0⟩:Sv).c,Value.slice (⟨none,0,0⟩:Sv).a (⟨none,0,0⟩:Sv).n (⟨none,0,0⟩:Sv).c,Value.int .i64 0,Value.string (⟨#[]⟩:ByteArray),Value.bool false,Value.int .i64 0,Value.slice (⟨none,0,0⟩:Sv).a (⟨none,0,0⟩:Sv).n (⟨none,0,0⟩:Sv).c,Value.slice (⟨none,0,0⟩:Sv).a (⟨none,0,0⟩:Sv).n (⟨none,0,0⟩:Sv).c] fun h12=>
    ∃(y_22:Int) (y_23:Sv) (y_24:Option Nat) (y_25:Option Nat),cl h12 p2=some (Value.int .i64 y_22)∧cl h12 (p2.add 1)=some (Value.slice y_23.a y_23.n y_23.c)∧cl h12 (p2.add 2)=some (Value.map y_24)∧cl h12 (p2.add 3)=some (Value.map y_25) ∧
    ∃(y_26:Int) (y_27:Sv) (y_28:Sv) (y_29:Int) (y_30:ByteArray) (y_31:Bool) (y_32:Int) (y_33:Sv) (y_34:Sv),cl h12 p3=some (Value.int .i64 y_26)∧cl h12 (p3.add 1)=some (Value.slice y_27.a y_27.n y_27.c)∧cl h12 (p3.add 2)=some (Value.slice y_28.a y_28.n y_28.c)∧cl h12 (p3.add 3)=some (Value.int .i64 y_29)∧cl h12 (p3.add 4)=some (Value.string y_30)∧cl h12 (p3.add 5)=some (Value.bool y_31)∧cl h12 (p3.add 6)=some (Value.int .i64 y_32)∧cl h12 (p3.add 7)=some (Value.slice y_33.a y_33.n y_33.c)∧cl h12 (p3.add 8)=some (Value.slice y_34.a y_34.n y_34.c) ∧
    ∃(y_35:Int) (y_36:Sv) (y_37:Sv) (y_38:Int) (y_39:ByteArray) (y_40:Bool) (y_41:Int) (y_42:Sv) (y_43:Sv),cl h12 p4=some (Value.int .i64 y_35)∧cl h12 (p4.add 1)=some (Value.slice y_36.a y_36.n y_36.c)∧cl h12 (p4.add 2)=some (Value.slice y_37.a y_37.n y_37.c)∧cl h12 (p4.add 3)=some (Value.int .i64 y_38)∧cl h12 (p4.add 4)=some (Value.string y_39)∧cl h12 (p4.add 5)=some (Value.bool y_40)∧cl h12 (p4.add 6)=some (Value.int .i64 y_41)∧cl h12 (p4.add 7)=some (Value.slice y_42.a y_42.n y_42.c)∧cl h12 (p4.add 8)=some (Value.slice y_43.a y_43.n y_43.c) ∧
    R (.tuple #[Value.agg #[Value.int .i64 y_22,Value.slice y_23.a y_23.n y_23.c,Value.map y_24,Value.map y_25],Value.agg #[Value.int .i64 y_26,Value.slice y_27.a y_27.n y_27.c,Value.slice y_28.a y_28.n y_28.c,Value.int .i64 y_29,Value.string y_30,Value.bool y_31,Value.int .i64 y_32,Value.slice y_33.a y_33.n y_33.c,Value.slice y_34.a y_34.n y_34.c],Value.agg #[Value.int .i64 y_35,Value.slice y_36.a y_36.n y_36.c,Value.slice y_37.a y_37.n y_37.c,Value.int .i64 y_38,Value.string y_39,Value.bool y_40,Value.int .i64 y_41,Value.slice y_42.a y_42.n y_42.c,Value.slice y_43.a y_43.n y_43.c],Value.bool false]) h12) (
    I (IntKind.i64.wrap (i6+1)) h9∧m (IntKind.i64.wrap (i6+1)) h9<m i6 h8)) (
   ldI .i64 h8 p1 fun x65=>
   sto h8 p1 (Value.int .i64 (IntKind.i64.wrap (((IntKind.u64.wrap x65):Int).tmod 3))) fun h13=>
   ldI .i64 h13 (p1.add 7) fun x71=>
   ldI .i64 h13 (p1.add 8) fun x76=>
   sto h13 (p1.add 7) (Value.int .i64 (IntKind.i64.wrap (((IntKind.u64.wrap x71):Int).tmod 4))) fun h14=>
   sto h14 (p1.add 8) (Value.int .i64 (IntKind.i64.wrap (((IntKind.u64.wrap x76):Int).tmod 4))) fun h15=>
   ∃(I_1:Sv→Int→Heap→Prop) (m_1:Sv→Int→Heap→Nat),I_1 (⟨none,0,0⟩:Sv) 0 h15∧∀ways7 i8 h16,I_1 ways7 i8 h16 →
   ifb (decide (i8<8)) (
    ldI .u64 h16 (p1.add 2) fun x88=>
    (0≤(IntKind.i64.wrap (2*i8))) ∧
    newS 3 #[Value.int .i64 (IntKind.i64.wrap ((((x88:Int).fdiv (2 ^ (min ((IntKind.i64.wrap (2*i8)):Int).toNat IntKind.u64.bits))):Int).tmod 4))] 1 h16 fun s94 h17=>
    appS 3 (Value.int .i64 0).cells 1 8 h17 ways7 s94 fun s95 h18=>
    I_1 s95 (IntKind.i64.wrap (i8+1)) h18∧m_1 s95 (IntKind.i64.wrap (i8+1)) h18<m_1 ways7 i8 h16) (
    ∃(IJ:Bool→Bool→Bool→Bool→Bool→Bool→Sv→Nat→Nat→Addr→Heap→Prop) (Sq:Heap→Prop),(∀(b6 b7 b9 b11 b14 b17:Bool) (x102:Sv) (m103:Nat) (m106:Nat) (p9:Addr) (hz:Heap),IJ b6 b7 b9 b11 b14 b17 x102 m103 m106 p9 hz→Sq hz)∧(∀(x102:Sv) (m103:Nat) (m106:Nat) (p9:Addr),IJ false false false false false false x102 m103 m106 p9 h16) ∧
    hlI .i64 Sq p1 fun x97=>
    hlS Sq (p1.add 1) fun x99=>
    hlI .i64 Sq p1 fun x101=>
    hlS Sq (p1.add 3) fun x108=>
    (∀(b6 b7 b9 b11 b14 b17:Bool) (x102_o:Sv) (m103:Nat) (m106:Nat) (p9:Addr) (h19:Heap),IJ b6 b7 b9 b11 b14 b17 x102_o m103 m106 p9 h19→b6=false →
     cal Try.prog 19 #[Value.slice x99.a x99.n x99.c,Value.int .i64 x101] h19 fun u_1 h20=>asS u_1 fun x102=>
     IJ true b7 b9 b11 b14 b17 x102 m103 m106 p9 h20) ∧
    (∀(b6 b7 b9 b11 b14 b17:Bool) (x102:Sv) (m103_o:Nat) (m106:Nat) (p9:Addr) (h23:Heap),IJ b6 b7 b9 b11 b14 b17 x102 m103_o m106 p9 h23→b7=false →
     newM h23 fun m103 h24=>
     IJ b6 true b9 b11 b14 b17 x102 m103 m106 p9 h24) ∧
    (∀(b6 b7 b9 b11 b14 b17:Bool) (x102:Sv) (m103:Nat) (m106:Nat) (p9:Addr) (h27:Heap),IJ b6 b7 b9 b11 b14 b17 x102 m103 m106 p9 h27→b9=false→b7=true →
     insS h27 (Value.map (some m103)) (⟨#[83]⟩:ByteArray) (Value.slice ways7.a ways7.n ways7.c) fun h28=>
     IJ b6 b7 true b11 b14 b17 x102 m103 m106 p9 h28) ∧
    (∀(b6 b7 b9 b11 b14 b17:Bool) (x102:Sv) (m103:Nat) (m106_o:Nat) (p9:Addr) (h32:Heap),IJ b6 b7 b9 b11 b14 b17 x102 m103 m106_o p9 h32→b11=false →
     newM h32 fun m106 h33=>
     IJ b6 b7 b9 true b14 b17 x102 m103 m106 p9 h33) ∧
    (∀(b6 b7 b9 b11 b14 b17:Bool) (x102:Sv) (m103:Nat) (m106:Nat) (p9:Addr) (h36:Heap),IJ b6 b7 b9 b11 b14 b17 x102 m103 m106 p9 h36→b14=false→b11=true →
     insS h36 (Value.map (some m106)) (⟨#[83]⟩:ByteArray) (Value.slice x108.a x108.n x108.c) fun h37=>
     IJ b6 b7 b9 b11 true b17 x102 m103 m106 p9 h37) ∧
    (∀(b6 b7 b9 b11 b14 b17:Bool) (x102:Sv) (m103:Nat) (m106:Nat) (p9_o:Addr) (h42:Heap),IJ b6 b7 b9 b11 b14 b17 x102 m103 m106 p9_o h42→b17=false →
     new 33 #[Value.int .i64 0,Value.slice (⟨none,0,0⟩:Sv).a (⟨none,0,0⟩:Sv).n (⟨none,0,0⟩:Sv).c,Value.map none,Value.map none] h42 fun p9 h43=>
     IJ b6 b7 b9 b11 b14 true x102 m103 m106 p9 h43) ∧
    (∀(x102:Sv) (m103:Nat) (m106:Nat) (p9:Addr) (h46:Heap),IJ true true true true true true x102 m103 m106 p9 h46 →
    stoA h46 p9 [Value.int .i64 x97,Value.slice x102.a x102.n x102.c,Value.map (some m103),Value.map (some m106)] fun h47=>
    ∃Sq_1:Heap→Prop,Sq_1 h47∧(
     ∃(y112:Int) (y112_1:Sv) (y112_2:Int) (y112_3:Sv) (y112_4:Sv) (y112_5:Sv) (y112_6:Sv) (y112_7:Int) (y112_8:Int) (y112_9:Sv) (y112_10:Sv),cl h47 p1=some (Value.int .i64 y112)∧cl h47 (p1.add 1)=some (Value.slice y112_1.a y112_1.n y112_1.c)∧cl h47 (p1.add 2)=some (Value.int .u64 y112_2)∧cl h47 (p1.add 3)=some (Value.slice y112_3.a y112_3.n y112_3.c)∧cl h47 (p1.add 4)=some (Value.slice y112_4.a y112_4.n y112_4.c)∧cl h47 (p1.add 5)=some (Value.slice y112_5.a y112_5.n y112_5.c)∧cl h47 (p1.add 6)=some (Value.slice y112_6.a y112_6.n y112_6.c)∧cl h47 (p1.add 7)=some (Value.int .i64 y112_7)∧cl h47 (p1.add 8)=some (Value.int .i64 y112_8)∧cl h47 (p1.add 9)=some (Value.slice y112_9.a y112_9.n y112_9.c)∧cl h47 (p1.add 10)=some (Value.slice y112_10.a y112_10.n y112_10.c) ∧
     ldS h47 (p1.add 5) fun x114=>
     ldI .i64 h47 (p1.add 7) fun x116=>
     ldS h47 (p1.add 9) fun x118=>
     ∃(y111:Int) (y111_1:Sv) (y111_2:Option Nat) (y111_3:Option Nat),hld Sq_1 p9 (Value.int .i64 y111)∧hld Sq_1 (p9.add 1) (Value.slice y111_1.a y111_1.n y111_1.c)∧hld Sq_1 (p9.add 2) (Value.map y111_2)∧hld Sq_1 (p9.add 3) (Value.map y111_3) ∧
     ∃(y120:Int) (y120_1:Sv) (y120_2:Int) (y120_3:Sv) (y120_4:Sv) (y120_5:Sv) (y120_6:Sv) (y120_7:Int) (y120_8:Int) (y120_9:Sv) (y120_10:Sv),hld Sq_1 p1 (Value.int .i64 y120)∧hld Sq_1 (p1.add 1) (Value.slice y120_1.a y120_1.n y120_1.c)∧hld Sq_1 (p1.add 2) (Value.int .u64 y120_2)∧hld Sq_1 (p1.add 3) (Value.slice y120_3.a y120_3.n y120_3.c)∧hld Sq_1 (p1.add 4) (Value.slice y120_4.a y120_4.n y120_4.c)∧hld Sq_1 (p1.add 5) (Value.slice y120_5.a y120_5.n y120_5.c)∧hld Sq_1 (p1.add 6) (Value.slice y120_6.a y120_6.n y120_6.c)∧hld Sq_1 (p1.add 7) (Value.int .i64 y120_7)∧hld Sq_1 (p1.add 8) (Value.int .i64 y120_8)∧hld Sq_1 (p1.add 9) (Value.slice y120_9.a y120_9.n y120_9.c)∧hld Sq_1 (p1.add 10) (Value.slice y120_10.a y120_10.n y120_10.c) ∧
     hlS Sq_1 (p1.add 6) fun x122=>
     hlI .i64 Sq_1 (p1.add 8) fun x124=>
     hlS Sq_1 (p1.add 10) fun x126=>
     cal Try.prog 20 #[Value.agg #[Value.int .i64 y112,Value.slice y112_1.a y112_1.n y112_1.c,Value.int .u64 y112_2,Value.slice y112_3.a y112_3.n y112_3.c,Value.slice y112_4.a y112_4.n y112_4.c,Value.slice y112_5.a y112_5.n y112_5.c,Value.slice y112_6.a y112_6.n y112_6.c,Value.int .i64 y112_7,Value.int .i64 y112_8,Value.slice y112_9.a y112_9.n y112_9.c,Value.slice y112_10.a y112_10.n y112_10.c],Value.slice x114.a x114.n x114.c,Value.int .i64 x116,Value.slice x118.a x118.n x118.c] h47 fun u_3 h48=>∃(y119:Int) (y119_1:Sv) (y119_2:Sv) (y119_3:Int) (y119_4:ByteArray) (y119_5:Bool) (y119_6:Int) (y119_7:Sv) (y119_8:Sv),u_3=Value.agg #[Value.int .i64 y119,Value.slice y119_1.a y119_1.n y119_1.c,Value.slice y119_2.a y119_2.n y119_2.c,Value.int .i64 y119_3,Value.string y119_4,Value.bool y119_5,Value.int .i64 y119_6,Value.slice y119_7.a y119_7.n y119_7.c,Value.slice y119_8.a y119_8.n y119_8.c] ∧
     Sq_1 h48 ∧
     cal Try.prog 20 #[Value.agg #[Value.int .i64 y120,Value.slice y120_1.a y120_1.n y120_1.c,Value.int .u64 y120_2,Value.slice y120_3.a y120_3.n y120_3.c,Value.slice y120_4.a y120_4.n y120_4.c,Value.slice y120_5.a y120_5.n y120_5.c,Value.slice y120_6.a y120_6.n y120_6.c,Value.int .i64 y120_7,Value.int .i64 y120_8,Value.slice y120_9.a y120_9.n y120_9.c,Value.slice y120_10.a y120_10.n y120_10.c],Value.slice x122.a x122.n x122.c,Value.int .i64 x124,Value.slice x126.a x126.n x126.c] h48 fun u_4 h49=>∃(y127:Int) (y127_1:Sv) (y127_2:Sv) (y127_3:Int) (y127_4:ByteArray) (y127_5:Bool) (y127_6:Int) (y127_7:Sv) (y127_8:Sv),u_4=Value.agg #[Value.int .i64 y127,Value.slice y127_1.a y127_1.n y127_1.c,Value.slice y127_2.a y127_2.n y127_2.c,Value.int .i64 y127_3,Value.string y127_4,Value.bool y127_5,Value.int .i64 y127_6,Value.slice y127_7.a y127_7.n y127_7.c,Value.slice y127_8.a y127_8.n y127_8.c] ∧
     Sq_1 h49 ∧
     stoA h49 p2 [Value.int .i64 y111,Value.slice y111_1.a y111_1.n y111_1.c,Value.map y111_2,Value.map y111_3] fun h50=>
     stoA h50 p3 [Value.int .i64 y119,Value.slice y119_1.a y119_1.n y119_1.c,Value.slice y119_2.a y119_2.n y119_2.c,Value.int .i64 y119_3,Value.string y119_4,Value.bool y119_5,Value.int .i64 y119_6,Value.slice y119_7.a y119_7.n y119_7.c,Value.slice y119_8.a y119_8.n y119_8.c] fun h51=>
     stoA h51 p4 [Value.int .i64 y127,Value.slice y127_1.a y127_1.n y127_1.c,Value.slice y127_2.a y127_2.n y127_2.c,Value.int .i64 y127_3,Value.string y127_4,Value.bool y127_5,Value.int .i64 y127_6,Value.slice y127_7.a y127_7.n y127_7.c,Value.slice y127_8.a y127_8.n y127_8.c] fun h52=>
     ∃(y_44:Int) (y_45:Sv) (y_46:Option Nat) (y_47:Option Nat),cl h52 p2=some (Value.int .i64 y_44)∧cl h52 (p2.add 1)=some (Value.slice y_45.a y_45.n y_45.c)∧cl h52 (p2.add 2)=some (Value.map y_46)∧cl h52 (p2.add 3)=some (Value.map y_47) ∧
     ∃(y_48:Int) (y_49:Sv) (y_50:Sv) (y_51:Int) (y_52:ByteArray) (y_53:Bool) (y_54:Int) (y_55:Sv) (y_56:Sv),cl h52 p3=some (Value.int .i64 y_48)∧cl h52 (p3.add 1)=some (Value.slice y_49.a y_49.n y_49.c)∧cl h52 (p3.add 2)=some (Value.slice y_50.a y_50.n y_50.c)∧cl h52 (p3.add 3)=some (Value.int .i64 y_51)∧cl h52 (p3.add 4)=some (Value.string y_52)∧cl h52 (p3.add 5)=some (Value.bool y_53)∧cl h52 (p3.add 6)=some (Value.int .i64 y_54)∧cl h52 (p3.add 7)=some (Value.slice y_55.a y_55.n y_55.c)∧cl h52 (p3.add 8)=some (Value.slice y_56.a y_56.n y_56.c) ∧
     ∃(y_57:Int) (y_58:Sv) (y_59:Sv) (y_60:Int) (y_61:ByteArray) (y_62:Bool) (y_63:Int) (y_64:Sv) (y_65:Sv),cl h52 p4=some (Value.int .i64 y_57)∧cl h52 (p4.add 1)=some (Value.slice y_58.a y_58.n y_58.c)∧cl h52 (p4.add 2)=some (Value.slice y_59.a y_59.n y_59.c)∧cl h52 (p4.add 3)=some (Value.int .i64 y_60)∧cl h52 (p4.add 4)=some (Value.string y_61)∧cl h52 (p4.add 5)=some (Value.bool y_62)∧cl h52 (p4.add 6)=some (Value.int .i64 y_63)∧cl h52 (p4.add 7)=some (Value.slice y_64.a y_64.n y_64.c)∧cl h52 (p4.add 8)=some (Value.slice y_65.a y_65.n y_65.c) ∧
     R (.tuple #[Value.agg #[Value.int .i64 y_44,Value.slice y_45.a y_45.n y_45.c,Value.map y_46,Value.map y_47],Value.agg #[Value.int .i64 y_48,Value.slice y_49.a y_49.n y_49.c,Value.slice y_50.a y_50.n y_50.c,Value.int .i64 y_51,Value.string y_52,Value.bool y_53,Value.int .i64 y_54,Value.slice y_55.a y_55.n y_55.c,Value.slice y_56.a y_56.n y_56.c],Value.agg #[Value.int .i64 y_57,Value.slice y_58.a y_58.n y_58.c,Value.slice y_59.a y_59.n y_59.c,Value.int .i64 y_60,Value.string y_61,Value.bool y_62,Value.int .i64 y_63,Value.slice y_64.a y_64.n y_64.c,Value.slice y_65.a y_65.n y_65.c],Value.bool true]) h52)))))
set_option maxRecDepth 100000 in
theorem F8 {c0 c0_1 c0_2 c0_3 c0_4 c0_5 c0_6 c0_7 c0_8 c0_9 c0_10 h:_} {R:Value→Heap→Prop} (H:L8 c0 c0_1 c0_2 c0_3 c0_4 c0_5 c0_6 c0_7 c0_8 c0_9 c0_10 h R):CallsH Try.prog 8 #[Value.agg #[Value.int .i64 c0,Value.slice c0_1.a c0_1.n c0_1.c,Value.int .u64 c0_2,Value.slice c0_3.a c0_3.n c0_3.c,Value.slice c0_4.a c0_4.n c0_4.c,Value.slice c0_5.a c0_5.n c0_5.c,Value.slice c0_6.a c0_6.n c0_6.c,Value.int .i64 c0_7,Value.int .i64 c0_8,Value.slice c0_9.a c0_9.n c0_9.c,Value.slice c0_10.a c0_10.n c0_10.c]] h R:=by
 refine CallsH.enter (n:=128) Try.func8 rfl rfl rfl rfl ?_
 intro w0 aa ww S
 unfold L8 at H
 refine W.seq ?_
 refine W.region ?_
 refine ol_box S H rfl rfl rfl trivial ?_
 clear S H;intro p1 aa ww h1 H S
 refine ol_alloc S H ti33 rfl rfl trivial ?_
 clear S H;intro p2 aa ww h2 H S
 refine ol_alloc S H ti37 rfl rfl trivial ?_
 clear S H;intro p3 aa ww h3 H S
 refine ol_alloc S H ti37 rfl rfl trivial ?_
 clear S H;intro p4 aa ww h4 H S
 refine OL.za S fun _ S=>?_
 refine OL.nil ?_
 refine W.seq ?_
 refine W.seq ?_
 refine W.region ?_
 refine OL.zf S fa27_1 fun _ S=>?_
 obtain⟨x11,c,H⟩:=H
 refine OL.zl S fl22 c fun _ S=>?_
 refine OL.zq S (Lf.run_lens (S.ev rfl) rfl Try.underlying22) fun _ S=>?_
 refine OL.zf S fa27_9 fun _ S=>?_
 obtain⟨x14,c_1,H⟩:=H
 refine OL.zl S fl22 c_1 fun _ S=>?_
 refine OL.zq S (Lf.run_lens (S.ev rfl) rfl Try.underlying22) fun _ S=>?_
 refine OL.zq S (Lf.run_add (S.ev rfl) (S.ev rfl)) fun _ S=>?_
 refine OL.zf S fa27_10 fun _ S=>?_
 obtain⟨x18,c_2,H⟩:=H
 refine OL.zl S fl22 c_2 fun _ S=>?_
 refine OL.zq S (Lf.run_lens (S.ev rfl) rfl Try.underlying22) fun _ S=>?_
 refine OL.zq S (Lf.run_add (S.ev rfl) (S.ev rfl)) fun _ S=>?_
 refine OL.zq S (Lf.run_gtr (S.ev rfl) (S.ev rfl)) fun _ S=>?_
 refine OL.zm S fun _ S=>?_
 obtain⟨J,H,HK⟩:=H
 refine OL.cutN 5 (fun aa ww=>∃x27,St 128 ((27,Value.bool x27) :: [(1,Value.pointer (some p1)),(2,Value.pointer (some p2)),(3,Value.pointer (some p3)),(4,Value.pointer (some p4)),(10,Value.pointer (some (p1.add 1))),(11,Value.slice x11.a x11.n x11.c),(12,Value.int .i64 ((x11.n:Nat):Int)),(13,Value.pointer (some (p1.add 9))),(14,Value.slice x14.a x14.n x14.c),(15,Value.int .i64 ((x14.n:Nat):Int)),(16,Value.int .i64 (IntKind.i64.wrap (((x11.n:Nat):Int)+((x14.n:Nat):Int)))),(17,Value.pointer (some (p1.add 10))),(18,Value.slice x18.a x18.n x18.c),(19,Value.int .i64 ((x18.n:Nat):Int)),(20,Value.int .i64 (IntKind.i64.wrap ((IntKind.i64.wrap (((x11.n:Nat):Int)+((x14.n:Nat):Int)))+((x18.n:Nat):Int)))),(21,Value.bool (decide (20<(IntKind.i64.wrap ((IntKind.i64.wrap (((x11.n:Nat):Int)+((x14.n:Nat):Int)))+((x18.n:Nat):Int)))))),(22,Value.bool (decide (20<(IntKind.i64.wrap ((IntKind.i64.wrap (((x11.n:Nat):Int)+((x14.n:Nat):Int)))+((x18.n:Nat):Int))))))]) h4 w0 aa ww∧J x27) ?_ ?_
 ·
  rcases Bool.eq_false_or_eq_true (decide (20<(IntKind.i64.wrap ((IntKind.i64.wrap (((x11.n:Nat):Int)+((x14.n:Nat):Int)))+((x18.n:Nat):Int))))) with hb|hb
  ·
   replace H:=H.1 hb
   refine OL.zn S (GNo.mk rfl rfl hb) fun _ S=>?_
   refine OL.zn S (GNo.mk rfl rfl hb) fun _ S=>?_
   refine OL.zn S (GNo.mk rfl rfl hb) fun _ S=>?_
   refine OL.zn S (GNo.mk rfl rfl hb) fun _ S=>?_
   refine OL.zq S (Lf.run_pickT (S.ev rfl) hb (S.ev rfl)) fun _ S=>?_
   refine OL.nil ?_
   exact⟨_,S.sub _ ⟨rfl,rfl,rfl,rfl,rfl,rfl,rfl,rfl,rfl,rfl,rfl,rfl,rfl,rfl,rfl,rfl,rfl,rfl,trivial⟩,H⟩
  ·
   replace H:=H.2 hb
   refine OL.zf (hg:=GOk.mk rfl rfl hb) S fa27_3 fun _ S=>?_
   obtain⟨x24,c_3,H⟩:=H
   refine OL.zl (hg:=GOk.mk rfl rfl hb) S fl22 c_3 fun _ S=>?_
   refine OL.zq (hg:=GOk.mk rfl rfl hb) S (Lf.run_lens (S.ev rfl) rfl Try.underlying22) fun _ S=>?_
   refine OL.zq (hg:=GOk.mk rfl rfl hb) S (Lf.run_gtr (S.ev rfl) (S.ev rfl)) fun _ S=>?_
   refine OL.zq S (Lf.run_pickF (S.ev rfl) hb (S.ev rfl)) fun _ S=>?_
   refine OL.nil ?_
   exact⟨_,S.sub _ ⟨rfl,rfl,rfl,rfl,rfl,rfl,rfl,rfl,rfl,rfl,rfl,rfl,rfl,rfl,rfl,rfl,rfl,rfl,trivial⟩,H⟩
 ·
  clear S
  rintro aa ww ⟨x27,S,HJ⟩
  replace H:=HK _ HJ
  clear HK HJ
  refine OL.zm S fun _ S=>?_
  obtain⟨J_1,H,HK_1⟩:=H
  refine OL.cutN 5 (fun aa ww=>∃x33,St 128 ((33,Value.bool x33) :: [(1,Value.pointer (some p1)),(2,Value.pointer (some p2)),(3,Value.pointer (some p3)),(4,Value.pointer (some p4)),(10,Value.pointer (some (p1.add 1))),(11,Value.slice x11.a x11.n x11.c),(12,Value.int .i64 ((x11.n:Nat):Int)),(13,Value.pointer (some (p1.add 9))),(14,Value.slice x14.a x14.n x14.c),(15,Value.int .i64 ((x14.n:Nat):Int)),(16,Value.int .i64 (IntKind.i64.wrap (((x11.n:Nat):Int)+((x14.n:Nat):Int)))),(17,Value.pointer (some (p1.add 10))),(18,Value.slice x18.a x18.n x18.c),(19,Value.int .i64 ((x18.n:Nat):Int)),(20,Value.int .i64 (IntKind.i64.wrap ((IntKind.i64.wrap (((x11.n:Nat):Int)+((x14.n:Nat):Int)))+((x18.n:Nat):Int)))),(21,Value.bool (decide (20<(IntKind.i64.wrap ((IntKind.i64.wrap (((x11.n:Nat):Int)+((x14.n:Nat):Int)))+((x18.n:Nat):Int)))))),(22,Value.bool (decide (20<(IntKind.i64.wrap ((IntKind.i64.wrap (((x11.n:Nat):Int)+((x14.n:Nat):Int)))+((x18.n:Nat):Int)))))),(27,Value.bool x27),(28,Value.bool x27)]) h4 w0 aa ww∧J_1 x33) ?_ ?_
  ·
   rcases Bool.eq_false_or_eq_true x27 with hb_1|hb_1
   ·
    replace H:=H.1 hb_1
    refine OL.zn S (GNo.mk rfl rfl hb_1) fun _ S=>?_
    refine OL.zn S (GNo.mk rfl rfl hb_1) fun _ S=>?_
    refine OL.zn S (GNo.mk rfl rfl hb_1) fun _ S=>?_
    refine OL.zn S (GNo.mk rfl rfl hb_1) fun _ S=>?_
    refine OL.zq S (Lf.run_pickT (S.ev rfl) hb_1 (S.ev rfl)) fun _ S=>?_
    refine OL.nil ?_
    exact⟨_,S.sub _ ⟨rfl,rfl,rfl,rfl,rfl,rfl,rfl,rfl,rfl,rfl,rfl,rfl,rfl,rfl,rfl,rfl,rfl,rfl,rfl,rfl,trivial⟩,H⟩
   ·
    replace H:=H.2 hb_1
    refine OL.zf (hg:=GOk.mk rfl rfl hb_1) S fa27_4 fun _ S=>?_
    obtain⟨x30,c_4,H⟩:=H
    refine OL.zl (hg:=GOk.mk rfl rfl hb_1) S fl24 c_4 fun _ S=>?_
    refine OL.zq (hg:=GOk.mk rfl rfl hb_1) S (Lf.run_lens (S.ev rfl) rfl Try.underlying24) fun _ S=>?_
    refine OL.zq (hg:=GOk.mk rfl rfl hb_1) S (Lf.run_gtr (S.ev rfl) (S.ev rfl)) fun _ S=>?_
    refine OL.zq S (Lf.run_pickF (S.ev rfl) hb_1 (S.ev rfl)) fun _ S=>?_
    refine OL.nil ?_
    exact⟨_,S.sub _ ⟨rfl,rfl,rfl,rfl,rfl,rfl,rfl,rfl,rfl,rfl,rfl,rfl,rfl,rfl,rfl,rfl,rfl,rfl,rfl,rfl,trivial⟩,H⟩
  ·
   clear S
   rintro aa ww ⟨x33,S,HJ⟩
   replace H:=HK_1 _ HJ
   clear HK_1 HJ
   refine OL.zm S fun _ S=>?_
   obtain⟨J_2,H,HK_2⟩:=H
   refine OL.cutN 9 (fun aa ww=>∃x43,St 128 ((43,Value.bool x43) :: [(1,Value.pointer (some p1)),(2,Value.pointer (some p2)),(3,Value.pointer (some p3)),(4,Value.pointer (some p4)),(10,Value.pointer (some (p1.add 1))),(11,Value.slice x11.a x11.n x11.c),(12,Value.int .i64 ((x11.n:Nat):Int)),(13,Value.pointer (some (p1.add 9))),(14,Value.slice x14.a x14.n x14.c),(15,Value.int .i64 ((x14.n:Nat):Int)),(16,Value.int .i64 (IntKind.i64.wrap (((x11.n:Nat):Int)+((x14.n:Nat):Int)))),(17,Value.pointer (some (p1.add 10))),(18,Value.slice x18.a x18.n x18.c),(19,Value.int .i64 ((x18.n:Nat):Int)),(20,Value.int .i64 (IntKind.i64.wrap ((IntKind.i64.wrap (((x11.n:Nat):Int)+((x14.n:Nat):Int)))+((x18.n:Nat):Int)))),(21,Value.bool (decide (20<(IntKind.i64.wrap ((IntKind.i64.wrap (((x11.n:Nat):Int)+((x14.n:Nat):Int)))+((x18.n:Nat):Int)))))),(22,Value.bool (decide (20<(IntKind.i64.wrap ((IntKind.i64.wrap (((x11.n:Nat):Int)+((x14.n:Nat):Int)))+((x18.n:Nat):Int)))))),(27,Value.bool x27),(28,Value.bool x27),(33,Value.bool x33),(34,Value.bool x33)]) h4 w0 aa ww∧J_2 x43) ?_ ?_
   ·
    rcases Bool.eq_false_or_eq_true x33 with hb_2|hb_2
    ·
     replace H:=H.1 hb_2
     refine OL.zn S (GNo.mk rfl rfl hb_2) fun _ S=>?_
     refine OL.zn S (GNo.mk rfl rfl hb_2) fun _ S=>?_
     refine OL.zn S (GNo.mk rfl rfl hb_2) fun _ S=>?_
     refine OL.zn S (GNo.mk rfl rfl hb_2) fun _ S=>?_
     refine OL.zn S (GNo.mk rfl rfl hb_2) fun _ S=>?_
     refine OL.zn S (GNo.mk rfl rfl hb_2) fun _ S=>?_
     refine OL.zn S (GNo.mk rfl rfl hb_2) fun _ S=>?_
     refine OL.zn S (GNo.mk rfl rfl hb_2) fun _ S=>?_
     refine OL.zq S (Lf.run_pickT (S.ev rfl) hb_2 (S.ev rfl)) fun _ S=>?_
     refine OL.nil ?_
     exact⟨_,S.sub _ ⟨rfl,rfl,rfl,rfl,rfl,rfl,rfl,rfl,rfl,rfl,rfl,rfl,rfl,rfl,rfl,rfl,rfl,rfl,rfl,rfl,rfl,rfl,trivial⟩,H⟩
    ·
     replace H:=H.2 hb_2
     refine OL.zf (hg:=GOk.mk rfl rfl hb_2) S fa27_5 fun _ S=>?_
     obtain⟨x36,c_5,H⟩:=H
     refine OL.zl (hg:=GOk.mk rfl rfl hb_2) S fl25 c_5 fun _ S=>?_
     refine OL.zq (hg:=GOk.mk rfl rfl hb_2) S (Lf.run_lens (S.ev rfl) rfl Try.underlying25) fun _ S=>?_
     refine OL.zf (hg:=GOk.mk rfl rfl hb_2) S fa27_6 fun _ S=>?_
     obtain⟨x39,c_6,H⟩:=H
     refine OL.zl (hg:=GOk.mk rfl rfl hb_2) S fl25 c_6 fun _ S=>?_
     refine OL.zq (hg:=GOk.mk rfl rfl hb_2) S (Lf.run_lens (S.ev rfl) rfl Try.underlying25) fun _ S=>?_
     refine OL.zq (hg:=GOk.mk rfl rfl hb_2) S (Lf.run_add (S.ev rfl) (S.ev rfl)) fun _ S=>?_
     refine OL.zq (hg:=GOk.mk rfl rfl hb_2) S (Lf.run_gtr (S.ev rfl) (S.ev rfl)) fun _ S=>?_
     refine OL.zq S (Lf.run_pickF (S.ev rfl) hb_2 (S.ev rfl)) fun _ S=>?_
     refine OL.nil ?_
     exact⟨_,S.sub _ ⟨rfl,rfl,rfl,rfl,rfl,rfl,rfl,rfl,rfl,rfl,rfl,rfl,rfl,rfl,rfl,rfl,rfl,rfl,rfl,rfl,rfl,rfl,trivial⟩,H⟩
   ·
    clear S
    rintro aa ww ⟨x43,S,HJ⟩
    replace H:=HK_2 _ HJ
    clear HK_2 HJ
    refine OL.nil ?_
    refine W.cond S (b:=x43) rfl (fun hb_3=>?_) (fun hb_3=>?_)
    ·
     replace H:=H.1 hb_3
     refine W.seq ?_
     refine W.region ?_
     refine OL.zq S (Lf.run_build (cs:=#[Value.int .i64 0,Value.slice (⟨none,0,0⟩:Sv).a (⟨none,0,0⟩:Sv).n (⟨none,0,0⟩:Sv).c,Value.map none,Value.map none]) pl33 ti33 (parts_map S rfl) (by kernel_rfl)) fun _ S=>?_
     refine OL.zq S (Lf.run_build (cs:=#[Value.int .i64 0,Value.slice (⟨none,0,0⟩:Sv).a (⟨none,0,0⟩:Sv).n (⟨none,0,0⟩:Sv).c,Value.slice (⟨none,0,0⟩:Sv).a (⟨none,0,0⟩:Sv).n (⟨none,0,0⟩:Sv).c,Value.int .i64 0,Value.string (⟨#[]⟩:ByteArray),Value.bool false,Value.int .i64 0,Value.slice (⟨none,0,0⟩:Sv).a (⟨none,0,0⟩:Sv).n (⟨none,0,0⟩:Sv).c,Value.slice (⟨none,0,0⟩:Sv).a (⟨none,0,0⟩:Sv).n (⟨none,0,0⟩:Sv).c]) pl37 ti37 (parts_map S rfl) (by kernel_rfl)) fun _ S=>?_
     refine OL.zq S (Lf.run_build (cs:=#[Value.int .i64 0,Value.slice (⟨none,0,0⟩:Sv).a (⟨none,0,0⟩:Sv).n (⟨none,0,0⟩:Sv).c,Value.slice (⟨none,0,0⟩:Sv).a (⟨none,0,0⟩:Sv).n (⟨none,0,0⟩:Sv).c,Value.int .i64 0,Value.string (⟨#[]⟩:ByteArray),Value.bool false,Value.int .i64 0,Value.slice (⟨none,0,0⟩:Sv).a (⟨none,0,0⟩:Sv).n (⟨none,0,0⟩:Sv).c,Value.slice (⟨none,0,0⟩:Sv).a (⟨none,0,0⟩:Sv).n (⟨none,0,0⟩:Sv).c]) pl37 ti37 (parts_map S rfl) (by kernel_rfl)) fun _ S=>?_
     refine ol_stoA S H rfl rfl ti33 trivial ?_
     clear S H;intro aa ww h5 H S
     refine ol_stoA S H rfl rfl ti37 trivial ?_
     clear S H;intro aa ww h6 H S
     refine ol_stoA S H rfl rfl ti37 trivial ?_
     clear S H;intro aa ww h7 H S
     refine OL.za S fun _ S=>?_
     refine OL.nil ?_
     refine W.ret ?_
     obtain⟨y,y_1,y_2,y_3,c_7,c_8,c_9,c_10,H⟩:=H
     obtain⟨y_4,y_5,y_6,y_7,y_8,y_9,y_10,y_11,y_12,c_11,c_12,c_13,c_14,c_15,c_16,c_17,c_18,c_19,H⟩:=H
     obtain⟨y_13,y_14,y_15,y_16,y_17,y_18,y_19,y_20,y_21,c_20,c_21,c_22,c_23,c_24,c_25,c_26,c_27,c_28,H⟩:=H
     exact Ret.gen S rfl (RV.cellA (cs:=[Value.int .i64 y,Value.slice y_1.a y_1.n y_1.c,Value.map y_2,Value.map y_3]) rfl ag33 ti33 ⟨c_7,c_8,c_9,c_10,trivial⟩ (RV.cellA (cs:=[Value.int .i64 y_4,Value.slice y_5.a y_5.n y_5.c,Value.slice y_6.a y_6.n y_6.c,Value.int .i64 y_7,Value.string y_8,Value.bool y_9,Value.int .i64 y_10,Value.slice y_11.a y_11.n y_11.c,Value.slice y_12.a y_12.n y_12.c]) rfl ag37 ti37 ⟨c_11,c_12,c_13,c_14,c_15,c_16,c_17,c_18,c_19,trivial⟩ (RV.cellA (cs:=[Value.int .i64 y_13,Value.slice y_14.a y_14.n y_14.c,Value.slice y_15.a y_15.n y_15.c,Value.int .i64 y_16,Value.string y_17,Value.bool y_18,Value.int .i64 y_19,Value.slice y_20.a y_20.n y_20.c,Value.slice y_21.a y_21.n y_21.c]) rfl ag37 ti37 ⟨c_20,c_21,c_22,c_23,c_24,c_25,c_26,c_27,c_28,trivial⟩ (RV.tmp rfl RV.nil)))) rfl H
    ·
     replace H:=H.2 hb_3
     refine W.skip ?_
     refine W.seq ?_
     refine W.seq ?_
     refine W.region ?_
     refine OL.za S fun _ S=>?_
     refine OL.nil ?_
     refine W.block ?_
     obtain⟨I,m,H,HB_1⟩:=H
     refine W.loopS (σ:=Int×Heap) (fun s aa ww=>St 128 [(1,Value.pointer (some p1)),(2,Value.pointer (some p2)),(3,Value.pointer (some p3)),(4,Value.pointer (some p4)),(6,Value.int .i64 s.1)] s.2 w0 aa ww∧I s.1 s.2) (fun s=>m s.1 s.2) (0,h4) ⟨S.sub _ ⟨rfl,rfl,rfl,rfl,rfl,trivial⟩,H⟩ ?_
     clear H S
     rintro ⟨i6,h8⟩ aa ww ⟨S,HI⟩
     replace S:St 128 [(1,Value.pointer (some p1)),(2,Value.pointer (some p2)),(3,Value.pointer (some p3)),(4,Value.pointer (some p4)),(6,Value.int .i64 i6)] h8 w0 aa ww:=S
     have H:=HB_1 i6 h8 HI
     clear HI
     refine W.seq ?_
     refine W.seq ?_
     refine W.region ?_
     refine OL.zm S fun _ S=>?_
     refine OL.zf S fa27_4 fun _ S=>?_
     obtain⟨x49,c_29,H⟩:=H
     refine OL.zl S fl24 c_29 fun _ S=>?_
     refine OL.zq S (Lf.run_lens (S.ev rfl) rfl Try.underlying24) fun _ S=>?_
     refine OL.zq S (Lf.run_lss (S.ev rfl) (S.ev rfl)) fun _ S=>?_
     refine OL.nil ?_
     refine W.cond S (b:=(decide (i6<((x49.n:Nat):Int)))) rfl (fun hb_4=>?_) (fun hb_4=>?_)
     ·
      replace H:=H.1 hb_4
      refine W.skip ?_
      refine W.seq ?_
      refine W.block ?_
      refine W.seq ?_
      refine W.region ?_
      refine OL.zf S fa27_4 fun _ S=>?_
      obtain⟨x55,c_30,H⟩:=H
      refine OL.zl S fl24 c_30 fun _ S=>?_
      refine OL.zm S fun _ S=>?_
      obtain⟨q57,e,e_1,e_2,H⟩:=H
      refine OL.zq S (Lf.run_ixs (S.ev rfl) (S.ev rfl) Try.underlying24 ti35 e e_1 e_2) fun _ S=>?_
      obtain⟨y58,y58_1,y58_2,y58_3,y58_4,y58_5,c_54,c_55,c_56,c_57,c_58,c_59,H⟩:=H
      refine OL.zq S (Lf.run_ldA (cs:=[Value.int .i64 y58,Value.string y58_1,Value.bool y58_2,Value.int .i64 y58_3,Value.slice y58_4.a y58_4.n y58_4.c,Value.slice y58_5.a y58_5.n y58_5.c]) (S.ev rfl) ag35 ti35 (by rw[S.heap];exact RowL.toRow ⟨c_54,c_55,c_56,c_57,c_58,c_59,trivial⟩)) fun _ S=>?_
      refine ol_cal S H isfn18 rfl rfl trivial ?_
      clear S H;intro u aa ww h9 H S
      obtain⟨x59,rfl,H⟩:=H
      refine OL.zq S (Lf.run_not (S.ev rfl)) fun _ S=>?_
      refine OL.nil ?_
      refine W.cond S (b:=(!x59)) rfl (fun hb_5=>?_) (fun hb_5=>?_)
      ·
       replace H:=H.1 hb_5
       refine W.seq ?_
       refine W.region ?_
       refine OL.zq S (Lf.run_build (cs:=#[Value.int .i64 0,Value.slice (⟨none,0,0⟩:Sv).a (⟨none,0,0⟩:Sv).n (⟨none,0,0⟩:Sv).c,Value.map none,Value.map none]) pl33 ti33 (parts_map S rfl) (by kernel_rfl)) fun _ S=>?_
       refine OL.zq S (Lf.run_build (cs:=#[Value.int .i64 0,Value.slice (⟨none,0,0⟩:Sv).a (⟨none,0,0⟩:Sv).n (⟨none,0,0⟩:Sv).c,Value.slice (⟨none,0,0⟩:Sv).a (⟨none,0,0⟩:Sv).n (⟨none,0,0⟩:Sv).c,Value.int .i64 0,Value.string (⟨#[]⟩:ByteArray),Value.bool false,Value.int .i64 0,Value.slice (⟨none,0,0⟩:Sv).a (⟨none,0,0⟩:Sv).n (⟨none,0,0⟩:Sv).c,Value.slice (⟨none,0,0⟩:Sv).a (⟨none,0,0⟩:Sv).n (⟨none,0,0⟩:Sv).c]) pl37 ti37 (parts_map S rfl) (by kernel_rfl)) fun _ S=>?_
       refine OL.zq S (Lf.run_build (cs:=#[Value.int .i64 0,Value.slice (⟨none,0,0⟩:Sv).a (⟨none,0,0⟩:Sv).n (⟨none,0,0⟩:Sv).c,Value.slice (⟨none,0,0⟩:Sv).a (⟨none,0,0⟩:Sv).n (⟨none,0,0⟩:Sv).c,Value.int .i64 0,Value.string (⟨#[]⟩:ByteArray),Value.bool false,Value.int .i64 0,Value.slice (⟨none,0,0⟩:Sv).a (⟨none,0,0⟩:Sv).n (⟨none,0,0⟩:Sv).c,Value.slice (⟨none,0,0⟩:Sv).a (⟨none,0,0⟩:Sv).n (⟨none,0,0⟩:Sv).c]) pl37 ti37 (parts_map S rfl) (by kernel_rfl)) fun _ S=>?_
       refine ol_stoA S H rfl rfl ti33 trivial ?_
       clear S H;intro aa ww h10 H S
       refine ol_stoA S H rfl rfl ti37 trivial ?_
       clear S H;intro aa ww h11 H S
       refine ol_stoA S H rfl rfl ti37 trivial ?_
       clear S H;intro aa ww h12 H S
       refine OL.za S fun _ S=>?_
       refine OL.nil ?_
       refine W.ret ?_
       obtain⟨y_22,y_23,y_24,y_25,c_32,c_33,c_34,c_35,H⟩:=H
       obtain⟨y_26,y_27,y_28,y_29,y_30,y_31,y_32,y_33,y_34,c_36,c_37,c_38,c_39,c_40,c_41,c_42,c_43,c_44,H⟩:=H
       obtain⟨y_35,y_36,y_37,y_38,y_39,y_40,y_41,y_42,y_43,c_45,c_46,c_47,c_48,c_49,c_50,c_51,c_52,c_53,H⟩:=H
       exact Ret.gen S rfl (RV.cellA (cs:=[Value.int .i64 y_22,Value.slice y_23.a y_23.n y_23.c,Value.map y_24,Value.map y_25]) rfl ag33 ti33 ⟨c_32,c_33,c_34,c_35,trivial⟩ (RV.cellA (cs:=[Value.int .i64 y_26,Value.slice y_27.a y_27.n y_27.c,Value.slice y_28.a y_28.n y_28.c,Value.int .i64 y_29,Value.string y_30,Value.bool y_31,Value.int .i64 y_32,Value.slice y_33.a y_33.n y_33.c,Value.slice y_34.a y_34.n y_34.c]) rfl ag37 ti37 ⟨c_36,c_37,c_38,c_39,c_40,c_41,c_42,c_43,c_44,trivial⟩ (RV.cellA (cs:=[Value.int .i64 y_35,Value.slice y_36.a y_36.n y_36.c,Value.slice y_37.a y_37.n y_37.c,Value.int .i64 y_38,Value.string y_39,Value.bool y_40,Value.int .i64 y_41,Value.slice y_42.a y_42.n y_42.c,Value.slice y_43.a y_43.n y_43.c]) rfl ag37 ti37 ⟨c_45,c_46,c_47,c_48,c_49,c_50,c_51,c_52,c_53,trivial⟩ (RV.tmp rfl RV.nil)))) rfl H
      ·
       replace H:=H.2 hb_5
       refine W.skip ?_
       refine W.region ?_
       refine OL.zm S fun _ S=>?_
       refine OL.zq S (Lf.run_add (S.ev rfl) (S.ev rfl)) fun _ S=>?_
       refine OL.za S fun _ S=>?_
       refine OL.nil ?_
       exact⟨((IntKind.i64.wrap (i6+1)),h9),⟨S.sub _ ⟨rfl,rfl,rfl,rfl,rfl,trivial⟩,H.1⟩,H.2⟩
     ·
      replace H:=H.2 hb_4
      refine W.exit_ ?_
      refine xhit ?_
      refine W.seq ?_
      refine W.region ?_
      refine OL.zf S fa27_0 fun _ S=>?_
      obtain⟨x65,c_60,H⟩:=H
      refine OL.zl S fl3 c_60 fun _ S=>?_
      refine OL.zq S (Lf.run_cvi Try.underlying3 Try.underlying23 (S.ev rfl)) fun _ S=>?_
      refine OL.zq S (Lf.run_rem (S.ev rfl) (S.ev rfl) (by decide)) fun _ S=>?_
      refine OL.zq S (Lf.run_cvi Try.underlying23 Try.underlying3 (S.ev rfl)) fun _ S=>?_
      refine OL.zf S fa27_0 fun _ S=>?_
      refine ol_sto S H rfl rfl rfl ti3 trivial ?_
      clear S H;intro aa ww h13 H S
      refine OL.nil ?_
      refine W.seq ?_
      refine W.region ?_
      refine OL.zf S fa27_7 fun _ S=>?_
      obtain⟨x71,c_61,H⟩:=H
      refine OL.zl S fl3 c_61 fun _ S=>?_
      refine OL.zq S (Lf.run_cvi Try.underlying3 Try.underlying23 (S.ev rfl)) fun _ S=>?_
      refine OL.zq S (Lf.run_rem (S.ev rfl) (S.ev rfl) (by decide)) fun _ S=>?_
      refine OL.zq S (Lf.run_cvi Try.underlying23 Try.underlying3 (S.ev rfl)) fun _ S=>?_
      refine OL.zf S fa27_8 fun _ S=>?_
      obtain⟨x76,c_62,H⟩:=H
      refine OL.zl S fl3 c_62 fun _ S=>?_
      refine OL.zq S (Lf.run_cvi Try.underlying3 Try.underlying23 (S.ev rfl)) fun _ S=>?_
      refine OL.zq S (Lf.run_rem (S.ev rfl) (S.ev rfl) (by decide)) fun _ S=>?_
      refine OL.zq S (Lf.run_cvi Try.underlying23 Try.underlying3 (S.ev rfl)) fun _ S=>?_
      refine OL.zf S fa27_7 fun _ S=>?_
      refine ol_sto S H rfl rfl rfl ti3 trivial ?_
      clear S H;intro aa ww h14 H S
      refine OL.zf S fa27_8 fun _ S=>?_
      refine ol_sto S H rfl rfl rfl ti3 trivial ?_
      clear S H;intro aa ww h15 H S
      refine OL.nil ?_
      refine W.seq ?_
      refine W.region ?_
      refine OL.za S fun _ S=>?_
      refine OL.nil ?_
      refine W.seq ?_
      refine W.seq ?_
      refine W.region ?_
      refine OL.za S fun _ S=>?_
      refine OL.nil ?_
      refine W.block ?_
      obtain⟨I_1,m_1,H,HB⟩:=H
      refine W.loopS (σ:=Sv×Int×Heap) (fun s aa ww=>St 128 [(1,Value.pointer (some p1)),(2,Value.pointer (some p2)),(3,Value.pointer (some p3)),(4,Value.pointer (some p4)),(7,Value.slice s.1.a s.1.n s.1.c),(8,Value.int .i64 s.2.1)] s.2.2 w0 aa ww∧I_1 s.1 s.2.1 s.2.2) (fun s=>m_1 s.1 s.2.1 s.2.2) ((⟨none,0,0⟩:Sv),0,h15) ⟨S.sub _ ⟨rfl,rfl,rfl,rfl,rfl,rfl,trivial⟩,H⟩ ?_
      clear H S
      rintro ⟨ways7,i8,h16⟩ aa ww ⟨S,HI⟩
      replace S:St 128 [(1,Value.pointer (some p1)),(2,Value.pointer (some p2)),(3,Value.pointer (some p3)),(4,Value.pointer (some p4)),(7,Value.slice ways7.a ways7.n ways7.c),(8,Value.int .i64 i8)] h16 w0 aa ww:=S
      have H:=HB ways7 i8 h16 HI
      clear HI
      refine W.seq ?_
      refine W.seq ?_
      refine W.region ?_
      refine OL.zm S fun _ S=>?_
      refine OL.zq S (Lf.run_lss (S.ev rfl) (S.ev rfl)) fun _ S=>?_
      refine OL.nil ?_
      refine W.cond S (b:=(decide (i8<8))) rfl (fun hb_6=>?_) (fun hb_6=>?_)
      ·
       replace H:=H.1 hb_6
       refine W.skip ?_
       refine W.seq ?_
       refine W.block ?_
       refine W.region ?_
       refine OL.zm S fun _ S=>?_
       refine OL.zf S fa27_2 fun _ S=>?_
       obtain⟨x88,c_63,H⟩:=H
       refine OL.zl S fl23 c_63 fun _ S=>?_
       refine OL.zm S fun _ S=>?_
       refine OL.zq S (Lf.run_mul (S.ev rfl) (S.ev rfl)) fun _ S=>?_
       obtain⟨c_65,H⟩:=H
       refine OL.zq S (Lf.run_shr (S.ev rfl) (S.ev rfl) c_65) fun _ S=>?_
       refine OL.zq S (Lf.run_rem (S.ev rfl) (S.ev rfl) (by decide)) fun _ S=>?_
       refine OL.zq S (Lf.run_cvi Try.underlying23 Try.underlying3 (S.ev rfl)) fun _ S=>?_
       refine ol_newS S H Try.underlying25 ti3 (by decide) (parts_map S rfl) (by kernel_rfl) (by decide) rfl trivial ?_
       clear S H;intro s94 aa ww h17 H S
       refine ol_appS S H Try.underlying25 ti3 rfl rfl rfl trivial ?_
       clear S H;intro s95 aa ww h18 H S
       refine OL.za S fun _ S=>?_
       refine OL.nil ?_
       refine W.region ?_
       refine OL.zm S fun _ S=>?_
       refine OL.zq S (Lf.run_add (S.ev rfl) (S.ev rfl)) fun _ S=>?_
       refine OL.za S fun _ S=>?_
       refine OL.nil ?_
       exact⟨(s95,(IntKind.i64.wrap (i8+1)),h18),⟨S.sub _ ⟨rfl,rfl,rfl,rfl,rfl,rfl,trivial⟩,H.1⟩,H.2⟩
      ·
       replace H:=H.2 hb_6
       refine W.exit_ ?_
       refine xhit ?_
       refine W.seq ?_
       replace S:=S.sub [(1,Value.pointer (some p1)),(2,Value.pointer (some p2)),(3,Value.pointer (some p3)),(4,Value.pointer (some p4)),(7,Value.slice ways7.a ways7.n ways7.c)] ⟨rfl,rfl,rfl,rfl,rfl,trivial⟩
       refine W.regionD S (by kernel_rfl) ?_
       clear S;intro ww S
       refine AN.zq 0 S rfl (fun _=>Lf.run_fa (S.ev rfl) fa27_0) fun _ S=>?_
       refine AN.zq 2 S rfl (fun _=>Lf.run_fa (S.ev rfl) fa27_1) fun _ S=>?_
       refine AN.zq 4 S rfl (fun _=>Lf.run_fa (S.ev rfl) fa27_0) fun _ S=>?_
       refine AN.zq 8 S rfl (fun _=>Lf.run_move (S.ev rfl)) fun _ S=>?_
       refine AN.zq 12 S rfl (fun _=>Lf.run_fa (S.ev rfl) fa27_3) fun _ S=>?_
       obtain⟨IJ,Sq,hSq,hini,H⟩:=H
       obtain⟨x97,c_66,H⟩:=H
       obtain⟨x99,c_67,H⟩:=H
       obtain⟨x101,c_68,H⟩:=H
       obtain⟨x108,c_69,H⟩:=H
       obtain⟨Oq,Oq_1,Oq_2,Oq_3,Oq_4,Oq_5,H⟩:=H
       let gq1:IOp:=⟨1,97,true,[],fun lq=>Value.int .i64 x97⟩
       let gq3:IOp:=⟨3,99,true,[],fun lq=>Value.slice x99.a x99.n x99.c⟩
       let gq5:IOp:=⟨5,101,true,[],fun lq=>Value.int .i64 x101⟩
       let gq6:IOp:=⟨6,102,true,[6],fun lq=>Value.slice (pS (nth lq 0)).a (pS (nth lq 0)).n (pS (nth lq 0)).c⟩
       let gq7:IOp:=⟨7,103,true,[7],fun lq=>Value.map (some (pN (nth lq 0)))⟩
       let gq9:IOp:=⟨9,100009,false,[],fun lq=>undef⟩
       let gq10:IOp:=⟨10,105,true,[7],fun lq=>Value.map (some (pN (nth lq 0)))⟩
       let gq11:IOp:=⟨11,106,true,[11],fun lq=>Value.map (some (pN (nth lq 0)))⟩
       let gq13:IOp:=⟨13,108,true,[],fun lq=>Value.slice x108.a x108.n x108.c⟩
       let gq14:IOp:=⟨14,100014,false,[],fun lq=>undef⟩
       let gq15:IOp:=⟨15,109,true,[11],fun lq=>Value.map (some (pN (nth lq 0)))⟩
       let gq16:IOp:=⟨16,110,true,[6,7,11],fun lq=>Value.agg #[Value.int .i64 x97,Value.slice (pS (nth lq 0)).a (pS (nth lq 0)).n (pS (nth lq 0)).c,Value.map (some (pN (nth lq 1))),Value.map (some (pN (nth lq 2)))]⟩
       let gq17:IOp:=⟨17,9,true,[17],fun lq=>Value.pointer (some (pA (nth lq 0)))⟩
       replace S:=S.sub [(1,Value.pointer (some p1)),(2,Value.pointer (some p2)),(3,Value.pointer (some p3)),(4,Value.pointer (some p4)),(7,Value.slice ways7.a ways7.n ways7.c),(96,Value.pointer (some p1)),(98,Value.pointer (some (p1.add 1))),(100,Value.pointer (some p1)),(104,Value.slice ways7.a ways7.n ways7.c),(107,Value.pointer (some (p1.add 3)))] ⟨rfl,rfl,rfl,rfl,rfl,rfl,rfl,rfl,rfl,rfl,trivial⟩
       refine AN.inv (fuel:=1) (fun Lg Xg hz=>IJ (Lg 6) (Lg 7) (Lg 9) (Lg 11) (Lg 14) (Lg 17) (pS (Xg 6)) (pN (Xg 7)) (pN (Xg 11)) (pA (Xg 17)) hz) (fun _=>undef) [(gq1,[]),(gq3,[]),(gq5,[]),(gq6,[gq3,gq5]),(gq7,[]),(gq9,[gq7]),(gq10,[gq7,gq9]),(gq11,[]),(gq13,[]),(gq14,[gq11,gq13]),(gq15,[gq11,gq14]),(gq16,[gq1,gq6,gq7,gq9,gq10,gq11,gq14,gq15]),(gq17,[])] [(1,97,true,[],[]),(3,99,true,[],[]),(5,101,true,[],[]),(6,102,true,[6],[3,5]),(7,103,true,[7],[]),(9,100009,false,[],[7]),(10,105,true,[7],[7,9]),(11,106,true,[11],[]),(13,108,true,[],[]),(14,100014,false,[],[11,13]),(15,109,true,[11],[11,14]),(16,110,true,[6,7,11],[1,6,7,9,10,11,14,15]),(17,9,true,[17],[])] [1,2,3,4,7,96,98,100,104,107] S rfl rfl (by kernel_rfl) (by simp) ?_ ⟨?_,?_,?_,?_,?_,?_,?_,?_,?_,?_,?_,?_,?_,trivial⟩ ?_
       ·
        intro Lg hLg
        have hz:=hini (pS undef) (pN undef) (pN undef) (pA undef)
        have hl6:Lg 6=false:=hLg (6,102,true,[6],[3,5]) (by simp)
        have hl7:Lg 7=false:=hLg (7,103,true,[7],[]) (by simp)
        have hl9:Lg 9=false:=hLg (9,100009,false,[],[7]) (by simp)
        have hl11:Lg 11=false:=hLg (11,106,true,[11],[]) (by simp)
        have hl14:Lg 14=false:=hLg (14,100014,false,[],[11,13]) (by simp)
        have hl17:Lg 17=false:=hLg (17,9,true,[17],[]) (by simp)
        show IJ (Lg 6) (Lg 7) (Lg 9) (Lg 11) (Lg 14) (Lg 17) (pS undef) (pN undef) (pN undef) (pA undef) h16
        rw[hl6,hl7,hl9,hl11,hl14,hl17]
        exact hz
       ·
        refine⟨_,rfl,rfl,?_⟩
        intro Lg Xg aa ww h53 Ef S hinv hl0 hok
        replace hinv:IJ (Lg 6) (Lg 7) (Lg 9) (Lg 11) (Lg 14) (Lg 17) (pS (Xg 6)) (pN (Xg 7)) (pN (Xg 11)) (pA (Xg 17)) h53:=hinv
        replace S:St 128 ((1,Value.pointer (some p1)) :: (2,Value.pointer (some p2)) :: (3,Value.pointer (some p3)) :: (4,Value.pointer (some p4)) :: (7,Value.slice ways7.a ways7.n ways7.c) :: (96,Value.pointer (some p1)) :: (98,Value.pointer (some (p1.add 1))) :: (100,Value.pointer (some p1)) :: (104,Value.slice ways7.a ways7.n ways7.c) :: (107,Value.pointer (some (p1.add 3))) :: Ef) h53 w0 aa ww:=S
        have hTg:=hSq (Lg 6) (Lg 7) (Lg 9) (Lg 11) (Lg 14) (Lg 17) (pS (Xg 6)) (pN (Xg 7)) (pN (Xg 11)) (pA (Xg 17)) _ hinv
        refine OL.zq S (Lf.run_ld (S.ev rfl) fl3 (S.cl (c_66 _ hTg))) fun _ S=>?_
        refine OL.nil ?_
        exact⟨undef,_,S,hinv⟩
       ·
        refine⟨_,rfl,rfl,?_⟩
        intro Lg Xg aa ww h54 Ef S hinv hl0 hok
        replace hinv:IJ (Lg 6) (Lg 7) (Lg 9) (Lg 11) (Lg 14) (Lg 17) (pS (Xg 6)) (pN (Xg 7)) (pN (Xg 11)) (pA (Xg 17)) h54:=hinv
        replace S:St 128 ((1,Value.pointer (some p1)) :: (2,Value.pointer (some p2)) :: (3,Value.pointer (some p3)) :: (4,Value.pointer (some p4)) :: (7,Value.slice ways7.a ways7.n ways7.c) :: (96,Value.pointer (some p1)) :: (98,Value.pointer (some (p1.add 1))) :: (100,Value.pointer (some p1)) :: (104,Value.slice ways7.a ways7.n ways7.c) :: (107,Value.pointer (some (p1.add 3))) :: Ef) h54 w0 aa ww:=S
        have hTg:=hSq (Lg 6) (Lg 7) (Lg 9) (Lg 11) (Lg 14) (Lg 17) (pS (Xg 6)) (pN (Xg 7)) (pN (Xg 11)) (pA (Xg 17)) _ hinv
        refine OL.zq S (Lf.run_ld (S.ev rfl) fl22 (S.cl (c_67 _ hTg))) fun _ S=>?_
        refine OL.nil ?_
        exact⟨undef,_,S,hinv⟩
       ·
        refine⟨_,rfl,rfl,?_⟩
        intro Lg Xg aa ww h55 Ef S hinv hl0 hok
        replace hinv:IJ (Lg 6) (Lg 7) (Lg 9) (Lg 11) (Lg 14) (Lg 17) (pS (Xg 6)) (pN (Xg 7)) (pN (Xg 11)) (pA (Xg 17)) h55:=hinv
        replace S:St 128 ((1,Value.pointer (some p1)) :: (2,Value.pointer (some p2)) :: (3,Value.pointer (some p3)) :: (4,Value.pointer (some p4)) :: (7,Value.slice ways7.a ways7.n ways7.c) :: (96,Value.pointer (some p1)) :: (98,Value.pointer (some (p1.add 1))) :: (100,Value.pointer (some p1)) :: (104,Value.slice ways7.a ways7.n ways7.c) :: (107,Value.pointer (some (p1.add 3))) :: Ef) h55 w0 aa ww:=S
        have hTg:=hSq (Lg 6) (Lg 7) (Lg 9) (Lg 11) (Lg 14) (Lg 17) (pS (Xg 6)) (pN (Xg 7)) (pN (Xg 11)) (pA (Xg 17)) _ hinv
        refine OL.zq S (Lf.run_ld (S.ev rfl) fl3 (S.cl (c_68 _ hTg))) fun _ S=>?_
        refine OL.nil ?_
        exact⟨undef,_,S,hinv⟩
       ·
        refine⟨_,rfl,rfl,?_⟩
        intro Lg Xg aa ww h21 Ef S hinv hl0 hok
        obtain⟨kq3,kq5,-⟩:=hok
        replace hinv:IJ (Lg 6) (Lg 7) (Lg 9) (Lg 11) (Lg 14) (Lg 17) (pS (Xg 6)) (pN (Xg 7)) (pN (Xg 11)) (pA (Xg 17)) h21:=hinv
        replace S:St 128 ((99,Value.slice x99.a x99.n x99.c) :: (101,Value.int .i64 x101) :: (1,Value.pointer (some p1)) :: (2,Value.pointer (some p2)) :: (3,Value.pointer (some p3)) :: (4,Value.pointer (some p4)) :: (7,Value.slice ways7.a ways7.n ways7.c) :: (96,Value.pointer (some p1)) :: (98,Value.pointer (some (p1.add 1))) :: (100,Value.pointer (some p1)) :: (104,Value.slice ways7.a ways7.n ways7.c) :: (107,Value.pointer (some (p1.add 3))) :: Ef) h21 w0 aa ww:=S
        have H:=Oq (Lg 6) (Lg 7) (Lg 9) (Lg 11) (Lg 14) (Lg 17) (pS (Xg 6)) (pN (Xg 7)) (pN (Xg 11)) (pA (Xg 17)) h21 hinv hl0
        clear hinv
        refine ol_cal S H isfn19 rfl rfl trivial ?_
        clear S H;intro u_2 aa ww h22 H S
        obtain⟨x102_1,rfl,H⟩:=H
        refine OL.nil ?_
        exact⟨Value.slice x102_1.a x102_1.n x102_1.c,_,S,H⟩
       ·
        refine⟨_,rfl,rfl,?_⟩
        intro Lg Xg aa ww h25 Ef S hinv hl0 hok
        replace hinv:IJ (Lg 6) (Lg 7) (Lg 9) (Lg 11) (Lg 14) (Lg 17) (pS (Xg 6)) (pN (Xg 7)) (pN (Xg 11)) (pA (Xg 17)) h25:=hinv
        replace S:St 128 ((1,Value.pointer (some p1)) :: (2,Value.pointer (some p2)) :: (3,Value.pointer (some p3)) :: (4,Value.pointer (some p4)) :: (7,Value.slice ways7.a ways7.n ways7.c) :: (96,Value.pointer (some p1)) :: (98,Value.pointer (some (p1.add 1))) :: (100,Value.pointer (some p1)) :: (104,Value.slice ways7.a ways7.n ways7.c) :: (107,Value.pointer (some (p1.add 3))) :: Ef) h25 w0 aa ww:=S
        have H:=Oq_1 (Lg 6) (Lg 7) (Lg 9) (Lg 11) (Lg 14) (Lg 17) (pS (Xg 6)) (pN (Xg 7)) (pN (Xg 11)) (pA (Xg 17)) h25 hinv hl0
        clear hinv
        refine ol_newM S H rfl trivial ?_
        clear S H;intro m103_1 aa ww h26 H S
        refine OL.nil ?_
        exact⟨Value.map (some m103_1),_,S,H⟩
       ·
        refine⟨_,rfl,rfl,?_⟩
        intro Lg Xg aa ww h29 Ef S hinv hl0 hok
        obtain⟨kq7,-⟩:=hok
        replace hinv:IJ (Lg 6) (Lg 7) (Lg 9) (Lg 11) (Lg 14) (Lg 17) (pS (Xg 6)) (pN (Xg 7)) (pN (Xg 11)) (pA (Xg 17)) h29:=hinv
        replace S:St 128 ((103,Value.map (some (pN (Xg 7)))) :: (1,Value.pointer (some p1)) :: (2,Value.pointer (some p2)) :: (3,Value.pointer (some p3)) :: (4,Value.pointer (some p4)) :: (7,Value.slice ways7.a ways7.n ways7.c) :: (96,Value.pointer (some p1)) :: (98,Value.pointer (some (p1.add 1))) :: (100,Value.pointer (some p1)) :: (104,Value.slice ways7.a ways7.n ways7.c) :: (107,Value.pointer (some (p1.add 3))) :: Ef) h29 w0 aa ww:=S
        have H:=Oq_2 (Lg 6) (Lg 7) (Lg 9) (Lg 11) (Lg 14) (Lg 17) (pS (Xg 6)) (pN (Xg 7)) (pN (Xg 11)) (pA (Xg 17)) h29 hinv hl0 kq7
        clear hinv
        refine ol_insS S H Try.underlying29 Try.underlying9 rfl rfl rfl trivial ?_
        clear S H;intro aa ww h30 H S
        refine OL.nil ?_
        exact⟨undef,_,S,H⟩
       ·
        refine⟨_,rfl,rfl,?_⟩
        intro Lg Xg aa ww h31 Ef S hinv hl0 hok
        obtain⟨kq7,kq9,-⟩:=hok
        replace hinv:IJ (Lg 6) (Lg 7) (Lg 9) (Lg 11) (Lg 14) (Lg 17) (pS (Xg 6)) (pN (Xg 7)) (pN (Xg 11)) (pA (Xg 17)) h31:=hinv
        replace S:St 128 ((103,Value.map (some (pN (Xg 7)))) :: (1,Value.pointer (some p1)) :: (2,Value.pointer (some p2)) :: (3,Value.pointer (some p3)) :: (4,Value.pointer (some p4)) :: (7,Value.slice ways7.a ways7.n ways7.c) :: (96,Value.pointer (some p1)) :: (98,Value.pointer (some (p1.add 1))) :: (100,Value.pointer (some p1)) :: (104,Value.slice ways7.a ways7.n ways7.c) :: (107,Value.pointer (some (p1.add 3))) :: Ef) h31 w0 aa ww:=S
        refine OL.zm S fun _ S=>?_
        refine OL.nil ?_
        exact⟨undef,_,S,hinv⟩
       ·
        refine⟨_,rfl,rfl,?_⟩
        intro Lg Xg aa ww h34 Ef S hinv hl0 hok
        replace hinv:IJ (Lg 6) (Lg 7) (Lg 9) (Lg 11) (Lg 14) (Lg 17) (pS (Xg 6)) (pN (Xg 7)) (pN (Xg 11)) (pA (Xg 17)) h34:=hinv
        replace S:St 128 ((1,Value.pointer (some p1)) :: (2,Value.pointer (some p2)) :: (3,Value.pointer (some p3)) :: (4,Value.pointer (some p4)) :: (7,Value.slice ways7.a ways7.n ways7.c) :: (96,Value.pointer (some p1)) :: (98,Value.pointer (some (p1.add 1))) :: (100,Value.pointer (some p1)) :: (104,Value.slice ways7.a ways7.n ways7.c) :: (107,Value.pointer (some (p1.add 3))) :: Ef) h34 w0 aa ww:=S
        have H:=Oq_3 (Lg 6) (Lg 7) (Lg 9) (Lg 11) (Lg 14) (Lg 17) (pS (Xg 6)) (pN (Xg 7)) (pN (Xg 11)) (pA (Xg 17)) h34 hinv hl0
        clear hinv
        refine ol_newM S H rfl trivial ?_
        clear S H;intro m106_1 aa ww h35 H S
        refine OL.nil ?_
        exact⟨Value.map (some m106_1),_,S,H⟩
       ·
        refine⟨_,rfl,rfl,?_⟩
        intro Lg Xg aa ww h56 Ef S hinv hl0 hok
        replace hinv:IJ (Lg 6) (Lg 7) (Lg 9) (Lg 11) (Lg 14) (Lg 17) (pS (Xg 6)) (pN (Xg 7)) (pN (Xg 11)) (pA (Xg 17)) h56:=hinv
        replace S:St 128 ((1,Value.pointer (some p1)) :: (2,Value.pointer (some p2)) :: (3,Value.pointer (some p3)) :: (4,Value.pointer (some p4)) :: (7,Value.slice ways7.a ways7.n ways7.c) :: (96,Value.pointer (some p1)) :: (98,Value.pointer (some (p1.add 1))) :: (100,Value.pointer (some p1)) :: (104,Value.slice ways7.a ways7.n ways7.c) :: (107,Value.pointer (some (p1.add 3))) :: Ef) h56 w0 aa ww:=S
        have hTg:=hSq (Lg 6) (Lg 7) (Lg 9) (Lg 11) (Lg 14) (Lg 17) (pS (Xg 6)) (pN (Xg 7)) (pN (Xg 11)) (pA (Xg 17)) _ hinv
        refine OL.zq S (Lf.run_ld (S.ev rfl) fl22 (S.cl (c_69 _ hTg))) fun _ S=>?_
        refine OL.nil ?_
        exact⟨undef,_,S,hinv⟩
       ·
        refine⟨_,rfl,rfl,?_⟩
        intro Lg Xg aa ww h38 Ef S hinv hl0 hok
        obtain⟨kq11,kq13,-⟩:=hok
        replace hinv:IJ (Lg 6) (Lg 7) (Lg 9) (Lg 11) (Lg 14) (Lg 17) (pS (Xg 6)) (pN (Xg 7)) (pN (Xg 11)) (pA (Xg 17)) h38:=hinv
        replace S:St 128 ((106,Value.map (some (pN (Xg 11)))) :: (108,Value.slice x108.a x108.n x108.c) :: (1,Value.pointer (some p1)) :: (2,Value.pointer (some p2)) :: (3,Value.pointer (some p3)) :: (4,Value.pointer (some p4)) :: (7,Value.slice ways7.a ways7.n ways7.c) :: (96,Value.pointer (some p1)) :: (98,Value.pointer (some (p1.add 1))) :: (100,Value.pointer (some p1)) :: (104,Value.slice ways7.a ways7.n ways7.c) :: (107,Value.pointer (some (p1.add 3))) :: Ef) h38 w0 aa ww:=S
        have H:=Oq_4 (Lg 6) (Lg 7) (Lg 9) (Lg 11) (Lg 14) (Lg 17) (pS (Xg 6)) (pN (Xg 7)) (pN (Xg 11)) (pA (Xg 17)) h38 hinv hl0 kq11
        clear hinv
        refine ol_insS S H Try.underlying31 Try.underlying9 rfl rfl rfl trivial ?_
        clear S H;intro aa ww h39 H S
        refine OL.nil ?_
        exact⟨undef,_,S,H⟩
       ·
        refine⟨_,rfl,rfl,?_⟩
        intro Lg Xg aa ww h40 Ef S hinv hl0 hok
        obtain⟨kq11,kq14,-⟩:=hok
        replace hinv:IJ (Lg 6) (Lg 7) (Lg 9) (Lg 11) (Lg 14) (Lg 17) (pS (Xg 6)) (pN (Xg 7)) (pN (Xg 11)) (pA (Xg 17)) h40:=hinv
        replace S:St 128 ((106,Value.map (some (pN (Xg 11)))) :: (1,Value.pointer (some p1)) :: (2,Value.pointer (some p2)) :: (3,Value.pointer (some p3)) :: (4,Value.pointer (some p4)) :: (7,Value.slice ways7.a ways7.n ways7.c) :: (96,Value.pointer (some p1)) :: (98,Value.pointer (some (p1.add 1))) :: (100,Value.pointer (some p1)) :: (104,Value.slice ways7.a ways7.n ways7.c) :: (107,Value.pointer (some (p1.add 3))) :: Ef) h40 w0 aa ww:=S
        refine OL.zm S fun _ S=>?_
        refine OL.nil ?_
        exact⟨undef,_,S,hinv⟩
       ·
        refine⟨_,rfl,rfl,?_⟩
        intro Lg Xg aa ww h41 Ef S hinv hl0 hok
        obtain⟨kq1,kq6,kq7,kq9,kq10,kq11,kq14,kq15,-⟩:=hok
        replace hinv:IJ (Lg 6) (Lg 7) (Lg 9) (Lg 11) (Lg 14) (Lg 17) (pS (Xg 6)) (pN (Xg 7)) (pN (Xg 11)) (pA (Xg 17)) h41:=hinv
        replace S:St 128 ((97,Value.int .i64 x97) :: (102,Value.slice (pS (Xg 6)).a (pS (Xg 6)).n (pS (Xg 6)).c) :: (103,Value.map (some (pN (Xg 7)))) :: (105,Value.map (some (pN (Xg 7)))) :: (106,Value.map (some (pN (Xg 11)))) :: (109,Value.map (some (pN (Xg 11)))) :: (1,Value.pointer (some p1)) :: (2,Value.pointer (some p2)) :: (3,Value.pointer (some p3)) :: (4,Value.pointer (some p4)) :: (7,Value.slice ways7.a ways7.n ways7.c) :: (96,Value.pointer (some p1)) :: (98,Value.pointer (some (p1.add 1))) :: (100,Value.pointer (some p1)) :: (104,Value.slice ways7.a ways7.n ways7.c) :: (107,Value.pointer (some (p1.add 3))) :: Ef) h41 w0 aa ww:=S
        refine OL.zq S (Lf.run_build (cs:=#[Value.int .i64 x97,Value.slice (pS (Xg 6)).a (pS (Xg 6)).n (pS (Xg 6)).c,Value.map (some (pN (Xg 7))),Value.map (some (pN (Xg 11)))]) pl33 ti33 (parts_map S rfl) (by kernel_rfl)) fun _ S=>?_
        refine OL.nil ?_
        exact⟨undef,_,S,hinv⟩
       ·
        refine⟨_,rfl,rfl,?_⟩
        intro Lg Xg aa ww h44 Ef S hinv hl0 hok
        replace hinv:IJ (Lg 6) (Lg 7) (Lg 9) (Lg 11) (Lg 14) (Lg 17) (pS (Xg 6)) (pN (Xg 7)) (pN (Xg 11)) (pA (Xg 17)) h44:=hinv
        replace S:St 128 ((1,Value.pointer (some p1)) :: (2,Value.pointer (some p2)) :: (3,Value.pointer (some p3)) :: (4,Value.pointer (some p4)) :: (7,Value.slice ways7.a ways7.n ways7.c) :: (96,Value.pointer (some p1)) :: (98,Value.pointer (some (p1.add 1))) :: (100,Value.pointer (some p1)) :: (104,Value.slice ways7.a ways7.n ways7.c) :: (107,Value.pointer (some (p1.add 3))) :: Ef) h44 w0 aa ww:=S
        have H:=Oq_5 (Lg 6) (Lg 7) (Lg 9) (Lg 11) (Lg 14) (Lg 17) (pS (Xg 6)) (pN (Xg 7)) (pN (Xg 11)) (pA (Xg 17)) h44 hinv hl0
        clear hinv
        refine ol_alloc S H ti33 rfl rfl trivial ?_
        clear S H;intro p9_1 aa ww h45 H S
        refine OL.nil ?_
        exact⟨Value.pointer (some p9_1),_,S,H⟩
       clear S
       intro Lg Xg aa ww h46 S hinv hok
       obtain⟨kq1,kq3,kq5,kq6,kq7,kq9,kq10,kq11,kq13,kq14,kq15,kq16,kq17,-⟩:=hok
       replace hinv:IJ (Lg 6) (Lg 7) (Lg 9) (Lg 11) (Lg 14) (Lg 17) (pS (Xg 6)) (pN (Xg 7)) (pN (Xg 11)) (pA (Xg 17)) h46:=hinv
       replace kq6:Lg 6=true:=kq6
       replace kq7:Lg 7=true:=kq7
       replace kq9:Lg 9=true:=kq9
       replace kq11:Lg 11=true:=kq11
       replace kq14:Lg 14=true:=kq14
       replace kq17:Lg 17=true:=kq17
       rw[kq6,kq7,kq9,kq11,kq14,kq17] at hinv
       replace H:=H (pS (Xg 6)) (pN (Xg 7)) (pN (Xg 11)) (pA (Xg 17)) h46 hinv
       replace S:=S.sub [(1,Value.pointer (some p1)),(2,Value.pointer (some p2)),(3,Value.pointer (some p3)),(4,Value.pointer (some p4)),(7,Value.slice ways7.a ways7.n ways7.c),(9,Value.pointer (some (pA (Xg 17)))),(96,Value.pointer (some p1)),(97,Value.int .i64 x97),(98,Value.pointer (some (p1.add 1))),(99,Value.slice x99.a x99.n x99.c),(100,Value.pointer (some p1)),(101,Value.int .i64 x101),(102,Value.slice (pS (Xg 6)).a (pS (Xg 6)).n (pS (Xg 6)).c),(103,Value.map (some (pN (Xg 7)))),(104,Value.slice ways7.a ways7.n ways7.c),(105,Value.map (some (pN (Xg 7)))),(106,Value.map (some (pN (Xg 11)))),(107,Value.pointer (some (p1.add 3))),(108,Value.slice x108.a x108.n x108.c),(109,Value.map (some (pN (Xg 11)))),(110,Value.agg #[Value.int .i64 x97,Value.slice (pS (Xg 6)).a (pS (Xg 6)).n (pS (Xg 6)).c,Value.map (some (pN (Xg 7))),Value.map (some (pN (Xg 11)))])] ⟨rfl,rfl,rfl,rfl,rfl,rfl,rfl,rfl,rfl,rfl,rfl,rfl,rfl,rfl,rfl,rfl,rfl,rfl,rfl,rfl,rfl,trivial⟩
       generalize (pS (Xg 6))=x102 at H S
       generalize (pN (Xg 7))=m103 at H S
       generalize (pN (Xg 11))=m106 at H S
       generalize (pA (Xg 17))=p9 at H S
       clear hinv kq17 kq16 kq15 kq14 kq13 kq11 kq10 kq9 kq7 kq6 kq5 kq3 kq1 gq17 gq16 gq15 gq14 gq13 gq11 gq10 gq9 gq7 gq6 gq5 gq3 gq1 Oq Oq_1 Oq_2 Oq_3 Oq_4 Oq_5
       refine AN.eff 18 rfl (by kernel_rfl) ?_
       refine ol_stoA S H rfl rfl ti33 trivial ?_
       clear S H;intro aa ww h47 H S
       refine OL.nil ?_
       refine AN.done (by kernel_rfl) ?_
       refine W.seq ?_
       replace S:=S.sub [(1,Value.pointer (some p1)),(2,Value.pointer (some p2)),(3,Value.pointer (some p3)),(4,Value.pointer (some p4)),(9,Value.pointer (some p9))] ⟨rfl,rfl,rfl,rfl,rfl,trivial⟩
       obtain⟨Sq_1,HS,H⟩:=H
       refine W.regionN [0,9,11,13,15] [8,16,17,18,19] Sq_1 S (by kernel_rfl) ?_
       clear S;intro ww S
       obtain⟨y112,y112_1,y112_2,y112_3,y112_4,y112_5,y112_6,y112_7,y112_8,y112_9,y112_10,c_116,c_117,c_118,c_119,c_120,c_121,c_122,c_123,c_124,c_125,c_126,H⟩:=H
       refine BN.load 1 S (fun _=>HS) rfl (by kernel_rfl) (by kernel_rfl) (fun _ hx=>Lf.run_ldA (cs:=[Value.int .i64 y112,Value.slice y112_1.a y112_1.n y112_1.c,Value.int .u64 y112_2,Value.slice y112_3.a y112_3.n y112_3.c,Value.slice y112_4.a y112_4.n y112_4.c,Value.slice y112_5.a y112_5.n y112_5.c,Value.slice y112_6.a y112_6.n y112_6.c,Value.int .i64 y112_7,Value.int .i64 y112_8,Value.slice y112_9.a y112_9.n y112_9.c,Value.slice y112_10.a y112_10.n y112_10.c]) (S.ev rfl) ag27 ti27 (hx.row (S.row ⟨c_116,c_117,c_118,c_119,c_120,c_121,c_122,c_123,c_124,c_125,c_126,trivial⟩))) rfl rfl trivial fun _ S=>?_
       refine BN.pure 2 S (fun _=>HS) rfl (by kernel_rfl) (by kernel_rfl) (fun _=>Lf.run_fa (S.ev rfl) fa27_5) rfl rfl trivial fun _ S=>?_
       obtain⟨x114,c_71,H⟩:=H
       refine BN.load 3 S (fun _=>HS) rfl (by kernel_rfl) (by kernel_rfl) (fun _ hx=>Lf.run_ld (S.ev rfl) fl25 (hx.cell _ _ (S.cl c_71))) rfl rfl trivial fun _ S=>?_
       refine BN.pure 4 S (fun _=>HS) rfl (by kernel_rfl) (by kernel_rfl) (fun _=>Lf.run_fa (S.ev rfl) fa27_7) rfl rfl trivial fun _ S=>?_
       obtain⟨x116,c_72,H⟩:=H
       refine BN.load 5 S (fun _=>HS) rfl (by kernel_rfl) (by kernel_rfl) (fun _ hx=>Lf.run_ld (S.ev rfl) fl3 (hx.cell _ _ (S.cl c_72))) rfl rfl trivial fun _ S=>?_
       refine BN.pure 6 S (fun _=>HS) rfl (by kernel_rfl) (by kernel_rfl) (fun _=>Lf.run_fa (S.ev rfl) fa27_9) rfl rfl trivial fun _ S=>?_
       obtain⟨x118,c_73,H⟩:=H
       refine BN.load 7 S (fun _=>HS) rfl (by kernel_rfl) (by kernel_rfl) (fun _ hx=>Lf.run_ld (S.ev rfl) fl22 (hx.cell _ _ (S.cl c_73))) rfl rfl trivial fun _ S=>?_
       refine BN.pure 10 S (fun _=>HS) rfl (by kernel_rfl) (by kernel_rfl) (fun _=>Lf.run_fa (S.ev rfl) fa27_6) rfl rfl trivial fun _ S=>?_
       refine BN.pure 12 S (fun _=>HS) rfl (by kernel_rfl) (by kernel_rfl) (fun _=>Lf.run_fa (S.ev rfl) fa27_8) rfl rfl trivial fun _ S=>?_
       refine BN.pure 14 S (fun _=>HS) rfl (by kernel_rfl) (by kernel_rfl) (fun _=>Lf.run_fa (S.ev rfl) fa27_10) rfl rfl trivial fun _ S=>?_
       obtain⟨y111,y111_1,y111_2,y111_3,c_112,c_113,c_114,c_115,H⟩:=H
       refine BN.held 0 S HS rfl (by kernel_rfl) (fun _ hq=>Lf.run_ldA (cs:=[Value.int .i64 y111,Value.slice y111_1.a y111_1.n y111_1.c,Value.map y111_2,Value.map y111_3]) (S.ev rfl) ag33 ti33 (hlRow hq fun h_ hs_=>⟨c_112 h_ hs_,c_113 h_ hs_,c_114 h_ hs_,c_115 h_ hs_,trivial⟩)) rfl rfl trivial fun _ S=>?_
       obtain⟨y120,y120_1,y120_2,y120_3,y120_4,y120_5,y120_6,y120_7,y120_8,y120_9,y120_10,c_101,c_102,c_103,c_104,c_105,c_106,c_107,c_108,c_109,c_110,c_111,H⟩:=H
       refine BN.held 9 S HS rfl (by kernel_rfl) (fun _ hq=>Lf.run_ldA (cs:=[Value.int .i64 y120,Value.slice y120_1.a y120_1.n y120_1.c,Value.int .u64 y120_2,Value.slice y120_3.a y120_3.n y120_3.c,Value.slice y120_4.a y120_4.n y120_4.c,Value.slice y120_5.a y120_5.n y120_5.c,Value.slice y120_6.a y120_6.n y120_6.c,Value.int .i64 y120_7,Value.int .i64 y120_8,Value.slice y120_9.a y120_9.n y120_9.c,Value.slice y120_10.a y120_10.n y120_10.c]) (S.ev rfl) ag27 ti27 (hlRow hq fun h_ hs_=>⟨c_101 h_ hs_,c_102 h_ hs_,c_103 h_ hs_,c_104 h_ hs_,c_105 h_ hs_,c_106 h_ hs_,c_107 h_ hs_,c_108 h_ hs_,c_109 h_ hs_,c_110 h_ hs_,c_111 h_ hs_,trivial⟩)) rfl rfl trivial fun _ S=>?_
       obtain⟨x122,c_76,H⟩:=H
       refine BN.held 11 S HS rfl (by kernel_rfl) (fun _ hq=>Lf.run_ld (S.ev rfl) fl25 (c_76 _ hq)) rfl rfl trivial fun _ S=>?_
       obtain⟨x124,c_77,H⟩:=H
       refine BN.held 13 S HS rfl (by kernel_rfl) (fun _ hq=>Lf.run_ld (S.ev rfl) fl3 (c_77 _ hq)) rfl rfl trivial fun _ S=>?_
       obtain⟨x126,c_78,H⟩:=H
       refine BN.held 15 S HS rfl (by kernel_rfl) (fun _ hq=>Lf.run_ld (S.ev rfl) fl22 (c_78 _ hq)) rfl rfl trivial fun _ S=>?_
       refine BN.eff 8 rfl (by kernel_rfl) ?_
       refine ol_cal S H isfn20 rfl rfl trivial ?_
       clear S H;intro u_3 aa ww h48 H S
       obtain⟨y119,y119_1,y119_2,y119_3,y119_4,y119_5,y119_6,y119_7,y119_8,rfl,H⟩:=H
       refine OL.nil ?_
       clear HS;obtain⟨HS,H⟩:=H
       refine⟨fun _=>by rw[S.heap];exact HS,?_⟩
       refine BN.eff 16 rfl (by kernel_rfl) ?_
       refine ol_cal S H isfn20 rfl rfl trivial ?_
       clear S H;intro u_4 aa ww h49 H S
       obtain⟨y127,y127_1,y127_2,y127_3,y127_4,y127_5,y127_6,y127_7,y127_8,rfl,H⟩:=H
       refine OL.nil ?_
       clear HS;obtain⟨HS,H⟩:=H
       refine⟨fun _=>by rw[S.heap];exact HS,?_⟩
       refine BN.eff 17 rfl (by kernel_rfl) ?_
       refine ol_stoA S H rfl rfl ti33 trivial ?_
       clear S H;intro aa ww h50 H S
       refine OL.nil ?_
       refine⟨noNeed (by kernel_rfl),?_⟩
       refine BN.eff 18 rfl (by kernel_rfl) ?_
       refine ol_stoA S H rfl rfl ti37 trivial ?_
       clear S H;intro aa ww h51 H S
       refine OL.nil ?_
       refine⟨noNeed (by kernel_rfl),?_⟩
       refine BN.eff 19 rfl (by kernel_rfl) ?_
       refine ol_stoA S H rfl rfl ti37 trivial ?_
       clear S H;intro aa ww h52 H S
       refine OL.nil ?_
       refine⟨noNeed (by kernel_rfl),?_⟩
       refine BN.pure 20 S (noNeed (by kernel_rfl)) rfl (by kernel_rfl) (by kernel_rfl) (fun _=>Lf.run_assign (S.ev rfl)) rfl rfl trivial fun _ S=>?_
       refine BN.done (by kernel_rfl) ?_
       refine W.ret ?_
       obtain⟨y_44,y_45,y_46,y_47,c_79,c_80,c_81,c_82,H⟩:=H
       obtain⟨y_48,y_49,y_50,y_51,y_52,y_53,y_54,y_55,y_56,c_83,c_84,c_85,c_86,c_87,c_88,c_89,c_90,c_91,H⟩:=H
       obtain⟨y_57,y_58,y_59,y_60,y_61,y_62,y_63,y_64,y_65,c_92,c_93,c_94,c_95,c_96,c_97,c_98,c_99,c_100,H⟩:=H
       exact Ret.gen S rfl (RV.cellA (cs:=[Value.int .i64 y_44,Value.slice y_45.a y_45.n y_45.c,Value.map y_46,Value.map y_47]) rfl ag33 ti33 ⟨c_79,c_80,c_81,c_82,trivial⟩ (RV.cellA (cs:=[Value.int .i64 y_48,Value.slice y_49.a y_49.n y_49.c,Value.slice y_50.a y_50.n y_50.c,Value.int .i64 y_51,Value.string y_52,Value.bool y_53,Value.int .i64 y_54,Value.slice y_55.a y_55.n y_55.c,Value.slice y_56.a y_56.n y_56.c]) rfl ag37 ti37 ⟨c_83,c_84,c_85,c_86,c_87,c_88,c_89,c_90,c_91,trivial⟩ (RV.cellA (cs:=[Value.int .i64 y_57,Value.slice y_58.a y_58.n y_58.c,Value.slice y_59.a y_59.n y_59.c,Value.int .i64 y_60,Value.string y_61,Value.bool y_62,Value.int .i64 y_63,Value.slice y_64.a y_64.n y_64.c,Value.slice y_65.a y_65.n y_65.c]) rfl ag37 ti37 ⟨c_92,c_93,c_94,c_95,c_96,c_97,c_98,c_99,c_100,trivial⟩ (RV.tmp rfl RV.nil)))) rfl H
def L9  (h:Heap) (R:Value→Heap→Prop):Prop:=
 cal Try.prog 21 #[Value.int .i64 1] h fun u h1=>∃(y3:Int) (y3_1:ByteArray) (y3_2:Bool) (y3_3:Int) (y3_4:Sv) (y3_5:Sv),u=Value.agg #[Value.int .i64 y3,Value.string y3_1,Value.bool y3_2,Value.int .i64 y3_3,Value.slice y3_4.a y3_4.n y3_4.c,Value.slice y3_5.a y3_5.n y3_5.c] ∧
 newS 35 #[Value.int .i64 y3,Value.string y3_1,Value.bool y3_2,Value.int .i64 y3_3,Value.slice y3_4.a y3_4.n y3_4.c,Value.slice y3_5.a y3_5.n y3_5.c] 1 h1 fun s4 h2=>
 cal Try.prog 21 #[Value.int .i64 1] h2 fun u_1 h3=>∃(y5:Int) (y5_1:ByteArray) (y5_2:Bool) (y5_3:Int) (y5_4:Sv) (y5_5:Sv),u_1=Value.agg #[Value.int .i64 y5,Value.string y5_1,Value.bool y5_2,Value.int .i64 y5_3,Value.slice y5_4.a y5_4.n y5_4.c,Value.slice y5_5.a y5_5.n y5_5.c] ∧
 new 37 #[Value.int .i64 0,Value.slice (⟨none,0,0⟩:Sv).a (⟨none,0,0⟩:Sv).n (⟨none,0,0⟩:Sv).c,Value.slice (⟨none,0,0⟩:Sv).a (⟨none,0,0⟩:Sv).n (⟨none,0,0⟩:Sv).c,Value.int .i64 0,Value.string (⟨#[]⟩:ByteArray),Value.bool false,Value.int .i64 0,Value.slice (⟨none,0,0⟩:Sv).a (⟨none,0,0⟩:Sv).n (⟨none,0,0⟩:Sv).c,Value.slice (⟨none,0,0⟩:Sv).a (⟨none,0,0⟩:Sv).n (⟨none,0,0⟩:Sv).c] h3 fun p1 h4=>
 stoA h4 p1 [Value.int .i64 1,Value.slice (⟨none,0,0⟩:Sv).a (⟨none,0,0⟩:Sv).n (⟨none,0,0⟩:Sv).c,Value.slice s4.a s4.n s4.c,Value.int .i64 y5,Value.string y5_1,Value.bool y5_2,Value.int .i64 y5_3,Value.slice y5_4.a y5_4.n y5_4.c,Value.slice y5_5.a y5_5.n y5_5.c] fun h5=>
 cal Try.prog 21 #[Value.int .i64 0] h5 fun u_2 h6=>∃(y7:Int) (y7_1:ByteArray) (y7_2:Bool) (y7_3:Int) (y7_4:Sv) (y7_5:Sv),u_2=Value.agg #[Value.int .i64 y7,Value.string y7_1,Value.bool y7_2,Value.int .i64 y7_3,Value.slice y7_4.a y7_4.n y7_4.c,Value.slice y7_5.a y7_5.n y7_5.c] ∧
 newS 35 #[Value.int .i64 y7,Value.string y7_1,Value.bool y7_2,Value.int .i64 y7_3,Value.slice y7_4.a y7_4.n y7_4.c,Value.slice y7_5.a y7_5.n y7_5.c] 1 h6 fun s8 h7=>
 cal Try.prog 21 #[Value.int .i64 1] h7 fun u_3 h8=>∃(y9:Int) (y9_1:ByteArray) (y9_2:Bool) (y9_3:Int) (y9_4:Sv) (y9_5:Sv),u_3=Value.agg #[Value.int .i64 y9,Value.string y9_1,Value.bool y9_2,Value.int .i64 y9_3,Value.slice y9_4.a y9_4.n y9_4.c,Value.slice y9_5.a y9_5.n y9_5.c] ∧
 new 37 #[Value.int .i64 0,Value.slice (⟨none,0,0⟩:Sv).a (⟨none,0,0⟩:Sv).n (⟨none,0,0⟩:Sv).c,Value.slice (⟨none,0,0⟩:Sv).a (⟨none,0,0⟩:Sv).n (⟨none,0,0⟩:Sv).c,Value.int .i64 0,Value.string (⟨#[]⟩:ByteArray),Value.bool false,Value.int .i64 0,Value.slice (⟨none,0,0⟩:Sv).a (⟨none,0,0⟩:Sv).n (⟨none,0,0⟩:Sv).c,Value.slice (⟨none,0,0⟩:Sv).a (⟨none,0,0⟩:Sv).n (⟨none,0,0⟩:Sv).c] h8 fun p2 h9=>
 stoA h9 p2 [Value.int .i64 1,Value.slice (⟨none,0,0⟩:Sv).a (⟨none,0,0⟩:Sv).n (⟨none,0,0⟩:Sv).c,Value.slice s8.a s8.n s8.c,Value.int .i64 y9,Value.string y9_1,Value.bool y9_2,Value.int .i64 y9_3,Value.slice y9_4.a y9_4.n y9_4.c,Value.slice y9_5.a y9_5.n y9_5.c] fun h10=>
 ∃(y12:Int) (y12_1:Sv) (y12_2:Sv) (y12_3:Int) (y12_4:ByteArray) (y12_5:Bool) (y12_6:Int) (y12_7:Sv) (y12_8:Sv),cl h10 p1=some (Value.int .i64 y12)∧cl h10 (p1.add 1)=some (Value.slice y12_1.a y12_1.n y12_1.c)∧cl h10 (p1.add 2)=some (Value.slice y12_2.a y12_2.n y12_2.c)∧cl h10 (p1.add 3)=some (Value.int .i64 y12_3)∧cl h10 (p1.add 4)=some (Value.string y12_4)∧cl h10 (p1.add 5)=some (Value.bool y12_5)∧cl h10 (p1.add 6)=some (Value.int .i64 y12_6)∧cl h10 (p1.add 7)=some (Value.slice y12_7.a y12_7.n y12_7.c)∧cl h10 (p1.add 8)=some (Value.slice y12_8.a y12_8.n y12_8.c) ∧
 ∃(y13:Int) (y13_1:Sv) (y13_2:Sv) (y13_3:Int) (y13_4:ByteArray) (y13_5:Bool) (y13_6:Int) (y13_7:Sv) (y13_8:Sv),cl h10 p2=some (Value.int .i64 y13)∧cl h10 (p2.add 1)=some (Value.slice y13_1.a y13_1.n y13_1.c)∧cl h10 (p2.add 2)=some (Value.slice y13_2.a y13_2.n y13_2.c)∧cl h10 (p2.add 3)=some (Value.int .i64 y13_3)∧cl h10 (p2.add 4)=some (Value.string y13_4)∧cl h10 (p2.add 5)=some (Value.bool y13_5)∧cl h10 (p2.add 6)=some (Value.int .i64 y13_6)∧cl h10 (p2.add 7)=some (Value.slice y13_7.a y13_7.n y13_7.c)∧cl h10 (p2.add 8)=some (Value.slice y13_8.a y13_8.n y13_8.c) ∧
 cal Try.prog 10 #[Value.agg #[Value.int .i64 0,Value.slice (⟨none,0,0⟩:Sv).a (⟨none,0,0⟩:Sv).n (⟨none,0,0⟩:Sv).c,Value.map none,Value.map none],Value.agg #[Value.int .i64 y12,Value.slice y12_1.a y12_1.n y12_1.c,Value.slice y12_2.a y12_2.n y12_2.c,Value.int .i64 y12_3,Value.string y12_4,Value.bool y12_5,Value.int .i64 y12_6,Value.slice y12_7.a y12_7.n y12_7.c,Value.slice y12_8.a y12_8.n y12_8.c],Value.agg #[Value.int .i64 y13,Value.slice y13_1.a y13_1.n y13_1.c,Value.slice y13_2.a y13_2.n y13_2.c,Value.int .i64 y13_3,Value.string y13_4,Value.bool y13_5,Value.int .i64 y13_6,Value.slice y13_7.a y13_7.n y13_7.c,Value.slice y13_8.a y13_8.n y13_8.c]] h10 fun u_4 h11=>asB u_4 fun x14=>
 ∃J:Bool→Heap→Prop,(andj x14 (fun k=>
  ∃(y17:Int) (y17_1:Sv) (y17_2:Sv) (y17_3:Int) (y17_4:ByteArray) (y17_5:Bool) (y17_6:Int) (y17_7:Sv) (y17_8:Sv),cl h11 p2=some (Value.int .i64 y17)∧cl h11 (p2.add 1)=some (Value.slice y17_1.a y17_1.n y17_1.c)∧cl h11 (p2.add 2)=some (Value.slice y17_2.a y17_2.n y17_2.c)∧cl h11 (p2.add 3)=some (Value.int .i64 y17_3)∧cl h11 (p2.add 4)=some (Value.string y17_4)∧cl h11 (p2.add 5)=some (Value.bool y17_5)∧cl h11 (p2.add 6)=some (Value.int .i64 y17_6)∧cl h11 (p2.add 7)=some (Value.slice y17_7.a y17_7.n y17_7.c)∧cl h11 (p2.add 8)=some (Value.slice y17_8.a y17_8.n y17_8.c) ∧
  ∃(y18:Int) (y18_1:Sv) (y18_2:Sv) (y18_3:Int) (y18_4:ByteArray) (y18_5:Bool) (y18_6:Int) (y18_7:Sv) (y18_8:Sv),cl h11 p1=some (Value.int .i64 y18)∧cl h11 (p1.add 1)=some (Value.slice y18_1.a y18_1.n y18_1.c)∧cl h11 (p1.add 2)=some (Value.slice y18_2.a y18_2.n y18_2.c)∧cl h11 (p1.add 3)=some (Value.int .i64 y18_3)∧cl h11 (p1.add 4)=some (Value.string y18_4)∧cl h11 (p1.add 5)=some (Value.bool y18_5)∧cl h11 (p1.add 6)=some (Value.int .i64 y18_6)∧cl h11 (p1.add 7)=some (Value.slice y18_7.a y18_7.n y18_7.c)∧cl h11 (p1.add 8)=some (Value.slice y18_8.a y18_8.n y18_8.c) ∧
  cal Try.prog 10 #[Value.agg #[Value.int .i64 0,Value.slice (⟨none,0,0⟩:Sv).a (⟨none,0,0⟩:Sv).n (⟨none,0,0⟩:Sv).c,Value.map none,Value.map none],Value.agg #[Value.int .i64 y17,Value.slice y17_1.a y17_1.n y17_1.c,Value.slice y17_2.a y17_2.n y17_2.c,Value.int .i64 y17_3,Value.string y17_4,Value.bool y17_5,Value.int .i64 y17_6,Value.slice y17_7.a y17_7.n y17_7.c,Value.slice y17_8.a y17_8.n y17_8.c],Value.agg #[Value.int .i64 y18,Value.slice y18_1.a y18_1.n y18_1.c,Value.slice y18_2.a y18_2.n y18_2.c,Value.int .i64 y18_3,Value.string y18_4,Value.bool y18_5,Value.int .i64 y18_6,Value.slice y18_7.a y18_7.n y18_7.c,Value.slice y18_8.a y18_8.n y18_8.c]] h11 fun u_5 h13=>asB u_5 fun x19=>
  k (!x19) h13) h11 J)∧∀x21 h12,J x21 h12 →
 R (Value.bool x21) h12
set_option maxRecDepth 100000 in
theorem F9 {h:_} {R:Value→Heap→Prop} (H:L9 h R):CallsH Try.prog 9 #[] h R:=by
 refine CallsH.enter (n:=22) Try.func9 rfl rfl rfl rfl ?_
 intro w0 aa ww S
 unfold L9 at H
 refine W.seq ?_
 refine W.region ?_
 refine OL.za S fun _ S=>?_
 refine OL.nil ?_
 refine W.seq ?_
 refine W.region ?_
 refine ol_cal S H isfn21 rfl rfl trivial ?_
 clear S H;intro u aa ww h1 H S
 obtain⟨y3,y3_1,y3_2,y3_3,y3_4,y3_5,rfl,H⟩:=H
 refine ol_newS S H Try.underlying24 ti35 (by decide) (parts_map S rfl) (by kernel_rfl) (by decide) rfl trivial ?_
 clear S H;intro s4 aa ww h2 H S
 refine ol_cal S H isfn21 rfl rfl trivial ?_
 clear S H;intro u_1 aa ww h3 H S
 obtain⟨y5,y5_1,y5_2,y5_3,y5_4,y5_5,rfl,H⟩:=H
 refine OL.zq S (Lf.run_build (cs:=#[Value.int .i64 1,Value.slice (⟨none,0,0⟩:Sv).a (⟨none,0,0⟩:Sv).n (⟨none,0,0⟩:Sv).c,Value.slice s4.a s4.n s4.c,Value.int .i64 y5,Value.string y5_1,Value.bool y5_2,Value.int .i64 y5_3,Value.slice y5_4.a y5_4.n y5_4.c,Value.slice y5_5.a y5_5.n y5_5.c]) pl37 ti37 (parts_map S rfl) (by kernel_rfl)) fun _ S=>?_
 refine ol_alloc S H ti37 rfl rfl trivial ?_
 clear S H;intro p1 aa ww h4 H S
 refine ol_stoA S H rfl rfl ti37 trivial ?_
 clear S H;intro aa ww h5 H S
 refine OL.nil ?_
 refine W.seq ?_
 refine W.region ?_
 refine ol_cal S H isfn21 rfl rfl trivial ?_
 clear S H;intro u_2 aa ww h6 H S
 obtain⟨y7,y7_1,y7_2,y7_3,y7_4,y7_5,rfl,H⟩:=H
 refine ol_newS S H Try.underlying24 ti35 (by decide) (parts_map S rfl) (by kernel_rfl) (by decide) rfl trivial ?_
 clear S H;intro s8 aa ww h7 H S
 refine ol_cal S H isfn21 rfl rfl trivial ?_
 clear S H;intro u_3 aa ww h8 H S
 obtain⟨y9,y9_1,y9_2,y9_3,y9_4,y9_5,rfl,H⟩:=H
 refine OL.zq S (Lf.run_build (cs:=#[Value.int .i64 1,Value.slice (⟨none,0,0⟩:Sv).a (⟨none,0,0⟩:Sv).n (⟨none,0,0⟩:Sv).c,Value.slice s8.a s8.n s8.c,Value.int .i64 y9,Value.string y9_1,Value.bool y9_2,Value.int .i64 y9_3,Value.slice y9_4.a y9_4.n y9_4.c,Value.slice y9_5.a y9_5.n y9_5.c]) pl37 ti37 (parts_map S rfl) (by kernel_rfl)) fun _ S=>?_
 refine ol_alloc S H ti37 rfl rfl trivial ?_
 clear S H;intro p2 aa ww h9 H S
 refine ol_stoA S H rfl rfl ti37 trivial ?_
 clear S H;intro aa ww h10 H S
 refine OL.nil ?_
 refine W.seq ?_
 refine W.region ?_
 refine OL.zq S (Lf.run_build (cs:=#[Value.int .i64 0,Value.slice (⟨none,0,0⟩:Sv).a (⟨none,0,0⟩:Sv).n (⟨none,0,0⟩:Sv).c,Value.map none,Value.map none]) pl33 ti33 (parts_map S rfl) (by kernel_rfl)) fun _ S=>?_
 obtain⟨y12,y12_1,y12_2,y12_3,y12_4,y12_5,y12_6,y12_7,y12_8,c_31,c_32,c_33,c_34,c_35,c_36,c_37,c_38,c_39,H⟩:=H
 refine OL.zq S (Lf.run_ldA (cs:=[Value.int .i64 y12,Value.slice y12_1.a y12_1.n y12_1.c,Value.slice y12_2.a y12_2.n y12_2.c,Value.int .i64 y12_3,Value.string y12_4,Value.bool y12_5,Value.int .i64 y12_6,Value.slice y12_7.a y12_7.n y12_7.c,Value.slice y12_8.a y12_8.n y12_8.c]) (S.ev rfl) ag37 ti37 (by rw[S.heap];exact RowL.toRow ⟨c_31,c_32,c_33,c_34,c_35,c_36,c_37,c_38,c_39,trivial⟩)) fun _ S=>?_
 obtain⟨y13,y13_1,y13_2,y13_3,y13_4,y13_5,y13_6,y13_7,y13_8,c_22,c_23,c_24,c_25,c_26,c_27,c_28,c_29,c_30,H⟩:=H
 refine OL.zq S (Lf.run_ldA (cs:=[Value.int .i64 y13,Value.slice y13_1.a y13_1.n y13_1.c,Value.slice y13_2.a y13_2.n y13_2.c,Value.int .i64 y13_3,Value.string y13_4,Value.bool y13_5,Value.int .i64 y13_6,Value.slice y13_7.a y13_7.n y13_7.c,Value.slice y13_8.a y13_8.n y13_8.c]) (S.ev rfl) ag37 ti37 (by rw[S.heap];exact RowL.toRow ⟨c_22,c_23,c_24,c_25,c_26,c_27,c_28,c_29,c_30,trivial⟩)) fun _ S=>?_
 refine ol_cal S H isfn10 rfl rfl trivial ?_
 clear S H;intro u_4 aa ww h11 H S
 obtain⟨x14,rfl,H⟩:=H
 refine OL.zm S fun _ S=>?_
 obtain⟨J,H,HK⟩:=H
 refine OL.cutN 6 (fun aa ww=>∃x21 h12,St 22 ((21,Value.bool x21) :: [(1,Value.pointer (some p1)),(2,Value.pointer (some p2)),(11,Value.agg #[Value.int .i64 0,Value.slice (⟨none,0,0⟩:Sv).a (⟨none,0,0⟩:Sv).n (⟨none,0,0⟩:Sv).c,Value.map none,Value.map none]),(12,Value.agg #[Value.int .i64 y12,Value.slice y12_1.a y12_1.n y12_1.c,Value.slice y12_2.a y12_2.n y12_2.c,Value.int .i64 y12_3,Value.string y12_4,Value.bool y12_5,Value.int .i64 y12_6,Value.slice y12_7.a y12_7.n y12_7.c,Value.slice y12_8.a y12_8.n y12_8.c]),(13,Value.agg #[Value.int .i64 y13,Value.slice y13_1.a y13_1.n y13_1.c,Value.slice y13_2.a y13_2.n y13_2.c,Value.int .i64 y13_3,Value.string y13_4,Value.bool y13_5,Value.int .i64 y13_6,Value.slice y13_7.a y13_7.n y13_7.c,Value.slice y13_8.a y13_8.n y13_8.c]),(14,Value.bool x14),(15,Value.bool x14)]) h12 w0 aa ww∧J x21 h12) ?_ ?_
 ·
  rcases Bool.eq_false_or_eq_true x14 with hb|hb
  ·
   replace H:=H.1 hb
   refine OL.zq (hg:=GOk.mk rfl rfl hb) S (Lf.run_build (cs:=#[Value.int .i64 0,Value.slice (⟨none,0,0⟩:Sv).a (⟨none,0,0⟩:Sv).n (⟨none,0,0⟩:Sv).c,Value.map none,Value.map none]) pl33 ti33 (parts_map S rfl) (by kernel_rfl)) fun _ S=>?_
   obtain⟨y17,y17_1,y17_2,y17_3,y17_4,y17_5,y17_6,y17_7,y17_8,c_13,c_14,c_15,c_16,c_17,c_18,c_19,c_20,c_21,H⟩:=H
   refine OL.zq (hg:=GOk.mk rfl rfl hb) S (Lf.run_ldA (cs:=[Value.int .i64 y17,Value.slice y17_1.a y17_1.n y17_1.c,Value.slice y17_2.a y17_2.n y17_2.c,Value.int .i64 y17_3,Value.string y17_4,Value.bool y17_5,Value.int .i64 y17_6,Value.slice y17_7.a y17_7.n y17_7.c,Value.slice y17_8.a y17_8.n y17_8.c]) (S.ev rfl) ag37 ti37 (by rw[S.heap];exact RowL.toRow ⟨c_13,c_14,c_15,c_16,c_17,c_18,c_19,c_20,c_21,trivial⟩)) fun _ S=>?_
   obtain⟨y18,y18_1,y18_2,y18_3,y18_4,y18_5,y18_6,y18_7,y18_8,c_4,c_5,c_6,c_7,c_8,c_9,c_10,c_11,c_12,H⟩:=H
   refine OL.zq (hg:=GOk.mk rfl rfl hb) S (Lf.run_ldA (cs:=[Value.int .i64 y18,Value.slice y18_1.a y18_1.n y18_1.c,Value.slice y18_2.a y18_2.n y18_2.c,Value.int .i64 y18_3,Value.string y18_4,Value.bool y18_5,Value.int .i64 y18_6,Value.slice y18_7.a y18_7.n y18_7.c,Value.slice y18_8.a y18_8.n y18_8.c]) (S.ev rfl) ag37 ti37 (by rw[S.heap];exact RowL.toRow ⟨c_4,c_5,c_6,c_7,c_8,c_9,c_10,c_11,c_12,trivial⟩)) fun _ S=>?_
   refine ol_cal S H isfn10 rfl rfl (GOk.mk rfl rfl hb) ?_
   clear S H;intro u_5 aa ww h13 H S
   obtain⟨x19,rfl,H⟩:=H
   refine OL.zq (hg:=GOk.mk rfl rfl hb) S (Lf.run_not (S.ev rfl)) fun _ S=>?_
   refine OL.zq S (Lf.run_pickT (S.ev rfl) hb (S.ev rfl)) fun _ S=>?_
   refine OL.nil ?_
   exact⟨_,_,S.sub _ ⟨rfl,rfl,rfl,rfl,rfl,rfl,rfl,rfl,trivial⟩,H⟩
  ·
   replace H:=H.2 hb
   refine OL.zn S (GNo.mk rfl rfl hb) fun _ S=>?_
   refine OL.zn S (GNo.mk rfl rfl hb) fun _ S=>?_
   refine OL.zn S (GNo.mk rfl rfl hb) fun _ S=>?_
   refine OL.zn S (GNo.mk rfl rfl hb) fun _ S=>?_
   refine OL.zn S (GNo.mk rfl rfl hb) fun _ S=>?_
   refine OL.zq S (Lf.run_pickF (S.ev rfl) hb (S.ev rfl)) fun _ S=>?_
   refine OL.nil ?_
   exact⟨_,_,S.sub _ ⟨rfl,rfl,rfl,rfl,rfl,rfl,rfl,rfl,trivial⟩,H⟩
 ·
  clear S
  rintro aa ww ⟨x21,h12,S,HJ⟩
  replace H:=HK _ _ HJ
  clear HK HJ
  refine OL.za S fun _ S=>?_
  refine OL.nil ?_
  refine W.ret ?_
  exact Ret.one S rfl rfl H
def L10 (vw0:Int) (vw0_1:Sv) (vw0_2:Option Nat) (vw0_3:Option Nat) (a1:Int) (a1_1:Sv) (a1_2:Sv) (a1_3:Int) (a1_4:ByteArray) (a1_5:Bool) (a1_6:Int) (a1_7:Sv) (a1_8:Sv) (b2:Int) (b2_1:Sv) (b2_2:Sv) (b2_3:Int) (b2_4:ByteArray) (b2_5:Bool) (b2_6:Int) (b2_7:Sv) (b2_8:Sv) (h:Heap) (R:Value→Heap→Prop):Prop:=
 new 33 #[Value.int .i64 vw0,Value.slice vw0_1.a vw0_1.n vw0_1.c,Value.map vw0_2,Value.map vw0_3] h fun p3 h1=>
 new 37 #[Value.int .i64 a1,Value.slice a1_1.a a1_1.n a1_1.c,Value.slice a1_2.a a1_2.n a1_2.c,Value.int .i64 a1_3,Value.string a1_4,Value.bool a1_5,Value.int .i64 a1_6,Value.slice a1_7.a a1_7.n a1_7.c,Value.slice a1_8.a a1_8.n a1_8.c] h1 fun p4 h2=>
 new 37 #[Value.int .i64 b2,Value.slice b2_1.a b2_1.n b2_1.c,Value.slice b2_2.a b2_2.n b2_2.c,Value.int .i64 b2_3,Value.string b2_4,Value.bool b2_5,Value.int .i64 b2_6,Value.slice b2_7.a b2_7.n b2_7.c,Value.slice b2_8.a b2_8.n b2_8.c] h2 fun p5 h3=>
 ldI .i64 h3 p3 fun x14=>
 ∃J:Bool→Prop,(orr (decide (x14<0)) (fun k=>
  ldI .i64 h3 p3 fun x18=>
  k (decide (300<x18))) J)∧∀x20,J x20 →
 ∃J_1:Bool→Heap→Prop,(orj x20 (fun k_1=>
  ∃(y22:Int) (y22_1:Sv) (y22_2:Sv) (y22_3:Int) (y22_4:ByteArray) (y22_5:Bool) (y22_6:Int) (y22_7:Sv) (y22_8:Sv),cl h3 p4=some (Value.int .i64 y22)∧cl h3 (p4.add 1)=some (Value.slice y22_1.a y22_1.n y22_1.c)∧cl h3 (p4.add 2)=some (Value.slice y22_2.a y22_2.n y22_2.c)∧cl h3 (p4.add 3)=some (Value.int .i64 y22_3)∧cl h3 (p4.add 4)=some (Value.string y22_4)∧cl h3 (p4.add 5)=some (Value.bool y22_5)∧cl h3 (p4.add 6)=some (Value.int .i64 y22_6)∧cl h3 (p4.add 7)=some (Value.slice y22_7.a y22_7.n y22_7.c)∧cl h3 (p4.add 8)=some (Value.slice y22_8.a y22_8.n y22_8.c) ∧
  ldI .i64 h3 p3 fun x24=>
  cal Try.prog 22 #[Value.agg #[Value.int .i64 y22,Value.slice y22_1.a y22_1.n y22_1.c,Value.slice y22_2.a y22_2.n y22_2.c,Value.int .i64 y22_3,Value.string y22_4,Value.bool y22_5,Value.int .i64 y22_6,Value.slice y22_7.a y22_7.n y22_7.c,Value.slice y22_8.a y22_8.n y22_8.c],Value.int .i64 x24] h3 fun u h5=>asB u fun x25=>
  k_1 (!x25) h5) h3 J_1)∧∀x27 h4,J_1 x27 h4 →
 ∃J_2:Bool→Heap→Prop,(orj x27 (fun k_2=>
  ∃(y29:Int) (y29_1:Sv) (y29_2:Sv) (y29_3:Int) (y29_4:ByteArray) (y29_5:Bool) (y29_6:Int) (y29_7:Sv) (y29_8:Sv),cl h4 p5=some (Value.int .i64 y29)∧cl h4 (p5.add 1)=some (Value.slice y29_1.a y29_1.n y29_1.c)∧cl h4 (p5.add 2)=some (Value.slice y29_2.a y29_2.n y29_2.c)∧cl h4 (p5.add 3)=some (Value.int .i64 y29_3)∧cl h4 (p5.add 4)=some (Value.string y29_4)∧cl h4 (p5.add 5)=some (Value.bool y29_5)∧cl h4 (p5.add 6)=some (Value.int .i64 y29_6)∧cl h4 (p5.add 7)=some (Value.slice y29_7.a y29_7.n y29_7.c)∧cl h4 (p5.add 8)=some (Value.slice y29_8.a y29_8.n y29_8.c) ∧
  ldI .i64 h4 p3 fun x31=>
  cal Try.prog 22 #[Value.agg #[Value.int .i64 y29,Value.slice y29_1.a y29_1.n y29_1.c,Value.slice y29_2.a y29_2.n y29_2.c,Value.int .i64 y29_3,Value.string y29_4,Value.bool y29_5,Value.int .i64 y29_6,Value.slice y29_7.a y29_7.n y29_7.c,Value.slice y29_8.a y29_8.n y29_8.c],Value.int .i64 x31] h4 fun u_1 h7=>asB u_1 fun x32=>
  k_2 (!x32) h7) h4 J_2)∧∀x34 h6,J_2 x34 h6 →
 ifb x34 (
  R (Value.bool false) h6) (
  ldI .i64 h6 p3 fun x37=>
  ldI .i64 h6 p5 fun x39=>
  cal Try.prog 23 #[Value.int .i64 (IntKind.i64.wrap (x37+x39))] h6 fun u_2 h8=>∃(x41:Option Addr) (x41_1:Int),u_2=Value.tuple #[Value.pointer x41,Value.int .i64 x41_1] ∧
  ifb (x41_1 != 0) (
   R (Value.bool false) h8) (
   ∃Sq:Heap→Prop,Sq h8∧(
    ldS h8 (p3.add 1) fun x47=>
    ∃(y49:Int) (y49_1:Sv) (y49_2:Sv) (y49_3:Int) (y49_4:ByteArray) (y49_5:Bool) (y49_6:Int) (y49_7:Sv) (y49_8:Sv),hld Sq p5 (Value.int .i64 y49)∧hld Sq (p5.add 1) (Value.slice y49_1.a y49_1.n y49_1.c)∧hld Sq (p5.add 2) (Value.slice y49_2.a y49_2.n y49_2.c)∧hld Sq (p5.add 3) (Value.int .i64 y49_3)∧hld Sq (p5.add 4) (Value.string y49_4)∧hld Sq (p5.add 5) (Value.bool y49_5)∧hld Sq (p5.add 6) (Value.int .i64 y49_6)∧hld Sq (p5.add 7) (Value.slice y49_7.a y49_7.n y49_7.c)∧hld Sq (p5.add 8) (Value.slice y49_8.a y49_8.n y49_8.c) ∧
    hlM Sq (p3.add 3) fun x51=>
    cal Try.prog 24 #[Value.slice x47.a x47.n x47.c] h8 fun u_3 h9=>asS u_3 fun x48=>
    Sq h9 ∧
    cal Try.prog 25 #[Value.agg #[Value.int .i64 y49,Value.slice y49_1.a y49_1.n y49_1.c,Value.slice y49_2.a y49_2.n y49_2.c,Value.int .i64 y49_3,Value.string y49_4,Value.bool y49_5,Value.int .i64 y49_6,Value.slice y49_7.a y49_7.n y49_7.c,Value.slice y49_8.a y49_8.n y49_8.c],Value.map x51] h9 fun u_4 h10=>asS u_4 fun x52=>
    appS 56 (Value.agg #[Value.int .i64 0,Value.int .i64 0]).cells 2 16 h10 x48 x52 fun s53 h11=>
    ∃(I:Int→Heap→Prop) (m:Int→Heap→Nat),I 0 h11∧∀x55 h12,I x55 h12 →
    ifb (decide (x55<((s53.n:Nat):Int))) (
     ixS s53 x55 fun q57=>
     ∃(y58:Int) (y58_1:Int),cl h12 (q57.add ((x55:Int).toNat*2))=some (Value.int .i64 y58)∧cl h12 ((q57.add ((x55:Int).toNat*2)).add 1)=some (Value.int .i64 y58_1) ∧
     new 56 #[Value.int .i64 0,Value.int .i64 0] h12 fun p10 h13=>
     stoA h13 p10 [Value.int .i64 y58,Value.int .i64 y58_1] fun h14=>
     ldI .i64 h14 p10 fun x61=>
     ldI .i64 h14 (p10.add 1) fun x63=>
     cal Try.prog 26 #[Value.pointer x41,Value.int .i64 x61,Value.int .i64 x63] h14 fun u_5 h15=>asI .i64 u_5 fun x64=>
     ifb (x64 != 0) (
      R (Value.bool false) h15) (
      I (IntKind.i64.wrap (x55+1)) h15∧m (IntKind.i64.wrap (x55+1)) h15<m x55 h12)) (
     ∃Sq_1:Heap→Prop,Sq_1 h12∧(
      ∃(y69:Int) (y69_1:Sv) (y69_2:Sv) (y69_3:Int) (y69_4:ByteArray) (y69_5:Bool) (y69_6:Int) (y69_7:Sv) (y69_8:Sv),cl h12 p4=some (Value.int .i64 y69)∧cl h12 (p4.add 1)=some (Value.slice y69_1.a y69_1.n y69_1.c)∧cl h12 (p4.add 2)=some (Value.slice y69_2.a y69_2.n y69_2.c)∧cl h12 (p4.add 3)=some (Value.int .i64 y69_3)∧cl h12 (p4.add 4)=some (Value.string y69_4)∧cl h12 (p4.add 5)=some (Value.bool y69_5)∧cl h12 (p4.add 6)=some (Value.int .i64 y69_6)∧cl h12 (p4.add 7)=some (Value.slice y69_7.a y69_7.n y69_7.c)∧cl h12 (p4.add 8)=some (Value.slice y69_8.a y69_8.n y69_8.c) ∧
      ldI .i64 h12 p3 fun x71=>
      ldI .i64 h12 p5 fun x73=>
      ∃(y68:Int) (y68_1:Sv) (y68_2:Option Nat) (y68_3:Option Nat),hld Sq_1 p3 (Value.int .i64 y68)∧hld Sq_1 (p3.add 1) (Value.slice y68_1.a y68_1.n y68_1.c)∧hld Sq_1 (p3.add 2) (Value.map y68_2)∧hld Sq_1 (p3.add 3) (Value.map y68_3) ∧
      ∃(y75:Int) (y75_1:Sv) (y75_2:Sv) (y75_3:Int) (y75_4:ByteArray) (y75_5:Bool) (y75_6:Int) (y75_7:Sv) (y75_8:Sv),hld Sq_1 p5 (Value.int .i64 y75)∧hld Sq_1 (p5.add 1) (Value.slice y75_1.a y75_1.n y75_1.c)∧hld Sq_1 (p5.add 2) (Value.slice y75_2.a y75_2.n y75_2.c)∧hld Sq_1 (p5.add 3) (Value.int .i64 y75_3)∧hld Sq_1 (p5.add 4) (Value.string y75_4)∧hld Sq_1 (p5.add 5) (Value.bool y75_5)∧hld Sq_1 (p5.add 6) (Value.int .i64 y75_6)∧hld Sq_1 (p5.add 7) (Value.slice y75_7.a y75_7.n y75_7.c)∧hld Sq_1 (p5.add 8) (Value.slice y75_8.a y75_8.n y75_8.c) ∧
      cal Try.prog 28 #[Value.agg #[Value.int .i64 y69,Value.slice y69_1.a y69_1.n y69_1.c,Value.slice y69_2.a y69_2.n y69_2.c,Value.int .i64 y69_3,Value.string y69_4,Value.bool y69_5,Value.int .i64 y69_6,Value.slice y69_7.a y69_7.n y69_7.c,Value.slice y69_8.a y69_8.n y69_8.c],Value.int .i64 x71,Value.int .i64 x73] h12 fun u_6 h16=>∃(y74:Int) (y74_1:Sv) (y74_2:Sv) (y74_3:Int) (y74_4:ByteArray) (y74_5:Bool) (y74_6:Int) (y74_7:Sv) (y74_8:Sv),u_6=Value.agg #[Value.int .i64 y74,Value.slice y74_1.a y74_1.n y74_1.c,Value.slice y74_2.a y74_2.n y74_2.c,Value.int .i64 y74_3,Value.string y74_4,Value.bool y74_5,Value.int .i64 y74_6,Value.slice y74_7.a y74_7.n y74_7.c,Value.slice y74_8.a y74_8.n y74_8.c] ∧
      Sq_1 h16 ∧
      cal Try.prog 27 #[Value.agg #[Value.int .i64 y68,Value.slice y68_1.a y68_1.n y68_1.c,Value.map y68_2,Value.map y68_3],Value.agg #[Value.int .i64 y74,Value.slice y74_1.a y74_1.n y74_1.c,Value.slice y74_2.a y74_2.n y74_2.c,Value.int .i64 y74_3,Value.string y74_4,Value.bool y74_5,Value.int .i64 y74_6,Value.slice y74_7.a y74_7.n y74_7.c,Value.slice y74_8.a y74_8.n y74_8.c],Value.agg #[Value.int .i64 y75,Value.slice y75_1.a y75_1.n y75_1.c,Value.slice y75_2.a y75_2.n y75_2.c,Value.int .i64 y75_3,Value.string y75_4,Value.bool y75_5,Value.int .i64 y75_6,Value.slice y75_7.a y75_7.n y75_7.c,Value.slice y75_8.a y75_8.n y75_8.c]] h16 fun u_7 h17=>∃(x76:Sv) (x76_1:Bool),u_7=Value.tuple #[Value.slice x76.a x76.n x76.c,Value.bool x76_1] ∧
      ∃J_3:Bool→Heap→Prop,(andj x76_1 (fun k_3=>
       cal Try.prog 29 #[Value.pointer x41,Value.slice x76.a x76.n x76.c] h17 fun u_8 h19=>asB u_8 fun x83=>
       k_3 x83 h19) h17 J_3)∧∀x84 h18,J_3 x84 h18 →
      R (Value.bool x84) h18)))))
set_option maxRecDepth 100000 in
theorem F10 {vw0 vw0_1 vw0_2 vw0_3 a1 a1_1 a1_2 a1_3 a1_4 a1_5 a1_6 a1_7 a1_8 b2 b2_1 b2_2 b2_3 b2_4 b2_5 b2_6 b2_7 b2_8 h:_} {R:Value→Heap→Prop} (H:L10 vw0 vw0_1 vw0_2 vw0_3 a1 a1_1 a1_2 a1_3 a1_4 a1_5 a1_6 a1_7 a1_8 b2 b2_1 b2_2 b2_3 b2_4 b2_5 b2_6 b2_7 b2_8 h R):CallsH Try.prog 10 #[Value.agg #[Value.int .i64 vw0,Value.slice vw0_1.a vw0_1.n vw0_1.c,Value.map vw0_2,Value.map vw0_3],Value.agg #[Value.int .i64 a1,Value.slice a1_1.a a1_1.n a1_1.c,Value.slice a1_2.a a1_2.n a1_2.c,Value.int .i64 a1_3,Value.string a1_4,Value.bool a1_5,Value.int .i64 a1_6,Value.slice a1_7.a a1_7.n a1_7.c,Value.slice a1_8.a a1_8.n a1_8.c],Value.agg #[Value.int .i64 b2,Value.slice b2_1.a b2_1.n b2_1.c,Value.slice b2_2.a b2_2.n b2_2.c,Value.int .i64 b2_3,Value.string b2_4,Value.bool b2_5,Value.int .i64 b2_6,Value.slice b2_7.a b2_7.n b2_7.c,Value.slice b2_8.a b2_8.n b2_8.c]] h R:=by
 refine CallsH.enter (n:=85) Try.func10 rfl rfl rfl rfl ?_
 intro w0 aa ww S
 unfold L10 at H
 refine W.seq ?_
 refine W.region ?_
 refine ol_box S H rfl rfl rfl trivial ?_
 clear S H;intro p3 aa ww h1 H S
 refine ol_box S H rfl rfl rfl trivial ?_
 clear S H;intro p4 aa ww h2 H S
 refine ol_box S H rfl rfl rfl trivial ?_
 clear S H;intro p5 aa ww h3 H S
 refine OL.za S fun _ S=>?_
 refine OL.nil ?_
 refine W.seq ?_
 refine W.seq ?_
 refine W.region ?_
 refine OL.zf S fa33_0 fun _ S=>?_
 obtain⟨x14,c,H⟩:=H
 refine OL.zl S fl3 c fun _ S=>?_
 refine OL.zq S (Lf.run_lss (S.ev rfl) (S.ev rfl)) fun _ S=>?_
 refine OL.zm S fun _ S=>?_
 obtain⟨J,H,HK⟩:=H
 refine OL.cutN 4 (fun aa ww=>∃x20,St 85 ((20,Value.bool x20) :: [(3,Value.pointer (some p3)),(4,Value.pointer (some p4)),(5,Value.pointer (some p5)),(13,Value.pointer (some p3)),(14,Value.int .i64 x14),(15,Value.bool (decide (x14<0))),(16,Value.bool (decide (x14<0)))]) h3 w0 aa ww∧J x20) ?_ ?_
 ·
  rcases Bool.eq_false_or_eq_true (decide (x14<0)) with hb|hb
  ·
   replace H:=H.1 hb
   refine OL.zn S (GNo.mk rfl rfl hb) fun _ S=>?_
   refine OL.zn S (GNo.mk rfl rfl hb) fun _ S=>?_
   refine OL.zn S (GNo.mk rfl rfl hb) fun _ S=>?_
   refine OL.zq S (Lf.run_pickT (S.ev rfl) hb (S.ev rfl)) fun _ S=>?_
   refine OL.nil ?_
   exact⟨_,S.sub _ ⟨rfl,rfl,rfl,rfl,rfl,rfl,rfl,rfl,trivial⟩,H⟩
  ·
   replace H:=H.2 hb
   refine OL.zf (hg:=GOk.mk rfl rfl hb) S fa33_0 fun _ S=>?_
   obtain⟨x18,c_1,H⟩:=H
   refine OL.zl (hg:=GOk.mk rfl rfl hb) S fl3 c_1 fun _ S=>?_
   refine OL.zq (hg:=GOk.mk rfl rfl hb) S (Lf.run_gtr (S.ev rfl) (S.ev rfl)) fun _ S=>?_
   refine OL.zq S (Lf.run_pickF (S.ev rfl) hb (S.ev rfl)) fun _ S=>?_
   refine OL.nil ?_
   exact⟨_,S.sub _ ⟨rfl,rfl,rfl,rfl,rfl,rfl,rfl,rfl,trivial⟩,H⟩
 ·
  clear S
  rintro aa ww ⟨x20,S,HJ⟩
  replace H:=HK _ HJ
  clear HK HJ
  refine OL.zm S fun _ S=>?_
  obtain⟨J_1,H,HK_1⟩:=H
  refine OL.cutN 6 (fun aa ww=>∃x27 h4,St 85 ((27,Value.bool x27) :: [(3,Value.pointer (some p3)),(4,Value.pointer (some p4)),(5,Value.pointer (some p5)),(13,Value.pointer (some p3)),(14,Value.int .i64 x14),(15,Value.bool (decide (x14<0))),(16,Value.bool (decide (x14<0))),(20,Value.bool x20),(21,Value.bool x20)]) h4 w0 aa ww∧J_1 x27 h4) ?_ ?_
  ·
   rcases Bool.eq_false_or_eq_true x20 with hb_1|hb_1
   ·
    replace H:=H.1 hb_1
    refine OL.zn S (GNo.mk rfl rfl hb_1) fun _ S=>?_
    refine OL.zn S (GNo.mk rfl rfl hb_1) fun _ S=>?_
    refine OL.zn S (GNo.mk rfl rfl hb_1) fun _ S=>?_
    refine OL.zn S (GNo.mk rfl rfl hb_1) fun _ S=>?_
    refine OL.zn S (GNo.mk rfl rfl hb_1) fun _ S=>?_
    refine OL.zq S (Lf.run_pickT (S.ev rfl) hb_1 (S.ev rfl)) fun _ S=>?_
    refine OL.nil ?_
    exact⟨_,_,S.sub _ ⟨rfl,rfl,rfl,rfl,rfl,rfl,rfl,rfl,rfl,rfl,trivial⟩,H⟩
   ·
    replace H:=H.2 hb_1
    obtain⟨y22,y22_1,y22_2,y22_3,y22_4,y22_5,y22_6,y22_7,y22_8,c_4,c_5,c_6,c_7,c_8,c_9,c_10,c_11,c_12,H⟩:=H
    refine OL.zq (hg:=GOk.mk rfl rfl hb_1) S (Lf.run_ldA (cs:=[Value.int .i64 y22,Value.slice y22_1.a y22_1.n y22_1.c,Value.slice y22_2.a y22_2.n y22_2.c,Value.int .i64 y22_3,Value.string y22_4,Value.bool y22_5,Value.int .i64 y22_6,Value.slice y22_7.a y22_7.n y22_7.c,Value.slice y22_8.a y22_8.n y22_8.c]) (S.ev rfl) ag37 ti37 (by rw[S.heap];exact RowL.toRow ⟨c_4,c_5,c_6,c_7,c_8,c_9,c_10,c_11,c_12,trivial⟩)) fun _ S=>?_
    refine OL.zf (hg:=GOk.mk rfl rfl hb_1) S fa33_0 fun _ S=>?_
    obtain⟨x24,c_3,H⟩:=H
    refine OL.zl (hg:=GOk.mk rfl rfl hb_1) S fl3 c_3 fun _ S=>?_
    refine ol_cal S H isfn22 rfl rfl (GOk.mk rfl rfl hb_1) ?_
    clear S H;intro u aa ww h5 H S
    obtain⟨x25,rfl,H⟩:=H
    refine OL.zq (hg:=GOk.mk rfl rfl hb_1) S (Lf.run_not (S.ev rfl)) fun _ S=>?_
    refine OL.zq S (Lf.run_pickF (S.ev rfl) hb_1 (S.ev rfl)) fun _ S=>?_
    refine OL.nil ?_
    exact⟨_,_,S.sub _ ⟨rfl,rfl,rfl,rfl,rfl,rfl,rfl,rfl,rfl,rfl,trivial⟩,H⟩
  ·
   clear S
   rintro aa ww ⟨x27,h4,S,HJ⟩
   replace H:=HK_1 _ _ HJ
   clear HK_1 HJ
   refine OL.zm S fun _ S=>?_
   obtain⟨J_2,H,HK_2⟩:=H
   refine OL.cutN 6 (fun aa ww=>∃x34 h6,St 85 ((34,Value.bool x34) :: [(3,Value.pointer (some p3)),(4,Value.pointer (some p4)),(5,Value.pointer (some p5)),(13,Value.pointer (some p3)),(14,Value.int .i64 x14),(15,Value.bool (decide (x14<0))),(16,Value.bool (decide (x14<0))),(20,Value.bool x20),(21,Value.bool x20),(27,Value.bool x27),(28,Value.bool x27)]) h6 w0 aa ww∧J_2 x34 h6) ?_ ?_
   ·
    rcases Bool.eq_false_or_eq_true x27 with hb_2|hb_2
    ·
     replace H:=H.1 hb_2
     refine OL.zn S (GNo.mk rfl rfl hb_2) fun _ S=>?_
     refine OL.zn S (GNo.mk rfl rfl hb_2) fun _ S=>?_
     refine OL.zn S (GNo.mk rfl rfl hb_2) fun _ S=>?_
     refine OL.zn S (GNo.mk rfl rfl hb_2) fun _ S=>?_
     refine OL.zn S (GNo.mk rfl rfl hb_2) fun _ S=>?_
     refine OL.zq S (Lf.run_pickT (S.ev rfl) hb_2 (S.ev rfl)) fun _ S=>?_
     refine OL.nil ?_
     exact⟨_,_,S.sub _ ⟨rfl,rfl,rfl,rfl,rfl,rfl,rfl,rfl,rfl,rfl,rfl,rfl,trivial⟩,H⟩
    ·
     replace H:=H.2 hb_2
     obtain⟨y29,y29_1,y29_2,y29_3,y29_4,y29_5,y29_6,y29_7,y29_8,c_15,c_16,c_17,c_18,c_19,c_20,c_21,c_22,c_23,H⟩:=H
     refine OL.zq (hg:=GOk.mk rfl rfl hb_2) S (Lf.run_ldA (cs:=[Value.int .i64 y29,Value.slice y29_1.a y29_1.n y29_1.c,Value.slice y29_2.a y29_2.n y29_2.c,Value.int .i64 y29_3,Value.string y29_4,Value.bool y29_5,Value.int .i64 y29_6,Value.slice y29_7.a y29_7.n y29_7.c,Value.slice y29_8.a y29_8.n y29_8.c]) (S.ev rfl) ag37 ti37 (by rw[S.heap];exact RowL.toRow ⟨c_15,c_16,c_17,c_18,c_19,c_20,c_21,c_22,c_23,trivial⟩)) fun _ S=>?_
     refine OL.zf (hg:=GOk.mk rfl rfl hb_2) S fa33_0 fun _ S=>?_
     obtain⟨x31,c_14,H⟩:=H
     refine OL.zl (hg:=GOk.mk rfl rfl hb_2) S fl3 c_14 fun _ S=>?_
     refine ol_cal S H isfn22 rfl rfl (GOk.mk rfl rfl hb_2) ?_
     clear S H;intro u_1 aa ww h7 H S
     obtain⟨x32,rfl,H⟩:=H
     refine OL.zq (hg:=GOk.mk rfl rfl hb_2) S (Lf.run_not (S.ev rfl)) fun _ S=>?_
     refine OL.zq S (Lf.run_pickF (S.ev rfl) hb_2 (S.ev rfl)) fun _ S=>?_
     refine OL.nil ?_
     exact⟨_,_,S.sub _ ⟨rfl,rfl,rfl,rfl,rfl,rfl,rfl,rfl,rfl,rfl,rfl,rfl,trivial⟩,H⟩
   ·
    clear S
    rintro aa ww ⟨x34,h6,S,HJ⟩
    replace H:=HK_2 _ _ HJ
    clear HK_2 HJ
    refine OL.nil ?_
    refine W.cond S (b:=x34) rfl (fun hb_3=>?_) (fun hb_3=>?_)
    ·
     replace H:=H.1 hb_3
     refine W.seq ?_
     refine W.region ?_
     refine OL.za S fun _ S=>?_
     refine OL.nil ?_
     refine W.ret ?_
     exact Ret.one S rfl rfl H
    ·
     replace H:=H.2 hb_3
     refine W.skip ?_
     refine W.seq ?_
     refine W.region ?_
     refine OL.zf S fa33_0 fun _ S=>?_
     obtain⟨x37,c_24,H⟩:=H
     refine OL.zl S fl3 c_24 fun _ S=>?_
     refine OL.zf S fa37_0 fun _ S=>?_
     obtain⟨x39,c_25,H⟩:=H
     refine OL.zl S fl3 c_25 fun _ S=>?_
     refine OL.zq S (Lf.run_add (S.ev rfl) (S.ev rfl)) fun _ S=>?_
     refine ol_cal S H isfn23 rfl rfl trivial ?_
     clear S H;intro u_2 aa ww h8 H S
     obtain⟨x41,x41_1,rfl,H⟩:=H
     refine OL.zm S fun _ S=>?_
     refine OL.zq S (Lf.run_ex (S.ev rfl) rfl) fun _ S=>?_
     refine OL.zq S (Lf.run_ex (S.ev rfl) rfl) fun _ S=>?_
     refine OL.za S fun _ S=>?_
     refine OL.za S fun _ S=>?_
     refine OL.nil ?_
     refine W.seq ?_
     refine W.seq ?_
     refine W.region ?_
     refine OL.zm S fun _ S=>?_
     refine OL.zq S (Lf.run_neq (S.ev rfl) (S.ev rfl)) fun _ S=>?_
     refine OL.nil ?_
     refine W.cond S (b:=(x41_1 != 0)) rfl (fun hb_4=>?_) (fun hb_4=>?_)
     ·
      replace H:=H.1 hb_4
      refine W.seq ?_
      refine W.region ?_
      refine OL.za S fun _ S=>?_
      refine OL.nil ?_
      refine W.ret ?_
      exact Ret.one S rfl rfl H
     ·
      replace H:=H.2 hb_4
      refine W.skip ?_
      refine W.seq ?_
      refine W.seq ?_
      replace S:=S.sub [(3,Value.pointer (some p3)),(4,Value.pointer (some p4)),(5,Value.pointer (some p5)),(7,Value.pointer x41)] ⟨rfl,rfl,rfl,rfl,trivial⟩
      obtain⟨Sq,HS,H⟩:=H
      refine W.regionN [3,5] [2,6,7] Sq S (by kernel_rfl) ?_
      clear S;intro ww S
      refine BN.pure 0 S (fun _=>HS) rfl (by kernel_rfl) (by kernel_rfl) (fun _=>Lf.run_fa (S.ev rfl) fa33_1) rfl rfl trivial fun _ S=>?_
      obtain⟨x47,c_26,H⟩:=H
      refine BN.load 1 S (fun _=>HS) rfl (by kernel_rfl) (by kernel_rfl) (fun _ hx=>Lf.run_ld (S.ev rfl) fl22 (hx.cell _ _ (S.cl c_26))) rfl rfl trivial fun _ S=>?_
      refine BN.pure 4 S (fun _=>HS) rfl (by kernel_rfl) (by kernel_rfl) (fun _=>Lf.run_fa (S.ev rfl) fa33_3) rfl rfl trivial fun _ S=>?_
      refine BN.pure 9 S (fun _=>HS) rfl (by kernel_rfl) (by kernel_rfl) (fun _=>Lf.run_move (S.ev rfl)) rfl rfl trivial fun _ S=>?_
      obtain⟨y49,y49_1,y49_2,y49_3,y49_4,y49_5,y49_6,y49_7,y49_8,c_61,c_62,c_63,c_64,c_65,c_66,c_67,c_68,c_69,H⟩:=H
      refine BN.held 3 S HS rfl (by kernel_rfl) (fun _ hq=>Lf.run_ldA (cs:=[Value.int .i64 y49,Value.slice y49_1.a y49_1.n y49_1.c,Value.slice y49_2.a y49_2.n y49_2.c,Value.int .i64 y49_3,Value.string y49_4,Value.bool y49_5,Value.int .i64 y49_6,Value.slice y49_7.a y49_7.n y49_7.c,Value.slice y49_8.a y49_8.n y49_8.c]) (S.ev rfl) ag37 ti37 (hlRow hq fun h_ hs_=>⟨c_61 h_ hs_,c_62 h_ hs_,c_63 h_ hs_,c_64 h_ hs_,c_65 h_ hs_,c_66 h_ hs_,c_67 h_ hs_,c_68 h_ hs_,c_69 h_ hs_,trivial⟩)) rfl rfl trivial fun _ S=>?_
      obtain⟨x51,c_28,H⟩:=H
      refine BN.held 5 S HS rfl (by kernel_rfl) (fun _ hq=>Lf.run_ld (S.ev rfl) fl31 (c_28 _ hq)) rfl rfl trivial fun _ S=>?_
      refine BN.eff 2 rfl (by kernel_rfl) ?_
      refine ol_cal S H isfn24 rfl rfl trivial ?_
      clear S H;intro u_3 aa ww h9 H S
      obtain⟨x48,rfl,H⟩:=H
      refine OL.nil ?_
      clear HS;obtain⟨HS,H⟩:=H
      refine⟨fun _=>by rw[S.heap];exact HS,?_⟩
      refine BN.eff 6 rfl (by kernel_rfl) ?_
      refine ol_cal S H isfn25 rfl rfl trivial ?_
      clear S H;intro u_4 aa ww h10 H S
      obtain⟨x52,rfl,H⟩:=H
      refine OL.nil ?_
      refine⟨noNeed (by kernel_rfl),?_⟩
      refine BN.eff 7 rfl (by kernel_rfl) ?_
      refine ol_appS S H Try.underlying22 ti56 rfl rfl rfl trivial ?_
      clear S H;intro s53 aa ww h11 H S
      refine OL.nil ?_
      refine⟨noNeed (by kernel_rfl),?_⟩
      refine BN.pure 8 S (noNeed (by kernel_rfl)) rfl (by kernel_rfl) (by kernel_rfl) (fun _=>Lf.run_lens (S.ev rfl) rfl Try.underlying22) rfl rfl trivial fun _ S=>?_
      refine BN.done (by kernel_rfl) ?_
      refine W.block ?_
      obtain⟨I,m,H,HB⟩:=H
      refine W.loopS (σ:=Int×Heap) (fun s aa ww=>St 85 [(3,Value.pointer (some p3)),(4,Value.pointer (some p4)),(5,Value.pointer (some p5)),(7,Value.pointer x41),(53,Value.slice s53.a s53.n s53.c),(54,Value.int .i64 ((s53.n:Nat):Int)),(55,Value.int .i64 s.1)] s.2 w0 aa ww∧I s.1 s.2) (fun s=>m s.1 s.2) (0,h11) ⟨S.sub _ ⟨rfl,rfl,rfl,rfl,rfl,rfl,rfl,trivial⟩,H⟩ ?_
      clear H S
      rintro ⟨x55,h12⟩ aa ww ⟨S,HI⟩
      replace S:St 85 [(3,Value.pointer (some p3)),(4,Value.pointer (some p4)),(5,Value.pointer (some p5)),(7,Value.pointer x41),(53,Value.slice s53.a s53.n s53.c),(54,Value.int .i64 ((s53.n:Nat):Int)),(55,Value.int .i64 x55)] h12 w0 aa ww:=S
      have H:=HB x55 h12 HI
      clear HI
      refine W.seq ?_
      refine W.region ?_
      refine OL.zq S (Lf.run_lss (S.ev rfl) (S.ev rfl)) fun _ S=>?_
      refine OL.nil ?_
      refine W.seq ?_
      refine W.cond S (b:=(decide (x55<((s53.n:Nat):Int)))) rfl (fun hb_5=>?_) (fun hb_5=>?_)
      ·
       replace H:=H.1 hb_5
       refine W.skip ?_
       refine W.seq ?_
       refine W.block ?_
       refine W.seq ?_
       refine W.region ?_
       obtain⟨q57,e,e_1,e_2,H⟩:=H
       refine OL.zq S (Lf.run_ixs (S.ev rfl) (S.ev rfl) Try.underlying22 ti56 e e_1 e_2) fun _ S=>?_
       obtain⟨y58,y58_1,c_32,c_33,H⟩:=H
       refine OL.zq S (Lf.run_ldA (cs:=[Value.int .i64 y58,Value.int .i64 y58_1]) (S.ev rfl) ag56 ti56 (by rw[S.heap];exact RowL.toRow ⟨c_32,c_33,trivial⟩)) fun _ S=>?_
       refine ol_alloc S H ti56 rfl rfl trivial ?_
       clear S H;intro p10 aa ww h13 H S
       refine ol_stoA S H rfl rfl ti56 trivial ?_
       clear S H;intro aa ww h14 H S
       refine OL.nil ?_
       refine W.seq ?_
       refine W.region ?_
       refine OL.zm S fun _ S=>?_
       refine OL.zq S (Lf.run_ixa (S.ev rfl) (S.ev rfl) Try.underlying56 ti3 (by decide) (by decide)) fun _ S=>?_
       obtain⟨x61,c_30,H⟩:=H
       refine OL.zl S fl3 c_30 fun _ S=>?_
       refine OL.zq S (Lf.run_ixa (S.ev rfl) (S.ev rfl) Try.underlying56 ti3 (by decide) (by decide)) fun _ S=>?_
       obtain⟨x63,c_31,H⟩:=H
       refine OL.zl S fl3 c_31 fun _ S=>?_
       refine ol_cal S H isfn26 rfl rfl trivial ?_
       clear S H;intro u_5 aa ww h15 H S
       obtain⟨x64,rfl,H⟩:=H
       refine OL.zq S (Lf.run_neq (S.ev rfl) (S.ev rfl)) fun _ S=>?_
       refine OL.nil ?_
       refine W.cond S (b:=(x64 != 0)) rfl (fun hb_6=>?_) (fun hb_6=>?_)
       ·
        replace H:=H.1 hb_6
        refine W.seq ?_
        refine W.region ?_
        refine OL.za S fun _ S=>?_
        refine OL.nil ?_
        refine W.ret ?_
        exact Ret.one S rfl rfl H
       ·
        replace H:=H.2 hb_6
        refine W.skip ?_
        refine W.region ?_
        refine OL.zq S (Lf.run_add (S.ev rfl) (S.ev rfl)) fun _ S=>?_
        refine OL.zm S fun _ S=>?_
        refine OL.nil ?_
        exact⟨((IntKind.i64.wrap (x55+1)),h15),⟨S.sub _ ⟨rfl,rfl,rfl,rfl,rfl,rfl,rfl,trivial⟩,H.1⟩,H.2⟩
      ·
       replace H:=H.2 hb_5
       refine W.exit_ ?_
       refine xhit ?_
       refine W.seq ?_
       replace S:=S.sub [(3,Value.pointer (some p3)),(4,Value.pointer (some p4)),(5,Value.pointer (some p5)),(7,Value.pointer x41)] ⟨rfl,rfl,rfl,rfl,trivial⟩
       obtain⟨Sq_1,HS_1,H⟩:=H
       refine W.regionN [0,7] [6,8] Sq_1 S (by kernel_rfl) ?_
       clear S;intro ww S
       obtain⟨y69,y69_1,y69_2,y69_3,y69_4,y69_5,y69_6,y69_7,y69_8,c_52,c_53,c_54,c_55,c_56,c_57,c_58,c_59,c_60,H⟩:=H
       refine BN.load 1 S (fun _=>HS_1) rfl (by kernel_rfl) (by kernel_rfl) (fun _ hx=>Lf.run_ldA (cs:=[Value.int .i64 y69,Value.slice y69_1.a y69_1.n y69_1.c,Value.slice y69_2.a y69_2.n y69_2.c,Value.int .i64 y69_3,Value.string y69_4,Value.bool y69_5,Value.int .i64 y69_6,Value.slice y69_7.a y69_7.n y69_7.c,Value.slice y69_8.a y69_8.n y69_8.c]) (S.ev rfl) ag37 ti37 (hx.row (S.row ⟨c_52,c_53,c_54,c_55,c_56,c_57,c_58,c_59,c_60,trivial⟩))) rfl rfl trivial fun _ S=>?_
       refine BN.pure 2 S (fun _=>HS_1) rfl (by kernel_rfl) (by kernel_rfl) (fun _=>Lf.run_fa (S.ev rfl) fa33_0) rfl rfl trivial fun _ S=>?_
       obtain⟨x71,c_35,H⟩:=H
       refine BN.load 3 S (fun _=>HS_1) rfl (by kernel_rfl) (by kernel_rfl) (fun _ hx=>Lf.run_ld (S.ev rfl) fl3 (hx.cell _ _ (S.cl c_35))) rfl rfl trivial fun _ S=>?_
       refine BN.pure 4 S (fun _=>HS_1) rfl (by kernel_rfl) (by kernel_rfl) (fun _=>Lf.run_fa (S.ev rfl) fa37_0) rfl rfl trivial fun _ S=>?_
       obtain⟨x73,c_36,H⟩:=H
       refine BN.load 5 S (fun _=>HS_1) rfl (by kernel_rfl) (by kernel_rfl) (fun _ hx=>Lf.run_ld (S.ev rfl) fl3 (hx.cell _ _ (S.cl c_36))) rfl rfl trivial fun _ S=>?_
       obtain⟨y68,y68_1,y68_2,y68_3,c_48,c_49,c_50,c_51,H⟩:=H
       refine BN.held 0 S HS_1 rfl (by kernel_rfl) (fun _ hq=>Lf.run_ldA (cs:=[Value.int .i64 y68,Value.slice y68_1.a y68_1.n y68_1.c,Value.map y68_2,Value.map y68_3]) (S.ev rfl) ag33 ti33 (hlRow hq fun h_ hs_=>⟨c_48 h_ hs_,c_49 h_ hs_,c_50 h_ hs_,c_51 h_ hs_,trivial⟩)) rfl rfl trivial fun _ S=>?_
       obtain⟨y75,y75_1,y75_2,y75_3,y75_4,y75_5,y75_6,y75_7,y75_8,c_39,c_40,c_41,c_42,c_43,c_44,c_45,c_46,c_47,H⟩:=H
       refine BN.held 7 S HS_1 rfl (by kernel_rfl) (fun _ hq=>Lf.run_ldA (cs:=[Value.int .i64 y75,Value.slice y75_1.a y75_1.n y75_1.c,Value.slice y75_2.a y75_2.n y75_2.c,Value.int .i64 y75_3,Value.string y75_4,Value.bool y75_5,Value.int .i64 y75_6,Value.slice y75_7.a y75_7.n y75_7.c,Value.slice y75_8.a y75_8.n y75_8.c]) (S.ev rfl) ag37 ti37 (hlRow hq fun h_ hs_=>⟨c_39 h_ hs_,c_40 h_ hs_,c_41 h_ hs_,c_42 h_ hs_,c_43 h_ hs_,c_44 h_ hs_,c_45 h_ hs_,c_46 h_ hs_,c_47 h_ hs_,trivial⟩)) rfl rfl trivial fun _ S=>?_
       refine BN.eff 6 rfl (by kernel_rfl) ?_
       refine ol_cal S H isfn28 rfl rfl trivial ?_
       clear S H;intro u_6 aa ww h16 H S
       obtain⟨y74,y74_1,y74_2,y74_3,y74_4,y74_5,y74_6,y74_7,y74_8,rfl,H⟩:=H
       refine OL.nil ?_
       clear HS_1;obtain⟨HS_1,H⟩:=H
       refine⟨fun _=>by rw[S.heap];exact HS_1,?_⟩
       refine BN.eff 8 rfl (by kernel_rfl) ?_
       refine ol_cal S H isfn27 rfl rfl trivial ?_
       clear S H;intro u_7 aa ww h17 H S
       obtain⟨x76,x76_1,rfl,H⟩:=H
       refine OL.nil ?_
       refine⟨noNeed (by kernel_rfl),?_⟩
       refine BN.pure 9 S (noNeed (by kernel_rfl)) rfl (by kernel_rfl) (by kernel_rfl) (fun _=>Lf.run_move (S.ev rfl)) rfl rfl trivial fun _ S=>?_
       refine BN.pure 10 S (noNeed (by kernel_rfl)) rfl (by kernel_rfl) (by kernel_rfl) (fun _=>Lf.run_ex (S.ev rfl) rfl) rfl rfl trivial fun _ S=>?_
       refine BN.pure 11 S (noNeed (by kernel_rfl)) rfl (by kernel_rfl) (by kernel_rfl) (fun _=>Lf.run_ex (S.ev rfl) rfl) rfl rfl trivial fun _ S=>?_
       refine BN.pure 12 S (noNeed (by kernel_rfl)) rfl (by kernel_rfl) (by kernel_rfl) (fun _=>Lf.run_assign (S.ev rfl)) rfl rfl trivial fun _ S=>?_
       refine BN.pure 13 S (noNeed (by kernel_rfl)) rfl (by kernel_rfl) (by kernel_rfl) (fun _=>Lf.run_assign (S.ev rfl)) rfl rfl trivial fun _ S=>?_
       refine BN.done (by kernel_rfl) ?_
       refine W.seq ?_
       refine W.region ?_
       refine OL.zm S fun _ S=>?_
       refine OL.zm S fun _ S=>?_
       obtain⟨J_3,H,HK_3⟩:=H
       refine OL.cutN 4 (fun aa ww=>∃x84 h18,St 85 ((84,Value.bool x84) :: [(7,Value.pointer x41),(11,Value.slice x76.a x76.n x76.c),(12,Value.bool x76_1),(79,Value.bool x76_1),(80,Value.bool x76_1)]) h18 w0 aa ww∧J_3 x84 h18) ?_ ?_
       ·
        rcases Bool.eq_false_or_eq_true x76_1 with hb_7|hb_7
        ·
         replace H:=H.1 hb_7
         refine OL.zm (hg:=GOk.mk rfl rfl hb_7) S fun _ S=>?_
         refine OL.zm (hg:=GOk.mk rfl rfl hb_7) S fun _ S=>?_
         refine ol_cal S H isfn29 rfl rfl (GOk.mk rfl rfl hb_7) ?_
         clear S H;intro u_8 aa ww h19 H S
         obtain⟨x83,rfl,H⟩:=H
         refine OL.zq S (Lf.run_pickT (S.ev rfl) hb_7 (S.ev rfl)) fun _ S=>?_
         refine OL.nil ?_
         exact⟨_,_,S.sub _ ⟨rfl,rfl,rfl,rfl,rfl,rfl,trivial⟩,H⟩
        ·
         replace H:=H.2 hb_7
         refine OL.zn S (GNo.mk rfl rfl hb_7) fun _ S=>?_
         refine OL.zn S (GNo.mk rfl rfl hb_7) fun _ S=>?_
         refine OL.zn S (GNo.mk rfl rfl hb_7) fun _ S=>?_
         refine OL.zq S (Lf.run_pickF (S.ev rfl) hb_7 (S.ev rfl)) fun _ S=>?_
         refine OL.nil ?_
         exact⟨_,_,S.sub _ ⟨rfl,rfl,rfl,rfl,rfl,rfl,trivial⟩,H⟩
       ·
        clear S
        rintro aa ww ⟨x84,h18,S,HJ⟩
        replace H:=HK_3 _ _ HJ
        clear HK_3 HJ
        refine OL.za S fun _ S=>?_
        refine OL.nil ?_
        refine W.ret ?_
        exact Ret.one S rfl rfl H
def L11 (vw0:Int) (vw0_1:Sv) (vw0_2:Option Nat) (vw0_3:Option Nat) (a1:Int) (a1_1:Sv) (a1_2:Sv) (a1_3:Int) (a1_4:ByteArray) (a1_5:Bool) (a1_6:Int) (a1_7:Sv) (a1_8:Sv) (b2:Int) (b2_1:Sv) (b2_2:Sv) (b2_3:Int) (b2_4:ByteArray) (b2_5:Bool) (b2_6:Int) (b2_7:Sv) (b2_8:Sv) (h:Heap) (R:Value→Heap→Prop):Prop:=
 new 33 #[Value.int .i64 vw0,Value.slice vw0_1.a vw0_1.n vw0_1.c,Value.map vw0_2,Value.map vw0_3] h fun p3 h1=>
 new 37 #[Value.int .i64 a1,Value.slice a1_1.a a1_1.n a1_1.c,Value.slice a1_2.a a1_2.n a1_2.c,Value.int .i64 a1_3,Value.string a1_4,Value.bool a1_5,Value.int .i64 a1_6,Value.slice a1_7.a a1_7.n a1_7.c,Value.slice a1_8.a a1_8.n a1_8.c] h1 fun p4 h2=>
 new 37 #[Value.int .i64 b2,Value.slice b2_1.a b2_1.n b2_1.c,Value.slice b2_2.a b2_2.n b2_2.c,Value.int .i64 b2_3,Value.string b2_4,Value.bool b2_5,Value.int .i64 b2_6,Value.slice b2_7.a b2_7.n b2_7.c,Value.slice b2_8.a b2_8.n b2_8.c] h2 fun p5 h3=>
 ldI .i64 h3 p3 fun x18=>
 ldI .i64 h3 p5 fun x20=>
 ∃(y22:Int) (y22_1:Sv) (y22_2:Sv) (y22_3:Int) (y22_4:ByteArray) (y22_5:Bool) (y22_6:Int) (y22_7:Sv) (y22_8:Sv),cl h3 p4=some (Value.int .i64 y22)∧cl h3 (p4.add 1)=some (Value.slice y22_1.a y22_1.n y22_1.c)∧cl h3 (p4.add 2)=some (Value.slice y22_2.a y22_2.n y22_2.c)∧cl h3 (p4.add 3)=some (Value.int .i64 y22_3)∧cl h3 (p4.add 4)=some (Value.string y22_4)∧cl h3 (p4.add 5)=some (Value.bool y22_5)∧cl h3 (p4.add 6)=some (Value.int .i64 y22_6)∧cl h3 (p4.add 7)=some (Value.slice y22_7.a y22_7.n y22_7.c)∧cl h3 (p4.add 8)=some (Value.slice y22_8.a y22_8.n y22_8.c) ∧
 ldI .i64 h3 p3 fun x24=>
 cal Try.prog 30 #[Value.agg #[Value.int .i64 y22,Value.slice y22_1.a y22_1.n y22_1.c,Value.slice y22_2.a y22_2.n y22_2.c,Value.int .i64 y22_3,Value.string y22_4,Value.bool y22_5,Value.int .i64 y22_6,Value.slice y22_7.a y22_7.n y22_7.c,Value.slice y22_8.a y22_8.n y22_8.c],Value.int .i64 x24] h3 fun u h4=>asB u fun x25=>
 ∃J:Bool→Heap→Prop,(orj (!x25) (fun k=>
  ∃(y28:Int) (y28_1:Sv) (y28_2:Sv) (y28_3:Int) (y28_4:ByteArray) (y28_5:Bool) (y28_6:Int) (y28_7:Sv) (y28_8:Sv),cl h4 p5=some (Value.int .i64 y28)∧cl h4 (p5.add 1)=some (Value.slice y28_1.a y28_1.n y28_1.c)∧cl h4 (p5.add 2)=some (Value.slice y28_2.a y28_2.n y28_2.c)∧cl h4 (p5.add 3)=some (Value.int .i64 y28_3)∧cl h4 (p5.add 4)=some (Value.string y28_4)∧cl h4 (p5.add 5)=some (Value.bool y28_5)∧cl h4 (p5.add 6)=some (Value.int .i64 y28_6)∧cl h4 (p5.add 7)=some (Value.slice y28_7.a y28_7.n y28_7.c)∧cl h4 (p5.add 8)=some (Value.slice y28_8.a y28_8.n y28_8.c) ∧
  ldI .i64 h4 p3 fun x30=>
  cal Try.prog 30 #[Value.agg #[Value.int .i64 y28,Value.slice y28_1.a y28_1.n y28_1.c,Value.slice y28_2.a y28_2.n y28_2.c,Value.int .i64 y28_3,Value.string y28_4,Value.bool y28_5,Value.int .i64 y28_6,Value.slice y28_7.a y28_7.n y28_7.c,Value.slice y28_8.a y28_8.n y28_8.c],Value.int .i64 x30] h4 fun u_1 h6=>asB u_1 fun x31=>
  k (!x31) h6) h4 J)∧∀x33 h5,J x33 h5 →
 ∃J_1:Bool→Heap→Prop,(orj x33 (fun k_1=>
  ldS h5 (p3.add 1) fun x36=>
  cal Try.prog 31 #[Value.slice x36.a x36.n x36.c,Value.int .i64 (IntKind.i64.wrap (x18+x20))] h5 fun u_2 h8=>asB u_2 fun x38=>
  k_1 (!x38) h8) h5 J_1)∧∀x40 h7,J_1 x40 h7 →
 ifb x40 (
  R (Value.bool false) h7) (
  ∃Sq:Heap→Prop,Sq h7∧(
   ∃(y43:Int) (y43_1:Sv) (y43_2:Sv) (y43_3:Int) (y43_4:ByteArray) (y43_5:Bool) (y43_6:Int) (y43_7:Sv) (y43_8:Sv),cl h7 p4=some (Value.int .i64 y43)∧cl h7 (p4.add 1)=some (Value.slice y43_1.a y43_1.n y43_1.c)∧cl h7 (p4.add 2)=some (Value.slice y43_2.a y43_2.n y43_2.c)∧cl h7 (p4.add 3)=some (Value.int .i64 y43_3)∧cl h7 (p4.add 4)=some (Value.string y43_4)∧cl h7 (p4.add 5)=some (Value.bool y43_5)∧cl h7 (p4.add 6)=some (Value.int .i64 y43_6)∧cl h7 (p4.add 7)=some (Value.slice y43_7.a y43_7.n y43_7.c)∧cl h7 (p4.add 8)=some (Value.slice y43_8.a y43_8.n y43_8.c) ∧
   ldI .i64 h7 p3 fun x45=>
   ldI .i64 h7 p5 fun x47=>
   ∃(y42:Int) (y42_1:Sv) (y42_2:Option Nat) (y42_3:Option Nat),hld Sq p3 (Value.int .i64 y42)∧hld Sq (p3.add 1) (Value.slice y42_1.a y42_1.n y42_1.c)∧hld Sq (p3.add 2) (Value.map y42_2)∧hld Sq (p3.add 3) (Value.map y42_3) ∧
   ∃(y49:Int) (y49_1:Sv) (y49_2:Sv) (y49_3:Int) (y49_4:ByteArray) (y49_5:Bool) (y49_6:Int) (y49_7:Sv) (y49_8:Sv),hld Sq p5 (Value.int .i64 y49)∧hld Sq (p5.add 1) (Value.slice y49_1.a y49_1.n y49_1.c)∧hld Sq (p5.add 2) (Value.slice y49_2.a y49_2.n y49_2.c)∧hld Sq (p5.add 3) (Value.int .i64 y49_3)∧hld Sq (p5.add 4) (Value.string y49_4)∧hld Sq (p5.add 5) (Value.bool y49_5)∧hld Sq (p5.add 6) (Value.int .i64 y49_6)∧hld Sq (p5.add 7) (Value.slice y49_7.a y49_7.n y49_7.c)∧hld Sq (p5.add 8) (Value.slice y49_8.a y49_8.n y49_8.c) ∧
   cal Try.prog 15 #[Value.agg #[Value.int .i64 y43,Value.slice y43_1.a y43_1.n y43_1.c,Value.slice y43_2.a y43_2.n y43_2.c,Value.int .i64 y43_3,Value.string y43_4,Value.bool y43_5,Value.int .i64 y43_6,Value.slice y43_7.a y43_7.n y43_7.c,Value.slice y43_8.a y43_8.n y43_8.c],Value.int .i64 x45,Value.int .i64 x47] h7 fun u_3 h9=>∃(y48:Int) (y48_1:Sv) (y48_2:Sv) (y48_3:Int) (y48_4:ByteArray) (y48_5:Bool) (y48_6:Int) (y48_7:Sv) (y48_8:Sv),u_3=Value.agg #[Value.int .i64 y48,Value.slice y48_1.a y48_1.n y48_1.c,Value.slice y48_2.a y48_2.n y48_2.c,Value.int .i64 y48_3,Value.string y48_4,Value.bool y48_5,Value.int .i64 y48_6,Value.slice y48_7.a y48_7.n y48_7.c,Value.slice y48_8.a y48_8.n y48_8.c] ∧
   Sq h9 ∧
   cal Try.prog 14 #[Value.agg #[Value.int .i64 y42,Value.slice y42_1.a y42_1.n y42_1.c,Value.map y42_2,Value.map y42_3],Value.agg #[Value.int .i64 y48,Value.slice y48_1.a y48_1.n y48_1.c,Value.slice y48_2.a y48_2.n y48_2.c,Value.int .i64 y48_3,Value.string y48_4,Value.bool y48_5,Value.int .i64 y48_6,Value.slice y48_7.a y48_7.n y48_7.c,Value.slice y48_8.a y48_8.n y48_8.c],Value.agg #[Value.int .i64 y49,Value.slice y49_1.a y49_1.n y49_1.c,Value.slice y49_2.a y49_2.n y49_2.c,Value.int .i64 y49_3,Value.string y49_4,Value.bool y49_5,Value.int .i64 y49_6,Value.slice y49_7.a y49_7.n y49_7.c,Value.slice y49_8.a y49_8.n y49_8.c]] h9 fun u_4 h10=>∃(x50:Sv) (x50_1:Bool),u_4=Value.tuple #[Value.slice x50.a x50.n x50.c,Value.bool x50_1] ∧
   ifb (!x50_1) (
    R (Value.bool false) h10) (
    ∃Sq_1:Heap→Prop,Sq_1 h10∧(
     ldS h10 (p3.add 1) fun x58=>
     ∃(y60:Int) (y60_1:Sv) (y60_2:Option Nat) (y60_3:Option Nat),hld Sq_1 p3 (Value.int .i64 y60)∧hld Sq_1 (p3.add 1) (Value.slice y60_1.a y60_1.n y60_1.c)∧hld Sq_1 (p3.add 2) (Value.map y60_2)∧hld Sq_1 (p3.add 3) (Value.map y60_3) ∧
     ∃(y61:Int) (y61_1:Sv) (y61_2:Sv) (y61_3:Int) (y61_4:ByteArray) (y61_5:Bool) (y61_6:Int) (y61_7:Sv) (y61_8:Sv),hld Sq_1 p5 (Value.int .i64 y61)∧hld Sq_1 (p5.add 1) (Value.slice y61_1.a y61_1.n y61_1.c)∧hld Sq_1 (p5.add 2) (Value.slice y61_2.a y61_2.n y61_2.c)∧hld Sq_1 (p5.add 3) (Value.int .i64 y61_3)∧hld Sq_1 (p5.add 4) (Value.string y61_4)∧hld Sq_1 (p5.add 5) (Value.bool y61_5)∧hld Sq_1 (p5.add 6) (Value.int .i64 y61_6)∧hld Sq_1 (p5.add 7) (Value.slice y61_7.a y61_7.n y61_7.c)∧hld Sq_1 (p5.add 8) (Value.slice y61_8.a y61_8.n y61_8.c) ∧
     newS 56 #[] 0 h10 fun s56 h11=>
     Sq_1 h11 ∧
     appS 56 (Value.agg #[Value.int .i64 0,Value.int .i64 0]).cells 2 16 h11 s56 x58 fun s59 h12=>
     Sq_1 h12 ∧
     cal Try.prog 12 #[Value.agg #[Value.int .i64 y60,Value.slice y60_1.a y60_1.n y60_1.c,Value.map y60_2,Value.map y60_3],Value.agg #[Value.int .i64 y61,Value.slice y61_1.a y61_1.n y61_1.c,Value.slice y61_2.a y61_2.n y61_2.c,Value.int .i64 y61_3,Value.string y61_4,Value.bool y61_5,Value.int .i64 y61_6,Value.slice y61_7.a y61_7.n y61_7.c,Value.slice y61_8.a y61_8.n y61_8.c]] h12 fun u_5 h13=>asS u_5 fun x62=>
     appS 56 (Value.agg #[Value.int .i64 0,Value.int .i64 0]).cells 2 16 h13 s59 x62 fun s63 h14=>
     new 54 #[Value.int .i64 (IntKind.i64.wrap (x18+x20)),Value.slice s63.a s63.n s63.c] h14 fun p65 h15=>
     ldI .i64 h15 p4 fun x68=>
     ∃(I:Int→Heap→Prop) (m:Int→Heap→Nat),I 0 h15∧∀vfrom12 h16,I vfrom12 h16 →
     ifb (decide (vfrom12≤(IntKind.i64.wrap (x18+x20)))) (
      mkS 3 (Value.int .i64 0).cells 1 8 (IntKind.i64.wrap ((IntKind.i64.wrap ((IntKind.i64.wrap (x18+x20))+x68))+1)) (IntKind.i64.wrap ((IntKind.i64.wrap ((IntKind.i64.wrap (x18+x20))+x68))+1)) h16 fun s77 h17=>
      ixS s77 vfrom12 fun q80=>
      sto h17 (q80.add ((vfrom12:Int).toNat*1)) (Value.int .i64 1) fun h18=>
      ∃(I_1:Int→Heap→Prop) (m_1:Int→Heap→Nat),I_1 0 h18∧∀round14 h19,I_1 round14 h19 →
      ifb (decide (round14≤(IntKind.i64.wrap ((IntKind.i64.wrap (x18+x20))+x68)))) (
       ∃(I_2:Int→Heap→Prop) (m_2:Int→Heap→Nat),I_2 0 h19∧∀i15 h20,I_2 i15 h20 →
       ifb (decide (i15<((x50.n:Nat):Int))) (
        ∃J_2:Heap→Prop,(
         ixS x50 i15 fun q95=>
         ldI .i64 h20 (q95.add ((i15:Int).toNat*2)) fun x97=>
         ixS s77 x97 fun q98=>
         ldI .i64 h20 (q98.add ((x97:Int).toNat*1)) fun x99=>
         ifb (decide (0<x99)) (
          ixS x50 i15 fun q104=>
          ldI .i64 h20 ((q104.add ((i15:Int).toNat*2)).add 1) fun x106=>
          ixS s77 x106 fun q107=>
          sto h20 (q107.add ((x106:Int).toNat*1)) (Value.int .i64 1) fun h21=>
          J_2 h21) (
          J_2 h20))∧(∀h22,J_2 h22 →
        I_2 (IntKind.i64.wrap (i15+1)) h22∧m_2 (IntKind.i64.wrap (i15+1)) h22<m_2 i15 h20)) (
        I_1 (IntKind.i64.wrap (round14+1)) h20∧m_1 (IntKind.i64.wrap (round14+1)) h20<m_1 round14 h19)) (
       ∃(I_3:Int→Heap→Prop) (m_3:Int→Heap→Nat),I_3 0 h19∧∀vto16 h23,I_3 vto16 h23 →
       ifb (decide (vto16≤(IntKind.i64.wrap (x18+x20)))) (
        ixS s77 vto16 fun q115=>
        ldI .i64 h23 (q115.add ((vto16:Int).toNat*1)) fun x116=>
        ∃J_3:Bool→Heap→Prop,(andj (decide (0<x116)) (fun k_2=>
         cal Try.prog 32 #[Value.pointer (some p65),Value.int .i64 vfrom12,Value.int .i64 vto16] h23 fun u_6 h25=>asB u_6 fun x122=>
         k_2 (!x122) h25) h23 J_3)∧∀x124 h24,J_3 x124 h24 →
        ifb x124 (
         R (Value.bool false) h24) (
         I_3 (IntKind.i64.wrap (vto16+1)) h24∧m_3 (IntKind.i64.wrap (vto16+1)) h24<m_3 vto16 h23)) (
        I (IntKind.i64.wrap (vfrom12+1)) h23∧m (IntKind.i64.wrap (vfrom12+1)) h23<m vfrom12 h16))) (
      R (Value.bool true) h16)))))
set_option maxRecDepth 100000 in
theorem F11 {vw0 vw0_1 vw0_2 vw0_3 a1 a1_1 a1_2 a1_3 a1_4 a1_5 a1_6 a1_7 a1_8 b2 b2_1 b2_2 b2_3 b2_4 b2_5 b2_6 b2_7 b2_8 h:_} {R:Value→Heap→Prop} (H:L11 vw0 vw0_1 vw0_2 vw0_3 a1 a1_1 a1_2 a1_3 a1_4 a1_5 a1_6 a1_7 a1_8 b2 b2_1 b2_2 b2_3 b2_4 b2_5 b2_6 b2_7 b2_8 h R):CallsH Try.prog 11 #[Value.agg #[Value.int .i64 vw0,Value.slice vw0_1.a vw0_1.n vw0_1.c,Value.map vw0_2,Value.map vw0_3],Value.agg #[Value.int .i64 a1,Value.slice a1_1.a a1_1.n a1_1.c,Value.slice a1_2.a a1_2.n a1_2.c,Value.int .i64 a1_3,Value.string a1_4,Value.bool a1_5,Value.int .i64 a1_6,Value.slice a1_7.a a1_7.n a1_7.c,Value.slice a1_8.a a1_8.n a1_8.c],Value.agg #[Value.int .i64 b2,Value.slice b2_1.a b2_1.n b2_1.c,Value.slice b2_2.a b2_2.n b2_2.c,Value.int .i64 b2_3,Value.string b2_4,Value.bool b2_5,Value.int .i64 b2_6,Value.slice b2_7.a b2_7.n b2_7.c,Value.slice b2_8.a b2_8.n b2_8.c]] h R:=by
 refine CallsH.enter (n:=125) Try.func11 rfl rfl rfl rfl ?_
 intro w0 aa ww S
 unfold L11 at H
 refine W.seq ?_
 refine W.region ?_
 refine ol_box S H rfl rfl rfl trivial ?_
 clear S H;intro p3 aa ww h1 H S
 refine ol_box S H rfl rfl rfl trivial ?_
 clear S H;intro p4 aa ww h2 H S
 refine ol_box S H rfl rfl rfl trivial ?_
 clear S H;intro p5 aa ww h3 H S
 refine OL.za S fun _ S=>?_
 refine OL.nil ?_
 refine W.seq ?_
 refine W.region ?_
 refine OL.zf S fa33_0 fun _ S=>?_
 obtain⟨x18,c,H⟩:=H
 refine OL.zl S fl3 c fun _ S=>?_
 refine OL.zf S fa37_0 fun _ S=>?_
 obtain⟨x20,c_1,H⟩:=H
 refine OL.zl S fl3 c_1 fun _ S=>?_
 refine OL.zq S (Lf.run_add (S.ev rfl) (S.ev rfl)) fun _ S=>?_
 refine OL.za S fun _ S=>?_
 refine OL.nil ?_
 refine W.seq ?_
 refine W.seq ?_
 refine W.region ?_
 obtain⟨y22,y22_1,y22_2,y22_3,y22_4,y22_5,y22_6,y22_7,y22_8,c_64,c_65,c_66,c_67,c_68,c_69,c_70,c_71,c_72,H⟩:=H
 refine OL.zq S (Lf.run_ldA (cs:=[Value.int .i64 y22,Value.slice y22_1.a y22_1.n y22_1.c,Value.slice y22_2.a y22_2.n y22_2.c,Value.int .i64 y22_3,Value.string y22_4,Value.bool y22_5,Value.int .i64 y22_6,Value.slice y22_7.a y22_7.n y22_7.c,Value.slice y22_8.a y22_8.n y22_8.c]) (S.ev rfl) ag37 ti37 (by rw[S.heap];exact RowL.toRow ⟨c_64,c_65,c_66,c_67,c_68,c_69,c_70,c_71,c_72,trivial⟩)) fun _ S=>?_
 refine OL.zf S fa33_0 fun _ S=>?_
 obtain⟨x24,c_3,H⟩:=H
 refine OL.zl S fl3 c_3 fun _ S=>?_
 refine ol_cal S H isfn30 rfl rfl trivial ?_
 clear S H;intro u aa ww h4 H S
 obtain⟨x25,rfl,H⟩:=H
 refine OL.zq S (Lf.run_not (S.ev rfl)) fun _ S=>?_
 refine OL.zm S fun _ S=>?_
 obtain⟨J,H,HK⟩:=H
 refine OL.cutN 6 (fun aa ww=>∃x33 h5,St 125 ((33,Value.bool x33) :: [(3,Value.pointer (some p3)),(4,Value.pointer (some p4)),(5,Value.pointer (some p5)),(7,Value.int .i64 (IntKind.i64.wrap (x18+x20))),(22,Value.agg #[Value.int .i64 y22,Value.slice y22_1.a y22_1.n y22_1.c,Value.slice y22_2.a y22_2.n y22_2.c,Value.int .i64 y22_3,Value.string y22_4,Value.bool y22_5,Value.int .i64 y22_6,Value.slice y22_7.a y22_7.n y22_7.c,Value.slice y22_8.a y22_8.n y22_8.c]),(23,Value.pointer (some p3)),(24,Value.int .i64 x24),(25,Value.bool x25),(26,Value.bool (!x25)),(27,Value.bool (!x25))]) h5 w0 aa ww∧J x33 h5) ?_ ?_
 ·
  rcases Bool.eq_false_or_eq_true (!x25) with hb|hb
  ·
   replace H:=H.1 hb
   refine OL.zn S (GNo.mk rfl rfl hb) fun _ S=>?_
   refine OL.zn S (GNo.mk rfl rfl hb) fun _ S=>?_
   refine OL.zn S (GNo.mk rfl rfl hb) fun _ S=>?_
   refine OL.zn S (GNo.mk rfl rfl hb) fun _ S=>?_
   refine OL.zn S (GNo.mk rfl rfl hb) fun _ S=>?_
   refine OL.zq S (Lf.run_pickT (S.ev rfl) hb (S.ev rfl)) fun _ S=>?_
   refine OL.nil ?_
   exact⟨_,_,S.sub _ ⟨rfl,rfl,rfl,rfl,rfl,rfl,rfl,rfl,rfl,rfl,rfl,trivial⟩,H⟩
  ·
   replace H:=H.2 hb
   obtain⟨y28,y28_1,y28_2,y28_3,y28_4,y28_5,y28_6,y28_7,y28_8,c_6,c_7,c_8,c_9,c_10,c_11,c_12,c_13,c_14,H⟩:=H
   refine OL.zq (hg:=GOk.mk rfl rfl hb) S (Lf.run_ldA (cs:=[Value.int .i64 y28,Value.slice y28_1.a y28_1.n y28_1.c,Value.slice y28_2.a y28_2.n y28_2.c,Value.int .i64 y28_3,Value.string y28_4,Value.bool y28_5,Value.int .i64 y28_6,Value.slice y28_7.a y28_7.n y28_7.c,Value.slice y28_8.a y28_8.n y28_8.c]) (S.ev rfl) ag37 ti37 (by rw[S.heap];exact RowL.toRow ⟨c_6,c_7,c_8,c_9,c_10,c_11,c_12,c_13,c_14,trivial⟩)) fun _ S=>?_
   refine OL.zf (hg:=GOk.mk rfl rfl hb) S fa33_0 fun _ S=>?_
   obtain⟨x30,c_5,H⟩:=H
   refine OL.zl (hg:=GOk.mk rfl rfl hb) S fl3 c_5 fun _ S=>?_
   refine ol_cal S H isfn30 rfl rfl (GOk.mk rfl rfl hb) ?_
   clear S H;intro u_1 aa ww h6 H S
   obtain⟨x31,rfl,H⟩:=H
   refine OL.zq (hg:=GOk.mk rfl rfl hb) S (Lf.run_not (S.ev rfl)) fun _ S=>?_
   refine OL.zq S (Lf.run_pickF (S.ev rfl) hb (S.ev rfl)) fun _ S=>?_
   refine OL.nil ?_
   exact⟨_,_,S.sub _ ⟨rfl,rfl,rfl,rfl,rfl,rfl,rfl,rfl,rfl,rfl,rfl,trivial⟩,H⟩
 ·
  clear S
  rintro aa ww ⟨x33,h5,S,HJ⟩
  replace H:=HK _ _ HJ
  clear HK HJ
  refine OL.zm S fun _ S=>?_
  obtain⟨J_1,H,HK_1⟩:=H
  refine OL.cutN 6 (fun aa ww=>∃x40 h7,St 125 ((40,Value.bool x40) :: [(3,Value.pointer (some p3)),(4,Value.pointer (some p4)),(5,Value.pointer (some p5)),(7,Value.int .i64 (IntKind.i64.wrap (x18+x20))),(22,Value.agg #[Value.int .i64 y22,Value.slice y22_1.a y22_1.n y22_1.c,Value.slice y22_2.a y22_2.n y22_2.c,Value.int .i64 y22_3,Value.string y22_4,Value.bool y22_5,Value.int .i64 y22_6,Value.slice y22_7.a y22_7.n y22_7.c,Value.slice y22_8.a y22_8.n y22_8.c]),(23,Value.pointer (some p3)),(24,Value.int .i64 x24),(25,Value.bool x25),(26,Value.bool (!x25)),(27,Value.bool (!x25)),(33,Value.bool x33),(34,Value.bool x33)]) h7 w0 aa ww∧J_1 x40 h7) ?_ ?_
  ·
   rcases Bool.eq_false_or_eq_true x33 with hb_1|hb_1
   ·
    replace H:=H.1 hb_1
    refine OL.zn S (GNo.mk rfl rfl hb_1) fun _ S=>?_
    refine OL.zn S (GNo.mk rfl rfl hb_1) fun _ S=>?_
    refine OL.zn S (GNo.mk rfl rfl hb_1) fun _ S=>?_
    refine OL.zn S (GNo.mk rfl rfl hb_1) fun _ S=>?_
    refine OL.zn S (GNo.mk rfl rfl hb_1) fun _ S=>?_
    refine OL.zq S (Lf.run_pickT (S.ev rfl) hb_1 (S.ev rfl)) fun _ S=>?_
    refine OL.nil ?_
    exact⟨_,_,S.sub _ ⟨rfl,rfl,rfl,rfl,rfl,rfl,rfl,rfl,rfl,rfl,rfl,rfl,rfl,trivial⟩,H⟩
   ·
    replace H:=H.2 hb_1
    refine OL.zf (hg:=GOk.mk rfl rfl hb_1) S fa33_1 fun _ S=>?_
    obtain⟨x36,c_15,H⟩:=H
    refine OL.zl (hg:=GOk.mk rfl rfl hb_1) S fl22 c_15 fun _ S=>?_
    refine OL.zm (hg:=GOk.mk rfl rfl hb_1) S fun _ S=>?_
    refine ol_cal S H isfn31 rfl rfl (GOk.mk rfl rfl hb_1) ?_
    clear S H;intro u_2 aa ww h8 H S
    obtain⟨x38,rfl,H⟩:=H
    refine OL.zq (hg:=GOk.mk rfl rfl hb_1) S (Lf.run_not (S.ev rfl)) fun _ S=>?_
    refine OL.zq S (Lf.run_pickF (S.ev rfl) hb_1 (S.ev rfl)) fun _ S=>?_
    refine OL.nil ?_
    exact⟨_,_,S.sub _ ⟨rfl,rfl,rfl,rfl,rfl,rfl,rfl,rfl,rfl,rfl,rfl,rfl,rfl,trivial⟩,H⟩
  ·
   clear S
   rintro aa ww ⟨x40,h7,S,HJ⟩
   replace H:=HK_1 _ _ HJ
   clear HK_1 HJ
   refine OL.nil ?_
   refine W.cond S (b:=x40) rfl (fun hb_2=>?_) (fun hb_2=>?_)
   ·
    replace H:=H.1 hb_2
    refine W.seq ?_
    refine W.region ?_
    refine OL.za S fun _ S=>?_
    refine OL.nil ?_
    refine W.ret ?_
    exact Ret.one S rfl rfl H
   ·
    replace H:=H.2 hb_2
    refine W.skip ?_
    refine W.seq ?_
    replace S:=S.sub [(3,Value.pointer (some p3)),(4,Value.pointer (some p4)),(5,Value.pointer (some p5)),(7,Value.int .i64 (IntKind.i64.wrap (x18+x20)))] ⟨rfl,rfl,rfl,rfl,trivial⟩
    obtain⟨Sq,HS,H⟩:=H
    refine W.regionN [0,7] [6,8] Sq S (by kernel_rfl) ?_
    clear S;intro ww S
    obtain⟨y43,y43_1,y43_2,y43_3,y43_4,y43_5,y43_6,y43_7,y43_8,c_55,c_56,c_57,c_58,c_59,c_60,c_61,c_62,c_63,H⟩:=H
    refine BN.load 1 S (fun _=>HS) rfl (by kernel_rfl) (by kernel_rfl) (fun _ hx=>Lf.run_ldA (cs:=[Value.int .i64 y43,Value.slice y43_1.a y43_1.n y43_1.c,Value.slice y43_2.a y43_2.n y43_2.c,Value.int .i64 y43_3,Value.string y43_4,Value.bool y43_5,Value.int .i64 y43_6,Value.slice y43_7.a y43_7.n y43_7.c,Value.slice y43_8.a y43_8.n y43_8.c]) (S.ev rfl) ag37 ti37 (hx.row (S.row ⟨c_55,c_56,c_57,c_58,c_59,c_60,c_61,c_62,c_63,trivial⟩))) rfl rfl trivial fun _ S=>?_
    refine BN.pure 2 S (fun _=>HS) rfl (by kernel_rfl) (by kernel_rfl) (fun _=>Lf.run_fa (S.ev rfl) fa33_0) rfl rfl trivial fun _ S=>?_
    obtain⟨x45,c_17,H⟩:=H
    refine BN.load 3 S (fun _=>HS) rfl (by kernel_rfl) (by kernel_rfl) (fun _ hx=>Lf.run_ld (S.ev rfl) fl3 (hx.cell _ _ (S.cl c_17))) rfl rfl trivial fun _ S=>?_
    refine BN.pure 4 S (fun _=>HS) rfl (by kernel_rfl) (by kernel_rfl) (fun _=>Lf.run_fa (S.ev rfl) fa37_0) rfl rfl trivial fun _ S=>?_
    obtain⟨x47,c_18,H⟩:=H
    refine BN.load 5 S (fun _=>HS) rfl (by kernel_rfl) (by kernel_rfl) (fun _ hx=>Lf.run_ld (S.ev rfl) fl3 (hx.cell _ _ (S.cl c_18))) rfl rfl trivial fun _ S=>?_
    obtain⟨y42,y42_1,y42_2,y42_3,c_51,c_52,c_53,c_54,H⟩:=H
    refine BN.held 0 S HS rfl (by kernel_rfl) (fun _ hq=>Lf.run_ldA (cs:=[Value.int .i64 y42,Value.slice y42_1.a y42_1.n y42_1.c,Value.map y42_2,Value.map y42_3]) (S.ev rfl) ag33 ti33 (hlRow hq fun h_ hs_=>⟨c_51 h_ hs_,c_52 h_ hs_,c_53 h_ hs_,c_54 h_ hs_,trivial⟩)) rfl rfl trivial fun _ S=>?_
    obtain⟨y49,y49_1,y49_2,y49_3,y49_4,y49_5,y49_6,y49_7,y49_8,c_42,c_43,c_44,c_45,c_46,c_47,c_48,c_49,c_50,H⟩:=H
    refine BN.held 7 S HS rfl (by kernel_rfl) (fun _ hq=>Lf.run_ldA (cs:=[Value.int .i64 y49,Value.slice y49_1.a y49_1.n y49_1.c,Value.slice y49_2.a y49_2.n y49_2.c,Value.int .i64 y49_3,Value.string y49_4,Value.bool y49_5,Value.int .i64 y49_6,Value.slice y49_7.a y49_7.n y49_7.c,Value.slice y49_8.a y49_8.n y49_8.c]) (S.ev rfl) ag37 ti37 (hlRow hq fun h_ hs_=>⟨c_42 h_ hs_,c_43 h_ hs_,c_44 h_ hs_,c_45 h_ hs_,c_46 h_ hs_,c_47 h_ hs_,c_48 h_ hs_,c_49 h_ hs_,c_50 h_ hs_,trivial⟩)) rfl rfl trivial fun _ S=>?_
    refine BN.eff 6 rfl (by kernel_rfl) ?_
    refine ol_cal S H isfn15 rfl rfl trivial ?_
    clear S H;intro u_3 aa ww h9 H S
    obtain⟨y48,y48_1,y48_2,y48_3,y48_4,y48_5,y48_6,y48_7,y48_8,rfl,H⟩:=H
    refine OL.nil ?_
    clear HS;obtain⟨HS,H⟩:=H
    refine⟨fun _=>by rw[S.heap];exact HS,?_⟩
    refine BN.eff 8 rfl (by kernel_rfl) ?_
    refine ol_cal S H isfn14 rfl rfl trivial ?_
    clear S H;intro u_4 aa ww h10 H S
    obtain⟨x50,x50_1,rfl,H⟩:=H
    refine OL.nil ?_
    refine⟨noNeed (by kernel_rfl),?_⟩
    refine BN.pure 9 S (noNeed (by kernel_rfl)) rfl (by kernel_rfl) (by kernel_rfl) (fun _=>Lf.run_move (S.ev rfl)) rfl rfl trivial fun _ S=>?_
    refine BN.pure 10 S (noNeed (by kernel_rfl)) rfl (by kernel_rfl) (by kernel_rfl) (fun _=>Lf.run_ex (S.ev rfl) rfl) rfl rfl trivial fun _ S=>?_
    refine BN.pure 11 S (noNeed (by kernel_rfl)) rfl (by kernel_rfl) (by kernel_rfl) (fun _=>Lf.run_ex (S.ev rfl) rfl) rfl rfl trivial fun _ S=>?_
    refine BN.pure 12 S (noNeed (by kernel_rfl)) rfl (by kernel_rfl) (by kernel_rfl) (fun _=>Lf.run_assign (S.ev rfl)) rfl rfl trivial fun _ S=>?_
    refine BN.pure 13 S (noNeed (by kernel_rfl)) rfl (by kernel_rfl) (by kernel_rfl) (fun _=>Lf.run_assign (S.ev rfl)) rfl rfl trivial fun _ S=>?_
    refine BN.done (by kernel_rfl) ?_
    refine W.seq ?_
    refine W.seq ?_
    refine W.region ?_
    refine OL.zm S fun _ S=>?_
    refine OL.zq S (Lf.run_not (S.ev rfl)) fun _ S=>?_
    refine OL.nil ?_
    refine W.cond S (b:=(!x50_1)) rfl (fun hb_3=>?_) (fun hb_3=>?_)
    ·
     replace H:=H.1 hb_3
     refine W.seq ?_
     refine W.region ?_
     refine OL.za S fun _ S=>?_
     refine OL.nil ?_
     refine W.ret ?_
     exact Ret.one S rfl rfl H
    ·
     replace H:=H.2 hb_3
     refine W.skip ?_
     refine W.seq ?_
     replace S:=S.sub [(3,Value.pointer (some p3)),(4,Value.pointer (some p4)),(5,Value.pointer (some p5)),(7,Value.int .i64 (IntKind.i64.wrap (x18+x20))),(8,Value.slice x50.a x50.n x50.c)] ⟨rfl,rfl,rfl,rfl,rfl,trivial⟩
     obtain⟨Sq_1,HS_1,H⟩:=H
     refine W.regionN [5,6] [1,4,7,8,10] Sq_1 S (by kernel_rfl) ?_
     clear S;intro ww S
     refine BN.pure 0 S (fun _=>HS_1) rfl (by kernel_rfl) (by kernel_rfl) (fun _=>Lf.run_move (S.ev rfl)) rfl rfl trivial fun _ S=>?_
     refine BN.pure 2 S (fun _=>HS_1) rfl (by kernel_rfl) (by kernel_rfl) (fun _=>Lf.run_fa (S.ev rfl) fa33_1) rfl rfl trivial fun _ S=>?_
     obtain⟨x58,c_21,H⟩:=H
     refine BN.load 3 S (fun _=>HS_1) rfl (by kernel_rfl) (by kernel_rfl) (fun _ hx=>Lf.run_ld (S.ev rfl) fl22 (hx.cell _ _ (S.cl c_21))) rfl rfl trivial fun _ S=>?_
     obtain⟨y60,y60_1,y60_2,y60_3,c_38,c_39,c_40,c_41,H⟩:=H
     refine BN.held 5 S HS_1 rfl (by kernel_rfl) (fun _ hq=>Lf.run_ldA (cs:=[Value.int .i64 y60,Value.slice y60_1.a y60_1.n y60_1.c,Value.map y60_2,Value.map y60_3]) (S.ev rfl) ag33 ti33 (hlRow hq fun h_ hs_=>⟨c_38 h_ hs_,c_39 h_ hs_,c_40 h_ hs_,c_41 h_ hs_,trivial⟩)) rfl rfl trivial fun _ S=>?_
     obtain⟨y61,y61_1,y61_2,y61_3,y61_4,y61_5,y61_6,y61_7,y61_8,c_29,c_30,c_31,c_32,c_33,c_34,c_35,c_36,c_37,H⟩:=H
     refine BN.held 6 S HS_1 rfl (by kernel_rfl) (fun _ hq=>Lf.run_ldA (cs:=[Value.int .i64 y61,Value.slice y61_1.a y61_1.n y61_1.c,Value.slice y61_2.a y61_2.n y61_2.c,Value.int .i64 y61_3,Value.string y61_4,Value.bool y61_5,Value.int .i64 y61_6,Value.slice y61_7.a y61_7.n y61_7.c,Value.slice y61_8.a y61_8.n y61_8.c]) (S.ev rfl) ag37 ti37 (hlRow hq fun h_ hs_=>⟨c_29 h_ hs_,c_30 h_ hs_,c_31 h_ hs_,c_32 h_ hs_,c_33 h_ hs_,c_34 h_ hs_,c_35 h_ hs_,c_36 h_ hs_,c_37 h_ hs_,trivial⟩)) rfl rfl trivial fun _ S=>?_
     refine BN.eff 1 rfl (by kernel_rfl) ?_
     refine ol_newS0 S H Try.underlying22 ti56 rfl rfl trivial ?_
     clear S H;intro s56 aa ww h11 H S
     refine OL.nil ?_
     clear HS_1;obtain⟨HS_1,H⟩:=H
     refine⟨fun _=>by rw[S.heap];exact HS_1,?_⟩
     refine BN.eff 4 rfl (by kernel_rfl) ?_
     refine ol_appS S H Try.underlying22 ti56 rfl rfl rfl trivial ?_
     clear S H;intro s59 aa ww h12 H S
     refine OL.nil ?_
     clear HS_1;obtain⟨HS_1,H⟩:=H
     refine⟨fun _=>by rw[S.heap];exact HS_1,?_⟩
     refine BN.eff 7 rfl (by kernel_rfl) ?_
     refine ol_cal S H isfn12 rfl rfl trivial ?_
     clear S H;intro u_5 aa ww h13 H S
     obtain⟨x62,rfl,H⟩:=H
     refine OL.nil ?_
     refine⟨noNeed (by kernel_rfl),?_⟩
     refine BN.eff 8 rfl (by kernel_rfl) ?_
     refine ol_appS S H Try.underlying22 ti56 rfl rfl rfl trivial ?_
     clear S H;intro s63 aa ww h14 H S
     refine OL.nil ?_
     refine⟨noNeed (by kernel_rfl),?_⟩
     refine BN.pure 9 S (noNeed (by kernel_rfl)) rfl (by kernel_rfl) (by kernel_rfl) (fun _=>Lf.run_build (cs:=#[Value.int .i64 (IntKind.i64.wrap (x18+x20)),Value.slice s63.a s63.n s63.c]) pl54 ti54 (parts_map S rfl) (by kernel_rfl)) rfl rfl trivial fun _ S=>?_
     refine BN.eff 10 rfl (by kernel_rfl) ?_
     refine ol_box S H rfl rfl rfl trivial ?_
     clear S H;intro p65 aa ww h15 H S
     refine OL.nil ?_
     refine⟨noNeed (by kernel_rfl),?_⟩
     refine BN.pure 11 S (noNeed (by kernel_rfl)) rfl (by kernel_rfl) (by kernel_rfl) (fun _=>Lf.run_assign (S.ev rfl)) rfl rfl trivial fun _ S=>?_
     refine BN.done (by kernel_rfl) ?_
     refine W.seq ?_
     refine W.region ?_
     refine OL.zm S fun _ S=>?_
     refine OL.zf S fa37_0 fun _ S=>?_
     obtain⟨x68,c_24,H⟩:=H
     refine OL.zl S fl3 c_24 fun _ S=>?_
     refine OL.zq S (Lf.run_add (S.ev rfl) (S.ev rfl)) fun _ S=>?_
     refine OL.za S fun _ S=>?_
     refine OL.nil ?_
     refine W.seq ?_
     refine W.seq ?_
     refine W.region ?_
     refine OL.za S fun _ S=>?_
     refine OL.nil ?_
     refine W.block ?_
     obtain⟨I,m,H,HB_3⟩:=H
     refine W.loopS (σ:=Int×Heap) (fun s aa ww=>St 125 [(7,Value.int .i64 (IntKind.i64.wrap (x18+x20))),(8,Value.slice x50.a x50.n x50.c),(10,Value.pointer (some p65)),(11,Value.int .i64 (IntKind.i64.wrap ((IntKind.i64.wrap (x18+x20))+x68))),(12,Value.int .i64 s.1)] s.2 w0 aa ww∧I s.1 s.2) (fun s=>m s.1 s.2) (0,h15) ⟨S.sub _ ⟨rfl,rfl,rfl,rfl,rfl,trivial⟩,H⟩ ?_
     clear H S
     rintro ⟨vfrom12,h16⟩ aa ww ⟨S,HI⟩
     replace S:St 125 [(7,Value.int .i64 (IntKind.i64.wrap (x18+x20))),(8,Value.slice x50.a x50.n x50.c),(10,Value.pointer (some p65)),(11,Value.int .i64 (IntKind.i64.wrap ((IntKind.i64.wrap (x18+x20))+x68))),(12,Value.int .i64 vfrom12)] h16 w0 aa ww:=S
     have H:=HB_3 vfrom12 h16 HI
     clear HI
     refine W.seq ?_
     refine W.seq ?_
     refine W.region ?_
     refine OL.zm S fun _ S=>?_
     refine OL.zm S fun _ S=>?_
     refine OL.zq S (Lf.run_leq (S.ev rfl) (S.ev rfl)) fun _ S=>?_
     refine OL.nil ?_
     refine W.cond S (b:=(decide (vfrom12≤(IntKind.i64.wrap (x18+x20))))) rfl (fun hb_4=>?_) (fun hb_4=>?_)
     ·
      replace H:=H.1 hb_4
      refine W.skip ?_
      refine W.seq ?_
      refine W.block ?_
      refine W.seq ?_
      refine W.region ?_
      refine OL.zm S fun _ S=>?_
      refine OL.zq S (Lf.run_add (S.ev rfl) (S.ev rfl)) fun _ S=>?_
      refine ol_mkS S H Try.underlying25 ti3 rfl rfl rfl trivial ?_
      clear S H;intro s77 aa ww h17 H S
      refine OL.za S fun _ S=>?_
      refine OL.nil ?_
      refine W.seq ?_
      refine W.region ?_
      refine OL.zm S fun _ S=>?_
      refine OL.zm S fun _ S=>?_
      obtain⟨q80,e,e_1,e_2,H⟩:=H
      refine OL.zq S (Lf.run_ixs (S.ev rfl) (S.ev rfl) Try.underlying25 ti3 e e_1 e_2) fun _ S=>?_
      refine ol_sto S H rfl rfl rfl ti3 trivial ?_
      clear S H;intro aa ww h18 H S
      refine OL.nil ?_
      refine W.seq ?_
      refine W.seq ?_
      refine W.region ?_
      refine OL.za S fun _ S=>?_
      refine OL.nil ?_
      refine W.block ?_
      obtain⟨I_1,m_1,H,HB_2⟩:=H
      refine W.loopS (σ:=Int×Heap) (fun s aa ww=>St 125 [(7,Value.int .i64 (IntKind.i64.wrap (x18+x20))),(8,Value.slice x50.a x50.n x50.c),(10,Value.pointer (some p65)),(11,Value.int .i64 (IntKind.i64.wrap ((IntKind.i64.wrap (x18+x20))+x68))),(12,Value.int .i64 vfrom12),(13,Value.slice s77.a s77.n s77.c),(14,Value.int .i64 s.1)] s.2 w0 aa ww∧I_1 s.1 s.2) (fun s=>m_1 s.1 s.2) (0,h18) ⟨S.sub _ ⟨rfl,rfl,rfl,rfl,rfl,rfl,rfl,trivial⟩,H⟩ ?_
      clear H S
      rintro ⟨round14,h19⟩ aa ww ⟨S,HI⟩
      replace S:St 125 [(7,Value.int .i64 (IntKind.i64.wrap (x18+x20))),(8,Value.slice x50.a x50.n x50.c),(10,Value.pointer (some p65)),(11,Value.int .i64 (IntKind.i64.wrap ((IntKind.i64.wrap (x18+x20))+x68))),(12,Value.int .i64 vfrom12),(13,Value.slice s77.a s77.n s77.c),(14,Value.int .i64 round14)] h19 w0 aa ww:=S
      have H:=HB_2 round14 h19 HI
      clear HI
      refine W.seq ?_
      refine W.seq ?_
      refine W.region ?_
      refine OL.zm S fun _ S=>?_
      refine OL.zm S fun _ S=>?_
      refine OL.zq S (Lf.run_leq (S.ev rfl) (S.ev rfl)) fun _ S=>?_
      refine OL.nil ?_
      refine W.cond S (b:=(decide (round14≤(IntKind.i64.wrap ((IntKind.i64.wrap (x18+x20))+x68))))) rfl (fun hb_5=>?_) (fun hb_5=>?_)
      ·
       replace H:=H.1 hb_5
       refine W.skip ?_
       refine W.seq ?_
       refine W.block ?_
       refine W.seq ?_
       refine W.region ?_
       refine OL.za S fun _ S=>?_
       refine OL.nil ?_
       refine W.block ?_
       obtain⟨I_2,m_2,H,HB⟩:=H
       refine W.loopS (σ:=Int×Heap) (fun s aa ww=>St 125 [(7,Value.int .i64 (IntKind.i64.wrap (x18+x20))),(8,Value.slice x50.a x50.n x50.c),(10,Value.pointer (some p65)),(11,Value.int .i64 (IntKind.i64.wrap ((IntKind.i64.wrap (x18+x20))+x68))),(12,Value.int .i64 vfrom12),(13,Value.slice s77.a s77.n s77.c),(14,Value.int .i64 round14),(15,Value.int .i64 s.1)] s.2 w0 aa ww∧I_2 s.1 s.2) (fun s=>m_2 s.1 s.2) (0,h19) ⟨S.sub _ ⟨rfl,rfl,rfl,rfl,rfl,rfl,rfl,rfl,trivial⟩,H⟩ ?_
       clear H S
       rintro ⟨i15,h20⟩ aa ww ⟨S,HI⟩
       replace S:St 125 [(7,Value.int .i64 (IntKind.i64.wrap (x18+x20))),(8,Value.slice x50.a x50.n x50.c),(10,Value.pointer (some p65)),(11,Value.int .i64 (IntKind.i64.wrap ((IntKind.i64.wrap (x18+x20))+x68))),(12,Value.int .i64 vfrom12),(13,Value.slice s77.a s77.n s77.c),(14,Value.int .i64 round14),(15,Value.int .i64 i15)] h20 w0 aa ww:=S
       have H:=HB i15 h20 HI
       clear HI
       refine W.seq ?_
       refine W.seq ?_
       refine W.region ?_
       refine OL.zm S fun _ S=>?_
       refine OL.zm S fun _ S=>?_
       refine OL.zq S (Lf.run_lens (S.ev rfl) rfl Try.underlying22) fun _ S=>?_
       refine OL.zq S (Lf.run_lss (S.ev rfl) (S.ev rfl)) fun _ S=>?_
       refine OL.nil ?_
       refine W.cond S (b:=(decide (i15<((x50.n:Nat):Int)))) rfl (fun hb_6=>?_) (fun hb_6=>?_)
       ·
        replace H:=H.1 hb_6
        refine W.skip ?_
        obtain⟨J_2,H,HK_2⟩:=H
        refine W.seqJ (fun aa ww=>∃h22,St 125 [(7,Value.int .i64 (IntKind.i64.wrap (x18+x20))),(8,Value.slice x50.a x50.n x50.c),(10,Value.pointer (some p65)),(11,Value.int .i64 (IntKind.i64.wrap ((IntKind.i64.wrap (x18+x20))+x68))),(12,Value.int .i64 vfrom12),(13,Value.slice s77.a s77.n s77.c),(14,Value.int .i64 round14),(15,Value.int .i64 i15)] h22 w0 aa ww∧J_2 h22) ?_ ?_
        ·
         clear HK_2
         refine W.block ?_
         refine W.seq ?_
         refine W.region ?_
         refine OL.zm S fun _ S=>?_
         refine OL.zm S fun _ S=>?_
         refine OL.zm S fun _ S=>?_
         obtain⟨q95,e_3,e_4,e_5,H⟩:=H
         refine OL.zq S (Lf.run_ixs (S.ev rfl) (S.ev rfl) Try.underlying22 ti56 e_3 e_4 e_5) fun _ S=>?_
         refine OL.zq S (Lf.run_ixa (S.ev rfl) (S.ev rfl) Try.underlying56 ti3 (by decide) (by decide)) fun _ S=>?_
         obtain⟨x97,c_25,H⟩:=H
         refine OL.zl S fl3 c_25 fun _ S=>?_
         obtain⟨q98,e_8,e_9,e_10,H⟩:=H
         refine OL.zq S (Lf.run_ixs (S.ev rfl) (S.ev rfl) Try.underlying25 ti3 e_8 e_9 e_10) fun _ S=>?_
         obtain⟨x99,c_26,H⟩:=H
         refine OL.zl S fl3 c_26 fun _ S=>?_
         refine OL.zq S (Lf.run_gtr (S.ev rfl) (S.ev rfl)) fun _ S=>?_
         refine OL.nil ?_
         refine W.cond S (b:=(decide (0<x99))) rfl (fun hb_7=>?_) (fun hb_7=>?_)
         ·
          replace H:=H.1 hb_7
          refine W.region ?_
          refine OL.zm S fun _ S=>?_
          refine OL.zm S fun _ S=>?_
          refine OL.zm S fun _ S=>?_
          obtain⟨q104,e_11,e_12,e_13,H⟩:=H
          refine OL.zq S (Lf.run_ixs (S.ev rfl) (S.ev rfl) Try.underlying22 ti56 e_11 e_12 e_13) fun _ S=>?_
          refine OL.zq S (Lf.run_ixa (S.ev rfl) (S.ev rfl) Try.underlying56 ti3 (by decide) (by decide)) fun _ S=>?_
          obtain⟨x106,c_27,H⟩:=H
          refine OL.zl S fl3 c_27 fun _ S=>?_
          obtain⟨q107,e_16,e_17,e_18,H⟩:=H
          refine OL.zq S (Lf.run_ixs (S.ev rfl) (S.ev rfl) Try.underlying25 ti3 e_16 e_17 e_18) fun _ S=>?_
          refine ol_sto S H rfl rfl rfl ti3 trivial ?_
          clear S H;intro aa ww h21 H S
          refine OL.nil ?_
          exact⟨h21,S.sub _ ⟨rfl,rfl,rfl,rfl,rfl,rfl,rfl,rfl,trivial⟩,H⟩
         ·
          replace H:=H.2 hb_7
          refine W.skip ?_
          exact⟨h20,S.sub _ ⟨rfl,rfl,rfl,rfl,rfl,rfl,rfl,rfl,trivial⟩,H⟩
        ·
         clear H S
         rintro aa ww ⟨h22,S,HJ⟩
         have H:=HK_2 _ HJ
         clear HK_2 HJ
         refine W.region ?_
         refine OL.zm S fun _ S=>?_
         refine OL.zq S (Lf.run_add (S.ev rfl) (S.ev rfl)) fun _ S=>?_
         refine OL.za S fun _ S=>?_
         refine OL.nil ?_
         exact⟨((IntKind.i64.wrap (i15+1)),h22),⟨S.sub _ ⟨rfl,rfl,rfl,rfl,rfl,rfl,rfl,rfl,trivial⟩,H.1⟩,H.2⟩
       ·
        replace H:=H.2 hb_6
        refine W.exit_ ?_
        refine xhit ?_
        refine W.region ?_
        refine OL.zm S fun _ S=>?_
        refine OL.zq S (Lf.run_add (S.ev rfl) (S.ev rfl)) fun _ S=>?_
        refine OL.za S fun _ S=>?_
        refine OL.nil ?_
        exact⟨((IntKind.i64.wrap (round14+1)),h20),⟨S.sub _ ⟨rfl,rfl,rfl,rfl,rfl,rfl,rfl,trivial⟩,H.1⟩,H.2⟩
      ·
       replace H:=H.2 hb_5
       refine W.exit_ ?_
       refine xhit ?_
       refine W.seq ?_
       refine W.region ?_
       refine OL.za S fun _ S=>?_
       refine OL.nil ?_
       refine W.block ?_
       obtain⟨I_3,m_3,H,HB_1⟩:=H
       refine W.loopS (σ:=Int×Heap) (fun s aa ww=>St 125 [(7,Value.int .i64 (IntKind.i64.wrap (x18+x20))),(8,Value.slice x50.a x50.n x50.c),(10,Value.pointer (some p65)),(11,Value.int .i64 (IntKind.i64.wrap ((IntKind.i64.wrap (x18+x20))+x68))),(12,Value.int .i64 vfrom12),(13,Value.slice s77.a s77.n s77.c),(16,Value.int .i64 s.1)] s.2 w0 aa ww∧I_3 s.1 s.2) (fun s=>m_3 s.1 s.2) (0,h19) ⟨S.sub _ ⟨rfl,rfl,rfl,rfl,rfl,rfl,rfl,trivial⟩,H⟩ ?_
       clear H S
       rintro ⟨vto16,h23⟩ aa ww ⟨S,HI⟩
       replace S:St 125 [(7,Value.int .i64 (IntKind.i64.wrap (x18+x20))),(8,Value.slice x50.a x50.n x50.c),(10,Value.pointer (some p65)),(11,Value.int .i64 (IntKind.i64.wrap ((IntKind.i64.wrap (x18+x20))+x68))),(12,Value.int .i64 vfrom12),(13,Value.slice s77.a s77.n s77.c),(16,Value.int .i64 vto16)] h23 w0 aa ww:=S
       have H:=HB_1 vto16 h23 HI
       clear HI
       refine W.seq ?_
       refine W.seq ?_
       refine W.region ?_
       refine OL.zm S fun _ S=>?_
       refine OL.zm S fun _ S=>?_
       refine OL.zq S (Lf.run_leq (S.ev rfl) (S.ev rfl)) fun _ S=>?_
       refine OL.nil ?_
       refine W.cond S (b:=(decide (vto16≤(IntKind.i64.wrap (x18+x20))))) rfl (fun hb_8=>?_) (fun hb_8=>?_)
       ·
        replace H:=H.1 hb_8
        refine W.skip ?_
        refine W.seq ?_
        refine W.block ?_
        refine W.seq ?_
        refine W.region ?_
        refine OL.zm S fun _ S=>?_
        refine OL.zm S fun _ S=>?_
        obtain⟨q115,e_19,e_20,e_21,H⟩:=H
        refine OL.zq S (Lf.run_ixs (S.ev rfl) (S.ev rfl) Try.underlying25 ti3 e_19 e_20 e_21) fun _ S=>?_
        obtain⟨x116,c_28,H⟩:=H
        refine OL.zl S fl3 c_28 fun _ S=>?_
        refine OL.zq S (Lf.run_gtr (S.ev rfl) (S.ev rfl)) fun _ S=>?_
        refine OL.zm S fun _ S=>?_
        obtain⟨J_3,H,HK_3⟩:=H
        refine OL.cutN 6 (fun aa ww=>∃x124 h24,St 125 ((124,Value.bool x124) :: [(7,Value.int .i64 (IntKind.i64.wrap (x18+x20))),(8,Value.slice x50.a x50.n x50.c),(10,Value.pointer (some p65)),(11,Value.int .i64 (IntKind.i64.wrap ((IntKind.i64.wrap (x18+x20))+x68))),(12,Value.int .i64 vfrom12),(13,Value.slice s77.a s77.n s77.c),(16,Value.int .i64 vto16),(113,Value.slice s77.a s77.n s77.c),(114,Value.int .i64 vto16),(115,Value.pointer (some (q115.add ((vto16:Int).toNat*1)))),(116,Value.int .i64 x116),(117,Value.bool (decide (0<x116))),(118,Value.bool (decide (0<x116)))]) h24 w0 aa ww∧J_3 x124 h24) ?_ ?_
        ·
         rcases Bool.eq_false_or_eq_true (decide (0<x116)) with hb_9|hb_9
         ·
          replace H:=H.1 hb_9
          refine OL.zm (hg:=GOk.mk rfl rfl hb_9) S fun _ S=>?_
          refine OL.zm (hg:=GOk.mk rfl rfl hb_9) S fun _ S=>?_
          refine OL.zm (hg:=GOk.mk rfl rfl hb_9) S fun _ S=>?_
          refine ol_cal S H isfn32 rfl rfl (GOk.mk rfl rfl hb_9) ?_
          clear S H;intro u_6 aa ww h25 H S
          obtain⟨x122,rfl,H⟩:=H
          refine OL.zq (hg:=GOk.mk rfl rfl hb_9) S (Lf.run_not (S.ev rfl)) fun _ S=>?_
          refine OL.zq S (Lf.run_pickT (S.ev rfl) hb_9 (S.ev rfl)) fun _ S=>?_
          refine OL.nil ?_
          exact⟨_,_,S.sub _ ⟨rfl,rfl,rfl,rfl,rfl,rfl,rfl,rfl,rfl,rfl,rfl,rfl,rfl,rfl,trivial⟩,H⟩
         ·
          replace H:=H.2 hb_9
          refine OL.zn S (GNo.mk rfl rfl hb_9) fun _ S=>?_
          refine OL.zn S (GNo.mk rfl rfl hb_9) fun _ S=>?_
          refine OL.zn S (GNo.mk rfl rfl hb_9) fun _ S=>?_
          refine OL.zn S (GNo.mk rfl rfl hb_9) fun _ S=>?_
          refine OL.zn S (GNo.mk rfl rfl hb_9) fun _ S=>?_
          refine OL.zq S (Lf.run_pickF (S.ev rfl) hb_9 (S.ev rfl)) fun _ S=>?_
          refine OL.nil ?_
          exact⟨_,_,S.sub _ ⟨rfl,rfl,rfl,rfl,rfl,rfl,rfl,rfl,rfl,rfl,rfl,rfl,rfl,rfl,trivial⟩,H⟩
        ·
         clear S
         rintro aa ww ⟨x124,h24,S,HJ⟩
         replace H:=HK_3 _ _ HJ
         clear HK_3 HJ
         refine OL.nil ?_
         refine W.cond S (b:=x124) rfl (fun hb_10=>?_) (fun hb_10=>?_)
         ·
          replace H:=H.1 hb_10
          refine W.seq ?_
          refine W.region ?_
          refine OL.za S fun _ S=>?_
          refine OL.nil ?_
          refine W.ret ?_
          exact Ret.one S rfl rfl H
         ·
          replace H:=H.2 hb_10
          refine W.skip ?_
          refine W.region ?_
          refine OL.zm S fun _ S=>?_
          refine OL.zq S (Lf.run_add (S.ev rfl) (S.ev rfl)) fun _ S=>?_
          refine OL.za S fun _ S=>?_
          refine OL.nil ?_
          exact⟨((IntKind.i64.wrap (vto16+1)),h24),⟨S.sub _ ⟨rfl,rfl,rfl,rfl,rfl,rfl,rfl,trivial⟩,H.1⟩,H.2⟩
       ·
        replace H:=H.2 hb_8
        refine W.exit_ ?_
        refine xhit ?_
        refine W.region ?_
        refine OL.zm S fun _ S=>?_
        refine OL.zq S (Lf.run_add (S.ev rfl) (S.ev rfl)) fun _ S=>?_
        refine OL.za S fun _ S=>?_
        refine OL.nil ?_
        exact⟨((IntKind.i64.wrap (vfrom12+1)),h23),⟨S.sub _ ⟨rfl,rfl,rfl,rfl,rfl,trivial⟩,H.1⟩,H.2⟩
     ·
      replace H:=H.2 hb_4
      refine W.exit_ ?_
      refine xhit ?_
      refine W.seq ?_
      refine W.region ?_
      refine OL.za S fun _ S=>?_
      refine OL.nil ?_
      refine W.ret ?_
      exact Ret.one S rfl rfl H
def L12 (vw0:Int) (vw0_1:Sv) (vw0_2:Option Nat) (vw0_3:Option Nat) (s1:Int) (s1_1:Sv) (s1_2:Sv) (s1_3:Int) (s1_4:ByteArray) (s1_5:Bool) (s1_6:Int) (s1_7:Sv) (s1_8:Sv) (h:Heap) (R:Value→Heap→Prop):Prop:=
 new 33 #[Value.int .i64 vw0,Value.slice vw0_1.a vw0_1.n vw0_1.c,Value.map vw0_2,Value.map vw0_3] h fun p2 h1=>
 new 37 #[Value.int .i64 s1,Value.slice s1_1.a s1_1.n s1_1.c,Value.slice s1_2.a s1_2.n s1_2.c,Value.int .i64 s1_3,Value.string s1_4,Value.bool s1_5,Value.int .i64 s1_6,Value.slice s1_7.a s1_7.n s1_7.c,Value.slice s1_8.a s1_8.n s1_8.c] h1 fun p3 h2=>
 newS 56 #[] 0 h2 fun s7 h3=>
 ldS h3 (p3.add 1) fun x9=>
 appS 56 (Value.agg #[Value.int .i64 0,Value.int .i64 0]).cells 2 16 h3 s7 x9 fun s10 h4=>
 ∃(I:Sv→Int→Heap→Prop) (m:Sv→Int→Heap→Nat),I s10 0 h4∧∀out5 i6 h5,I out5 i6 h5 →
 ldS h5 (p3.add 2) fun x13=>
 ifb (decide (i6<((x13.n:Nat):Int))) (
  ldS h5 (p3.add 2) fun x20=>
  ixS x20 i6 fun q22=>
  ∃(y23:Int) (y23_1:ByteArray) (y23_2:Bool) (y23_3:Int) (y23_4:Sv) (y23_5:Sv),cl h5 (q22.add ((i6:Int).toNat*6))=some (Value.int .i64 y23)∧cl h5 ((q22.add ((i6:Int).toNat*6)).add 1)=some (Value.string y23_1)∧cl h5 ((q22.add ((i6:Int).toNat*6)).add 2)=some (Value.bool y23_2)∧cl h5 ((q22.add ((i6:Int).toNat*6)).add 3)=some (Value.int .i64 y23_3)∧cl h5 ((q22.add ((i6:Int).toNat*6)).add 4)=some (Value.slice y23_4.a y23_4.n y23_4.c)∧cl h5 ((q22.add ((i6:Int).toNat*6)).add 5)=some (Value.slice y23_5.a y23_5.n y23_5.c) ∧
  ldM h5 (p2.add 3) fun x25=>
  cal Try.prog 33 #[Value.agg #[Value.int .i64 y23,Value.string y23_1,Value.bool y23_2,Value.int .i64 y23_3,Value.slice y23_4.a y23_4.n y23_4.c,Value.slice y23_5.a y23_5.n y23_5.c],Value.map x25] h5 fun u h6=>asS u fun x26=>
  appS 56 (Value.agg #[Value.int .i64 0,Value.int .i64 0]).cells 2 16 h6 out5 x26 fun s27 h7=>
  I s27 (IntKind.i64.wrap (i6+1)) h7∧m s27 (IntKind.i64.wrap (i6+1)) h7<m out5 i6 h5) (
  ∃(y30:Int) (y30_1:ByteArray) (y30_2:Bool) (y30_3:Int) (y30_4:Sv) (y30_5:Sv),cl h5 (p3.add 3)=some (Value.int .i64 y30)∧cl h5 ((p3.add 3).add 1)=some (Value.string y30_1)∧cl h5 ((p3.add 3).add 2)=some (Value.bool y30_2)∧cl h5 ((p3.add 3).add 3)=some (Value.int .i64 y30_3)∧cl h5 ((p3.add 3).add 4)=some (Value.slice y30_4.a y30_4.n y30_4.c)∧cl h5 ((p3.add 3).add 5)=some (Value.slice y30_5.a y30_5.n y30_5.c) ∧
  ldM h5 (p2.add 3) fun x32=>
  cal Try.prog 33 #[Value.agg #[Value.int .i64 y30,Value.string y30_1,Value.bool y30_2,Value.int .i64 y30_3,Value.slice y30_4.a y30_4.n y30_4.c,Value.slice y30_5.a y30_5.n y30_5.c],Value.map x32] h5 fun u_1 h8=>asS u_1 fun x33=>
  appS 56 (Value.agg #[Value.int .i64 0,Value.int .i64 0]).cells 2 16 h8 out5 x33 fun s34 h9=>
  R (Value.slice s34.a s34.n s34.c) h9)
set_option maxRecDepth 100000 in
theorem F12 {vw0 vw0_1 vw0_2 vw0_3 s1 s1_1 s1_2 s1_3 s1_4 s1_5 s1_6 s1_7 s1_8 h:_} {R:Value→Heap→Prop} (H:L12 vw0 vw0_1 vw0_2 vw0_3 s1 s1_1 s1_2 s1_3 s1_4 s1_5 s1_6 s1_7 s1_8 h R):CallsH Try.prog 12 #[Value.agg #[Value.int .i64 vw0,Value.slice vw0_1.a vw0_1.n vw0_1.c,Value.map vw0_2,Value.map vw0_3],Value.agg #[Value.int .i64 s1,Value.slice s1_1.a s1_1.n s1_1.c,Value.slice s1_2.a s1_2.n s1_2.c,Value.int .i64 s1_3,Value.string s1_4,Value.bool s1_5,Value.int .i64 s1_6,Value.slice s1_7.a s1_7.n s1_7.c,Value.slice s1_8.a s1_8.n s1_8.c]] h R:=by
 refine CallsH.enter (n:=35) Try.func12 rfl rfl rfl rfl ?_
 intro w0 aa ww S
 unfold L12 at H
 refine W.seq ?_
 refine W.region ?_
 refine ol_box S H rfl rfl rfl trivial ?_
 clear S H;intro p2 aa ww h1 H S
 refine ol_box S H rfl rfl rfl trivial ?_
 clear S H;intro p3 aa ww h2 H S
 refine OL.za S fun _ S=>?_
 refine OL.nil ?_
 refine W.seq ?_
 refine W.region ?_
 refine ol_newS0 S H Try.underlying22 ti56 rfl rfl trivial ?_
 clear S H;intro s7 aa ww h3 H S
 refine OL.zf S fa37_1 fun _ S=>?_
 obtain⟨x9,c,H⟩:=H
 refine OL.zl S fl22 c fun _ S=>?_
 refine ol_appS S H Try.underlying22 ti56 rfl rfl rfl trivial ?_
 clear S H;intro s10 aa ww h4 H S
 refine OL.za S fun _ S=>?_
 refine OL.nil ?_
 refine W.seq ?_
 refine W.seq ?_
 refine W.region ?_
 refine OL.za S fun _ S=>?_
 refine OL.nil ?_
 refine W.block ?_
 obtain⟨I,m,H,HB⟩:=H
 refine W.loopS (σ:=Sv×Int×Heap) (fun s aa ww=>St 35 [(2,Value.pointer (some p2)),(3,Value.pointer (some p3)),(5,Value.slice s.1.a s.1.n s.1.c),(6,Value.int .i64 s.2.1)] s.2.2 w0 aa ww∧I s.1 s.2.1 s.2.2) (fun s=>m s.1 s.2.1 s.2.2) (s10,0,h4) ⟨S.sub _ ⟨rfl,rfl,rfl,rfl,trivial⟩,H⟩ ?_
 clear H S
 rintro ⟨out5,i6,h5⟩ aa ww ⟨S,HI⟩
 replace S:St 35 [(2,Value.pointer (some p2)),(3,Value.pointer (some p3)),(5,Value.slice out5.a out5.n out5.c),(6,Value.int .i64 i6)] h5 w0 aa ww:=S
 have H:=HB out5 i6 h5 HI
 clear HI
 refine W.seq ?_
 refine W.seq ?_
 refine W.region ?_
 refine OL.zm S fun _ S=>?_
 refine OL.zf S fa37_2 fun _ S=>?_
 obtain⟨x13,c_1,H⟩:=H
 refine OL.zl S fl24 c_1 fun _ S=>?_
 refine OL.zq S (Lf.run_lens (S.ev rfl) rfl Try.underlying24) fun _ S=>?_
 refine OL.zq S (Lf.run_lss (S.ev rfl) (S.ev rfl)) fun _ S=>?_
 refine OL.nil ?_
 refine W.cond S (b:=(decide (i6<((x13.n:Nat):Int)))) rfl (fun hb=>?_) (fun hb=>?_)
 ·
  replace H:=H.1 hb
  refine W.skip ?_
  refine W.seq ?_
  refine W.block ?_
  replace S:=S.sub [(2,Value.pointer (some p2)),(3,Value.pointer (some p3)),(5,Value.slice out5.a out5.n out5.c),(6,Value.int .i64 i6)] ⟨rfl,rfl,rfl,rfl,trivial⟩
  refine W.regionD S (by kernel_rfl) ?_
  clear S;intro ww S
  refine AN.zq 0 S rfl (fun _=>Lf.run_move (S.ev rfl)) fun _ S=>?_
  refine AN.zq 1 S rfl (fun _=>Lf.run_fa (S.ev rfl) fa37_2) fun _ S=>?_
  obtain⟨x20,c_2,H⟩:=H
  refine AN.zl 2 S rfl (fun _ hx=>Lf.run_ld (S.ev rfl) fl24 (hx.cell _ _ (S.cl c_2))) fun _ S=>?_
  refine AN.zq 3 S rfl (fun _=>Lf.run_move (S.ev rfl)) fun _ S=>?_
  obtain⟨q22,e,e_1,e_2,H⟩:=H
  refine AN.zq 4 S rfl (fun _=>Lf.run_ixs (S.ev rfl) (S.ev rfl) Try.underlying24 ti35 e e_1 e_2) fun _ S=>?_
  obtain⟨y23,y23_1,y23_2,y23_3,y23_4,y23_5,c_5,c_6,c_7,c_8,c_9,c_10,H⟩:=H
  refine AN.zl 5 S rfl (fun _ hx=>Lf.run_ldA (cs:=[Value.int .i64 y23,Value.string y23_1,Value.bool y23_2,Value.int .i64 y23_3,Value.slice y23_4.a y23_4.n y23_4.c,Value.slice y23_5.a y23_5.n y23_5.c]) (S.ev rfl) ag35 ti35 (hx.row (S.row ⟨c_5,c_6,c_7,c_8,c_9,c_10,trivial⟩))) fun _ S=>?_
  refine AN.zq 6 S rfl (fun _=>Lf.run_fa (S.ev rfl) fa33_3) fun _ S=>?_
  obtain⟨x25,c_4,H⟩:=H
  refine AN.zl 7 S rfl (fun _ hx=>Lf.run_ld (S.ev rfl) fl31 (hx.cell _ _ (S.cl c_4))) fun _ S=>?_
  refine AN.eff 8 rfl (by kernel_rfl) ?_
  refine ol_cal S H isfn33 rfl rfl trivial ?_
  clear S H;intro u aa ww h6 H S
  obtain⟨x26,rfl,H⟩:=H
  refine OL.nil ?_
  refine AN.eff 9 rfl (by kernel_rfl) ?_
  refine ol_appS S H Try.underlying22 ti56 rfl rfl rfl trivial ?_
  clear S H;intro s27 aa ww h7 H S
  refine OL.nil ?_
  refine AN.zq 10 S rfl (fun _=>Lf.run_assign (S.ev rfl)) fun _ S=>?_
  refine AN.done (by kernel_rfl) ?_
  refine W.region ?_
  refine OL.zm S fun _ S=>?_
  refine OL.zq S (Lf.run_add (S.ev rfl) (S.ev rfl)) fun _ S=>?_
  refine OL.za S fun _ S=>?_
  refine OL.nil ?_
  exact⟨(s27,(IntKind.i64.wrap (i6+1)),h7),⟨S.sub _ ⟨rfl,rfl,rfl,rfl,trivial⟩,H.1⟩,H.2⟩
 ·
  replace H:=H.2 hb
  refine W.exit_ ?_
  refine xhit ?_
  refine W.seq ?_
  refine W.region ?_
  refine OL.zm S fun _ S=>?_
  refine OL.zf S fa37_3 fun _ S=>?_
  obtain⟨y30,y30_1,y30_2,y30_3,y30_4,y30_5,c_13,c_14,c_15,c_16,c_17,c_18,H⟩:=H
  refine OL.zq S (Lf.run_ldA (cs:=[Value.int .i64 y30,Value.string y30_1,Value.bool y30_2,Value.int .i64 y30_3,Value.slice y30_4.a y30_4.n y30_4.c,Value.slice y30_5.a y30_5.n y30_5.c]) (S.ev rfl) ag35 ti35 (by rw[S.heap];exact RowL.toRow ⟨c_13,c_14,c_15,c_16,c_17,c_18,trivial⟩)) fun _ S=>?_
  refine OL.zf S fa33_3 fun _ S=>?_
  obtain⟨x32,c_12,H⟩:=H
  refine OL.zl S fl31 c_12 fun _ S=>?_
  refine ol_cal S H isfn33 rfl rfl trivial ?_
  clear S H;intro u_1 aa ww h8 H S
  obtain⟨x33,rfl,H⟩:=H
  refine ol_appS S H Try.underlying22 ti56 rfl rfl rfl trivial ?_
  clear S H;intro s34 aa ww h9 H S
  refine OL.za S fun _ S=>?_
  refine OL.nil ?_
  refine W.ret ?_
  exact Ret.one S rfl rfl H
def L13 (l0:Sv) (sets1:Sv) (h:Heap) (R:Value→Heap→Prop):Prop:=
 ∃(I:Int→Prop) (m:Int→Nat),I 0∧∀i5,I i5 →
 ifb (decide (i5<((l0.n:Nat):Int))) (
  ixS l0 i5 fun q16=>
  ldI .i64 h (q16.add ((i5:Int).toNat*2)) fun x18=>
  ixS l0 i5 fun q21=>
  ldI .i64 h ((q21.add ((i5:Int).toNat*2)).add 1) fun x23=>
  ∃J:Bool→Prop,(
   ifb (decide (x18<0)) (
    ifb true (
     ifb true (
      ifb true (
       J true) (
       ixS sets1 x23 fun q45_7=>
       ldI .u64 h (q45_7.add ((x23:Int).toNat*1)) fun x46_7=>
       ixS sets1 x18 fun q49_7=>
       ldI .u64 h (q49_7.add ((x18:Int).toNat*1)) fun x50_7=>
       J ((bitsI .andNot .u64 x46_7 x50_7) != 0))) (
      ifb (decide (((sets1.n:Nat):Int)≤x23)) (
       J true) (
       ixS sets1 x23 fun q45_6=>
       ldI .u64 h (q45_6.add ((x23:Int).toNat*1)) fun x46_6=>
       ixS sets1 x18 fun q49_6=>
       ldI .u64 h (q49_6.add ((x18:Int).toNat*1)) fun x50_6=>
       J ((bitsI .andNot .u64 x46_6 x50_6) != 0)))) (
     ifb (decide (((sets1.n:Nat):Int)≤x18)) (
      ifb true (
       J true) (
       ixS sets1 x23 fun q45_5=>
       ldI .u64 h (q45_5.add ((x23:Int).toNat*1)) fun x46_5=>
       ixS sets1 x18 fun q49_5=>
       ldI .u64 h (q49_5.add ((x18:Int).toNat*1)) fun x50_5=>
       J ((bitsI .andNot .u64 x46_5 x50_5) != 0))) (
      ifb (decide (((sets1.n:Nat):Int)≤x23)) (
       J true) (
       ixS sets1 x23 fun q45_4=>
       ldI .u64 h (q45_4.add ((x23:Int).toNat*1)) fun x46_4=>
       ixS sets1 x18 fun q49_4=>
       ldI .u64 h (q49_4.add ((x18:Int).toNat*1)) fun x50_4=>
       J ((bitsI .andNot .u64 x46_4 x50_4) != 0))))) (
    ifb (decide (x23<0)) (
     ifb true (
      ifb true (
       J true) (
       ixS sets1 x23 fun q45_3=>
       ldI .u64 h (q45_3.add ((x23:Int).toNat*1)) fun x46_3=>
       ixS sets1 x18 fun q49_3=>
       ldI .u64 h (q49_3.add ((x18:Int).toNat*1)) fun x50_3=>
       J ((bitsI .andNot .u64 x46_3 x50_3) != 0))) (
      ifb (decide (((sets1.n:Nat):Int)≤x23)) (
       J true) (
       ixS sets1 x23 fun q45_2=>
       ldI .u64 h (q45_2.add ((x23:Int).toNat*1)) fun x46_2=>
       ixS sets1 x18 fun q49_2=>
       ldI .u64 h (q49_2.add ((x18:Int).toNat*1)) fun x50_2=>
       J ((bitsI .andNot .u64 x46_2 x50_2) != 0)))) (
     ifb (decide (((sets1.n:Nat):Int)≤x18)) (
      ifb true (
       J true) (
       ixS sets1 x23 fun q45_1=>
       ldI .u64 h (q45_1.add ((x23:Int).toNat*1)) fun x46_1=>
       ixS sets1 x18 fun q49_1=>
       ldI .u64 h (q49_1.add ((x18:Int).toNat*1)) fun x50_1=>
       J ((bitsI .andNot .u64 x46_1 x50_1) != 0))) (
      ifb (decide (((sets1.n:Nat):Int)≤x23)) (
       J true) (
       ixS sets1 x23 fun q45=>
       ldI .u64 h (q45.add ((x23:Int).toNat*1)) fun x46=>
       ixS sets1 x18 fun q49=>
       ldI .u64 h (q49.add ((x18:Int).toNat*1)) fun x50=>
       J ((bitsI .andNot .u64 x46 x50) != 0))))))∧(∀x53,J x53 →
  ifb x53 (
   R (Value.bool false) h) (
   I (IntKind.i64.wrap (i5+1))∧m (IntKind.i64.wrap (i5+1))<m i5))) (
  R (Value.bool true) h)
set_option maxRecDepth 100000 in
theorem F13 {l0 sets1 h:_} {R:Value→Heap→Prop} (H:L13 l0 sets1 h R):CallsH Try.prog 13 #[Value.slice l0.a l0.n l0.c,Value.slice sets1.a sets1.n sets1.c] h R:=by
 refine CallsH.enter (n:=54) Try.func13 rfl rfl rfl rfl ?_
 intro w0 aa ww S
 unfold L13 at H
 refine W.seq ?_
 refine W.region ?_
 refine OL.za S fun _ S=>?_
 refine OL.nil ?_
 refine W.seq ?_
 refine W.seq ?_
 refine W.region ?_
 refine OL.za S fun _ S=>?_
 refine OL.nil ?_
 refine W.block ?_
 obtain⟨I,m,H,HB⟩:=H
 refine W.loopS (σ:=Int) (fun s aa ww=>St 54 [(0,Value.slice l0.a l0.n l0.c),(1,Value.slice sets1.a sets1.n sets1.c),(5,Value.int .i64 s)] h w0 aa ww∧I s) (fun s=>m s) (0) ⟨S.sub _ ⟨rfl,rfl,rfl,trivial⟩,H⟩ ?_
 clear H S
 rintro i5 aa ww ⟨S,HI⟩
 replace S:St 54 [(0,Value.slice l0.a l0.n l0.c),(1,Value.slice sets1.a sets1.n sets1.c),(5,Value.int .i64 i5)] h w0 aa ww:=S
 have H:=HB i5 HI
 clear HI
 refine W.seq ?_
 refine W.seq ?_
 refine W.region ?_
 refine OL.zm S fun _ S=>?_
 refine OL.zm S fun _ S=>?_
 refine OL.zq S (Lf.run_lens (S.ev rfl) rfl Try.underlying22) fun _ S=>?_
 refine OL.zq S (Lf.run_lss (S.ev rfl) (S.ev rfl)) fun _ S=>?_
 refine OL.nil ?_
 refine W.cond S (b:=(decide (i5<((l0.n:Nat):Int)))) rfl (fun hb=>?_) (fun hb=>?_)
 ·
  replace H:=H.1 hb
  refine W.skip ?_
  refine W.seq ?_
  refine W.block ?_
  refine W.seq ?_
  replace S:=S.sub [(0,Value.slice l0.a l0.n l0.c),(1,Value.slice sets1.a sets1.n sets1.c),(5,Value.int .i64 i5)] ⟨rfl,rfl,rfl,trivial⟩
  refine W.regionD S (by kernel_rfl) ?_
  clear S;intro ww S
  refine AN.zq 0 S rfl (fun _=>Lf.run_move (S.ev rfl)) fun _ S=>?_
  refine AN.zq 1 S rfl (fun _=>Lf.run_move (S.ev rfl)) fun _ S=>?_
  obtain⟨q16,e,e_1,e_2,H⟩:=H
  refine AN.zq 2 S rfl (fun _=>Lf.run_ixs (S.ev rfl) (S.ev rfl) Try.underlying22 ti56 e e_1 e_2) fun _ S=>?_
  refine AN.zq 3 S rfl (fun _=>Lf.run_ixa (S.ev rfl) (S.ev rfl) Try.underlying56 ti3 (by decide) (by decide)) fun _ S=>?_
  obtain⟨x18,c,H⟩:=H
  refine AN.zl 4 S rfl (fun _ hx=>Lf.run_ld (S.ev rfl) fl3 (hx.cell _ _ (S.cl c))) fun _ S=>?_
  refine AN.zq 5 S rfl (fun _=>Lf.run_move (S.ev rfl)) fun _ S=>?_
  refine AN.zq 6 S rfl (fun _=>Lf.run_move (S.ev rfl)) fun _ S=>?_
  obtain⟨q21,e_5,e_6,e_7,H⟩:=H
  refine AN.zq 7 S rfl (fun _=>Lf.run_ixs (S.ev rfl) (S.ev rfl) Try.underlying22 ti56 e_5 e_6 e_7) fun _ S=>?_
  refine AN.zq 8 S rfl (fun _=>Lf.run_ixa (S.ev rfl) (S.ev rfl) Try.underlying56 ti3 (by decide) (by decide)) fun _ S=>?_
  obtain⟨x23,c_1,H⟩:=H
  refine AN.zl 9 S rfl (fun _ hx=>Lf.run_ld (S.ev rfl) fl3 (hx.cell _ _ (S.cl c_1))) fun _ S=>?_
  refine AN.zq 10 S rfl (fun _=>Lf.run_assign (S.ev rfl)) fun _ S=>?_
  refine AN.zq 11 S rfl (fun _=>Lf.run_assign (S.ev rfl)) fun _ S=>?_
  refine AN.done (by kernel_rfl) ?_
  refine W.seq ?_
  replace S:=S.sub [(0,Value.slice l0.a l0.n l0.c),(1,Value.slice sets1.a sets1.n sets1.c),(5,Value.int .i64 i5),(6,Value.int .i64 x18),(7,Value.int .i64 x23)] ⟨rfl,rfl,rfl,rfl,rfl,trivial⟩
  obtain⟨J,H,HK⟩:=H
  refine W.mono (N':=fun aa ww=>∃x53,St 54 [(0,Value.slice l0.a l0.n l0.c),(1,Value.slice sets1.a sets1.n sets1.c),(5,Value.int .i64 i5),(53,Value.bool x53)] h w0 aa ww∧J x53) ?_ ?_
  ·
   refine W.regionD S (by kernel_rfl) ?_
   clear S;intro ww S
   refine AN.zq 0 S rfl (fun _=>Lf.run_move (S.ev rfl)) fun _ S=>?_
   refine AN.zq 1 S rfl (fun _=>Lf.run_lss (S.ev rfl) (S.ev rfl)) fun _ S=>?_
   refine AN.zq 2 S rfl (fun _=>Lf.run_move (S.ev rfl)) fun _ S=>?_
   rcases Bool.eq_false_or_eq_true (decide (x18<0)) with hb_1|hb_1
   ·
    replace H:=H.1 hb_1
    refine AN.zn 3 S rfl (GNo.mk rfl rfl hb_1) fun _ S=>?_
    refine AN.zn 4 S rfl (GNo.mk rfl rfl hb_1) fun _ S=>?_
    refine AN.zq 5 S rfl (fun _=>run_pickT (S.ev rfl) hb_1 (S.ev rfl)) fun _ S=>?_
    refine AN.zq 6 S rfl (fun _=>Lf.run_move (S.ev rfl)) fun _ S=>?_
    rcases Bool.eq_false_or_eq_true true with hb_9|hb_9
    ·
     replace H:=H.1 hb_9
     refine AN.zn 7 S rfl (GNo.mk rfl rfl hb_9) fun _ S=>?_
     refine AN.zn 8 S rfl (GNo.mk rfl rfl hb_9) fun _ S=>?_
     refine AN.zn 9 S rfl (GNo.mk rfl rfl hb_9) fun _ S=>?_
     refine AN.zn 10 S rfl (GNo.mk rfl rfl hb_9) fun _ S=>?_
     refine AN.zq 11 S rfl (fun _=>run_pickT (S.ev rfl) hb_9 (S.ev rfl)) fun _ S=>?_
     refine AN.zq 12 S rfl (fun _=>Lf.run_move (S.ev rfl)) fun _ S=>?_
     rcases Bool.eq_false_or_eq_true true with hb_13|hb_13
     ·
      replace H:=H.1 hb_13
      refine AN.zn 13 S rfl (GNo.mk rfl rfl hb_13) fun _ S=>?_
      refine AN.zn 14 S rfl (GNo.mk rfl rfl hb_13) fun _ S=>?_
      refine AN.zn 15 S rfl (GNo.mk rfl rfl hb_13) fun _ S=>?_
      refine AN.zn 16 S rfl (GNo.mk rfl rfl hb_13) fun _ S=>?_
      refine AN.zq 17 S rfl (fun _=>run_pickT (S.ev rfl) hb_13 (S.ev rfl)) fun _ S=>?_
      refine AN.zq 18 S rfl (fun _=>Lf.run_move (S.ev rfl)) fun _ S=>?_
      rcases Bool.eq_false_or_eq_true true with hb_15|hb_15
      ·
       replace H:=H.1 hb_15
       refine AN.zn 19 S rfl (GNo.mk rfl rfl hb_15) fun _ S=>?_
       refine AN.zn 20 S rfl (GNo.mk rfl rfl hb_15) fun _ S=>?_
       refine AN.zn 21 S rfl (GNo.mk rfl rfl hb_15) fun _ S=>?_
       refine AN.zn 22 S rfl (GNo.mk rfl rfl hb_15) fun _ S=>?_
       refine AN.zn 23 S rfl (GNo.mk rfl rfl hb_15) fun _ S=>?_
       refine AN.zn 24 S rfl (GNo.mk rfl rfl hb_15) fun _ S=>?_
       refine AN.zn 25 S rfl (GNo.mk rfl rfl hb_15) fun _ S=>?_
       refine AN.zn 26 S rfl (GNo.mk rfl rfl hb_15) fun _ S=>?_
       refine AN.zn 27 S rfl (GNo.mk rfl rfl hb_15) fun _ S=>?_
       refine AN.zn 28 S rfl (GNo.mk rfl rfl hb_15) fun _ S=>?_
       refine AN.zq 29 S rfl (fun _=>run_pickT (S.ev rfl) hb_15 (S.ev rfl)) fun _ S=>?_
       refine AN.done (by kernel_rfl) ?_
       exact⟨true,S.sub _ ⟨rfl,rfl,rfl,rfl,trivial⟩,H⟩
      ·
       replace H:=H.2 hb_15
       refine AN.zq (hg:=GOk.mk rfl rfl hb_15) 19 S rfl (fun _=>Lf.run_move (S.ev rfl)) fun _ S=>?_
       refine AN.zq (hg:=GOk.mk rfl rfl hb_15) 20 S rfl (fun _=>Lf.run_move (S.ev rfl)) fun _ S=>?_
       obtain⟨q45_7,e_52,e_53,e_54,H⟩:=H
       refine AN.zq (hg:=GOk.mk rfl rfl hb_15) 21 S rfl (fun _=>Lf.run_ixs (S.ev rfl) (S.ev rfl) Try.underlying44 ti23 e_52 e_53 e_54) fun _ S=>?_
       obtain⟨x46_7,c_16,H⟩:=H
       refine AN.zl (hg:=GOk.mk rfl rfl hb_15) 22 S rfl (fun _ hx=>Lf.run_ld (S.ev rfl) fl23 (hx.cell _ _ (S.cl c_16))) fun _ S=>?_
       refine AN.zq (hg:=GOk.mk rfl rfl hb_15) 23 S rfl (fun _=>Lf.run_move (S.ev rfl)) fun _ S=>?_
       refine AN.zq (hg:=GOk.mk rfl rfl hb_15) 24 S rfl (fun _=>Lf.run_move (S.ev rfl)) fun _ S=>?_
       obtain⟨q49_7,e_55,e_56,e_57,H⟩:=H
       refine AN.zq (hg:=GOk.mk rfl rfl hb_15) 25 S rfl (fun _=>Lf.run_ixs (S.ev rfl) (S.ev rfl) Try.underlying44 ti23 e_55 e_56 e_57) fun _ S=>?_
       obtain⟨x50_7,c_17,H⟩:=H
       refine AN.zl (hg:=GOk.mk rfl rfl hb_15) 26 S rfl (fun _ hx=>Lf.run_ld (S.ev rfl) fl23 (hx.cell _ _ (S.cl c_17))) fun _ S=>?_
       refine AN.zq (hg:=GOk.mk rfl rfl hb_15) 27 S rfl (fun _=>Lf.run_bits (op:=.andNot) (by simp) (S.ev rfl) (S.ev rfl)) fun _ S=>?_
       refine AN.zq (hg:=GOk.mk rfl rfl hb_15) 28 S rfl (fun _=>Lf.run_neq (S.ev rfl) (S.ev rfl)) fun _ S=>?_
       refine AN.zq 29 S rfl (fun _=>run_pickF (S.ev rfl) hb_15 (S.ev rfl)) fun _ S=>?_
       refine AN.done (by kernel_rfl) ?_
       exact⟨((bitsI .andNot .u64 x46_7 x50_7) != 0),S.sub _ ⟨rfl,rfl,rfl,rfl,trivial⟩,H⟩
     ·
      replace H:=H.2 hb_13
      refine AN.zq (hg:=GOk.mk rfl rfl hb_13) 13 S rfl (fun _=>Lf.run_move (S.ev rfl)) fun _ S=>?_
      refine AN.zq (hg:=GOk.mk rfl rfl hb_13) 14 S rfl (fun _=>Lf.run_move (S.ev rfl)) fun _ S=>?_
      refine AN.zq (hg:=GOk.mk rfl rfl hb_13) 15 S rfl (fun _=>Lf.run_lens (S.ev rfl) rfl Try.underlying44) fun _ S=>?_
      refine AN.zq (hg:=GOk.mk rfl rfl hb_13) 16 S rfl (fun _=>Lf.run_geq (S.ev rfl) (S.ev rfl)) fun _ S=>?_
      refine AN.zq 17 S rfl (fun _=>run_pickF (S.ev rfl) hb_13 (S.ev rfl)) fun _ S=>?_
      refine AN.zq 18 S rfl (fun _=>Lf.run_move (S.ev rfl)) fun _ S=>?_
      rcases Bool.eq_false_or_eq_true (decide (((sets1.n:Nat):Int)≤x23)) with hb_14|hb_14
      ·
       replace H:=H.1 hb_14
       refine AN.zn 19 S rfl (GNo.mk rfl rfl hb_14) fun _ S=>?_
       refine AN.zn 20 S rfl (GNo.mk rfl rfl hb_14) fun _ S=>?_
       refine AN.zn 21 S rfl (GNo.mk rfl rfl hb_14) fun _ S=>?_
       refine AN.zn 22 S rfl (GNo.mk rfl rfl hb_14) fun _ S=>?_
       refine AN.zn 23 S rfl (GNo.mk rfl rfl hb_14) fun _ S=>?_
       refine AN.zn 24 S rfl (GNo.mk rfl rfl hb_14) fun _ S=>?_
       refine AN.zn 25 S rfl (GNo.mk rfl rfl hb_14) fun _ S=>?_
       refine AN.zn 26 S rfl (GNo.mk rfl rfl hb_14) fun _ S=>?_
       refine AN.zn 27 S rfl (GNo.mk rfl rfl hb_14) fun _ S=>?_
       refine AN.zn 28 S rfl (GNo.mk rfl rfl hb_14) fun _ S=>?_
       refine AN.zq 29 S rfl (fun _=>run_pickT (S.ev rfl) hb_14 (S.ev rfl)) fun _ S=>?_
       refine AN.done (by kernel_rfl) ?_
       exact⟨true,S.sub _ ⟨rfl,rfl,rfl,rfl,trivial⟩,H⟩
      ·
       replace H:=H.2 hb_14
       refine AN.zq (hg:=GOk.mk rfl rfl hb_14) 19 S rfl (fun _=>Lf.run_move (S.ev rfl)) fun _ S=>?_
       refine AN.zq (hg:=GOk.mk rfl rfl hb_14) 20 S rfl (fun _=>Lf.run_move (S.ev rfl)) fun _ S=>?_
       obtain⟨q45_6,e_46,e_47,e_48,H⟩:=H
       refine AN.zq (hg:=GOk.mk rfl rfl hb_14) 21 S rfl (fun _=>Lf.run_ixs (S.ev rfl) (S.ev rfl) Try.underlying44 ti23 e_46 e_47 e_48) fun _ S=>?_
       obtain⟨x46_6,c_14,H⟩:=H
       refine AN.zl (hg:=GOk.mk rfl rfl hb_14) 22 S rfl (fun _ hx=>Lf.run_ld (S.ev rfl) fl23 (hx.cell _ _ (S.cl c_14))) fun _ S=>?_
       refine AN.zq (hg:=GOk.mk rfl rfl hb_14) 23 S rfl (fun _=>Lf.run_move (S.ev rfl)) fun _ S=>?_
       refine AN.zq (hg:=GOk.mk rfl rfl hb_14) 24 S rfl (fun _=>Lf.run_move (S.ev rfl)) fun _ S=>?_
       obtain⟨q49_6,e_49,e_50,e_51,H⟩:=H
       refine AN.zq (hg:=GOk.mk rfl rfl hb_14) 25 S rfl (fun _=>Lf.run_ixs (S.ev rfl) (S.ev rfl) Try.underlying44 ti23 e_49 e_50 e_51) fun _ S=>?_
       obtain⟨x50_6,c_15,H⟩:=H
       refine AN.zl (hg:=GOk.mk rfl rfl hb_14) 26 S rfl (fun _ hx=>Lf.run_ld (S.ev rfl) fl23 (hx.cell _ _ (S.cl c_15))) fun _ S=>?_
       refine AN.zq (hg:=GOk.mk rfl rfl hb_14) 27 S rfl (fun _=>Lf.run_bits (op:=.andNot) (by simp) (S.ev rfl) (S.ev rfl)) fun _ S=>?_
       refine AN.zq (hg:=GOk.mk rfl rfl hb_14) 28 S rfl (fun _=>Lf.run_neq (S.ev rfl) (S.ev rfl)) fun _ S=>?_
       refine AN.zq 29 S rfl (fun _=>run_pickF (S.ev rfl) hb_14 (S.ev rfl)) fun _ S=>?_
       refine AN.done (by kernel_rfl) ?_
       exact⟨((bitsI .andNot .u64 x46_6 x50_6) != 0),S.sub _ ⟨rfl,rfl,rfl,rfl,trivial⟩,H⟩
    ·
     replace H:=H.2 hb_9
     refine AN.zq (hg:=GOk.mk rfl rfl hb_9) 7 S rfl (fun _=>Lf.run_move (S.ev rfl)) fun _ S=>?_
     refine AN.zq (hg:=GOk.mk rfl rfl hb_9) 8 S rfl (fun _=>Lf.run_move (S.ev rfl)) fun _ S=>?_
     refine AN.zq (hg:=GOk.mk rfl rfl hb_9) 9 S rfl (fun _=>Lf.run_lens (S.ev rfl) rfl Try.underlying44) fun _ S=>?_
     refine AN.zq (hg:=GOk.mk rfl rfl hb_9) 10 S rfl (fun _=>Lf.run_geq (S.ev rfl) (S.ev rfl)) fun _ S=>?_
     refine AN.zq 11 S rfl (fun _=>run_pickF (S.ev rfl) hb_9 (S.ev rfl)) fun _ S=>?_
     refine AN.zq 12 S rfl (fun _=>Lf.run_move (S.ev rfl)) fun _ S=>?_
     rcases Bool.eq_false_or_eq_true (decide (((sets1.n:Nat):Int)≤x18)) with hb_10|hb_10
     ·
      replace H:=H.1 hb_10
      refine AN.zn 13 S rfl (GNo.mk rfl rfl hb_10) fun _ S=>?_
      refine AN.zn 14 S rfl (GNo.mk rfl rfl hb_10) fun _ S=>?_
      refine AN.zn 15 S rfl (GNo.mk rfl rfl hb_10) fun _ S=>?_
      refine AN.zn 16 S rfl (GNo.mk rfl rfl hb_10) fun _ S=>?_
      refine AN.zq 17 S rfl (fun _=>run_pickT (S.ev rfl) hb_10 (S.ev rfl)) fun _ S=>?_
      refine AN.zq 18 S rfl (fun _=>Lf.run_move (S.ev rfl)) fun _ S=>?_
      rcases Bool.eq_false_or_eq_true true with hb_12|hb_12
      ·
       replace H:=H.1 hb_12
       refine AN.zn 19 S rfl (GNo.mk rfl rfl hb_12) fun _ S=>?_
       refine AN.zn 20 S rfl (GNo.mk rfl rfl hb_12) fun _ S=>?_
       refine AN.zn 21 S rfl (GNo.mk rfl rfl hb_12) fun _ S=>?_
       refine AN.zn 22 S rfl (GNo.mk rfl rfl hb_12) fun _ S=>?_
       refine AN.zn 23 S rfl (GNo.mk rfl rfl hb_12) fun _ S=>?_
       refine AN.zn 24 S rfl (GNo.mk rfl rfl hb_12) fun _ S=>?_
       refine AN.zn 25 S rfl (GNo.mk rfl rfl hb_12) fun _ S=>?_
       refine AN.zn 26 S rfl (GNo.mk rfl rfl hb_12) fun _ S=>?_
       refine AN.zn 27 S rfl (GNo.mk rfl rfl hb_12) fun _ S=>?_
       refine AN.zn 28 S rfl (GNo.mk rfl rfl hb_12) fun _ S=>?_
       refine AN.zq 29 S rfl (fun _=>run_pickT (S.ev rfl) hb_12 (S.ev rfl)) fun _ S=>?_
       refine AN.done (by kernel_rfl) ?_
       exact⟨true,S.sub _ ⟨rfl,rfl,rfl,rfl,trivial⟩,H⟩
      ·
       replace H:=H.2 hb_12
       refine AN.zq (hg:=GOk.mk rfl rfl hb_12) 19 S rfl (fun _=>Lf.run_move (S.ev rfl)) fun _ S=>?_
       refine AN.zq (hg:=GOk.mk rfl rfl hb_12) 20 S rfl (fun _=>Lf.run_move (S.ev rfl)) fun _ S=>?_
       obtain⟨q45_5,e_40,e_41,e_42,H⟩:=H
       refine AN.zq (hg:=GOk.mk rfl rfl hb_12) 21 S rfl (fun _=>Lf.run_ixs (S.ev rfl) (S.ev rfl) Try.underlying44 ti23 e_40 e_41 e_42) fun _ S=>?_
       obtain⟨x46_5,c_12,H⟩:=H
       refine AN.zl (hg:=GOk.mk rfl rfl hb_12) 22 S rfl (fun _ hx=>Lf.run_ld (S.ev rfl) fl23 (hx.cell _ _ (S.cl c_12))) fun _ S=>?_
       refine AN.zq (hg:=GOk.mk rfl rfl hb_12) 23 S rfl (fun _=>Lf.run_move (S.ev rfl)) fun _ S=>?_
       refine AN.zq (hg:=GOk.mk rfl rfl hb_12) 24 S rfl (fun _=>Lf.run_move (S.ev rfl)) fun _ S=>?_
       obtain⟨q49_5,e_43,e_44,e_45,H⟩:=H
       refine AN.zq (hg:=GOk.mk rfl rfl hb_12) 25 S rfl (fun _=>Lf.run_ixs (S.ev rfl) (S.ev rfl) Try.underlying44 ti23 e_43 e_44 e_45) fun _ S=>?_
       obtain⟨x50_5,c_13,H⟩:=H
       refine AN.zl (hg:=GOk.mk rfl rfl hb_12) 26 S rfl (fun _ hx=>Lf.run_ld (S.ev rfl) fl23 (hx.cell _ _ (S.cl c_13))) fun _ S=>?_
       refine AN.zq (hg:=GOk.mk rfl rfl hb_12) 27 S rfl (fun _=>Lf.run_bits (op:=.andNot) (by simp) (S.ev rfl) (S.ev rfl)) fun _ S=>?_
       refine AN.zq (hg:=GOk.mk rfl rfl hb_12) 28 S rfl (fun _=>Lf.run_neq (S.ev rfl) (S.ev rfl)) fun _ S=>?_
       refine AN.zq 29 S rfl (fun _=>run_pickF (S.ev rfl) hb_12 (S.ev rfl)) fun _ S=>?_
       refine AN.done (by kernel_rfl) ?_
       exact⟨((bitsI .andNot .u64 x46_5 x50_5) != 0),S.sub _ ⟨rfl,rfl,rfl,rfl,trivial⟩,H⟩
     ·
      replace H:=H.2 hb_10
      refine AN.zq (hg:=GOk.mk rfl rfl hb_10) 13 S rfl (fun _=>Lf.run_move (S.ev rfl)) fun _ S=>?_
      refine AN.zq (hg:=GOk.mk rfl rfl hb_10) 14 S rfl (fun _=>Lf.run_move (S.ev rfl)) fun _ S=>?_
      refine AN.zq (hg:=GOk.mk rfl rfl hb_10) 15 S rfl (fun _=>Lf.run_lens (S.ev rfl) rfl Try.underlying44) fun _ S=>?_
      refine AN.zq (hg:=GOk.mk rfl rfl hb_10) 16 S rfl (fun _=>Lf.run_geq (S.ev rfl) (S.ev rfl)) fun _ S=>?_
      refine AN.zq 17 S rfl (fun _=>run_pickF (S.ev rfl) hb_10 (S.ev rfl)) fun _ S=>?_
      refine AN.zq 18 S rfl (fun _=>Lf.run_move (S.ev rfl)) fun _ S=>?_
      rcases Bool.eq_false_or_eq_true (decide (((sets1.n:Nat):Int)≤x23)) with hb_11|hb_11
      ·
       replace H:=H.1 hb_11
       refine AN.zn 19 S rfl (GNo.mk rfl rfl hb_11) fun _ S=>?_
       refine AN.zn 20 S rfl (GNo.mk rfl rfl hb_11) fun _ S=>?_
       refine AN.zn 21 S rfl (GNo.mk rfl rfl hb_11) fun _ S=>?_
       refine AN.zn 22 S rfl (GNo.mk rfl rfl hb_11) fun _ S=>?_
       refine AN.zn 23 S rfl (GNo.mk rfl rfl hb_11) fun _ S=>?_
       refine AN.zn 24 S rfl (GNo.mk rfl rfl hb_11) fun _ S=>?_
       refine AN.zn 25 S rfl (GNo.mk rfl rfl hb_11) fun _ S=>?_
       refine AN.zn 26 S rfl (GNo.mk rfl rfl hb_11) fun _ S=>?_
       refine AN.zn 27 S rfl (GNo.mk rfl rfl hb_11) fun _ S=>?_
       refine AN.zn 28 S rfl (GNo.mk rfl rfl hb_11) fun _ S=>?_
       refine AN.zq 29 S rfl (fun _=>run_pickT (S.ev rfl) hb_11 (S.ev rfl)) fun _ S=>?_
       refine AN.done (by kernel_rfl) ?_
       exact⟨true,S.sub _ ⟨rfl,rfl,rfl,rfl,trivial⟩,H⟩
      ·
       replace H:=H.2 hb_11
       refine AN.zq (hg:=GOk.mk rfl rfl hb_11) 19 S rfl (fun _=>Lf.run_move (S.ev rfl)) fun _ S=>?_
       refine AN.zq (hg:=GOk.mk rfl rfl hb_11) 20 S rfl (fun _=>Lf.run_move (S.ev rfl)) fun _ S=>?_
       obtain⟨q45_4,e_34,e_35,e_36,H⟩:=H
       refine AN.zq (hg:=GOk.mk rfl rfl hb_11) 21 S rfl (fun _=>Lf.run_ixs (S.ev rfl) (S.ev rfl) Try.underlying44 ti23 e_34 e_35 e_36) fun _ S=>?_
       obtain⟨x46_4,c_10,H⟩:=H
       refine AN.zl (hg:=GOk.mk rfl rfl hb_11) 22 S rfl (fun _ hx=>Lf.run_ld (S.ev rfl) fl23 (hx.cell _ _ (S.cl c_10))) fun _ S=>?_
       refine AN.zq (hg:=GOk.mk rfl rfl hb_11) 23 S rfl (fun _=>Lf.run_move (S.ev rfl)) fun _ S=>?_
       refine AN.zq (hg:=GOk.mk rfl rfl hb_11) 24 S rfl (fun _=>Lf.run_move (S.ev rfl)) fun _ S=>?_
       obtain⟨q49_4,e_37,e_38,e_39,H⟩:=H
       refine AN.zq (hg:=GOk.mk rfl rfl hb_11) 25 S rfl (fun _=>Lf.run_ixs (S.ev rfl) (S.ev rfl) Try.underlying44 ti23 e_37 e_38 e_39) fun _ S=>?_
       obtain⟨x50_4,c_11,H⟩:=H
       refine AN.zl (hg:=GOk.mk rfl rfl hb_11) 26 S rfl (fun _ hx=>Lf.run_ld (S.ev rfl) fl23 (hx.cell _ _ (S.cl c_11))) fun _ S=>?_
       refine AN.zq (hg:=GOk.mk rfl rfl hb_11) 27 S rfl (fun _=>Lf.run_bits (op:=.andNot) (by simp) (S.ev rfl) (S.ev rfl)) fun _ S=>?_
       refine AN.zq (hg:=GOk.mk rfl rfl hb_11) 28 S rfl (fun _=>Lf.run_neq (S.ev rfl) (S.ev rfl)) fun _ S=>?_
       refine AN.zq 29 S rfl (fun _=>run_pickF (S.ev rfl) hb_11 (S.ev rfl)) fun _ S=>?_
       refine AN.done (by kernel_rfl) ?_
       exact⟨((bitsI .andNot .u64 x46_4 x50_4) != 0),S.sub _ ⟨rfl,rfl,rfl,rfl,trivial⟩,H⟩
   ·
    replace H:=H.2 hb_1
    refine AN.zq (hg:=GOk.mk rfl rfl hb_1) 3 S rfl (fun _=>Lf.run_move (S.ev rfl)) fun _ S=>?_
    refine AN.zq (hg:=GOk.mk rfl rfl hb_1) 4 S rfl (fun _=>Lf.run_lss (S.ev rfl) (S.ev rfl)) fun _ S=>?_
    refine AN.zq 5 S rfl (fun _=>run_pickF (S.ev rfl) hb_1 (S.ev rfl)) fun _ S=>?_
    refine AN.zq 6 S rfl (fun _=>Lf.run_move (S.ev rfl)) fun _ S=>?_
    rcases Bool.eq_false_or_eq_true (decide (x23<0)) with hb_2|hb_2
    ·
     replace H:=H.1 hb_2
     refine AN.zn 7 S rfl (GNo.mk rfl rfl hb_2) fun _ S=>?_
     refine AN.zn 8 S rfl (GNo.mk rfl rfl hb_2) fun _ S=>?_
     refine AN.zn 9 S rfl (GNo.mk rfl rfl hb_2) fun _ S=>?_
     refine AN.zn 10 S rfl (GNo.mk rfl rfl hb_2) fun _ S=>?_
     refine AN.zq 11 S rfl (fun _=>run_pickT (S.ev rfl) hb_2 (S.ev rfl)) fun _ S=>?_
     refine AN.zq 12 S rfl (fun _=>Lf.run_move (S.ev rfl)) fun _ S=>?_
     rcases Bool.eq_false_or_eq_true true with hb_6|hb_6
     ·
      replace H:=H.1 hb_6
      refine AN.zn 13 S rfl (GNo.mk rfl rfl hb_6) fun _ S=>?_
      refine AN.zn 14 S rfl (GNo.mk rfl rfl hb_6) fun _ S=>?_
      refine AN.zn 15 S rfl (GNo.mk rfl rfl hb_6) fun _ S=>?_
      refine AN.zn 16 S rfl (GNo.mk rfl rfl hb_6) fun _ S=>?_
      refine AN.zq 17 S rfl (fun _=>run_pickT (S.ev rfl) hb_6 (S.ev rfl)) fun _ S=>?_
      refine AN.zq 18 S rfl (fun _=>Lf.run_move (S.ev rfl)) fun _ S=>?_
      rcases Bool.eq_false_or_eq_true true with hb_8|hb_8
      ·
       replace H:=H.1 hb_8
       refine AN.zn 19 S rfl (GNo.mk rfl rfl hb_8) fun _ S=>?_
       refine AN.zn 20 S rfl (GNo.mk rfl rfl hb_8) fun _ S=>?_
       refine AN.zn 21 S rfl (GNo.mk rfl rfl hb_8) fun _ S=>?_
       refine AN.zn 22 S rfl (GNo.mk rfl rfl hb_8) fun _ S=>?_
       refine AN.zn 23 S rfl (GNo.mk rfl rfl hb_8) fun _ S=>?_
       refine AN.zn 24 S rfl (GNo.mk rfl rfl hb_8) fun _ S=>?_
       refine AN.zn 25 S rfl (GNo.mk rfl rfl hb_8) fun _ S=>?_
       refine AN.zn 26 S rfl (GNo.mk rfl rfl hb_8) fun _ S=>?_
       refine AN.zn 27 S rfl (GNo.mk rfl rfl hb_8) fun _ S=>?_
       refine AN.zn 28 S rfl (GNo.mk rfl rfl hb_8) fun _ S=>?_
       refine AN.zq 29 S rfl (fun _=>run_pickT (S.ev rfl) hb_8 (S.ev rfl)) fun _ S=>?_
       refine AN.done (by kernel_rfl) ?_
       exact⟨true,S.sub _ ⟨rfl,rfl,rfl,rfl,trivial⟩,H⟩
      ·
       replace H:=H.2 hb_8
       refine AN.zq (hg:=GOk.mk rfl rfl hb_8) 19 S rfl (fun _=>Lf.run_move (S.ev rfl)) fun _ S=>?_
       refine AN.zq (hg:=GOk.mk rfl rfl hb_8) 20 S rfl (fun _=>Lf.run_move (S.ev rfl)) fun _ S=>?_
       obtain⟨q45_3,e_28,e_29,e_30,H⟩:=H
       refine AN.zq (hg:=GOk.mk rfl rfl hb_8) 21 S rfl (fun _=>Lf.run_ixs (S.ev rfl) (S.ev rfl) Try.underlying44 ti23 e_28 e_29 e_30) fun _ S=>?_
       obtain⟨x46_3,c_8,H⟩:=H
       refine AN.zl (hg:=GOk.mk rfl rfl hb_8) 22 S rfl (fun _ hx=>Lf.run_ld (S.ev rfl) fl23 (hx.cell _ _ (S.cl c_8))) fun _ S=>?_
       refine AN.zq (hg:=GOk.mk rfl rfl hb_8) 23 S rfl (fun _=>Lf.run_move (S.ev rfl)) fun _ S=>?_
       refine AN.zq (hg:=GOk.mk rfl rfl hb_8) 24 S rfl (fun _=>Lf.run_move (S.ev rfl)) fun _ S=>?_
       obtain⟨q49_3,e_31,e_32,e_33,H⟩:=H
       refine AN.zq (hg:=GOk.mk rfl rfl hb_8) 25 S rfl (fun _=>Lf.run_ixs (S.ev rfl) (S.ev rfl) Try.underlying44 ti23 e_31 e_32 e_33) fun _ S=>?_
       obtain⟨x50_3,c_9,H⟩:=H
       refine AN.zl (hg:=GOk.mk rfl rfl hb_8) 26 S rfl (fun _ hx=>Lf.run_ld (S.ev rfl) fl23 (hx.cell _ _ (S.cl c_9))) fun _ S=>?_
       refine AN.zq (hg:=GOk.mk rfl rfl hb_8) 27 S rfl (fun _=>Lf.run_bits (op:=.andNot) (by simp) (S.ev rfl) (S.ev rfl)) fun _ S=>?_
       refine AN.zq (hg:=GOk.mk rfl rfl hb_8) 28 S rfl (fun _=>Lf.run_neq (S.ev rfl) (S.ev rfl)) fun _ S=>?_
       refine AN.zq 29 S rfl (fun _=>run_pickF (S.ev rfl) hb_8 (S.ev rfl)) fun _ S=>?_
       refine AN.done (by kernel_rfl) ?_
       exact⟨((bitsI .andNot .u64 x46_3 x50_3) != 0),S.sub _ ⟨rfl,rfl,rfl,rfl,trivial⟩,H⟩
     ·
      replace H:=H.2 hb_6
      refine AN.zq (hg:=GOk.mk rfl rfl hb_6) 13 S rfl (fun _=>Lf.run_move (S.ev rfl)) fun _ S=>?_
      refine AN.zq (hg:=GOk.mk rfl rfl hb_6) 14 S rfl (fun _=>Lf.run_move (S.ev rfl)) fun _ S=>?_
      refine AN.zq (hg:=GOk.mk rfl rfl hb_6) 15 S rfl (fun _=>Lf.run_lens (S.ev rfl) rfl Try.underlying44) fun _ S=>?_
      refine AN.zq (hg:=GOk.mk rfl rfl hb_6) 16 S rfl (fun _=>Lf.run_geq (S.ev rfl) (S.ev rfl)) fun _ S=>?_
      refine AN.zq 17 S rfl (fun _=>run_pickF (S.ev rfl) hb_6 (S.ev rfl)) fun _ S=>?_
      refine AN.zq 18 S rfl (fun _=>Lf.run_move (S.ev rfl)) fun _ S=>?_
      rcases Bool.eq_false_or_eq_true (decide (((sets1.n:Nat):Int)≤x23)) with hb_7|hb_7
      ·
       replace H:=H.1 hb_7
       refine AN.zn 19 S rfl (GNo.mk rfl rfl hb_7) fun _ S=>?_
       refine AN.zn 20 S rfl (GNo.mk rfl rfl hb_7) fun _ S=>?_
       refine AN.zn 21 S rfl (GNo.mk rfl rfl hb_7) fun _ S=>?_
       refine AN.zn 22 S rfl (GNo.mk rfl rfl hb_7) fun _ S=>?_
       refine AN.zn 23 S rfl (GNo.mk rfl rfl hb_7) fun _ S=>?_
       refine AN.zn 24 S rfl (GNo.mk rfl rfl hb_7) fun _ S=>?_
       refine AN.zn 25 S rfl (GNo.mk rfl rfl hb_7) fun _ S=>?_
       refine AN.zn 26 S rfl (GNo.mk rfl rfl hb_7) fun _ S=>?_
       refine AN.zn 27 S rfl (GNo.mk rfl rfl hb_7) fun _ S=>?_
       refine AN.zn 28 S rfl (GNo.mk rfl rfl hb_7) fun _ S=>?_
       refine AN.zq 29 S rfl (fun _=>run_pickT (S.ev rfl) hb_7 (S.ev rfl)) fun _ S=>?_
       refine AN.done (by kernel_rfl) ?_
       exact⟨true,S.sub _ ⟨rfl,rfl,rfl,rfl,trivial⟩,H⟩
      ·
       replace H:=H.2 hb_7
       refine AN.zq (hg:=GOk.mk rfl rfl hb_7) 19 S rfl (fun _=>Lf.run_move (S.ev rfl)) fun _ S=>?_
       refine AN.zq (hg:=GOk.mk rfl rfl hb_7) 20 S rfl (fun _=>Lf.run_move (S.ev rfl)) fun _ S=>?_
       obtain⟨q45_2,e_22,e_23,e_24,H⟩:=H
       refine AN.zq (hg:=GOk.mk rfl rfl hb_7) 21 S rfl (fun _=>Lf.run_ixs (S.ev rfl) (S.ev rfl) Try.underlying44 ti23 e_22 e_23 e_24) fun _ S=>?_
       obtain⟨x46_2,c_6,H⟩:=H
       refine AN.zl (hg:=GOk.mk rfl rfl hb_7) 22 S rfl (fun _ hx=>Lf.run_ld (S.ev rfl) fl23 (hx.cell _ _ (S.cl c_6))) fun _ S=>?_
       refine AN.zq (hg:=GOk.mk rfl rfl hb_7) 23 S rfl (fun _=>Lf.run_move (S.ev rfl)) fun _ S=>?_
       refine AN.zq (hg:=GOk.mk rfl rfl hb_7) 24 S rfl (fun _=>Lf.run_move (S.ev rfl)) fun _ S=>?_
       obtain⟨q49_2,e_25,e_26,e_27,H⟩:=H
       refine AN.zq (hg:=GOk.mk rfl rfl hb_7) 25 S rfl (fun _=>Lf.run_ixs (S.ev rfl) (S.ev rfl) Try.underlying44 ti23 e_25 e_26 e_27) fun _ S=>?_
       obtain⟨x50_2,c_7,H⟩:=H
       refine AN.zl (hg:=GOk.mk rfl rfl hb_7) 26 S rfl (fun _ hx=>Lf.run_ld (S.ev rfl) fl23 (hx.cell _ _ (S.cl c_7))) fun _ S=>?_
       refine AN.zq (hg:=GOk.mk rfl rfl hb_7) 27 S rfl (fun _=>Lf.run_bits (op:=.andNot) (by simp) (S.ev rfl) (S.ev rfl)) fun _ S=>?_
       refine AN.zq (hg:=GOk.mk rfl rfl hb_7) 28 S rfl (fun _=>Lf.run_neq (S.ev rfl) (S.ev rfl)) fun _ S=>?_
       refine AN.zq 29 S rfl (fun _=>run_pickF (S.ev rfl) hb_7 (S.ev rfl)) fun _ S=>?_
       refine AN.done (by kernel_rfl) ?_
       exact⟨((bitsI .andNot .u64 x46_2 x50_2) != 0),S.sub _ ⟨rfl,rfl,rfl,rfl,trivial⟩,H⟩
    ·
     replace H:=H.2 hb_2
     refine AN.zq (hg:=GOk.mk rfl rfl hb_2) 7 S rfl (fun _=>Lf.run_move (S.ev rfl)) fun _ S=>?_
     refine AN.zq (hg:=GOk.mk rfl rfl hb_2) 8 S rfl (fun _=>Lf.run_move (S.ev rfl)) fun _ S=>?_
     refine AN.zq (hg:=GOk.mk rfl rfl hb_2) 9 S rfl (fun _=>Lf.run_lens (S.ev rfl) rfl Try.underlying44) fun _ S=>?_
     refine AN.zq (hg:=GOk.mk rfl rfl hb_2) 10 S rfl (fun _=>Lf.run_geq (S.ev rfl) (S.ev rfl)) fun _ S=>?_
     refine AN.zq 11 S rfl (fun _=>run_pickF (S.ev rfl) hb_2 (S.ev rfl)) fun _ S=>?_
     refine AN.zq 12 S rfl (fun _=>Lf.run_move (S.ev rfl)) fun _ S=>?_
     rcases Bool.eq_false_or_eq_true (decide (((sets1.n:Nat):Int)≤x18)) with hb_3|hb_3
     ·
      replace H:=H.1 hb_3
      refine AN.zn 13 S rfl (GNo.mk rfl rfl hb_3) fun _ S=>?_
      refine AN.zn 14 S rfl (GNo.mk rfl rfl hb_3) fun _ S=>?_
      refine AN.zn 15 S rfl (GNo.mk rfl rfl hb_3) fun _ S=>?_
      refine AN.zn 16 S rfl (GNo.mk rfl rfl hb_3) fun _ S=>?_
      refine AN.zq 17 S rfl (fun _=>run_pickT (S.ev rfl) hb_3 (S.ev rfl)) fun _ S=>?_
      refine AN.zq 18 S rfl (fun _=>Lf.run_move (S.ev rfl)) fun _ S=>?_
      rcases Bool.eq_false_or_eq_true true with hb_5|hb_5
      ·
       replace H:=H.1 hb_5
       refine AN.zn 19 S rfl (GNo.mk rfl rfl hb_5) fun _ S=>?_
       refine AN.zn 20 S rfl (GNo.mk rfl rfl hb_5) fun _ S=>?_
       refine AN.zn 21 S rfl (GNo.mk rfl rfl hb_5) fun _ S=>?_
       refine AN.zn 22 S rfl (GNo.mk rfl rfl hb_5) fun _ S=>?_
       refine AN.zn 23 S rfl (GNo.mk rfl rfl hb_5) fun _ S=>?_
       refine AN.zn 24 S rfl (GNo.mk rfl rfl hb_5) fun _ S=>?_
       refine AN.zn 25 S rfl (GNo.mk rfl rfl hb_5) fun _ S=>?_
       refine AN.zn 26 S rfl (GNo.mk rfl rfl hb_5) fun _ S=>?_
       refine AN.zn 27 S rfl (GNo.mk rfl rfl hb_5) fun _ S=>?_
       refine AN.zn 28 S rfl (GNo.mk rfl rfl hb_5) fun _ S=>?_
       refine AN.zq 29 S rfl (fun _=>run_pickT (S.ev rfl) hb_5 (S.ev rfl)) fun _ S=>?_
       refine AN.done (by kernel_rfl) ?_
       exact⟨true,S.sub _ ⟨rfl,rfl,rfl,rfl,trivial⟩,H⟩
      ·
       replace H:=H.2 hb_5
       refine AN.zq (hg:=GOk.mk rfl rfl hb_5) 19 S rfl (fun _=>Lf.run_move (S.ev rfl)) fun _ S=>?_
       refine AN.zq (hg:=GOk.mk rfl rfl hb_5) 20 S rfl (fun _=>Lf.run_move (S.ev rfl)) fun _ S=>?_
       obtain⟨q45_1,e_16,e_17,e_18,H⟩:=H
       refine AN.zq (hg:=GOk.mk rfl rfl hb_5) 21 S rfl (fun _=>Lf.run_ixs (S.ev rfl) (S.ev rfl) Try.underlying44 ti23 e_16 e_17 e_18) fun _ S=>?_
       obtain⟨x46_1,c_4,H⟩:=H
       refine AN.zl (hg:=GOk.mk rfl rfl hb_5) 22 S rfl (fun _ hx=>Lf.run_ld (S.ev rfl) fl23 (hx.cell _ _ (S.cl c_4))) fun _ S=>?_
       refine AN.zq (hg:=GOk.mk rfl rfl hb_5) 23 S rfl (fun _=>Lf.run_move (S.ev rfl)) fun _ S=>?_
       refine AN.zq (hg:=GOk.mk rfl rfl hb_5) 24 S rfl (fun _=>Lf.run_move (S.ev rfl)) fun _ S=>?_
       obtain⟨q49_1,e_19,e_20,e_21,H⟩:=H
       refine AN.zq (hg:=GOk.mk rfl rfl hb_5) 25 S rfl (fun _=>Lf.run_ixs (S.ev rfl) (S.ev rfl) Try.underlying44 ti23 e_19 e_20 e_21) fun _ S=>?_
       obtain⟨x50_1,c_5,H⟩:=H
       refine AN.zl (hg:=GOk.mk rfl rfl hb_5) 26 S rfl (fun _ hx=>Lf.run_ld (S.ev rfl) fl23 (hx.cell _ _ (S.cl c_5))) fun _ S=>?_
       refine AN.zq (hg:=GOk.mk rfl rfl hb_5) 27 S rfl (fun _=>Lf.run_bits (op:=.andNot) (by simp) (S.ev rfl) (S.ev rfl)) fun _ S=>?_
       refine AN.zq (hg:=GOk.mk rfl rfl hb_5) 28 S rfl (fun _=>Lf.run_neq (S.ev rfl) (S.ev rfl)) fun _ S=>?_
       refine AN.zq 29 S rfl (fun _=>run_pickF (S.ev rfl) hb_5 (S.ev rfl)) fun _ S=>?_
       refine AN.done (by kernel_rfl) ?_
       exact⟨((bitsI .andNot .u64 x46_1 x50_1) != 0),S.sub _ ⟨rfl,rfl,rfl,rfl,trivial⟩,H⟩
     ·
      replace H:=H.2 hb_3
      refine AN.zq (hg:=GOk.mk rfl rfl hb_3) 13 S rfl (fun _=>Lf.run_move (S.ev rfl)) fun _ S=>?_
      refine AN.zq (hg:=GOk.mk rfl rfl hb_3) 14 S rfl (fun _=>Lf.run_move (S.ev rfl)) fun _ S=>?_
      refine AN.zq (hg:=GOk.mk rfl rfl hb_3) 15 S rfl (fun _=>Lf.run_lens (S.ev rfl) rfl Try.underlying44) fun _ S=>?_
      refine AN.zq (hg:=GOk.mk rfl rfl hb_3) 16 S rfl (fun _=>Lf.run_geq (S.ev rfl) (S.ev rfl)) fun _ S=>?_
      refine AN.zq 17 S rfl (fun _=>run_pickF (S.ev rfl) hb_3 (S.ev rfl)) fun _ S=>?_
      refine AN.zq 18 S rfl (fun _=>Lf.run_move (S.ev rfl)) fun _ S=>?_
      rcases Bool.eq_false_or_eq_true (decide (((sets1.n:Nat):Int)≤x23)) with hb_4|hb_4
      ·
       replace H:=H.1 hb_4
       refine AN.zn 19 S rfl (GNo.mk rfl rfl hb_4) fun _ S=>?_
       refine AN.zn 20 S rfl (GNo.mk rfl rfl hb_4) fun _ S=>?_
       refine AN.zn 21 S rfl (GNo.mk rfl rfl hb_4) fun _ S=>?_
       refine AN.zn 22 S rfl (GNo.mk rfl rfl hb_4) fun _ S=>?_
       refine AN.zn 23 S rfl (GNo.mk rfl rfl hb_4) fun _ S=>?_
       refine AN.zn 24 S rfl (GNo.mk rfl rfl hb_4) fun _ S=>?_
       refine AN.zn 25 S rfl (GNo.mk rfl rfl hb_4) fun _ S=>?_
       refine AN.zn 26 S rfl (GNo.mk rfl rfl hb_4) fun _ S=>?_
       refine AN.zn 27 S rfl (GNo.mk rfl rfl hb_4) fun _ S=>?_
       refine AN.zn 28 S rfl (GNo.mk rfl rfl hb_4) fun _ S=>?_
       refine AN.zq 29 S rfl (fun _=>run_pickT (S.ev rfl) hb_4 (S.ev rfl)) fun _ S=>?_
       refine AN.done (by kernel_rfl) ?_
       exact⟨true,S.sub _ ⟨rfl,rfl,rfl,rfl,trivial⟩,H⟩
      ·
       replace H:=H.2 hb_4
       refine AN.zq (hg:=GOk.mk rfl rfl hb_4) 19 S rfl (fun _=>Lf.run_move (S.ev rfl)) fun _ S=>?_
       refine AN.zq (hg:=GOk.mk rfl rfl hb_4) 20 S rfl (fun _=>Lf.run_move (S.ev rfl)) fun _ S=>?_
       obtain⟨q45,e_10,e_11,e_12,H⟩:=H
       refine AN.zq (hg:=GOk.mk rfl rfl hb_4) 21 S rfl (fun _=>Lf.run_ixs (S.ev rfl) (S.ev rfl) Try.underlying44 ti23 e_10 e_11 e_12) fun _ S=>?_
       obtain⟨x46,c_2,H⟩:=H
       refine AN.zl (hg:=GOk.mk rfl rfl hb_4) 22 S rfl (fun _ hx=>Lf.run_ld (S.ev rfl) fl23 (hx.cell _ _ (S.cl c_2))) fun _ S=>?_
       refine AN.zq (hg:=GOk.mk rfl rfl hb_4) 23 S rfl (fun _=>Lf.run_move (S.ev rfl)) fun _ S=>?_
       refine AN.zq (hg:=GOk.mk rfl rfl hb_4) 24 S rfl (fun _=>Lf.run_move (S.ev rfl)) fun _ S=>?_
       obtain⟨q49,e_13,e_14,e_15,H⟩:=H
       refine AN.zq (hg:=GOk.mk rfl rfl hb_4) 25 S rfl (fun _=>Lf.run_ixs (S.ev rfl) (S.ev rfl) Try.underlying44 ti23 e_13 e_14 e_15) fun _ S=>?_
       obtain⟨x50,c_3,H⟩:=H
       refine AN.zl (hg:=GOk.mk rfl rfl hb_4) 26 S rfl (fun _ hx=>Lf.run_ld (S.ev rfl) fl23 (hx.cell _ _ (S.cl c_3))) fun _ S=>?_
       refine AN.zq (hg:=GOk.mk rfl rfl hb_4) 27 S rfl (fun _=>Lf.run_bits (op:=.andNot) (by simp) (S.ev rfl) (S.ev rfl)) fun _ S=>?_
       refine AN.zq (hg:=GOk.mk rfl rfl hb_4) 28 S rfl (fun _=>Lf.run_neq (S.ev rfl) (S.ev rfl)) fun _ S=>?_
       refine AN.zq 29 S rfl (fun _=>run_pickF (S.ev rfl) hb_4 (S.ev rfl)) fun _ S=>?_
       refine AN.done (by kernel_rfl) ?_
       exact⟨((bitsI .andNot .u64 x46 x50) != 0),S.sub _ ⟨rfl,rfl,rfl,rfl,trivial⟩,H⟩
  ·
   clear H S
   rintro aa ww ⟨x53,S,HJ⟩
   have H:=HK _ HJ
   clear HK HJ
   refine W.cond S (b:=x53) rfl (fun hb_16=>?_) (fun hb_16=>?_)
   ·
    replace H:=H.1 hb_16
    refine W.seq ?_
    refine W.region ?_
    refine OL.za S fun _ S=>?_
    refine OL.nil ?_
    refine W.ret ?_
    exact Ret.one S rfl rfl H
   ·
    replace H:=H.2 hb_16
    refine W.skip ?_
    refine W.region ?_
    refine OL.zm S fun _ S=>?_
    refine OL.zq S (Lf.run_add (S.ev rfl) (S.ev rfl)) fun _ S=>?_
    refine OL.za S fun _ S=>?_
    refine OL.nil ?_
    exact⟨((IntKind.i64.wrap (i5+1))),⟨S.sub _ ⟨rfl,rfl,rfl,trivial⟩,H.1⟩,H.2⟩
 ·
  replace H:=H.2 hb
  refine W.exit_ ?_
  refine xhit ?_
  refine W.seq ?_
  refine W.region ?_
  refine OL.za S fun _ S=>?_
  refine OL.nil ?_
  refine W.ret ?_
  exact Ret.one S rfl rfl H
def L14 (vw0:Int) (vw0_1:Sv) (vw0_2:Option Nat) (vw0_3:Option Nat) (a1:Int) (a1_1:Sv) (a1_2:Sv) (a1_3:Int) (a1_4:ByteArray) (a1_5:Bool) (a1_6:Int) (a1_7:Sv) (a1_8:Sv) (b2:Int) (b2_1:Sv) (b2_2:Sv) (b2_3:Int) (b2_4:ByteArray) (b2_5:Bool) (b2_6:Int) (b2_7:Sv) (b2_8:Sv) (h:Heap) (R:Value→Heap→Prop):Prop:=
 new 33 #[Value.int .i64 vw0,Value.slice vw0_1.a vw0_1.n vw0_1.c,Value.map vw0_2,Value.map vw0_3] h fun p3 h1=>
 new 37 #[Value.int .i64 a1,Value.slice a1_1.a a1_1.n a1_1.c,Value.slice a1_2.a a1_2.n a1_2.c,Value.int .i64 a1_3,Value.string a1_4,Value.bool a1_5,Value.int .i64 a1_6,Value.slice a1_7.a a1_7.n a1_7.c,Value.slice a1_8.a a1_8.n a1_8.c] h1 fun p4 h2=>
 new 37 #[Value.int .i64 b2,Value.slice b2_1.a b2_1.n b2_1.c,Value.slice b2_2.a b2_2.n b2_2.c,Value.int .i64 b2_3,Value.string b2_4,Value.bool b2_5,Value.int .i64 b2_6,Value.slice b2_7.a b2_7.n b2_7.c,Value.slice b2_8.a b2_8.n b2_8.c] h2 fun p5 h3=>
 ldS h3 (p4.add 2) fun x11=>
 ldS h3 (p5.add 2) fun x14=>
 ∃J:Bool→Heap→Prop,(orj (((x11.n:Nat):Int) != ((x14.n:Nat):Int)) (fun k=>
  ∃(y19:Int) (y19_1:ByteArray) (y19_2:Bool) (y19_3:Int) (y19_4:Sv) (y19_5:Sv),cl h3 (p4.add 3)=some (Value.int .i64 y19)∧cl h3 ((p4.add 3).add 1)=some (Value.string y19_1)∧cl h3 ((p4.add 3).add 2)=some (Value.bool y19_2)∧cl h3 ((p4.add 3).add 3)=some (Value.int .i64 y19_3)∧cl h3 ((p4.add 3).add 4)=some (Value.slice y19_4.a y19_4.n y19_4.c)∧cl h3 ((p4.add 3).add 5)=some (Value.slice y19_5.a y19_5.n y19_5.c) ∧
  ∃(y21:Int) (y21_1:ByteArray) (y21_2:Bool) (y21_3:Int) (y21_4:Sv) (y21_5:Sv),cl h3 (p5.add 3)=some (Value.int .i64 y21)∧cl h3 ((p5.add 3).add 1)=some (Value.string y21_1)∧cl h3 ((p5.add 3).add 2)=some (Value.bool y21_2)∧cl h3 ((p5.add 3).add 3)=some (Value.int .i64 y21_3)∧cl h3 ((p5.add 3).add 4)=some (Value.slice y21_4.a y21_4.n y21_4.c)∧cl h3 ((p5.add 3).add 5)=some (Value.slice y21_5.a y21_5.n y21_5.c) ∧
  cal Try.prog 34 #[Value.agg #[Value.int .i64 y19,Value.string y19_1,Value.bool y19_2,Value.int .i64 y19_3,Value.slice y19_4.a y19_4.n y19_4.c,Value.slice y19_5.a y19_5.n y19_5.c],Value.agg #[Value.int .i64 y21,Value.string y21_1,Value.bool y21_2,Value.int .i64 y21_3,Value.slice y21_4.a y21_4.n y21_4.c,Value.slice y21_5.a y21_5.n y21_5.c]] h3 fun u h5=>asB u fun x22=>
  k (!x22) h5) h3 J)∧∀x24 h4,J x24 h4 →
 ifb x24 (
  R (.tuple #[Value.slice (⟨none,0,0⟩:Sv).a (⟨none,0,0⟩:Sv).n (⟨none,0,0⟩:Sv).c,Value.bool false]) h4) (
  ∃(y25:Int) (y25_1:Sv) (y25_2:Option Nat) (y25_3:Option Nat),cl h4 p3=some (Value.int .i64 y25)∧cl h4 (p3.add 1)=some (Value.slice y25_1.a y25_1.n y25_1.c)∧cl h4 (p3.add 2)=some (Value.map y25_2)∧cl h4 (p3.add 3)=some (Value.map y25_3) ∧
  ∃(y26:Int) (y26_1:Sv) (y26_2:Sv) (y26_3:Int) (y26_4:ByteArray) (y26_5:Bool) (y26_6:Int) (y26_7:Sv) (y26_8:Sv),cl h4 p4=some (Value.int .i64 y26)∧cl h4 (p4.add 1)=some (Value.slice y26_1.a y26_1.n y26_1.c)∧cl h4 (p4.add 2)=some (Value.slice y26_2.a y26_2.n y26_2.c)∧cl h4 (p4.add 3)=some (Value.int .i64 y26_3)∧cl h4 (p4.add 4)=some (Value.string y26_4)∧cl h4 (p4.add 5)=some (Value.bool y26_5)∧cl h4 (p4.add 6)=some (Value.int .i64 y26_6)∧cl h4 (p4.add 7)=some (Value.slice y26_7.a y26_7.n y26_7.c)∧cl h4 (p4.add 8)=some (Value.slice y26_8.a y26_8.n y26_8.c) ∧
  cal Try.prog 12 #[Value.agg #[Value.int .i64 y25,Value.slice y25_1.a y25_1.n y25_1.c,Value.map y25_2,Value.map y25_3],Value.agg #[Value.int .i64 y26,Value.slice y26_1.a y26_1.n y26_1.c,Value.slice y26_2.a y26_2.n y26_2.c,Value.int .i64 y26_3,Value.string y26_4,Value.bool y26_5,Value.int .i64 y26_6,Value.slice y26_7.a y26_7.n y26_7.c,Value.slice y26_8.a y26_8.n y26_8.c]] h4 fun u_1 h6=>asS u_1 fun x27=>
  ∃(I:Sv→Int→Heap→Prop) (m:Sv→Int→Heap→Nat),I x27 0 h6∧∀out8 i9 h7,I out8 i9 h7 →
  ldS h7 (p4.add 2) fun x30=>
  ifb (decide (i9<((x30.n:Nat):Int))) (
   ldS h7 (p4.add 2) fun x36=>
   ixS x36 i9 fun q38=>
   ∃(y39:Int) (y39_1:ByteArray) (y39_2:Bool) (y39_3:Int) (y39_4:Sv) (y39_5:Sv),cl h7 (q38.add ((i9:Int).toNat*6))=some (Value.int .i64 y39)∧cl h7 ((q38.add ((i9:Int).toNat*6)).add 1)=some (Value.string y39_1)∧cl h7 ((q38.add ((i9:Int).toNat*6)).add 2)=some (Value.bool y39_2)∧cl h7 ((q38.add ((i9:Int).toNat*6)).add 3)=some (Value.int .i64 y39_3)∧cl h7 ((q38.add ((i9:Int).toNat*6)).add 4)=some (Value.slice y39_4.a y39_4.n y39_4.c)∧cl h7 ((q38.add ((i9:Int).toNat*6)).add 5)=some (Value.slice y39_5.a y39_5.n y39_5.c) ∧
   ldS h7 (p5.add 2) fun x41=>
   ixS x41 i9 fun q43=>
   ∃(y44:Int) (y44_1:ByteArray) (y44_2:Bool) (y44_3:Int) (y44_4:Sv) (y44_5:Sv),cl h7 (q43.add ((i9:Int).toNat*6))=some (Value.int .i64 y44)∧cl h7 ((q43.add ((i9:Int).toNat*6)).add 1)=some (Value.string y44_1)∧cl h7 ((q43.add ((i9:Int).toNat*6)).add 2)=some (Value.bool y44_2)∧cl h7 ((q43.add ((i9:Int).toNat*6)).add 3)=some (Value.int .i64 y44_3)∧cl h7 ((q43.add ((i9:Int).toNat*6)).add 4)=some (Value.slice y44_4.a y44_4.n y44_4.c)∧cl h7 ((q43.add ((i9:Int).toNat*6)).add 5)=some (Value.slice y44_5.a y44_5.n y44_5.c) ∧
   cal Try.prog 34 #[Value.agg #[Value.int .i64 y39,Value.string y39_1,Value.bool y39_2,Value.int .i64 y39_3,Value.slice y39_4.a y39_4.n y39_4.c,Value.slice y39_5.a y39_5.n y39_5.c],Value.agg #[Value.int .i64 y44,Value.string y44_1,Value.bool y44_2,Value.int .i64 y44_3,Value.slice y44_4.a y44_4.n y44_4.c,Value.slice y44_5.a y44_5.n y44_5.c]] h7 fun u_2 h8=>asB u_2 fun x45=>
   ifb (!x45) (
    R (.tuple #[Value.slice (⟨none,0,0⟩:Sv).a (⟨none,0,0⟩:Sv).n (⟨none,0,0⟩:Sv).c,Value.bool false]) h8) (
    ldM h8 (p3.add 2) fun x49=>
    ldS h8 (p5.add 2) fun x51=>
    ixS x51 i9 fun q53=>
    ∃(y54:Int) (y54_1:ByteArray) (y54_2:Bool) (y54_3:Int) (y54_4:Sv) (y54_5:Sv),cl h8 (q53.add ((i9:Int).toNat*6))=some (Value.int .i64 y54)∧cl h8 ((q53.add ((i9:Int).toNat*6)).add 1)=some (Value.string y54_1)∧cl h8 ((q53.add ((i9:Int).toNat*6)).add 2)=some (Value.bool y54_2)∧cl h8 ((q53.add ((i9:Int).toNat*6)).add 3)=some (Value.int .i64 y54_3)∧cl h8 ((q53.add ((i9:Int).toNat*6)).add 4)=some (Value.slice y54_4.a y54_4.n y54_4.c)∧cl h8 ((q53.add ((i9:Int).toNat*6)).add 5)=some (Value.slice y54_5.a y54_5.n y54_5.c) ∧
    ldS h8 (p4.add 2) fun x56=>
    ixS x56 i9 fun q58=>
    ∃(y59:Int) (y59_1:ByteArray) (y59_2:Bool) (y59_3:Int) (y59_4:Sv) (y59_5:Sv),cl h8 (q58.add ((i9:Int).toNat*6))=some (Value.int .i64 y59)∧cl h8 ((q58.add ((i9:Int).toNat*6)).add 1)=some (Value.string y59_1)∧cl h8 ((q58.add ((i9:Int).toNat*6)).add 2)=some (Value.bool y59_2)∧cl h8 ((q58.add ((i9:Int).toNat*6)).add 3)=some (Value.int .i64 y59_3)∧cl h8 ((q58.add ((i9:Int).toNat*6)).add 4)=some (Value.slice y59_4.a y59_4.n y59_4.c)∧cl h8 ((q58.add ((i9:Int).toNat*6)).add 5)=some (Value.slice y59_5.a y59_5.n y59_5.c) ∧
    cal Try.prog 35 #[Value.map x49,Value.agg #[Value.int .i64 y54,Value.string y54_1,Value.bool y54_2,Value.int .i64 y54_3,Value.slice y54_4.a y54_4.n y54_4.c,Value.slice y54_5.a y54_5.n y54_5.c],Value.agg #[Value.int .i64 y59,Value.string y59_1,Value.bool y59_2,Value.int .i64 y59_3,Value.slice y59_4.a y59_4.n y59_4.c,Value.slice y59_5.a y59_5.n y59_5.c],Value.int .i64 1] h8 fun u_3 h9=>asS u_3 fun x60=>
    appS 56 (Value.agg #[Value.int .i64 0,Value.int .i64 0]).cells 2 16 h9 out8 x60 fun s61 h10=>
    I s61 (IntKind.i64.wrap (i9+1)) h10∧m s61 (IntKind.i64.wrap (i9+1)) h10<m out8 i9 h7)) (
   ldM h7 (p3.add 2) fun x64=>
   ∃(y66:Int) (y66_1:ByteArray) (y66_2:Bool) (y66_3:Int) (y66_4:Sv) (y66_5:Sv),cl h7 (p4.add 3)=some (Value.int .i64 y66)∧cl h7 ((p4.add 3).add 1)=some (Value.string y66_1)∧cl h7 ((p4.add 3).add 2)=some (Value.bool y66_2)∧cl h7 ((p4.add 3).add 3)=some (Value.int .i64 y66_3)∧cl h7 ((p4.add 3).add 4)=some (Value.slice y66_4.a y66_4.n y66_4.c)∧cl h7 ((p4.add 3).add 5)=some (Value.slice y66_5.a y66_5.n y66_5.c) ∧
   ∃(y68:Int) (y68_1:ByteArray) (y68_2:Bool) (y68_3:Int) (y68_4:Sv) (y68_5:Sv),cl h7 (p5.add 3)=some (Value.int .i64 y68)∧cl h7 ((p5.add 3).add 1)=some (Value.string y68_1)∧cl h7 ((p5.add 3).add 2)=some (Value.bool y68_2)∧cl h7 ((p5.add 3).add 3)=some (Value.int .i64 y68_3)∧cl h7 ((p5.add 3).add 4)=some (Value.slice y68_4.a y68_4.n y68_4.c)∧cl h7 ((p5.add 3).add 5)=some (Value.slice y68_5.a y68_5.n y68_5.c) ∧
   cal Try.prog 35 #[Value.map x64,Value.agg #[Value.int .i64 y66,Value.string y66_1,Value.bool y66_2,Value.int .i64 y66_3,Value.slice y66_4.a y66_4.n y66_4.c,Value.slice y66_5.a y66_5.n y66_5.c],Value.agg #[Value.int .i64 y68,Value.string y68_1,Value.bool y68_2,Value.int .i64 y68_3,Value.slice y68_4.a y68_4.n y68_4.c,Value.slice y68_5.a y68_5.n y68_5.c],Value.int .i64 1] h7 fun u_4 h11=>asS u_4 fun x69=>
   appS 56 (Value.agg #[Value.int .i64 0,Value.int .i64 0]).cells 2 16 h11 out8 x69 fun s70 h12=>
   R (.tuple #[Value.slice s70.a s70.n s70.c,Value.bool true]) h12))
set_option maxRecDepth 100000 in
theorem F14 {vw0 vw0_1 vw0_2 vw0_3 a1 a1_1 a1_2 a1_3 a1_4 a1_5 a1_6 a1_7 a1_8 b2 b2_1 b2_2 b2_3 b2_4 b2_5 b2_6 b2_7 b2_8 h:_} {R:Value→Heap→Prop} (H:L14 vw0 vw0_1 vw0_2 vw0_3 a1 a1_1 a1_2 a1_3 a1_4 a1_5 a1_6 a1_7 a1_8 b2 b2_1 b2_2 b2_3 b2_4 b2_5 b2_6 b2_7 b2_8 h R):CallsH Try.prog 14 #[Value.agg #[Value.int .i64 vw0,Value.slice vw0_1.a vw0_1.n vw0_1.c,Value.map vw0_2,Value.map vw0_3],Value.agg #[Value.int .i64 a1,Value.slice a1_1.a a1_1.n a1_1.c,Value.slice a1_2.a a1_2.n a1_2.c,Value.int .i64 a1_3,Value.string a1_4,Value.bool a1_5,Value.int .i64 a1_6,Value.slice a1_7.a a1_7.n a1_7.c,Value.slice a1_8.a a1_8.n a1_8.c],Value.agg #[Value.int .i64 b2,Value.slice b2_1.a b2_1.n b2_1.c,Value.slice b2_2.a b2_2.n b2_2.c,Value.int .i64 b2_3,Value.string b2_4,Value.bool b2_5,Value.int .i64 b2_6,Value.slice b2_7.a b2_7.n b2_7.c,Value.slice b2_8.a b2_8.n b2_8.c]] h R:=by
 refine CallsH.enter (n:=71) Try.func14 rfl rfl rfl rfl ?_
 intro w0 aa ww S
 unfold L14 at H
 refine W.seq ?_
 refine W.region ?_
 refine ol_box S H rfl rfl rfl trivial ?_
 clear S H;intro p3 aa ww h1 H S
 refine ol_box S H rfl rfl rfl trivial ?_
 clear S H;intro p4 aa ww h2 H S
 refine ol_box S H rfl rfl rfl trivial ?_
 clear S H;intro p5 aa ww h3 H S
 refine OL.za S fun _ S=>?_
 refine OL.za S fun _ S=>?_
 refine OL.nil ?_
 refine W.seq ?_
 refine W.seq ?_
 refine W.region ?_
 refine OL.zf S fa37_2 fun _ S=>?_
 obtain⟨x11,c,H⟩:=H
 refine OL.zl S fl24 c fun _ S=>?_
 refine OL.zq S (Lf.run_lens (S.ev rfl) rfl Try.underlying24) fun _ S=>?_
 refine OL.zf S fa37_2 fun _ S=>?_
 obtain⟨x14,c_1,H⟩:=H
 refine OL.zl S fl24 c_1 fun _ S=>?_
 refine OL.zq S (Lf.run_lens (S.ev rfl) rfl Try.underlying24) fun _ S=>?_
 refine OL.zq S (Lf.run_neq (S.ev rfl) (S.ev rfl)) fun _ S=>?_
 refine OL.zm S fun _ S=>?_
 obtain⟨J,H,HK⟩:=H
 refine OL.cutN 7 (fun aa ww=>∃x24 h4,St 71 ((24,Value.bool x24) :: [(3,Value.pointer (some p3)),(4,Value.pointer (some p4)),(5,Value.pointer (some p5)),(10,Value.pointer (some (p4.add 2))),(11,Value.slice x11.a x11.n x11.c),(12,Value.int .i64 ((x11.n:Nat):Int)),(13,Value.pointer (some (p5.add 2))),(14,Value.slice x14.a x14.n x14.c),(15,Value.int .i64 ((x14.n:Nat):Int)),(16,Value.bool (((x11.n:Nat):Int) != ((x14.n:Nat):Int))),(17,Value.bool (((x11.n:Nat):Int) != ((x14.n:Nat):Int)))]) h4 w0 aa ww∧J x24 h4) ?_ ?_
 ·
  rcases Bool.eq_false_or_eq_true (((x11.n:Nat):Int) != ((x14.n:Nat):Int)) with hb|hb
  ·
   replace H:=H.1 hb
   refine OL.zn S (GNo.mk rfl rfl hb) fun _ S=>?_
   refine OL.zn S (GNo.mk rfl rfl hb) fun _ S=>?_
   refine OL.zn S (GNo.mk rfl rfl hb) fun _ S=>?_
   refine OL.zn S (GNo.mk rfl rfl hb) fun _ S=>?_
   refine OL.zn S (GNo.mk rfl rfl hb) fun _ S=>?_
   refine OL.zn S (GNo.mk rfl rfl hb) fun _ S=>?_
   refine OL.zq S (Lf.run_pickT (S.ev rfl) hb (S.ev rfl)) fun _ S=>?_
   refine OL.nil ?_
   exact⟨_,_,S.sub _ ⟨rfl,rfl,rfl,rfl,rfl,rfl,rfl,rfl,rfl,rfl,rfl,rfl,trivial⟩,H⟩
  ·
   replace H:=H.2 hb
   refine OL.zf (hg:=GOk.mk rfl rfl hb) S fa37_3 fun _ S=>?_
   obtain⟨y19,y19_1,y19_2,y19_3,y19_4,y19_5,c_10,c_11,c_12,c_13,c_14,c_15,H⟩:=H
   refine OL.zq (hg:=GOk.mk rfl rfl hb) S (Lf.run_ldA (cs:=[Value.int .i64 y19,Value.string y19_1,Value.bool y19_2,Value.int .i64 y19_3,Value.slice y19_4.a y19_4.n y19_4.c,Value.slice y19_5.a y19_5.n y19_5.c]) (S.ev rfl) ag35 ti35 (by rw[S.heap];exact RowL.toRow ⟨c_10,c_11,c_12,c_13,c_14,c_15,trivial⟩)) fun _ S=>?_
   refine OL.zf (hg:=GOk.mk rfl rfl hb) S fa37_3 fun _ S=>?_
   obtain⟨y21,y21_1,y21_2,y21_3,y21_4,y21_5,c_4,c_5,c_6,c_7,c_8,c_9,H⟩:=H
   refine OL.zq (hg:=GOk.mk rfl rfl hb) S (Lf.run_ldA (cs:=[Value.int .i64 y21,Value.string y21_1,Value.bool y21_2,Value.int .i64 y21_3,Value.slice y21_4.a y21_4.n y21_4.c,Value.slice y21_5.a y21_5.n y21_5.c]) (S.ev rfl) ag35 ti35 (by rw[S.heap];exact RowL.toRow ⟨c_4,c_5,c_6,c_7,c_8,c_9,trivial⟩)) fun _ S=>?_
   refine ol_cal S H isfn34 rfl rfl (GOk.mk rfl rfl hb) ?_
   clear S H;intro u aa ww h5 H S
   obtain⟨x22,rfl,H⟩:=H
   refine OL.zq (hg:=GOk.mk rfl rfl hb) S (Lf.run_not (S.ev rfl)) fun _ S=>?_
   refine OL.zq S (Lf.run_pickF (S.ev rfl) hb (S.ev rfl)) fun _ S=>?_
   refine OL.nil ?_
   exact⟨_,_,S.sub _ ⟨rfl,rfl,rfl,rfl,rfl,rfl,rfl,rfl,rfl,rfl,rfl,rfl,trivial⟩,H⟩
 ·
  clear S
  rintro aa ww ⟨x24,h4,S,HJ⟩
  replace H:=HK _ _ HJ
  clear HK HJ
  refine OL.nil ?_
  refine W.cond S (b:=x24) rfl (fun hb_1=>?_) (fun hb_1=>?_)
  ·
   replace H:=H.1 hb_1
   refine W.seq ?_
   refine W.region ?_
   refine OL.za S fun _ S=>?_
   refine OL.za S fun _ S=>?_
   refine OL.nil ?_
   refine W.ret ?_
   exact Ret.two S rfl rfl rfl H
  ·
   replace H:=H.2 hb_1
   refine W.skip ?_
   refine W.seq ?_
   refine W.region ?_
   obtain⟨y25,y25_1,y25_2,y25_3,c_76,c_77,c_78,c_79,H⟩:=H
   refine OL.zq S (Lf.run_ldA (cs:=[Value.int .i64 y25,Value.slice y25_1.a y25_1.n y25_1.c,Value.map y25_2,Value.map y25_3]) (S.ev rfl) ag33 ti33 (by rw[S.heap];exact RowL.toRow ⟨c_76,c_77,c_78,c_79,trivial⟩)) fun _ S=>?_
   obtain⟨y26,y26_1,y26_2,y26_3,y26_4,y26_5,y26_6,y26_7,y26_8,c_67,c_68,c_69,c_70,c_71,c_72,c_73,c_74,c_75,H⟩:=H
   refine OL.zq S (Lf.run_ldA (cs:=[Value.int .i64 y26,Value.slice y26_1.a y26_1.n y26_1.c,Value.slice y26_2.a y26_2.n y26_2.c,Value.int .i64 y26_3,Value.string y26_4,Value.bool y26_5,Value.int .i64 y26_6,Value.slice y26_7.a y26_7.n y26_7.c,Value.slice y26_8.a y26_8.n y26_8.c]) (S.ev rfl) ag37 ti37 (by rw[S.heap];exact RowL.toRow ⟨c_67,c_68,c_69,c_70,c_71,c_72,c_73,c_74,c_75,trivial⟩)) fun _ S=>?_
   refine ol_cal S H isfn12 rfl rfl trivial ?_
   clear S H;intro u_1 aa ww h6 H S
   obtain⟨x27,rfl,H⟩:=H
   refine OL.za S fun _ S=>?_
   refine OL.nil ?_
   refine W.seq ?_
   refine W.seq ?_
   refine W.region ?_
   refine OL.za S fun _ S=>?_
   refine OL.nil ?_
   refine W.block ?_
   obtain⟨I,m,H,HB⟩:=H
   refine W.loopS (σ:=Sv×Int×Heap) (fun s aa ww=>St 71 [(3,Value.pointer (some p3)),(4,Value.pointer (some p4)),(5,Value.pointer (some p5)),(8,Value.slice s.1.a s.1.n s.1.c),(9,Value.int .i64 s.2.1)] s.2.2 w0 aa ww∧I s.1 s.2.1 s.2.2) (fun s=>m s.1 s.2.1 s.2.2) (x27,0,h6) ⟨S.sub _ ⟨rfl,rfl,rfl,rfl,rfl,trivial⟩,H⟩ ?_
   clear H S
   rintro ⟨out8,i9,h7⟩ aa ww ⟨S,HI⟩
   replace S:St 71 [(3,Value.pointer (some p3)),(4,Value.pointer (some p4)),(5,Value.pointer (some p5)),(8,Value.slice out8.a out8.n out8.c),(9,Value.int .i64 i9)] h7 w0 aa ww:=S
   have H:=HB out8 i9 h7 HI
   clear HI
   refine W.seq ?_
   refine W.seq ?_
   refine W.region ?_
   refine OL.zm S fun _ S=>?_
   refine OL.zf S fa37_2 fun _ S=>?_
   obtain⟨x30,c_18,H⟩:=H
   refine OL.zl S fl24 c_18 fun _ S=>?_
   refine OL.zq S (Lf.run_lens (S.ev rfl) rfl Try.underlying24) fun _ S=>?_
   refine OL.zq S (Lf.run_lss (S.ev rfl) (S.ev rfl)) fun _ S=>?_
   refine OL.nil ?_
   refine W.cond S (b:=(decide (i9<((x30.n:Nat):Int)))) rfl (fun hb_2=>?_) (fun hb_2=>?_)
   ·
    replace H:=H.1 hb_2
    refine W.skip ?_
    refine W.seq ?_
    refine W.block ?_
    refine W.seq ?_
    refine W.seq ?_
    replace S:=S.sub [(3,Value.pointer (some p3)),(4,Value.pointer (some p4)),(5,Value.pointer (some p5)),(8,Value.slice out8.a out8.n out8.c),(9,Value.int .i64 i9)] ⟨rfl,rfl,rfl,rfl,rfl,trivial⟩
    refine W.regionD S (by kernel_rfl) ?_
    clear S;intro ww S
    refine AN.zq 0 S rfl (fun _=>Lf.run_fa (S.ev rfl) fa37_2) fun _ S=>?_
    obtain⟨x36,c_19,H⟩:=H
    refine AN.zl 1 S rfl (fun _ hx=>Lf.run_ld (S.ev rfl) fl24 (hx.cell _ _ (S.cl c_19))) fun _ S=>?_
    refine AN.zq 2 S rfl (fun _=>Lf.run_move (S.ev rfl)) fun _ S=>?_
    obtain⟨q38,e,e_1,e_2,H⟩:=H
    refine AN.zq 3 S rfl (fun _=>Lf.run_ixs (S.ev rfl) (S.ev rfl) Try.underlying24 ti35 e e_1 e_2) fun _ S=>?_
    obtain⟨y39,y39_1,y39_2,y39_3,y39_4,y39_5,c_46,c_47,c_48,c_49,c_50,c_51,H⟩:=H
    refine AN.zl 4 S rfl (fun _ hx=>Lf.run_ldA (cs:=[Value.int .i64 y39,Value.string y39_1,Value.bool y39_2,Value.int .i64 y39_3,Value.slice y39_4.a y39_4.n y39_4.c,Value.slice y39_5.a y39_5.n y39_5.c]) (S.ev rfl) ag35 ti35 (hx.row (S.row ⟨c_46,c_47,c_48,c_49,c_50,c_51,trivial⟩))) fun _ S=>?_
    refine AN.zq 5 S rfl (fun _=>Lf.run_fa (S.ev rfl) fa37_2) fun _ S=>?_
    obtain⟨x41,c_21,H⟩:=H
    refine AN.zl 6 S rfl (fun _ hx=>Lf.run_ld (S.ev rfl) fl24 (hx.cell _ _ (S.cl c_21))) fun _ S=>?_
    refine AN.zq 7 S rfl (fun _=>Lf.run_move (S.ev rfl)) fun _ S=>?_
    obtain⟨q43,e_3,e_4,e_5,H⟩:=H
    refine AN.zq 8 S rfl (fun _=>Lf.run_ixs (S.ev rfl) (S.ev rfl) Try.underlying24 ti35 e_3 e_4 e_5) fun _ S=>?_
    obtain⟨y44,y44_1,y44_2,y44_3,y44_4,y44_5,c_40,c_41,c_42,c_43,c_44,c_45,H⟩:=H
    refine AN.zl 9 S rfl (fun _ hx=>Lf.run_ldA (cs:=[Value.int .i64 y44,Value.string y44_1,Value.bool y44_2,Value.int .i64 y44_3,Value.slice y44_4.a y44_4.n y44_4.c,Value.slice y44_5.a y44_5.n y44_5.c]) (S.ev rfl) ag35 ti35 (hx.row (S.row ⟨c_40,c_41,c_42,c_43,c_44,c_45,trivial⟩))) fun _ S=>?_
    refine AN.eff 10 rfl (by kernel_rfl) ?_
    refine ol_cal S H isfn34 rfl rfl trivial ?_
    clear S H;intro u_2 aa ww h8 H S
    obtain⟨x45,rfl,H⟩:=H
    refine OL.nil ?_
    refine AN.zq 11 S rfl (fun _=>Lf.run_not (S.ev rfl)) fun _ S=>?_
    refine AN.done (by kernel_rfl) ?_
    refine W.cond S (b:=(!x45)) rfl (fun hb_3=>?_) (fun hb_3=>?_)
    ·
     replace H:=H.1 hb_3
     refine W.seq ?_
     refine W.region ?_
     refine OL.za S fun _ S=>?_
     refine OL.za S fun _ S=>?_
     refine OL.nil ?_
     refine W.ret ?_
     exact Ret.two S rfl rfl rfl H
    ·
     replace H:=H.2 hb_3
     refine W.skip ?_
     replace S:=S.sub [(3,Value.pointer (some p3)),(4,Value.pointer (some p4)),(5,Value.pointer (some p5)),(8,Value.slice out8.a out8.n out8.c),(9,Value.int .i64 i9)] ⟨rfl,rfl,rfl,rfl,rfl,trivial⟩
     refine W.regionD S (by kernel_rfl) ?_
     clear S;intro ww S
     refine AN.zq 0 S rfl (fun _=>Lf.run_move (S.ev rfl)) fun _ S=>?_
     refine AN.zq 1 S rfl (fun _=>Lf.run_fa (S.ev rfl) fa33_2) fun _ S=>?_
     obtain⟨x49,c_23,H⟩:=H
     refine AN.zl 2 S rfl (fun _ hx=>Lf.run_ld (S.ev rfl) fl29 (hx.cell _ _ (S.cl c_23))) fun _ S=>?_
     refine AN.zq 3 S rfl (fun _=>Lf.run_fa (S.ev rfl) fa37_2) fun _ S=>?_
     obtain⟨x51,c_24,H⟩:=H
     refine AN.zl 4 S rfl (fun _ hx=>Lf.run_ld (S.ev rfl) fl24 (hx.cell _ _ (S.cl c_24))) fun _ S=>?_
     refine AN.zq 5 S rfl (fun _=>Lf.run_move (S.ev rfl)) fun _ S=>?_
     obtain⟨q53,e_6,e_7,e_8,H⟩:=H
     refine AN.zq 6 S rfl (fun _=>Lf.run_ixs (S.ev rfl) (S.ev rfl) Try.underlying24 ti35 e_6 e_7 e_8) fun _ S=>?_
     obtain⟨y54,y54_1,y54_2,y54_3,y54_4,y54_5,c_34,c_35,c_36,c_37,c_38,c_39,H⟩:=H
     refine AN.zl 7 S rfl (fun _ hx=>Lf.run_ldA (cs:=[Value.int .i64 y54,Value.string y54_1,Value.bool y54_2,Value.int .i64 y54_3,Value.slice y54_4.a y54_4.n y54_4.c,Value.slice y54_5.a y54_5.n y54_5.c]) (S.ev rfl) ag35 ti35 (hx.row (S.row ⟨c_34,c_35,c_36,c_37,c_38,c_39,trivial⟩))) fun _ S=>?_
     refine AN.zq 8 S rfl (fun _=>Lf.run_fa (S.ev rfl) fa37_2) fun _ S=>?_
     obtain⟨x56,c_26,H⟩:=H
     refine AN.zl 9 S rfl (fun _ hx=>Lf.run_ld (S.ev rfl) fl24 (hx.cell _ _ (S.cl c_26))) fun _ S=>?_
     refine AN.zq 10 S rfl (fun _=>Lf.run_move (S.ev rfl)) fun _ S=>?_
     obtain⟨q58,e_9,e_10,e_11,H⟩:=H
     refine AN.zq 11 S rfl (fun _=>Lf.run_ixs (S.ev rfl) (S.ev rfl) Try.underlying24 ti35 e_9 e_10 e_11) fun _ S=>?_
     obtain⟨y59,y59_1,y59_2,y59_3,y59_4,y59_5,c_28,c_29,c_30,c_31,c_32,c_33,H⟩:=H
     refine AN.zl 12 S rfl (fun _ hx=>Lf.run_ldA (cs:=[Value.int .i64 y59,Value.string y59_1,Value.bool y59_2,Value.int .i64 y59_3,Value.slice y59_4.a y59_4.n y59_4.c,Value.slice y59_5.a y59_5.n y59_5.c]) (S.ev rfl) ag35 ti35 (hx.row (S.row ⟨c_28,c_29,c_30,c_31,c_32,c_33,trivial⟩))) fun _ S=>?_
     refine AN.eff 13 rfl (by kernel_rfl) ?_
     refine ol_cal S H isfn35 rfl rfl trivial ?_
     clear S H;intro u_3 aa ww h9 H S
     obtain⟨x60,rfl,H⟩:=H
     refine OL.nil ?_
     refine AN.eff 14 rfl (by kernel_rfl) ?_
     refine ol_appS S H Try.underlying22 ti56 rfl rfl rfl trivial ?_
     clear S H;intro s61 aa ww h10 H S
     refine OL.nil ?_
     refine AN.zq 15 S rfl (fun _=>Lf.run_assign (S.ev rfl)) fun _ S=>?_
     refine AN.done (by kernel_rfl) ?_
     refine W.region ?_
     refine OL.zm S fun _ S=>?_
     refine OL.zq S (Lf.run_add (S.ev rfl) (S.ev rfl)) fun _ S=>?_
     refine OL.za S fun _ S=>?_
     refine OL.nil ?_
     exact⟨(s61,(IntKind.i64.wrap (i9+1)),h10),⟨S.sub _ ⟨rfl,rfl,rfl,rfl,rfl,trivial⟩,H.1⟩,H.2⟩
   ·
    replace H:=H.2 hb_2
    refine W.exit_ ?_
    refine xhit ?_
    refine W.seq ?_
    refine W.region ?_
    refine OL.zm S fun _ S=>?_
    refine OL.zf S fa33_2 fun _ S=>?_
    obtain⟨x64,c_52,H⟩:=H
    refine OL.zl S fl29 c_52 fun _ S=>?_
    refine OL.zf S fa37_3 fun _ S=>?_
    obtain⟨y66,y66_1,y66_2,y66_3,y66_4,y66_5,c_61,c_62,c_63,c_64,c_65,c_66,H⟩:=H
    refine OL.zq S (Lf.run_ldA (cs:=[Value.int .i64 y66,Value.string y66_1,Value.bool y66_2,Value.int .i64 y66_3,Value.slice y66_4.a y66_4.n y66_4.c,Value.slice y66_5.a y66_5.n y66_5.c]) (S.ev rfl) ag35 ti35 (by rw[S.heap];exact RowL.toRow ⟨c_61,c_62,c_63,c_64,c_65,c_66,trivial⟩)) fun _ S=>?_
    refine OL.zf S fa37_3 fun _ S=>?_
    obtain⟨y68,y68_1,y68_2,y68_3,y68_4,y68_5,c_55,c_56,c_57,c_58,c_59,c_60,H⟩:=H
    refine OL.zq S (Lf.run_ldA (cs:=[Value.int .i64 y68,Value.string y68_1,Value.bool y68_2,Value.int .i64 y68_3,Value.slice y68_4.a y68_4.n y68_4.c,Value.slice y68_5.a y68_5.n y68_5.c]) (S.ev rfl) ag35 ti35 (by rw[S.heap];exact RowL.toRow ⟨c_55,c_56,c_57,c_58,c_59,c_60,trivial⟩)) fun _ S=>?_
    refine ol_cal S H isfn35 rfl rfl trivial ?_
    clear S H;intro u_4 aa ww h11 H S
    obtain⟨x69,rfl,H⟩:=H
    refine ol_appS S H Try.underlying22 ti56 rfl rfl rfl trivial ?_
    clear S H;intro s70 aa ww h12 H S
    refine OL.za S fun _ S=>?_
    refine OL.za S fun _ S=>?_
    refine OL.nil ?_
    refine W.ret ?_
    exact Ret.two S rfl rfl rfl H
end Go.Proofs.Yteofligmdngdgaa

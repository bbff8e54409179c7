/- HeapPlain: for every input that its row covers the law returns true, and its arguments read as they did; under no other conditions. This text is joined by a program of ours out of smaller ones. -/
import Derived.Test.YtggacajnmgligaaHP1
namespace Go.Proofs.Ytggacajnmgligaa
open Go Go.Lf
set_option linter.unusedVariables false
set_option maxRecDepth 100000
def L63 (s0:Sv) (f1:Value) (h:Heap) (R:Value→Heap→Prop):Prop:=
 ∃(I:Int→Heap→Prop) (m:Int→Heap→Nat),I 0 h∧∀x8 h1,I x8 h1 →
 ifb (decide (x8<((s0.n:Nat):Int))) (
  ixS s0 x8 fun q14=>
  ∃(y15:Int) (y15_1:Int) (y15_2:ByteArray) (y15_3:Sv) (y15_4:Int) (y15_5:Sv) (y15_6:Int),cl h1 (q14.add ((x8:Int).toNat*7))=some (Value.int .i64 y15)∧cl h1 ((q14.add ((x8:Int).toNat*7)).add 1)=some (Value.int .u64 y15_1)∧cl h1 ((q14.add ((x8:Int).toNat*7)).add 2)=some (Value.string y15_2)∧cl h1 ((q14.add ((x8:Int).toNat*7)).add 3)=some (Value.slice y15_3.a y15_3.n y15_3.c)∧cl h1 ((q14.add ((x8:Int).toNat*7)).add 4)=some (Value.int .i64 y15_4)∧cl h1 ((q14.add ((x8:Int).toNat*7)).add 5)=some (Value.slice y15_5.a y15_5.n y15_5.c)∧cl h1 ((q14.add ((x8:Int).toNat*7)).add 6)=some (Value.int .i64 y15_6) ∧
  calV Try.prog f1 #[Value.agg #[Value.int .i64 y15,Value.int .u64 y15_1,Value.string y15_2,Value.slice y15_3.a y15_3.n y15_3.c,Value.int .i64 y15_4,Value.slice y15_5.a y15_5.n y15_5.c,Value.int .i64 y15_6]] h1 fun u h2=>asB u fun x16=>
  ifb x16 (
   R (Value.int .i64 x8) h2) (
   I (IntKind.i64.wrap (x8+1)) h2∧m (IntKind.i64.wrap (x8+1)) h2<m x8 h1)) (
  R (Value.int .i64 (-1)) h1)
set_option maxRecDepth 100000 in
theorem F63 {s0 f1 h:_} {R:Value→Heap→Prop} (H:L63 s0 f1 h R):CallsH Try.prog 63 #[Value.slice s0.a s0.n s0.c,f1] h R:=by
 refine CallsH.enter (n:=19) Try.func63 rfl rfl rfl rfl ?_
 intro w0 aa ww S
 unfold L63 at H
 refine W.seq ?_
 refine W.region ?_
 refine OL.za S fun _ S=>?_
 refine OL.nil ?_
 refine W.seq ?_
 refine W.seq ?_
 refine W.region ?_
 refine OL.zm S fun _ S=>?_
 refine OL.zq S (Lf.run_lens (S.ev rfl) rfl Try.underlying31) fun _ S=>?_
 refine OL.zm S fun _ S=>?_
 refine OL.nil ?_
 refine W.block ?_
 obtain⟨I,m,H,HB⟩:=H
 refine W.loopS (σ:=Int×Heap) (fun s aa ww=>St 19 [(0,Value.slice s0.a s0.n s0.c),(1,f1),(7,Value.int .i64 ((s0.n:Nat):Int)),(8,Value.int .i64 s.1)] s.2 w0 aa ww∧I s.1 s.2) (fun s=>m s.1 s.2) (0,h) ⟨S.sub _ ⟨rfl,rfl,rfl,rfl,trivial⟩,H⟩ ?_
 clear H S
 rintro ⟨x8,h1⟩ aa ww ⟨S,HI⟩
 replace S:St 19 [(0,Value.slice s0.a s0.n s0.c),(1,f1),(7,Value.int .i64 ((s0.n:Nat):Int)),(8,Value.int .i64 x8)] h1 w0 aa ww:=S
 have H:=HB x8 h1 HI
 clear HI
 refine W.seq ?_
 refine W.region ?_
 refine OL.zq S (Lf.run_lss (S.ev rfl) (S.ev rfl)) fun _ S=>?_
 refine OL.nil ?_
 refine W.seq ?_
 refine W.cond S (b:=(decide (x8<((s0.n:Nat):Int)))) rfl (fun hb=>?_) (fun hb=>?_)
 ·
  replace H:=H.1 hb
  refine W.skip ?_
  refine W.seq ?_
  refine W.block ?_
  refine W.seq ?_
  refine W.region ?_
  refine OL.zm S fun _ S=>?_
  refine OL.za S fun _ S=>?_
  refine OL.nil ?_
  refine W.seq ?_
  refine W.region ?_
  refine OL.zm S fun _ S=>?_
  refine OL.zm S fun _ S=>?_
  refine OL.zm S fun _ S=>?_
  obtain⟨q14,e,e_1,e_2,H⟩:=H
  refine OL.zq S (Lf.run_ixs (S.ev rfl) (S.ev rfl) Try.underlying31 ti33 e e_1 e_2) fun _ S=>?_
  obtain⟨y15,y15_1,y15_2,y15_3,y15_4,y15_5,y15_6,c_1,c_2,c_3,c_4,c_5,c_6,c_7,H⟩:=H
  refine OL.zq S (Lf.run_ldA (cs:=[Value.int .i64 y15,Value.int .u64 y15_1,Value.string y15_2,Value.slice y15_3.a y15_3.n y15_3.c,Value.int .i64 y15_4,Value.slice y15_5.a y15_5.n y15_5.c,Value.int .i64 y15_6]) (S.ev rfl) ag33 ti33 (by rw[S.heap];exact RowL.toRow ⟨c_1,c_2,c_3,c_4,c_5,c_6,c_7,trivial⟩)) fun _ S=>?_
  refine ol_calV S H rfl rfl rfl trivial ?_
  clear S H;intro u aa ww h2 H S
  obtain⟨x16,rfl,H⟩:=H
  refine OL.nil ?_
  refine W.cond S (b:=x16) rfl (fun hb_1=>?_) (fun hb_1=>?_)
  ·
   replace H:=H.1 hb_1
   refine W.seq ?_
   refine W.region ?_
   refine OL.zm S fun _ S=>?_
   refine OL.za S fun _ S=>?_
   refine OL.nil ?_
   refine W.ret ?_
   exact Ret.one S rfl rfl H
  ·
   replace H:=H.2 hb_1
   refine W.skip ?_
   refine W.region ?_
   refine OL.zq S (Lf.run_add (S.ev rfl) (S.ev rfl)) fun _ S=>?_
   refine OL.zm S fun _ S=>?_
   refine OL.nil ?_
   exact⟨((IntKind.i64.wrap (x8+1)),h2),⟨S.sub _ ⟨rfl,rfl,rfl,rfl,trivial⟩,H.1⟩,H.2⟩
 ·
  replace H:=H.2 hb
  refine W.exit_ ?_
  refine xhit ?_
  refine W.seq ?_
  refine W.region ?_
  refine OL.za S fun _ S=>?_
  refine OL.nil ?_
  refine W.ret ?_
  exact Ret.one S rfl rfl H
def L33 (vh0:Option Addr) (p1:Int) (p1_1:Sv) (p1_2:Int) (h:Heap) (R:Value→Heap→Prop):Prop:=
 new 28 #[Value.int .i64 p1,Value.slice p1_1.a p1_1.n p1_1.c,Value.int .i64 p1_2] h fun p3 h1=>
 new 33 #[Value.int .i64 0,Value.int .u64 0,Value.string (⟨#[]⟩:ByteArray),Value.slice (⟨none,0,0⟩:Sv).a (⟨none,0,0⟩:Sv).n (⟨none,0,0⟩:Sv).c,Value.int .i64 0,Value.slice (⟨none,0,0⟩:Sv).a (⟨none,0,0⟩:Sv).n (⟨none,0,0⟩:Sv).c,Value.int .i64 0] h1 fun p4 h2=>
 ∃(y7:Int) (y7_1:Sv) (y7_2:Int),cl h2 p3=some (Value.int .i64 y7)∧cl h2 (p3.add 1)=some (Value.slice y7_1.a y7_1.n y7_1.c)∧cl h2 (p3.add 2)=some (Value.int .i64 y7_2) ∧
 cal Try.prog 50 #[Value.pointer vh0,Value.agg #[Value.int .i64 y7,Value.slice y7_1.a y7_1.n y7_1.c,Value.int .i64 y7_2],Value.bool false] h2 fun u h3=>∃(y8:Int) (y8_1:Int) (y8_2:ByteArray) (y8_3:Sv) (y8_4:Int) (y8_5:Sv) (y8_6:Int) (x8:Int),u=Value.tuple #[Value.agg #[Value.int .i64 y8,Value.int .u64 y8_1,Value.string y8_2,Value.slice y8_3.a y8_3.n y8_3.c,Value.int .i64 y8_4,Value.slice y8_5.a y8_5.n y8_5.c,Value.int .i64 y8_6],Value.int .i64 x8] ∧
 stoA h3 p4 [Value.int .i64 y8,Value.int .u64 y8_1,Value.string y8_2,Value.slice y8_3.a y8_3.n y8_3.c,Value.int .i64 y8_4,Value.slice y8_5.a y8_5.n y8_5.c,Value.int .i64 y8_6] fun h4=>
 ∃(y:Int) (y_1:Int) (y_2:ByteArray) (y_3:Sv) (y_4:Int) (y_5:Sv) (y_6:Int),cl h4 p4=some (Value.int .i64 y)∧cl h4 (p4.add 1)=some (Value.int .u64 y_1)∧cl h4 (p4.add 2)=some (Value.string y_2)∧cl h4 (p4.add 3)=some (Value.slice y_3.a y_3.n y_3.c)∧cl h4 (p4.add 4)=some (Value.int .i64 y_4)∧cl h4 (p4.add 5)=some (Value.slice y_5.a y_5.n y_5.c)∧cl h4 (p4.add 6)=some (Value.int .i64 y_6) ∧
 R (.tuple #[Value.agg #[Value.int .i64 y,Value.int .u64 y_1,Value.string y_2,Value.slice y_3.a y_3.n y_3.c,Value.int .i64 y_4,Value.slice y_5.a y_5.n y_5.c,Value.int .i64 y_6],Value.int .i64 x8]) h4
set_option maxRecDepth 100000 in
theorem F33 {vh0 p1 p1_1 p1_2 h:_} {R:Value→Heap→Prop} (H:L33 vh0 p1 p1_1 p1_2 h R):CallsH Try.prog 33 #[Value.pointer vh0,Value.agg #[Value.int .i64 p1,Value.slice p1_1.a p1_1.n p1_1.c,Value.int .i64 p1_2]] h R:=by
 refine CallsH.enter (n:=11) Try.func33 rfl rfl rfl rfl ?_
 intro w0 aa ww S
 unfold L33 at H
 refine W.seq ?_
 refine W.region ?_
 refine ol_box S H rfl rfl rfl trivial ?_
 clear S H;intro p3 aa ww h1 H S
 refine ol_alloc S H ti33 rfl rfl trivial ?_
 clear S H;intro p4 aa ww h2 H S
 refine OL.za S fun _ S=>?_
 refine OL.nil ?_
 refine W.seq ?_
 refine W.region ?_
 refine OL.zm S fun _ S=>?_
 obtain⟨y7,y7_1,y7_2,c_8,c_9,c_10,H⟩:=H
 refine OL.zq S (Lf.run_ldA (cs:=[Value.int .i64 y7,Value.slice y7_1.a y7_1.n y7_1.c,Value.int .i64 y7_2]) (S.ev rfl) ag28 ti28 (by rw[S.heap];exact RowL.toRow ⟨c_8,c_9,c_10,trivial⟩)) fun _ S=>?_
 refine ol_cal S H isfn50 rfl rfl trivial ?_
 clear S H;intro u aa ww h3 H S
 obtain⟨y8,y8_1,y8_2,y8_3,y8_4,y8_5,y8_6,x8,rfl,H⟩:=H
 refine OL.zq S (Lf.run_ex (S.ev rfl) rfl) fun _ S=>?_
 refine OL.zq S (Lf.run_ex (S.ev rfl) rfl) fun _ S=>?_
 refine ol_stoA S H rfl rfl ti33 trivial ?_
 clear S H;intro aa ww h4 H S
 refine OL.za S fun _ S=>?_
 refine OL.nil ?_
 refine W.ret ?_
 obtain⟨y,y_1,y_2,y_3,y_4,y_5,y_6,c_1,c_2,c_3,c_4,c_5,c_6,c_7,H⟩:=H
 exact Ret.gen S rfl (RV.cellA (cs:=[Value.int .i64 y,Value.int .u64 y_1,Value.string y_2,Value.slice y_3.a y_3.n y_3.c,Value.int .i64 y_4,Value.slice y_5.a y_5.n y_5.c,Value.int .i64 y_6]) rfl ag33 ti33 ⟨c_1,c_2,c_3,c_4,c_5,c_6,c_7,trivial⟩ (RV.tmp rfl RV.nil)) rfl H
def L34 (vh0:Option Addr) (p1:Int) (p1_1:Sv) (p1_2:Int) (h:Heap) (R:Value→Heap→Prop):Prop:=
 new 28 #[Value.int .i64 p1,Value.slice p1_1.a p1_1.n p1_1.c,Value.int .i64 p1_2] h fun p3 h1=>
 new 33 #[Value.int .i64 0,Value.int .u64 0,Value.string (⟨#[]⟩:ByteArray),Value.slice (⟨none,0,0⟩:Sv).a (⟨none,0,0⟩:Sv).n (⟨none,0,0⟩:Sv).c,Value.int .i64 0,Value.slice (⟨none,0,0⟩:Sv).a (⟨none,0,0⟩:Sv).n (⟨none,0,0⟩:Sv).c,Value.int .i64 0] h1 fun p4 h2=>
 ∃(y10:Int) (y10_1:Sv) (y10_2:Int),cl h2 p3=some (Value.int .i64 y10)∧cl h2 (p3.add 1)=some (Value.slice y10_1.a y10_1.n y10_1.c)∧cl h2 (p3.add 2)=some (Value.int .i64 y10_2) ∧
 cal Try.prog 50 #[Value.pointer vh0,Value.agg #[Value.int .i64 y10,Value.slice y10_1.a y10_1.n y10_1.c,Value.int .i64 y10_2],Value.bool true] h2 fun u h3=>∃(y11:Int) (y11_1:Int) (y11_2:ByteArray) (y11_3:Sv) (y11_4:Int) (y11_5:Sv) (y11_6:Int) (x11:Int),u=Value.tuple #[Value.agg #[Value.int .i64 y11,Value.int .u64 y11_1,Value.string y11_2,Value.slice y11_3.a y11_3.n y11_3.c,Value.int .i64 y11_4,Value.slice y11_5.a y11_5.n y11_5.c,Value.int .i64 y11_6],Value.int .i64 x11] ∧
 new 33 #[Value.int .i64 0,Value.int .u64 0,Value.string (⟨#[]⟩:ByteArray),Value.slice (⟨none,0,0⟩:Sv).a (⟨none,0,0⟩:Sv).n (⟨none,0,0⟩:Sv).c,Value.int .i64 0,Value.slice (⟨none,0,0⟩:Sv).a (⟨none,0,0⟩:Sv).n (⟨none,0,0⟩:Sv).c,Value.int .i64 0] h3 fun p6 h4=>
 stoA h4 p6 [Value.int .i64 y11,Value.int .u64 y11_1,Value.string y11_2,Value.slice y11_3.a y11_3.n y11_3.c,Value.int .i64 y11_4,Value.slice y11_5.a y11_5.n y11_5.c,Value.int .i64 y11_6] fun h5=>
 ∃J:Heap→Prop,(
  ifb (x11 == 0) (
   ∃Sq:Heap→Prop,Sq h5∧(
    nn vh0 fun p17=>
    nn vh0 fun p23=>
    ldS h5 p23 fun x25=>
    ldI .i64 h5 p3 fun x27=>
    ixS x25 x27 fun q28=>
    ∃(y30:Int) (y30_1:Int) (y30_2:ByteArray) (y30_3:Sv) (y30_4:Int) (y30_5:Sv) (y30_6:Int),cl h5 ((q28.add ((x27:Int).toNat*9)).add 1)=some (Value.int .i64 y30)∧cl h5 (((q28.add ((x27:Int).toNat*9)).add 1).add 1)=some (Value.int .u64 y30_1)∧cl h5 (((q28.add ((x27:Int).toNat*9)).add 1).add 2)=some (Value.string y30_2)∧cl h5 (((q28.add ((x27:Int).toNat*9)).add 1).add 3)=some (Value.slice y30_3.a y30_3.n y30_3.c)∧cl h5 (((q28.add ((x27:Int).toNat*9)).add 1).add 4)=some (Value.int .i64 y30_4)∧cl h5 (((q28.add ((x27:Int).toNat*9)).add 1).add 5)=some (Value.slice y30_5.a y30_5.n y30_5.c)∧cl h5 (((q28.add ((x27:Int).toNat*9)).add 1).add 6)=some (Value.int .i64 y30_6) ∧
    ldS h5 (p3.add 1) fun x32=>
    hlS Sq p17 fun x19=>
    hlI .i64 Sq p3 fun x21=>
    cal Try.prog 51 #[Value.agg #[Value.int .i64 y30,Value.int .u64 y30_1,Value.string y30_2,Value.slice y30_3.a y30_3.n y30_3.c,Value.int .i64 y30_4,Value.slice y30_5.a y30_5.n y30_5.c,Value.int .i64 y30_6],Value.slice x32.a x32.n x32.c,Value.agg #[Value.int .i64 0,Value.int .u64 0,Value.string (⟨#[]⟩:ByteArray),Value.slice (⟨none,0,0⟩:Sv).a (⟨none,0,0⟩:Sv).n (⟨none,0,0⟩:Sv).c,Value.int .i64 0,Value.slice (⟨none,0,0⟩:Sv).a (⟨none,0,0⟩:Sv).n (⟨none,0,0⟩:Sv).c,Value.int .i64 0]] h5 fun u_1 h6=>∃(y34:Int) (y34_1:Int) (y34_2:ByteArray) (y34_3:Sv) (y34_4:Int) (y34_5:Sv) (y34_6:Int),u_1=Value.agg #[Value.int .i64 y34,Value.int .u64 y34_1,Value.string y34_2,Value.slice y34_3.a y34_3.n y34_3.c,Value.int .i64 y34_4,Value.slice y34_5.a y34_5.n y34_5.c,Value.int .i64 y34_6] ∧
    Sq h6 ∧
    ixS x19 x21 fun q35=>
    stoA h6 ((q35.add ((x21:Int).toNat*9)).add 1) [Value.int .i64 y34,Value.int .u64 y34_1,Value.string y34_2,Value.slice y34_3.a y34_3.n y34_3.c,Value.int .i64 y34_4,Value.slice y34_5.a y34_5.n y34_5.c,Value.int .i64 y34_6] fun h7=>
    J h7)) (
   J h5))∧(∀h8,J h8 →
 ∃(y37:Int) (y37_1:Int) (y37_2:ByteArray) (y37_3:Sv) (y37_4:Int) (y37_5:Sv) (y37_6:Int),cl h8 p6=some (Value.int .i64 y37)∧cl h8 (p6.add 1)=some (Value.int .u64 y37_1)∧cl h8 (p6.add 2)=some (Value.string y37_2)∧cl h8 (p6.add 3)=some (Value.slice y37_3.a y37_3.n y37_3.c)∧cl h8 (p6.add 4)=some (Value.int .i64 y37_4)∧cl h8 (p6.add 5)=some (Value.slice y37_5.a y37_5.n y37_5.c)∧cl h8 (p6.add 6)=some (Value.int .i64 y37_6) ∧
 stoA h8 p4 [Value.int .i64 y37,Value.int .u64 y37_1,Value.string y37_2,Value.slice y37_3.a y37_3.n y37_3.c,Value.int .i64 y37_4,Value.slice y37_5.a y37_5.n y37_5.c,Value.int .i64 y37_6] fun h9=>
 ∃(y:Int) (y_1:Int) (y_2:ByteArray) (y_3:Sv) (y_4:Int) (y_5:Sv) (y_6:Int),cl h9 p4=some (Value.int .i64 y)∧cl h9 (p4.add 1)=some (Value.int .u64 y_1)∧cl h9 (p4.add 2)=some (Value.string y_2)∧cl h9 (p4.add 3)=some (Value.slice y_3.a y_3.n y_3.c)∧cl h9 (p4.add 4)=some (Value.int .i64 y_4)∧cl h9 (p4.add 5)=some (Value.slice y_5.a y_5.n y_5.c)∧cl h9 (p4.add 6)=some (Value.int .i64 y_6) ∧
 R (.tuple #[Value.agg #[Value.int .i64 y,Value.int .u64 y_1,Value.string y_2,Value.slice y_3.a y_3.n y_3.c,Value.int .i64 y_4,Value.slice y_5.a y_5.n y_5.c,Value.int .i64 y_6],Value.int .i64 x11]) h9)
set_option maxRecDepth 100000 in
theorem F34 {vh0 p1 p1_1 p1_2 h:_} {R:Value→Heap→Prop} (H:L34 vh0 p1 p1_1 p1_2 h R):CallsH Try.prog 34 #[Value.pointer vh0,Value.agg #[Value.int .i64 p1,Value.slice p1_1.a p1_1.n p1_1.c,Value.int .i64 p1_2]] h R:=by
 refine CallsH.enter (n:=39) Try.func34 rfl rfl rfl rfl ?_
 intro w0 aa ww S
 unfold L34 at H
 refine W.seq ?_
 refine W.region ?_
 refine ol_box S H rfl rfl rfl trivial ?_
 clear S H;intro p3 aa ww h1 H S
 refine ol_alloc S H ti33 rfl rfl trivial ?_
 clear S H;intro p4 aa ww h2 H S
 refine OL.za S fun _ S=>?_
 refine OL.nil ?_
 refine W.seq ?_
 refine W.region ?_
 refine OL.zm S fun _ S=>?_
 obtain⟨y10,y10_1,y10_2,c_29,c_30,c_31,H⟩:=H
 refine OL.zq S (Lf.run_ldA (cs:=[Value.int .i64 y10,Value.slice y10_1.a y10_1.n y10_1.c,Value.int .i64 y10_2]) (S.ev rfl) ag28 ti28 (by rw[S.heap];exact RowL.toRow ⟨c_29,c_30,c_31,trivial⟩)) fun _ S=>?_
 refine ol_cal S H isfn50 rfl rfl trivial ?_
 clear S H;intro u aa ww h3 H S
 obtain⟨y11,y11_1,y11_2,y11_3,y11_4,y11_5,y11_6,x11,rfl,H⟩:=H
 refine OL.zm S fun _ S=>?_
 refine OL.zq S (Lf.run_ex (S.ev rfl) rfl) fun _ S=>?_
 refine OL.zq S (Lf.run_ex (S.ev rfl) rfl) fun _ S=>?_
 refine ol_alloc S H ti33 rfl rfl trivial ?_
 clear S H;intro p6 aa ww h4 H S
 refine ol_stoA S H rfl rfl ti33 trivial ?_
 clear S H;intro aa ww h5 H S
 refine OL.za S fun _ S=>?_
 refine OL.nil ?_
 obtain⟨J,H,HK⟩:=H
 refine W.seqJ (fun aa ww=>∃h8,St 39 [(4,Value.pointer (some p4)),(6,Value.pointer (some p6)),(7,Value.int .i64 x11)] h8 w0 aa ww∧J h8) ?_ ?_
 ·
  clear HK
  refine W.seq ?_
  refine W.region ?_
  refine OL.zm S fun _ S=>?_
  refine OL.zq S (Lf.run_eql (S.ev rfl) (S.ev rfl)) fun _ S=>?_
  refine OL.nil ?_
  refine W.cond S (b:=(x11 == 0)) rfl (fun hb=>?_) (fun hb=>?_)
  ·
   replace H:=H.1 hb
   replace S:=S.sub [(0,Value.pointer vh0),(3,Value.pointer (some p3)),(4,Value.pointer (some p4)),(6,Value.pointer (some p6)),(7,Value.int .i64 x11)] ⟨rfl,rfl,rfl,rfl,rfl,trivial⟩
   obtain⟨Sq,HS,H⟩:=H
   refine W.regionN [3,5] [18,21] Sq S (by kernel_rfl) ?_
   clear S;intro ww S
   refine BN.pure 0 S (fun _=>HS) rfl (by kernel_rfl) (by kernel_rfl) (fun _=>Lf.run_move (S.ev rfl)) rfl rfl trivial fun _ S=>?_
   obtain⟨p17,e,H⟩:=H
   refine BN.pure 1 S (fun _=>HS) rfl (by kernel_rfl) (by kernel_rfl) (fun _=>Lf.run_nc' (S.ev rfl) e) rfl rfl trivial fun _ S=>?_
   refine BN.pure 2 S (fun _=>HS) rfl (by kernel_rfl) (by kernel_rfl) (fun _=>Lf.run_fa (S.ev rfl) fa56_0) rfl rfl trivial fun _ S=>?_
   refine BN.pure 4 S (fun _=>HS) rfl (by kernel_rfl) (by kernel_rfl) (fun _=>Lf.run_fa (S.ev rfl) fa28_0) rfl rfl trivial fun _ S=>?_
   refine BN.pure 6 S (fun _=>HS) rfl (by kernel_rfl) (by kernel_rfl) (fun _=>Lf.run_move (S.ev rfl)) rfl rfl trivial fun _ S=>?_
   obtain⟨p23,e_1,H⟩:=H
   refine BN.pure 7 S (fun _=>HS) rfl (by kernel_rfl) (by kernel_rfl) (fun _=>Lf.run_nc' (S.ev rfl) e_1) rfl rfl trivial fun _ S=>?_
   refine BN.pure 8 S (fun _=>HS) rfl (by kernel_rfl) (by kernel_rfl) (fun _=>Lf.run_fa (S.ev rfl) fa56_0) rfl rfl trivial fun _ S=>?_
   refine BN.pure 10 S (fun _=>HS) rfl (by kernel_rfl) (by kernel_rfl) (fun _=>Lf.run_fa (S.ev rfl) fa28_0) rfl rfl trivial fun _ S=>?_
   refine BN.pure 15 S (fun _=>HS) rfl (by kernel_rfl) (by kernel_rfl) (fun _=>Lf.run_fa (S.ev rfl) fa28_1) rfl rfl trivial fun _ S=>?_
   refine BN.pure 17 S (fun _=>HS) rfl (by kernel_rfl) (by kernel_rfl) (fun _=>Lf.run_build (cs:=#[Value.int .i64 0,Value.int .u64 0,Value.string (⟨#[]⟩:ByteArray),Value.slice (⟨none,0,0⟩:Sv).a (⟨none,0,0⟩:Sv).n (⟨none,0,0⟩:Sv).c,Value.int .i64 0,Value.slice (⟨none,0,0⟩:Sv).a (⟨none,0,0⟩:Sv).n (⟨none,0,0⟩:Sv).c,Value.int .i64 0]) pl33 ti33 (parts_map S rfl) (by kernel_rfl)) rfl rfl trivial fun _ S=>?_
   obtain⟨x25,c_1,H⟩:=H
   refine BN.load 9 S (fun _=>HS) rfl (by kernel_rfl) (by kernel_rfl) (fun _ hx=>Lf.run_ld (S.ev rfl) fl54 (hx.cell _ _ (S.cl c_1))) rfl rfl trivial fun _ S=>?_
   obtain⟨x27,c_2,H⟩:=H
   refine BN.load 11 S (fun _=>HS) rfl (by kernel_rfl) (by kernel_rfl) (fun _ hx=>Lf.run_ld (S.ev rfl) fl3 (hx.cell _ _ (S.cl c_2))) rfl rfl trivial fun _ S=>?_
   obtain⟨q28,e_2,e_3,e_4,H⟩:=H
   refine BN.pure 12 S (fun _=>HS) rfl (by kernel_rfl) (by kernel_rfl) (fun _=>Lf.run_ixs (S.ev rfl) (S.ev rfl) Try.underlying54 ti89 e_2 e_3 e_4) rfl rfl trivial fun _ S=>?_
   refine BN.pure 13 S (fun _=>HS) rfl (by kernel_rfl) (by kernel_rfl) (fun _=>Lf.run_fa (S.ev rfl) fa89_1) rfl rfl trivial fun _ S=>?_
   obtain⟨y30,y30_1,y30_2,y30_3,y30_4,y30_5,y30_6,c_7,c_8,c_9,c_10,c_11,c_12,c_13,H⟩:=H
   refine BN.load 14 S (fun _=>HS) rfl (by kernel_rfl) (by kernel_rfl) (fun _ hx=>Lf.run_ldA (cs:=[Value.int .i64 y30,Value.int .u64 y30_1,Value.string y30_2,Value.slice y30_3.a y30_3.n y30_3.c,Value.int .i64 y30_4,Value.slice y30_5.a y30_5.n y30_5.c,Value.int .i64 y30_6]) (S.ev rfl) ag33 ti33 (hx.row (S.row ⟨c_7,c_8,c_9,c_10,c_11,c_12,c_13,trivial⟩))) rfl rfl trivial fun _ S=>?_
   obtain⟨x32,c_4,H⟩:=H
   refine BN.load 16 S (fun _=>HS) rfl (by kernel_rfl) (by kernel_rfl) (fun _ hx=>Lf.run_ld (S.ev rfl) fl26 (hx.cell _ _ (S.cl c_4))) rfl rfl trivial fun _ S=>?_
   obtain⟨x19,c_5,H⟩:=H
   refine BN.held 3 S HS rfl (by kernel_rfl) (fun _ hq=>Lf.run_ld (S.ev rfl) fl54 (c_5 _ hq)) rfl rfl trivial fun _ S=>?_
   obtain⟨x21,c_6,H⟩:=H
   refine BN.held 5 S HS rfl (by kernel_rfl) (fun _ hq=>Lf.run_ld (S.ev rfl) fl3 (c_6 _ hq)) rfl rfl trivial fun _ S=>?_
   refine BN.eff 18 rfl (by kernel_rfl) ?_
   refine ol_cal S H isfn51 rfl rfl trivial ?_
   clear S H;intro u_1 aa ww h6 H S
   obtain⟨y34,y34_1,y34_2,y34_3,y34_4,y34_5,y34_6,rfl,H⟩:=H
   refine OL.nil ?_
   clear HS;obtain⟨HS,H⟩:=H
   refine⟨fun _=>by rw[S.heap];exact HS,?_⟩
   obtain⟨q35,e_5,e_6,e_7,H⟩:=H
   refine BN.pure 19 S (fun _=>HS) rfl (by kernel_rfl) (by kernel_rfl) (fun _=>Lf.run_ixs (S.ev rfl) (S.ev rfl) Try.underlying54 ti89 e_5 e_6 e_7) rfl rfl trivial fun _ S=>?_
   refine BN.pure 20 S (fun _=>HS) rfl (by kernel_rfl) (by kernel_rfl) (fun _=>Lf.run_fa (S.ev rfl) fa89_1) rfl rfl trivial fun _ S=>?_
   refine BN.eff 21 rfl (by kernel_rfl) ?_
   refine ol_stoA S H rfl rfl ti33 trivial ?_
   clear S H;intro aa ww h7 H S
   refine OL.nil ?_
   refine⟨noNeed (by kernel_rfl),?_⟩
   refine BN.done (by kernel_rfl) ?_
   exact⟨h7,S.sub _ ⟨rfl,rfl,rfl,trivial⟩,H⟩
  ·
   replace H:=H.2 hb
   refine W.skip ?_
   exact⟨h5,S.sub _ ⟨rfl,rfl,rfl,trivial⟩,H⟩
 ·
  clear H S
  rintro aa ww ⟨h8,S,HJ⟩
  have H:=HK _ HJ
  clear HK HJ
  refine W.seq ?_
  refine W.region ?_
  obtain⟨y37,y37_1,y37_2,y37_3,y37_4,y37_5,y37_6,c_22,c_23,c_24,c_25,c_26,c_27,c_28,H⟩:=H
  refine OL.zq S (Lf.run_ldA (cs:=[Value.int .i64 y37,Value.int .u64 y37_1,Value.string y37_2,Value.slice y37_3.a y37_3.n y37_3.c,Value.int .i64 y37_4,Value.slice y37_5.a y37_5.n y37_5.c,Value.int .i64 y37_6]) (S.ev rfl) ag33 ti33 (by rw[S.heap];exact RowL.toRow ⟨c_22,c_23,c_24,c_25,c_26,c_27,c_28,trivial⟩)) fun _ S=>?_
  refine OL.zm S fun _ S=>?_
  refine ol_stoA S H rfl rfl ti33 trivial ?_
  clear S H;intro aa ww h9 H S
  refine OL.za S fun _ S=>?_
  refine OL.nil ?_
  refine W.ret ?_
  obtain⟨y,y_1,y_2,y_3,y_4,y_5,y_6,c_15,c_16,c_17,c_18,c_19,c_20,c_21,H⟩:=H
  exact Ret.gen S rfl (RV.cellA (cs:=[Value.int .i64 y,Value.int .u64 y_1,Value.string y_2,Value.slice y_3.a y_3.n y_3.c,Value.int .i64 y_4,Value.slice y_5.a y_5.n y_5.c,Value.int .i64 y_6]) rfl ag33 ti33 ⟨c_15,c_16,c_17,c_18,c_19,c_20,c_21,trivial⟩ (RV.tmp rfl RV.nil)) rfl H
def L35 (vh0:Option Addr) (p1:Int) (p1_1:Sv) (p1_2:Int) (x2:Int) (x2_1:Int) (x2_2:ByteArray) (x2_3:Sv) (x2_4:Int) (x2_5:Sv) (x2_6:Int) (h:Heap) (R:Value→Heap→Prop):Prop:=
 new 28 #[Value.int .i64 p1,Value.slice p1_1.a p1_1.n p1_1.c,Value.int .i64 p1_2] h fun p4 h1=>
 new 33 #[Value.int .i64 x2,Value.int .u64 x2_1,Value.string x2_2,Value.slice x2_3.a x2_3.n x2_3.c,Value.int .i64 x2_4,Value.slice x2_5.a x2_5.n x2_5.c,Value.int .i64 x2_6] h1 fun p5 h2=>
 ∃(y11:Int) (y11_1:Sv) (y11_2:Int),cl h2 p4=some (Value.int .i64 y11)∧cl h2 (p4.add 1)=some (Value.slice y11_1.a y11_1.n y11_1.c)∧cl h2 (p4.add 2)=some (Value.int .i64 y11_2) ∧
 cal Try.prog 52 #[Value.pointer vh0,Value.agg #[Value.int .i64 y11,Value.slice y11_1.a y11_1.n y11_1.c,Value.int .i64 y11_2],Value.bool true] h2 fun u h3=>asI .i64 u fun x12=>
 ifb (x12 != 0) (
  R (Value.int .i64 x12) h3) (
  ∃J:Addr→Int→Heap→Prop,(
   ∃Sq:Heap→Prop,Sq h3∧(
    nn vh0 fun p18=>
    hlS Sq p18 fun x20=>
    hlI .i64 Sq p4 fun x22=>
    ixS x20 x22 fun q23=>
    ∃(y25:Int) (y25_1:Int) (y25_2:ByteArray) (y25_3:Sv) (y25_4:Int) (y25_5:Sv) (y25_6:Int),hld Sq ((q23.add ((x22:Int).toNat*9)).add 1) (Value.int .i64 y25)∧hld Sq (((q23.add ((x22:Int).toNat*9)).add 1).add 1) (Value.int .u64 y25_1)∧hld Sq (((q23.add ((x22:Int).toNat*9)).add 1).add 2) (Value.string y25_2)∧hld Sq (((q23.add ((x22:Int).toNat*9)).add 1).add 3) (Value.slice y25_3.a y25_3.n y25_3.c)∧hld Sq (((q23.add ((x22:Int).toNat*9)).add 1).add 4) (Value.int .i64 y25_4)∧hld Sq (((q23.add ((x22:Int).toNat*9)).add 1).add 5) (Value.slice y25_5.a y25_5.n y25_5.c)∧hld Sq (((q23.add ((x22:Int).toNat*9)).add 1).add 6) (Value.int .i64 y25_6) ∧
    hlS Sq (p4.add 1) fun x27=>
    (
     cal Try.prog 53 #[Value.agg #[Value.int .i64 y25,Value.int .u64 y25_1,Value.string y25_2,Value.slice y25_3.a y25_3.n y25_3.c,Value.int .i64 y25_4,Value.slice y25_5.a y25_5.n y25_5.c,Value.int .i64 y25_6],Value.slice x27.a x27.n x27.c] h3 fun u_1 h4=>∃(y28:Int) (y28_1:Int) (y28_2:ByteArray) (y28_3:Sv) (y28_4:Int) (y28_5:Sv) (y28_6:Int) (x28:Int),u_1=Value.tuple #[Value.agg #[Value.int .i64 y28,Value.int .u64 y28_1,Value.string y28_2,Value.slice y28_3.a y28_3.n y28_3.c,Value.int .i64 y28_4,Value.slice y28_5.a y28_5.n y28_5.c,Value.int .i64 y28_6],Value.int .i64 x28] ∧
     new 33 #[Value.int .i64 0,Value.int .u64 0,Value.string (⟨#[]⟩:ByteArray),Value.slice (⟨none,0,0⟩:Sv).a (⟨none,0,0⟩:Sv).n (⟨none,0,0⟩:Sv).c,Value.int .i64 0,Value.slice (⟨none,0,0⟩:Sv).a (⟨none,0,0⟩:Sv).n (⟨none,0,0⟩:Sv).c,Value.int .i64 0] h4 fun p8 h5=>
     stoA h5 p8 [Value.int .i64 y28,Value.int .u64 y28_1,Value.string y28_2,Value.slice y28_3.a y28_3.n y28_3.c,Value.int .i64 y28_4,Value.slice y28_5.a y28_5.n y28_5.c,Value.int .i64 y28_6] fun h6=>
     J p8 x28 h6)∧(
     new 33 #[Value.int .i64 0,Value.int .u64 0,Value.string (⟨#[]⟩:ByteArray),Value.slice (⟨none,0,0⟩:Sv).a (⟨none,0,0⟩:Sv).n (⟨none,0,0⟩:Sv).c,Value.int .i64 0,Value.slice (⟨none,0,0⟩:Sv).a (⟨none,0,0⟩:Sv).n (⟨none,0,0⟩:Sv).c,Value.int .i64 0] h3 fun p8_1 h7=>
     Sq h7 ∧
     cal Try.prog 53 #[Value.agg #[Value.int .i64 y25,Value.int .u64 y25_1,Value.string y25_2,Value.slice y25_3.a y25_3.n y25_3.c,Value.int .i64 y25_4,Value.slice y25_5.a y25_5.n y25_5.c,Value.int .i64 y25_6],Value.slice x27.a x27.n x27.c] h7 fun u_2 h8=>∃(y28_7:Int) (y28_8:Int) (y28_9:ByteArray) (y28_10:Sv) (y28_11:Int) (y28_12:Sv) (y28_13:Int) (x28_1:Int),u_2=Value.tuple #[Value.agg #[Value.int .i64 y28_7,Value.int .u64 y28_8,Value.string y28_9,Value.slice y28_10.a y28_10.n y28_10.c,Value.int .i64 y28_11,Value.slice y28_12.a y28_12.n y28_12.c,Value.int .i64 y28_13],Value.int .i64 x28_1] ∧
     stoA h8 p8_1 [Value.int .i64 y28_7,Value.int .u64 y28_8,Value.string y28_9,Value.slice y28_10.a y28_10.n y28_10.c,Value.int .i64 y28_11,Value.slice y28_12.a y28_12.n y28_12.c,Value.int .i64 y28_13] fun h9=>
     J p8_1 x28_1 h9)))∧(∀old8 f9 h10,J old8 f9 h10 →
  ifb (f9 != 0) (
   R (Value.int .i64 f9) h10) (
   ∃Sq_1:Heap→Prop,Sq_1 h10∧(
    nn vh0 fun p35=>
    nn vh0 fun p41=>
    ldS h10 p41 fun x43=>
    ldI .i64 h10 p4 fun x45=>
    ixS x43 x45 fun q46=>
    ∃(y48:Int) (y48_1:Int) (y48_2:ByteArray) (y48_3:Sv) (y48_4:Int) (y48_5:Sv) (y48_6:Int),cl h10 ((q46.add ((x45:Int).toNat*9)).add 1)=some (Value.int .i64 y48)∧cl h10 (((q46.add ((x45:Int).toNat*9)).add 1).add 1)=some (Value.int .u64 y48_1)∧cl h10 (((q46.add ((x45:Int).toNat*9)).add 1).add 2)=some (Value.string y48_2)∧cl h10 (((q46.add ((x45:Int).toNat*9)).add 1).add 3)=some (Value.slice y48_3.a y48_3.n y48_3.c)∧cl h10 (((q46.add ((x45:Int).toNat*9)).add 1).add 4)=some (Value.int .i64 y48_4)∧cl h10 (((q46.add ((x45:Int).toNat*9)).add 1).add 5)=some (Value.slice y48_5.a y48_5.n y48_5.c)∧cl h10 (((q46.add ((x45:Int).toNat*9)).add 1).add 6)=some (Value.int .i64 y48_6) ∧
    ldS h10 (p4.add 1) fun x50=>
    ∃(y51:Int) (y51_1:Int) (y51_2:ByteArray) (y51_3:Sv) (y51_4:Int) (y51_5:Sv) (y51_6:Int),cl h10 p5=some (Value.int .i64 y51)∧cl h10 (p5.add 1)=some (Value.int .u64 y51_1)∧cl h10 (p5.add 2)=some (Value.string y51_2)∧cl h10 (p5.add 3)=some (Value.slice y51_3.a y51_3.n y51_3.c)∧cl h10 (p5.add 4)=some (Value.int .i64 y51_4)∧cl h10 (p5.add 5)=some (Value.slice y51_5.a y51_5.n y51_5.c)∧cl h10 (p5.add 6)=some (Value.int .i64 y51_6) ∧
    hlS Sq_1 p35 fun x37=>
    hlI .i64 Sq_1 p4 fun x39=>
    cal Try.prog 51 #[Value.agg #[Value.int .i64 y48,Value.int .u64 y48_1,Value.string y48_2,Value.slice y48_3.a y48_3.n y48_3.c,Value.int .i64 y48_4,Value.slice y48_5.a y48_5.n y48_5.c,Value.int .i64 y48_6],Value.slice x50.a x50.n x50.c,Value.agg #[Value.int .i64 y51,Value.int .u64 y51_1,Value.string y51_2,Value.slice y51_3.a y51_3.n y51_3.c,Value.int .i64 y51_4,Value.slice y51_5.a y51_5.n y51_5.c,Value.int .i64 y51_6]] h10 fun u_3 h11=>∃(y52:Int) (y52_1:Int) (y52_2:ByteArray) (y52_3:Sv) (y52_4:Int) (y52_5:Sv) (y52_6:Int),u_3=Value.agg #[Value.int .i64 y52,Value.int .u64 y52_1,Value.string y52_2,Value.slice y52_3.a y52_3.n y52_3.c,Value.int .i64 y52_4,Value.slice y52_5.a y52_5.n y52_5.c,Value.int .i64 y52_6] ∧
    Sq_1 h11 ∧
    ixS x37 x39 fun q53=>
    stoA h11 ((q53.add ((x39:Int).toNat*9)).add 1) [Value.int .i64 y52,Value.int .u64 y52_1,Value.string y52_2,Value.slice y52_3.a y52_3.n y52_3.c,Value.int .i64 y52_4,Value.slice y52_5.a y52_5.n y52_5.c,Value.int .i64 y52_6] fun h12=>
    ∃(y56:Int) (y56_1:Int) (y56_2:ByteArray) (y56_3:Sv) (y56_4:Int) (y56_5:Sv) (y56_6:Int),cl h12 old8=some (Value.int .i64 y56)∧cl h12 (old8.add 1)=some (Value.int .u64 y56_1)∧cl h12 (old8.add 2)=some (Value.string y56_2)∧cl h12 (old8.add 3)=some (Value.slice y56_3.a y56_3.n y56_3.c)∧cl h12 (old8.add 4)=some (Value.int .i64 y56_4)∧cl h12 (old8.add 5)=some (Value.slice y56_5.a y56_5.n y56_5.c)∧cl h12 (old8.add 6)=some (Value.int .i64 y56_6) ∧
    cal Try.prog 54 #[Value.pointer vh0,Value.agg #[Value.int .i64 y56,Value.int .u64 y56_1,Value.string y56_2,Value.slice y56_3.a y56_3.n y56_3.c,Value.int .i64 y56_4,Value.slice y56_5.a y56_5.n y56_5.c,Value.int .i64 y56_6]] h12 fun u_4 h13=>asI .i64 u_4 fun x57=>
    R (Value.int .i64 x57) h13))))
set_option maxRecDepth 100000 in
theorem F35 {vh0 p1 p1_1 p1_2 x2 x2_1 x2_2 x2_3 x2_4 x2_5 x2_6 h:_} {R:Value→Heap→Prop} (H:L35 vh0 p1 p1_1 p1_2 x2 x2_1 x2_2 x2_3 x2_4 x2_5 x2_6 h R):CallsH Try.prog 35 #[Value.pointer vh0,Value.agg #[Value.int .i64 p1,Value.slice p1_1.a p1_1.n p1_1.c,Value.int .i64 p1_2],Value.agg #[Value.int .i64 x2,Value.int .u64 x2_1,Value.string x2_2,Value.slice x2_3.a x2_3.n x2_3.c,Value.int .i64 x2_4,Value.slice x2_5.a x2_5.n x2_5.c,Value.int .i64 x2_6]] h R:=by
 refine CallsH.enter (n:=58) Try.func35 rfl rfl rfl rfl ?_
 intro w0 aa ww S
 unfold L35 at H
 refine W.seq ?_
 refine W.region ?_
 refine ol_box S H rfl rfl rfl trivial ?_
 clear S H;intro p4 aa ww h1 H S
 refine ol_box S H rfl rfl rfl trivial ?_
 clear S H;intro p5 aa ww h2 H S
 refine OL.za S fun _ S=>?_
 refine OL.nil ?_
 refine W.seq ?_
 refine W.seq ?_
 refine W.region ?_
 refine OL.zm S fun _ S=>?_
 obtain⟨y11,y11_1,y11_2,c_41,c_42,c_43,H⟩:=H
 refine OL.zq S (Lf.run_ldA (cs:=[Value.int .i64 y11,Value.slice y11_1.a y11_1.n y11_1.c,Value.int .i64 y11_2]) (S.ev rfl) ag28 ti28 (by rw[S.heap];exact RowL.toRow ⟨c_41,c_42,c_43,trivial⟩)) fun _ S=>?_
 refine ol_cal S H isfn52 rfl rfl trivial ?_
 clear S H;intro u aa ww h3 H S
 obtain⟨x12,rfl,H⟩:=H
 refine OL.za S fun _ S=>?_
 refine OL.nil ?_
 refine W.seq ?_
 refine W.region ?_
 refine OL.zm S fun _ S=>?_
 refine OL.zq S (Lf.run_neq (S.ev rfl) (S.ev rfl)) fun _ S=>?_
 refine OL.nil ?_
 refine W.cond S (b:=(x12 != 0)) rfl (fun hb=>?_) (fun hb=>?_)
 ·
  replace H:=H.1 hb
  refine W.seq ?_
  refine W.region ?_
  refine OL.zm S fun _ S=>?_
  refine OL.za S fun _ S=>?_
  refine OL.nil ?_
  refine W.ret ?_
  exact Ret.one S rfl rfl H
 ·
  replace H:=H.2 hb
  refine W.skip ?_
  refine W.seq ?_
  replace S:=S.sub [(0,Value.pointer vh0),(4,Value.pointer (some p4)),(5,Value.pointer (some p5))] ⟨rfl,rfl,rfl,trivial⟩
  obtain⟨J,H,HK⟩:=H
  refine W.mono (N':=fun aa ww=>∃old8 f9 h10,St 58 [(0,Value.pointer vh0),(4,Value.pointer (some p4)),(5,Value.pointer (some p5)),(8,Value.pointer (some old8)),(9,Value.int .i64 f9)] h10 w0 aa ww∧J old8 f9 h10) ?_ ?_
  ·
   obtain⟨Sq,HS,H⟩:=H
   refine W.regionN [3,5,8,10] [11,15,16] Sq S (by kernel_rfl) ?_
   clear S;intro ww S
   refine BN.pure 0 S (fun _=>HS) rfl (by kernel_rfl) (by kernel_rfl) (fun _=>Lf.run_move (S.ev rfl)) rfl rfl trivial fun _ S=>?_
   obtain⟨p18,e,H⟩:=H
   refine BN.pure 1 S (fun _=>HS) rfl (by kernel_rfl) (by kernel_rfl) (fun _=>Lf.run_nc' (S.ev rfl) e) rfl rfl trivial fun _ S=>?_
   refine BN.pure 2 S (fun _=>HS) rfl (by kernel_rfl) (by kernel_rfl) (fun _=>Lf.run_fa (S.ev rfl) fa56_0) rfl rfl trivial fun _ S=>?_
   refine BN.pure 4 S (fun _=>HS) rfl (by kernel_rfl) (by kernel_rfl) (fun _=>Lf.run_fa (S.ev rfl) fa28_0) rfl rfl trivial fun _ S=>?_
   refine BN.pure 9 S (fun _=>HS) rfl (by kernel_rfl) (by kernel_rfl) (fun _=>Lf.run_fa (S.ev rfl) fa28_1) rfl rfl trivial fun _ S=>?_
   obtain⟨x20,c_1,H⟩:=H
   refine BN.held 3 S HS rfl (by kernel_rfl) (fun _ hq=>Lf.run_ld (S.ev rfl) fl54 (c_1 _ hq)) rfl rfl trivial fun _ S=>?_
   obtain⟨x22,c_2,H⟩:=H
   refine BN.held 5 S HS rfl (by kernel_rfl) (fun _ hq=>Lf.run_ld (S.ev rfl) fl3 (c_2 _ hq)) rfl rfl trivial fun _ S=>?_
   obtain⟨q23,e_1,e_2,e_3,H⟩:=H
   refine BN.pure 6 S (fun _=>HS) rfl (by kernel_rfl) (by kernel_rfl) (fun _=>Lf.run_ixs (S.ev rfl) (S.ev rfl) Try.underlying54 ti89 e_1 e_2 e_3) rfl rfl trivial fun _ S=>?_
   refine BN.pure 7 S (fun _=>HS) rfl (by kernel_rfl) (by kernel_rfl) (fun _=>Lf.run_fa (S.ev rfl) fa89_1) rfl rfl trivial fun _ S=>?_
   obtain⟨y25,y25_1,y25_2,y25_3,y25_4,y25_5,y25_6,c_5,c_6,c_7,c_8,c_9,c_10,c_11,H⟩:=H
   refine BN.held 8 S HS rfl (by kernel_rfl) (fun _ hq=>Lf.run_ldA (cs:=[Value.int .i64 y25,Value.int .u64 y25_1,Value.string y25_2,Value.slice y25_3.a y25_3.n y25_3.c,Value.int .i64 y25_4,Value.slice y25_5.a y25_5.n y25_5.c,Value.int .i64 y25_6]) (S.ev rfl) ag33 ti33 (hlRow hq fun h_ hs_=>⟨c_5 h_ hs_,c_6 h_ hs_,c_7 h_ hs_,c_8 h_ hs_,c_9 h_ hs_,c_10 h_ hs_,c_11 h_ hs_,trivial⟩)) rfl rfl trivial fun _ S=>?_
   obtain⟨x27,c_4,H⟩:=H
   refine BN.held 10 S HS rfl (by kernel_rfl) (fun _ hq=>Lf.run_ld (S.ev rfl) fl26 (c_4 _ hq)) rfl rfl trivial fun _ S=>?_
   refine BN.effs [11,15] (by kernel_rfl) rfl ⟨⟨_,rfl,?_⟩,⟨_,rfl,?_⟩,trivial⟩
   ·
    replace H:=H.1
    refine ol_cal S H isfn53 rfl rfl trivial ?_
    clear S H;intro u_1 aa ww h4 H S
    obtain⟨y28,y28_1,y28_2,y28_3,y28_4,y28_5,y28_6,x28,rfl,H⟩:=H
    refine OL.nil ?_
    refine⟨noNeed (by kernel_rfl),?_⟩
    refine BN.pure 12 S (noNeed (by kernel_rfl)) rfl (by kernel_rfl) (by kernel_rfl) (fun _=>Lf.run_move (S.ev rfl)) rfl rfl trivial fun _ S=>?_
    refine BN.pure 13 S (noNeed (by kernel_rfl)) rfl (by kernel_rfl) (by kernel_rfl) (fun _=>Lf.run_ex (S.ev rfl) rfl) rfl rfl trivial fun _ S=>?_
    refine BN.pure 14 S (noNeed (by kernel_rfl)) rfl (by kernel_rfl) (by kernel_rfl) (fun _=>Lf.run_ex (S.ev rfl) rfl) rfl rfl trivial fun _ S=>?_
    refine BN.eff 15 rfl (by kernel_rfl) ?_
    refine ol_alloc S H ti33 rfl rfl trivial ?_
    clear S H;intro p8 aa ww h5 H S
    refine OL.nil ?_
    refine⟨noNeed (by kernel_rfl),?_⟩
    refine BN.eff 16 rfl (by kernel_rfl) ?_
    refine ol_stoA S H rfl rfl ti33 trivial ?_
    clear S H;intro aa ww h6 H S
    refine OL.nil ?_
    refine⟨noNeed (by kernel_rfl),?_⟩
    refine BN.pure 17 S (noNeed (by kernel_rfl)) rfl (by kernel_rfl) (by kernel_rfl) (fun _=>Lf.run_assign (S.ev rfl)) rfl rfl trivial fun _ S=>?_
    refine BN.done (by kernel_rfl) ?_
    exact⟨p8,x28,h6,S.sub _ ⟨rfl,rfl,rfl,rfl,rfl,trivial⟩,H⟩
   ·
    replace H:=H.2
    refine ol_alloc S H ti33 rfl rfl trivial ?_
    clear S H;intro p8_1 aa ww h7 H S
    refine OL.nil ?_
    clear HS;obtain⟨HS,H⟩:=H
    refine⟨fun _=>by rw[S.heap];exact HS,?_⟩
    refine BN.eff 11 rfl (by kernel_rfl) ?_
    refine ol_cal S H isfn53 rfl rfl trivial ?_
    clear S H;intro u_2 aa ww h8 H S
    obtain⟨y28_7,y28_8,y28_9,y28_10,y28_11,y28_12,y28_13,x28_1,rfl,H⟩:=H
    refine OL.nil ?_
    refine⟨noNeed (by kernel_rfl),?_⟩
    refine BN.pure 12 S (noNeed (by kernel_rfl)) rfl (by kernel_rfl) (by kernel_rfl) (fun _=>Lf.run_move (S.ev rfl)) rfl rfl trivial fun _ S=>?_
    refine BN.pure 13 S (noNeed (by kernel_rfl)) rfl (by kernel_rfl) (by kernel_rfl) (fun _=>Lf.run_ex (S.ev rfl) rfl) rfl rfl trivial fun _ S=>?_
    refine BN.pure 14 S (noNeed (by kernel_rfl)) rfl (by kernel_rfl) (by kernel_rfl) (fun _=>Lf.run_ex (S.ev rfl) rfl) rfl rfl trivial fun _ S=>?_
    refine BN.eff 16 rfl (by kernel_rfl) ?_
    refine ol_stoA S H rfl rfl ti33 trivial ?_
    clear S H;intro aa ww h9 H S
    refine OL.nil ?_
    refine⟨noNeed (by kernel_rfl),?_⟩
    refine BN.pure 17 S (noNeed (by kernel_rfl)) rfl (by kernel_rfl) (by kernel_rfl) (fun _=>Lf.run_assign (S.ev rfl)) rfl rfl trivial fun _ S=>?_
    refine BN.done (by kernel_rfl) ?_
    exact⟨p8_1,x28_1,h9,S.sub _ ⟨rfl,rfl,rfl,rfl,rfl,trivial⟩,H⟩
  ·
   clear H S
   rintro aa ww ⟨old8,f9,h10,S,HJ⟩
   have H:=HK _ _ _ HJ
   clear HK HJ
   refine W.seq ?_
   refine W.seq ?_
   refine W.region ?_
   refine OL.zm S fun _ S=>?_
   refine OL.zq S (Lf.run_neq (S.ev rfl) (S.ev rfl)) fun _ S=>?_
   refine OL.nil ?_
   refine W.cond S (b:=(f9 != 0)) rfl (fun hb_1=>?_) (fun hb_1=>?_)
   ·
    replace H:=H.1 hb_1
    refine W.seq ?_
    refine W.region ?_
    refine OL.zm S fun _ S=>?_
    refine OL.za S fun _ S=>?_
    refine OL.nil ?_
    refine W.ret ?_
    exact Ret.one S rfl rfl H
   ·
    replace H:=H.2 hb_1
    refine W.skip ?_
    refine W.seq ?_
    replace S:=S.sub [(0,Value.pointer vh0),(4,Value.pointer (some p4)),(5,Value.pointer (some p5)),(8,Value.pointer (some old8))] ⟨rfl,rfl,rfl,rfl,trivial⟩
    obtain⟨Sq_1,HS_1,H⟩:=H
    refine W.regionN [3,5] [18,21] Sq_1 S (by kernel_rfl) ?_
    clear S;intro ww S
    refine BN.pure 0 S (fun _=>HS_1) rfl (by kernel_rfl) (by kernel_rfl) (fun _=>Lf.run_move (S.ev rfl)) rfl rfl trivial fun _ S=>?_
    obtain⟨p35,e_4,H⟩:=H
    refine BN.pure 1 S (fun _=>HS_1) rfl (by kernel_rfl) (by kernel_rfl) (fun _=>Lf.run_nc' (S.ev rfl) e_4) rfl rfl trivial fun _ S=>?_
    refine BN.pure 2 S (fun _=>HS_1) rfl (by kernel_rfl) (by kernel_rfl) (fun _=>Lf.run_fa (S.ev rfl) fa56_0) rfl rfl trivial fun _ S=>?_
    refine BN.pure 4 S (fun _=>HS_1) rfl (by kernel_rfl) (by kernel_rfl) (fun _=>Lf.run_fa (S.ev rfl) fa28_0) rfl rfl trivial fun _ S=>?_
    refine BN.pure 6 S (fun _=>HS_1) rfl (by kernel_rfl) (by kernel_rfl) (fun _=>Lf.run_move (S.ev rfl)) rfl rfl trivial fun _ S=>?_
    obtain⟨p41,e_5,H⟩:=H
    refine BN.pure 7 S (fun _=>HS_1) rfl (by kernel_rfl) (by kernel_rfl) (fun _=>Lf.run_nc' (S.ev rfl) e_5) rfl rfl trivial fun _ S=>?_
    refine BN.pure 8 S (fun _=>HS_1) rfl (by kernel_rfl) (by kernel_rfl) (fun _=>Lf.run_fa (S.ev rfl) fa56_0) rfl rfl trivial fun _ S=>?_
    obtain⟨x43,c_12,H⟩:=H
    refine BN.load 9 S (fun _=>HS_1) rfl (by kernel_rfl) (by kernel_rfl) (fun _ hx=>Lf.run_ld (S.ev rfl) fl54 (hx.cell _ _ (S.cl c_12))) rfl rfl trivial fun _ S=>?_
    refine BN.pure 10 S (fun _=>HS_1) rfl (by kernel_rfl) (by kernel_rfl) (fun _=>Lf.run_fa (S.ev rfl) fa28_0) rfl rfl trivial fun _ S=>?_
    obtain⟨x45,c_13,H⟩:=H
    refine BN.load 11 S (fun _=>HS_1) rfl (by kernel_rfl) (by kernel_rfl) (fun _ hx=>Lf.run_ld (S.ev rfl) fl3 (hx.cell _ _ (S.cl c_13))) rfl rfl trivial fun _ S=>?_
    obtain⟨q46,e_6,e_7,e_8,H⟩:=H
    refine BN.pure 12 S (fun _=>HS_1) rfl (by kernel_rfl) (by kernel_rfl) (fun _=>Lf.run_ixs (S.ev rfl) (S.ev rfl) Try.underlying54 ti89 e_6 e_7 e_8) rfl rfl trivial fun _ S=>?_
    refine BN.pure 13 S (fun _=>HS_1) rfl (by kernel_rfl) (by kernel_rfl) (fun _=>Lf.run_fa (S.ev rfl) fa89_1) rfl rfl trivial fun _ S=>?_
    obtain⟨y48,y48_1,y48_2,y48_3,y48_4,y48_5,y48_6,c_34,c_35,c_36,c_37,c_38,c_39,c_40,H⟩:=H
    refine BN.load 14 S (fun _=>HS_1) rfl (by kernel_rfl) (by kernel_rfl) (fun _ hx=>Lf.run_ldA (cs:=[Value.int .i64 y48,Value.int .u64 y48_1,Value.string y48_2,Value.slice y48_3.a y48_3.n y48_3.c,Value.int .i64 y48_4,Value.slice y48_5.a y48_5.n y48_5.c,Value.int .i64 y48_6]) (S.ev rfl) ag33 ti33 (hx.row (S.row ⟨c_34,c_35,c_36,c_37,c_38,c_39,c_40,trivial⟩))) rfl rfl trivial fun _ S=>?_
    refine BN.pure 15 S (fun _=>HS_1) rfl (by kernel_rfl) (by kernel_rfl) (fun _=>Lf.run_fa (S.ev rfl) fa28_1) rfl rfl trivial fun _ S=>?_
    obtain⟨x50,c_15,H⟩:=H
    refine BN.load 16 S (fun _=>HS_1) rfl (by kernel_rfl) (by kernel_rfl) (fun _ hx=>Lf.run_ld (S.ev rfl) fl26 (hx.cell _ _ (S.cl c_15))) rfl rfl trivial fun _ S=>?_
    obtain⟨y51,y51_1,y51_2,y51_3,y51_4,y51_5,y51_6,c_27,c_28,c_29,c_30,c_31,c_32,c_33,H⟩:=H
    refine BN.load 17 S (fun _=>HS_1) rfl (by kernel_rfl) (by kernel_rfl) (fun _ hx=>Lf.run_ldA (cs:=[Value.int .i64 y51,Value.int .u64 y51_1,Value.string y51_2,Value.slice y51_3.a y51_3.n y51_3.c,Value.int .i64 y51_4,Value.slice y51_5.a y51_5.n y51_5.c,Value.int .i64 y51_6]) (S.ev rfl) ag33 ti33 (hx.row (S.row ⟨c_27,c_28,c_29,c_30,c_31,c_32,c_33,trivial⟩))) rfl rfl trivial fun _ S=>?_
    obtain⟨x37,c_17,H⟩:=H
    refine BN.held 3 S HS_1 rfl (by kernel_rfl) (fun _ hq=>Lf.run_ld (S.ev rfl) fl54 (c_17 _ hq)) rfl rfl trivial fun _ S=>?_
    obtain⟨x39,c_18,H⟩:=H
    refine BN.held 5 S HS_1 rfl (by kernel_rfl) (fun _ hq=>Lf.run_ld (S.ev rfl) fl3 (c_18 _ hq)) rfl rfl trivial fun _ S=>?_
    refine BN.eff 18 rfl (by kernel_rfl) ?_
    refine ol_cal S H isfn51 rfl rfl trivial ?_
    clear S H;intro u_3 aa ww h11 H S
    obtain⟨y52,y52_1,y52_2,y52_3,y52_4,y52_5,y52_6,rfl,H⟩:=H
    refine OL.nil ?_
    clear HS_1;obtain⟨HS_1,H⟩:=H
    refine⟨fun _=>by rw[S.heap];exact HS_1,?_⟩
    obtain⟨q53,e_9,e_10,e_11,H⟩:=H
    refine BN.pure 19 S (fun _=>HS_1) rfl (by kernel_rfl) (by kernel_rfl) (fun _=>Lf.run_ixs (S.ev rfl) (S.ev rfl) Try.underlying54 ti89 e_9 e_10 e_11) rfl rfl trivial fun _ S=>?_
    refine BN.pure 20 S (fun _=>HS_1) rfl (by kernel_rfl) (by kernel_rfl) (fun _=>Lf.run_fa (S.ev rfl) fa89_1) rfl rfl trivial fun _ S=>?_
    refine BN.eff 21 rfl (by kernel_rfl) ?_
    refine ol_stoA S H rfl rfl ti33 trivial ?_
    clear S H;intro aa ww h12 H S
    refine OL.nil ?_
    refine⟨noNeed (by kernel_rfl),?_⟩
    refine BN.done (by kernel_rfl) ?_
    refine W.seq ?_
    refine W.region ?_
    refine OL.zm S fun _ S=>?_
    obtain⟨y56,y56_1,y56_2,y56_3,y56_4,y56_5,y56_6,c_20,c_21,c_22,c_23,c_24,c_25,c_26,H⟩:=H
    refine OL.zq S (Lf.run_ldA (cs:=[Value.int .i64 y56,Value.int .u64 y56_1,Value.string y56_2,Value.slice y56_3.a y56_3.n y56_3.c,Value.int .i64 y56_4,Value.slice y56_5.a y56_5.n y56_5.c,Value.int .i64 y56_6]) (S.ev rfl) ag33 ti33 (by rw[S.heap];exact RowL.toRow ⟨c_20,c_21,c_22,c_23,c_24,c_25,c_26,trivial⟩)) fun _ S=>?_
    refine ol_cal S H isfn54 rfl rfl trivial ?_
    clear S H;intro u_4 aa ww h13 H S
    obtain⟨x57,rfl,H⟩:=H
    refine OL.za S fun _ S=>?_
    refine OL.nil ?_
    refine W.ret ?_
    exact Ret.one S rfl rfl H
def L36 (o0:Int) (o0_1:Int) (o0_2:Int) (o0_3:Sv) (o0_4:Int) (o0_5:Int) (o0_6:ByteArray) (o0_7:Sv) (o0_8:Int) (o0_9:Sv) (o0_10:Int) (o0_11:Int) (p1:Int) (p1_1:Sv) (p1_2:Int) (h:Heap) (R:Value→Heap→Prop):Prop:=
 new 61 #[Value.int .i64 o0,Value.int .i64 o0_1,Value.int .i64 o0_2,Value.slice o0_3.a o0_3.n o0_3.c,Value.int .i64 o0_4,Value.int .u64 o0_5,Value.string o0_6,Value.slice o0_7.a o0_7.n o0_7.c,Value.int .i64 o0_8,Value.slice o0_9.a o0_9.n o0_9.c,Value.int .i64 o0_10,Value.int .i64 o0_11] h fun p2 h1=>
 new 28 #[Value.int .i64 p1,Value.slice p1_1.a p1_1.n p1_1.c,Value.int .i64 p1_2] h1 fun p3 h2=>
 new 33 #[Value.int .i64 0,Value.int .u64 0,Value.string (⟨#[]⟩:ByteArray),Value.slice (⟨none,0,0⟩:Sv).a (⟨none,0,0⟩:Sv).n (⟨none,0,0⟩:Sv).c,Value.int .i64 0,Value.slice (⟨none,0,0⟩:Sv).a (⟨none,0,0⟩:Sv).n (⟨none,0,0⟩:Sv).c,Value.int .i64 0] h2 fun p4 h3=>
 ldI .i64 h3 (p2.add 11) fun x6=>
 ifb (x6 == 1) (
  ldI .i64 h3 p3 fun x10=>
  stoA h3 p4 [Value.int .i64 6,Value.int .u64 0,Value.string (⟨#[]⟩:ByteArray),Value.slice (⟨none,0,0⟩:Sv).a (⟨none,0,0⟩:Sv).n (⟨none,0,0⟩:Sv).c,Value.int .i64 x10,Value.slice (⟨none,0,0⟩:Sv).a (⟨none,0,0⟩:Sv).n (⟨none,0,0⟩:Sv).c,Value.int .i64 0] fun h4=>
  ∃(y:Int) (y_1:Int) (y_2:ByteArray) (y_3:Sv) (y_4:Int) (y_5:Sv) (y_6:Int),cl h4 p4=some (Value.int .i64 y)∧cl h4 (p4.add 1)=some (Value.int .u64 y_1)∧cl h4 (p4.add 2)=some (Value.string y_2)∧cl h4 (p4.add 3)=some (Value.slice y_3.a y_3.n y_3.c)∧cl h4 (p4.add 4)=some (Value.int .i64 y_4)∧cl h4 (p4.add 5)=some (Value.slice y_5.a y_5.n y_5.c)∧cl h4 (p4.add 6)=some (Value.int .i64 y_6) ∧
  R (Value.agg #[Value.int .i64 y,Value.int .u64 y_1,Value.string y_2,Value.slice y_3.a y_3.n y_3.c,Value.int .i64 y_4,Value.slice y_5.a y_5.n y_5.c,Value.int .i64 y_6]) h4) (
  ifb (x6 == 2) (
   ∃(y15:Int) (y15_1:Sv) (y15_2:Int),cl h3 p3=some (Value.int .i64 y15)∧cl h3 (p3.add 1)=some (Value.slice y15_1.a y15_1.n y15_1.c)∧cl h3 (p3.add 2)=some (Value.int .i64 y15_2) ∧
   stoA h3 p4 [Value.int .i64 7,Value.int .u64 0,Value.string (⟨#[]⟩:ByteArray),Value.slice (⟨none,0,0⟩:Sv).a (⟨none,0,0⟩:Sv).n (⟨none,0,0⟩:Sv).c,Value.int .i64 y15,Value.slice y15_1.a y15_1.n y15_1.c,Value.int .i64 y15_2] fun h5=>
   ∃(y_7:Int) (y_8:Int) (y_9:ByteArray) (y_10:Sv) (y_11:Int) (y_12:Sv) (y_13:Int),cl h5 p4=some (Value.int .i64 y_7)∧cl h5 (p4.add 1)=some (Value.int .u64 y_8)∧cl h5 (p4.add 2)=some (Value.string y_9)∧cl h5 (p4.add 3)=some (Value.slice y_10.a y_10.n y_10.c)∧cl h5 (p4.add 4)=some (Value.int .i64 y_11)∧cl h5 (p4.add 5)=some (Value.slice y_12.a y_12.n y_12.c)∧cl h5 (p4.add 6)=some (Value.int .i64 y_13) ∧
   R (Value.agg #[Value.int .i64 y_7,Value.int .u64 y_8,Value.string y_9,Value.slice y_10.a y_10.n y_10.c,Value.int .i64 y_11,Value.slice y_12.a y_12.n y_12.c,Value.int .i64 y_13]) h5) (
   ∃(y18:Int) (y18_1:Int) (y18_2:ByteArray) (y18_3:Sv) (y18_4:Int) (y18_5:Sv) (y18_6:Int),cl h3 (p2.add 4)=some (Value.int .i64 y18)∧cl h3 ((p2.add 4).add 1)=some (Value.int .u64 y18_1)∧cl h3 ((p2.add 4).add 2)=some (Value.string y18_2)∧cl h3 ((p2.add 4).add 3)=some (Value.slice y18_3.a y18_3.n y18_3.c)∧cl h3 ((p2.add 4).add 4)=some (Value.int .i64 y18_4)∧cl h3 ((p2.add 4).add 5)=some (Value.slice y18_5.a y18_5.n y18_5.c)∧cl h3 ((p2.add 4).add 6)=some (Value.int .i64 y18_6) ∧
   stoA h3 p4 [Value.int .i64 y18,Value.int .u64 y18_1,Value.string y18_2,Value.slice y18_3.a y18_3.n y18_3.c,Value.int .i64 y18_4,Value.slice y18_5.a y18_5.n y18_5.c,Value.int .i64 y18_6] fun h6=>
   ∃(y_14:Int) (y_15:Int) (y_16:ByteArray) (y_17:Sv) (y_18:Int) (y_19:Sv) (y_20:Int),cl h6 p4=some (Value.int .i64 y_14)∧cl h6 (p4.add 1)=some (Value.int .u64 y_15)∧cl h6 (p4.add 2)=some (Value.string y_16)∧cl h6 (p4.add 3)=some (Value.slice y_17.a y_17.n y_17.c)∧cl h6 (p4.add 4)=some (Value.int .i64 y_18)∧cl h6 (p4.add 5)=some (Value.slice y_19.a y_19.n y_19.c)∧cl h6 (p4.add 6)=some (Value.int .i64 y_20) ∧
   R (Value.agg #[Value.int .i64 y_14,Value.int .u64 y_15,Value.string y_16,Value.slice y_17.a y_17.n y_17.c,Value.int .i64 y_18,Value.slice y_19.a y_19.n y_19.c,Value.int .i64 y_20]) h6))
set_option maxRecDepth 100000 in
theorem F36 {o0 o0_1 o0_2 o0_3 o0_4 o0_5 o0_6 o0_7 o0_8 o0_9 o0_10 o0_11 p1 p1_1 p1_2 h:_} {R:Value→Heap→Prop} (H:L36 o0 o0_1 o0_2 o0_3 o0_4 o0_5 o0_6 o0_7 o0_8 o0_9 o0_10 o0_11 p1 p1_1 p1_2 h R):CallsH Try.prog 36 #[Value.agg #[Value.int .i64 o0,Value.int .i64 o0_1,Value.int .i64 o0_2,Value.slice o0_3.a o0_3.n o0_3.c,Value.int .i64 o0_4,Value.int .u64 o0_5,Value.string o0_6,Value.slice o0_7.a o0_7.n o0_7.c,Value.int .i64 o0_8,Value.slice o0_9.a o0_9.n o0_9.c,Value.int .i64 o0_10,Value.int .i64 o0_11],Value.agg #[Value.int .i64 p1,Value.slice p1_1.a p1_1.n p1_1.c,Value.int .i64 p1_2]] h R:=by
 refine CallsH.enter (n:=19) Try.func36 rfl rfl rfl rfl ?_
 intro w0 aa ww S
 unfold L36 at H
 refine W.seq ?_
 refine W.region ?_
 refine ol_box S H rfl rfl rfl trivial ?_
 clear S H;intro p2 aa ww h1 H S
 refine ol_box S H rfl rfl rfl trivial ?_
 clear S H;intro p3 aa ww h2 H S
 refine ol_alloc S H ti33 rfl rfl trivial ?_
 clear S H;intro p4 aa ww h3 H S
 refine OL.nil ?_
 refine W.seq ?_
 refine W.seq ?_
 refine W.region ?_
 refine OL.zf S fa61_5 fun _ S=>?_
 obtain⟨x6,c,H⟩:=H
 refine OL.zl S fl3 c fun _ S=>?_
 refine OL.nil ?_
 refine W.block ?_
 refine W.seq ?_
 refine W.region ?_
 refine OL.zq S (Lf.run_eql (S.ev rfl) (S.ev rfl)) fun _ S=>?_
 refine OL.za S fun _ S=>?_
 refine OL.nil ?_
 refine W.cond S (b:=(x6 == 1)) rfl (fun hb=>?_) (fun hb=>?_)
 ·
  replace H:=H.1 hb
  refine W.seq ?_
  refine W.region ?_
  refine OL.zf S fa28_0 fun _ S=>?_
  obtain⟨x10,c_1,H⟩:=H
  refine OL.zl S fl3 c_1 fun _ S=>?_
  refine OL.zq S (Lf.run_build (cs:=#[Value.int .i64 x10,Value.slice (⟨none,0,0⟩:Sv).a (⟨none,0,0⟩:Sv).n (⟨none,0,0⟩:Sv).c,Value.int .i64 0]) pl28 ti28 (parts_map S rfl) (by kernel_rfl)) fun _ S=>?_
  refine OL.zq S (Lf.run_build (cs:=#[Value.int .i64 6,Value.int .u64 0,Value.string (⟨#[]⟩:ByteArray),Value.slice (⟨none,0,0⟩:Sv).a (⟨none,0,0⟩:Sv).n (⟨none,0,0⟩:Sv).c,Value.int .i64 x10,Value.slice (⟨none,0,0⟩:Sv).a (⟨none,0,0⟩:Sv).n (⟨none,0,0⟩:Sv).c,Value.int .i64 0]) pl33 ti33 (parts_map S rfl) (by kernel_rfl)) fun _ S=>?_
  refine ol_stoA S H rfl rfl ti33 trivial ?_
  clear S H;intro aa ww h4 H S
  refine OL.nil ?_
  refine W.ret ?_
  obtain⟨y,y_1,y_2,y_3,y_4,y_5,y_6,c_2,c_3,c_4,c_5,c_6,c_7,c_8,H⟩:=H
  exact Ret.gen S rfl (RV.cellA (cs:=[Value.int .i64 y,Value.int .u64 y_1,Value.string y_2,Value.slice y_3.a y_3.n y_3.c,Value.int .i64 y_4,Value.slice y_5.a y_5.n y_5.c,Value.int .i64 y_6]) rfl ag33 ti33 ⟨c_2,c_3,c_4,c_5,c_6,c_7,c_8,trivial⟩ RV.nil) rfl H
 ·
  replace H:=H.2 hb
  refine W.seq ?_
  refine W.region ?_
  refine OL.zq S (Lf.run_eql (S.ev rfl) (S.ev rfl)) fun _ S=>?_
  refine OL.za S fun _ S=>?_
  refine OL.nil ?_
  refine W.cond S (b:=(x6 == 2)) rfl (fun hb_1=>?_) (fun hb_1=>?_)
  ·
   replace H:=H.1 hb_1
   refine W.seq ?_
   refine W.region ?_
   obtain⟨y15,y15_1,y15_2,c_17,c_18,c_19,H⟩:=H
   refine OL.zq S (Lf.run_ldA (cs:=[Value.int .i64 y15,Value.slice y15_1.a y15_1.n y15_1.c,Value.int .i64 y15_2]) (S.ev rfl) ag28 ti28 (by rw[S.heap];exact RowL.toRow ⟨c_17,c_18,c_19,trivial⟩)) fun _ S=>?_
   refine OL.zq S (Lf.run_build (cs:=#[Value.int .i64 7,Value.int .u64 0,Value.string (⟨#[]⟩:ByteArray),Value.slice (⟨none,0,0⟩:Sv).a (⟨none,0,0⟩:Sv).n (⟨none,0,0⟩:Sv).c,Value.int .i64 y15,Value.slice y15_1.a y15_1.n y15_1.c,Value.int .i64 y15_2]) pl33 ti33 (parts_map S rfl) (by kernel_rfl)) fun _ S=>?_
   refine ol_stoA S H rfl rfl ti33 trivial ?_
   clear S H;intro aa ww h5 H S
   refine OL.nil ?_
   refine W.ret ?_
   obtain⟨y_7,y_8,y_9,y_10,y_11,y_12,y_13,c_10,c_11,c_12,c_13,c_14,c_15,c_16,H⟩:=H
   exact Ret.gen S rfl (RV.cellA (cs:=[Value.int .i64 y_7,Value.int .u64 y_8,Value.string y_9,Value.slice y_10.a y_10.n y_10.c,Value.int .i64 y_11,Value.slice y_12.a y_12.n y_12.c,Value.int .i64 y_13]) rfl ag33 ti33 ⟨c_10,c_11,c_12,c_13,c_14,c_15,c_16,trivial⟩ RV.nil) rfl H
  ·
   replace H:=H.2 hb_1
   refine W.skip ?_
   refine W.seq ?_
   refine W.region ?_
   refine OL.zf S fa61_4 fun _ S=>?_
   obtain⟨y18,y18_1,y18_2,y18_3,y18_4,y18_5,y18_6,c_28,c_29,c_30,c_31,c_32,c_33,c_34,H⟩:=H
   refine OL.zq S (Lf.run_ldA (cs:=[Value.int .i64 y18,Value.int .u64 y18_1,Value.string y18_2,Value.slice y18_3.a y18_3.n y18_3.c,Value.int .i64 y18_4,Value.slice y18_5.a y18_5.n y18_5.c,Value.int .i64 y18_6]) (S.ev rfl) ag33 ti33 (by rw[S.heap];exact RowL.toRow ⟨c_28,c_29,c_30,c_31,c_32,c_33,c_34,trivial⟩)) fun _ S=>?_
   refine ol_stoA S H rfl rfl ti33 trivial ?_
   clear S H;intro aa ww h6 H S
   refine OL.nil ?_
   refine W.ret ?_
   obtain⟨y_14,y_15,y_16,y_17,y_18,y_19,y_20,c_21,c_22,c_23,c_24,c_25,c_26,c_27,H⟩:=H
   exact Ret.gen S rfl (RV.cellA (cs:=[Value.int .i64 y_14,Value.int .u64 y_15,Value.string y_16,Value.slice y_17.a y_17.n y_17.c,Value.int .i64 y_18,Value.slice y_19.a y_19.n y_19.c,Value.int .i64 y_20]) rfl ag33 ti33 ⟨c_21,c_22,c_23,c_24,c_25,c_26,c_27,trivial⟩ RV.nil) rfl H
def L37 (vh0:Option Addr) (p1:Int) (p1_1:Sv) (p1_2:Int) (unique2:Bool) (h:Heap) (R:Value→Heap→Prop):Prop:=
 new 28 #[Value.int .i64 p1,Value.slice p1_1.a p1_1.n p1_1.c,Value.int .i64 p1_2] h fun p4 h1=>
 new 28 #[Value.int .i64 0,Value.slice (⟨none,0,0⟩:Sv).a (⟨none,0,0⟩:Sv).n (⟨none,0,0⟩:Sv).c,Value.int .i64 0] h1 fun p6 h2=>
 ∃(y14:Int) (y14_1:Sv) (y14_2:Int),cl h2 p4=some (Value.int .i64 y14)∧cl h2 (p4.add 1)=some (Value.slice y14_1.a y14_1.n y14_1.c)∧cl h2 (p4.add 2)=some (Value.int .i64 y14_2) ∧
 cal Try.prog 50 #[Value.pointer vh0,Value.agg #[Value.int .i64 y14,Value.slice y14_1.a y14_1.n y14_1.c,Value.int .i64 y14_2],Value.bool unique2] h2 fun u h3=>∃(y16:Int) (y16_1:Int) (y16_2:ByteArray) (y16_3:Sv) (y16_4:Int) (y16_5:Sv) (y16_6:Int) (x16:Int),u=Value.tuple #[Value.agg #[Value.int .i64 y16,Value.int .u64 y16_1,Value.string y16_2,Value.slice y16_3.a y16_3.n y16_3.c,Value.int .i64 y16_4,Value.slice y16_5.a y16_5.n y16_5.c,Value.int .i64 y16_6],Value.int .i64 x16] ∧
 new 33 #[Value.int .i64 0,Value.int .u64 0,Value.string (⟨#[]⟩:ByteArray),Value.slice (⟨none,0,0⟩:Sv).a (⟨none,0,0⟩:Sv).n (⟨none,0,0⟩:Sv).c,Value.int .i64 0,Value.slice (⟨none,0,0⟩:Sv).a (⟨none,0,0⟩:Sv).n (⟨none,0,0⟩:Sv).c,Value.int .i64 0] h3 fun p8 h4=>
 stoA h4 p8 [Value.int .i64 y16,Value.int .u64 y16_1,Value.string y16_2,Value.slice y16_3.a y16_3.n y16_3.c,Value.int .i64 y16_4,Value.slice y16_5.a y16_5.n y16_5.c,Value.int .i64 y16_6] fun h5=>
 ifb (x16 != 0) (
  stoA h5 p6 [Value.int .i64 0,Value.slice (⟨none,0,0⟩:Sv).a (⟨none,0,0⟩:Sv).n (⟨none,0,0⟩:Sv).c,Value.int .i64 0] fun h6=>
  ∃(y:Int) (y_1:Sv) (y_2:Int),cl h6 p6=some (Value.int .i64 y)∧cl h6 (p6.add 1)=some (Value.slice y_1.a y_1.n y_1.c)∧cl h6 (p6.add 2)=some (Value.int .i64 y_2) ∧
  R (.tuple #[Value.agg #[Value.int .i64 y,Value.slice y_1.a y_1.n y_1.c,Value.int .i64 y_2],Value.int .i64 x16]) h6) (
  ldI .i64 h5 p4 fun x24=>
  ldS h5 (p4.add 1) fun x26=>
  new 28 #[Value.int .i64 0,Value.slice (⟨none,0,0⟩:Sv).a (⟨none,0,0⟩:Sv).n (⟨none,0,0⟩:Sv).c,Value.int .i64 0] h5 fun p10 h7=>
  stoA h7 p10 [Value.int .i64 x24,Value.slice x26.a x26.n x26.c,Value.int .i64 0] fun h8=>
  ∃J:Heap→Prop,(
   nn vh0 fun p29=>
   ldB h8 (p29.add 3) fun x31=>
   ifb x31 (
    nn vh0 fun p33=>
    ldI .i64 h8 (p33.add 1) fun x35=>
    nn vh0 fun p37=>
    sto h8 (p37.add 1) (Value.int .i64 (IntKind.i64.wrap (x35+1))) fun h9=>
    nn vh0 fun p40=>
    ldI .i64 h9 (p40.add 1) fun x42=>
    sto h9 (p10.add 2) (Value.int .i64 x42) fun h10=>
    nn vh0 fun p45=>
    ldS h10 p45 fun x47=>
    ldI .i64 h10 p4 fun x49=>
    ixS x47 x49 fun q50=>
    ldS h10 ((q50.add ((x49:Int).toNat*9)).add 8) fun x52=>
    nn vh0 fun p54=>
    nn vh0 fun p63=>
    ∃(IJ:Bool→Bool→Bool→Bool→Sv→Sv→Sv→Sv→Heap→Prop) (Sq:Heap→Prop),(∀(b6 b8 b17 b18:Bool) (s59:Sv) (s61:Sv) (s70:Sv) (s71:Sv) (hz:Heap),IJ b6 b8 b17 b18 s59 s61 s70 s71 hz→Sq hz)∧(∀(s59:Sv) (s61:Sv) (s70:Sv) (s71:Sv),IJ false false false false s59 s61 s70 s71 h10) ∧
    hlS Sq p54 fun x56=>
    hlI .i64 Sq p4 fun x58=>
    hlI .i64 Sq (p63.add 1) fun x65=>
    hlS Sq (p4.add 1) fun x67=>
    (∀(b6 b8 b17 b18:Bool) (s59_o:Sv) (s61:Sv) (s70:Sv) (s71:Sv) (h11:Heap),IJ b6 b8 b17 b18 s59_o s61 s70 s71 h11→b6=false →
     newS 80 #[] 0 h11 fun s59 h12=>
     IJ true b8 b17 b18 s59 s61 s70 s71 h12) ∧
    (∀(b6 b8 b17 b18:Bool) (s59:Sv) (s61_o:Sv) (s70:Sv) (s71:Sv) (h15:Heap),IJ b6 b8 b17 b18 s59 s61_o s70 s71 h15→b8=false→b6=true →
     appS 80 (Value.agg #[Value.int .i64 0,Value.slice (⟨none,0,0⟩:Sv).a (⟨none,0,0⟩:Sv).n (⟨none,0,0⟩:Sv).c,Value.bool false]).cells 3 40 h15 s59 x52 fun s61 h16=>
     IJ b6 true b17 b18 s59 s61 s70 s71 h16) ∧
    (∀(b6 b8 b17 b18:Bool) (s59:Sv) (s61:Sv) (s70_o:Sv) (s71:Sv) (h20:Heap),IJ b6 b8 b17 b18 s59 s61 s70_o s71 h20→b17=false →
     newS 80 #[Value.int .i64 x65,Value.slice x67.a x67.n x67.c,Value.bool unique2] 1 h20 fun s70 h21=>
     IJ b6 b8 true b18 s59 s61 s70 s71 h21) ∧
    (∀(b6 b8 b17 b18:Bool) (s59:Sv) (s61:Sv) (s70:Sv) (s71_o:Sv) (h24:Heap),IJ b6 b8 b17 b18 s59 s61 s70 s71_o h24→b18=false→b6=true→b8=true→b17=true →
     appS 80 (Value.agg #[Value.int .i64 0,Value.slice (⟨none,0,0⟩:Sv).a (⟨none,0,0⟩:Sv).n (⟨none,0,0⟩:Sv).c,Value.bool false]).cells 3 40 h24 s61 s70 fun s71 h25=>
     IJ b6 b8 b17 true s59 s61 s70 s71 h25) ∧
    (∀(s59:Sv) (s61:Sv) (s70:Sv) (s71:Sv) (h28:Heap),IJ true true true true s59 s61 s70 s71 h28 →
    ixS x56 x58 fun q72=>
    sto h28 ((q72.add ((x58:Int).toNat*9)).add 8) (Value.slice s71.a s71.n s71.c) fun h29=>
    J h29)) (
    J h8))∧(∀h34,J h34 →
  ∃(y74:Int) (y74_1:Sv) (y74_2:Int),cl h34 p10=some (Value.int .i64 y74)∧cl h34 (p10.add 1)=some (Value.slice y74_1.a y74_1.n y74_1.c)∧cl h34 (p10.add 2)=some (Value.int .i64 y74_2) ∧
  stoA h34 p6 [Value.int .i64 y74,Value.slice y74_1.a y74_1.n y74_1.c,Value.int .i64 y74_2] fun h35=>
  ∃(y_3:Int) (y_4:Sv) (y_5:Int),cl h35 p6=some (Value.int .i64 y_3)∧cl h35 (p6.add 1)=some (Value.slice y_4.a y_4.n y_4.c)∧cl h35 (p6.add 2)=some (Value.int .i64 y_5) ∧
  R (.tuple #[Value.agg #[Value.int .i64 y_3,Value.slice y_4.a y_4.n y_4.c,Value.int .i64 y_5],Value.int .i64 0]) h35))
set_option maxRecDepth 100000 in
theorem F37 {vh0 p1 p1_1 p1_2 unique2 h:_} {R:Value→Heap→Prop} (H:L37 vh0 p1 p1_1 p1_2 unique2 h R):CallsH Try.prog 37 #[Value.pointer vh0,Value.agg #[Value.int .i64 p1,Value.slice p1_1.a p1_1.n p1_1.c,Value.int .i64 p1_2],Value.bool unique2] h R:=by
 refine CallsH.enter (n:=75) Try.func37 rfl rfl rfl rfl ?_
 intro w0 aa ww S
 unfold L37 at H
 refine W.seq ?_
 refine W.region ?_
 refine ol_box S H rfl rfl rfl trivial ?_
 clear S H;intro p4 aa ww h1 H S
 refine ol_alloc S H ti28 rfl rfl trivial ?_
 clear S H;intro p6 aa ww h2 H S
 refine OL.za S fun _ S=>?_
 refine OL.nil ?_
 refine W.seq ?_
 refine W.seq ?_
 refine W.region ?_
 refine OL.zm S fun _ S=>?_
 obtain⟨y14,y14_1,y14_2,c_23,c_24,c_25,H⟩:=H
 refine OL.zq S (Lf.run_ldA (cs:=[Value.int .i64 y14,Value.slice y14_1.a y14_1.n y14_1.c,Value.int .i64 y14_2]) (S.ev rfl) ag28 ti28 (by rw[S.heap];exact RowL.toRow ⟨c_23,c_24,c_25,trivial⟩)) fun _ S=>?_
 refine OL.zm S fun _ S=>?_
 refine ol_cal S H isfn50 rfl rfl trivial ?_
 clear S H;intro u aa ww h3 H S
 obtain⟨y16,y16_1,y16_2,y16_3,y16_4,y16_5,y16_6,x16,rfl,H⟩:=H
 refine OL.zm S fun _ S=>?_
 refine OL.zq S (Lf.run_ex (S.ev rfl) rfl) fun _ S=>?_
 refine OL.zq S (Lf.run_ex (S.ev rfl) rfl) fun _ S=>?_
 refine ol_alloc S H ti33 rfl rfl trivial ?_
 clear S H;intro p8 aa ww h4 H S
 refine ol_stoA S H rfl rfl ti33 trivial ?_
 clear S H;intro aa ww h5 H S
 refine OL.za S fun _ S=>?_
 refine OL.nil ?_
 refine W.seq ?_
 refine W.region ?_
 refine OL.zm S fun _ S=>?_
 refine OL.zq S (Lf.run_neq (S.ev rfl) (S.ev rfl)) fun _ S=>?_
 refine OL.nil ?_
 refine W.cond S (b:=(x16 != 0)) rfl (fun hb=>?_) (fun hb=>?_)
 ·
  replace H:=H.1 hb
  refine W.seq ?_
  refine W.region ?_
  refine OL.zq S (Lf.run_build (cs:=#[Value.int .i64 0,Value.slice (⟨none,0,0⟩:Sv).a (⟨none,0,0⟩:Sv).n (⟨none,0,0⟩:Sv).c,Value.int .i64 0]) pl28 ti28 (parts_map S rfl) (by kernel_rfl)) fun _ S=>?_
  refine OL.zm S fun _ S=>?_
  refine ol_stoA S H rfl rfl ti28 trivial ?_
  clear S H;intro aa ww h6 H S
  refine OL.za S fun _ S=>?_
  refine OL.nil ?_
  refine W.ret ?_
  obtain⟨y,y_1,y_2,c_1,c_2,c_3,H⟩:=H
  exact Ret.gen S rfl (RV.cellA (cs:=[Value.int .i64 y,Value.slice y_1.a y_1.n y_1.c,Value.int .i64 y_2]) rfl ag28 ti28 ⟨c_1,c_2,c_3,trivial⟩ (RV.tmp rfl RV.nil)) rfl H
 ·
  replace H:=H.2 hb
  refine W.skip ?_
  refine W.seq ?_
  refine W.region ?_
  refine OL.zf S fa28_0 fun _ S=>?_
  obtain⟨x24,c_4,H⟩:=H
  refine OL.zl S fl3 c_4 fun _ S=>?_
  refine OL.zf S fa28_1 fun _ S=>?_
  obtain⟨x26,c_5,H⟩:=H
  refine OL.zl S fl26 c_5 fun _ S=>?_
  refine OL.zq S (Lf.run_build (cs:=#[Value.int .i64 x24,Value.slice x26.a x26.n x26.c,Value.int .i64 0]) pl28 ti28 (parts_map S rfl) (by kernel_rfl)) fun _ S=>?_
  refine ol_alloc S H ti28 rfl rfl trivial ?_
  clear S H;intro p10 aa ww h7 H S
  refine ol_stoA S H rfl rfl ti28 trivial ?_
  clear S H;intro aa ww h8 H S
  refine OL.nil ?_
  obtain⟨J,H,HK⟩:=H
  refine W.seqJ (fun aa ww=>∃h34,St 75 [(6,Value.pointer (some p6)),(10,Value.pointer (some p10))] h34 w0 aa ww∧J h34) ?_ ?_
  ·
   clear HK
   refine W.seq ?_
   refine W.region ?_
   refine OL.zm S fun _ S=>?_
   obtain⟨p29,e,H⟩:=H
   refine OL.zq S (Lf.run_nc' (S.ev rfl) e) fun _ S=>?_
   refine OL.zf S fa56_3 fun _ S=>?_
   obtain⟨x31,c_6,H⟩:=H
   refine OL.zl S fl4 c_6 fun _ S=>?_
   refine OL.nil ?_
   refine W.cond S (b:=x31) rfl (fun hb_1=>?_) (fun hb_1=>?_)
   ·
    replace H:=H.1 hb_1
    refine W.seq ?_
    refine W.region ?_
    refine OL.zm S fun _ S=>?_
    obtain⟨p33,e_1,H⟩:=H
    refine OL.zq S (Lf.run_nc' (S.ev rfl) e_1) fun _ S=>?_
    refine OL.zf S fa56_1 fun _ S=>?_
    obtain⟨x35,c_7,H⟩:=H
    refine OL.zl S fl3 c_7 fun _ S=>?_
    refine OL.zq S (Lf.run_add (S.ev rfl) (S.ev rfl)) fun _ S=>?_
    obtain⟨p37,e_2,H⟩:=H
    refine OL.zq S (Lf.run_nc' (S.ev rfl) e_2) fun _ S=>?_
    refine OL.zf S fa56_1 fun _ S=>?_
    refine ol_sto S H rfl rfl rfl ti3 trivial ?_
    clear S H;intro aa ww h9 H S
    refine OL.nil ?_
    refine W.seq ?_
    refine W.region ?_
    refine OL.zm S fun _ S=>?_
    obtain⟨p40,e_3,H⟩:=H
    refine OL.zq S (Lf.run_nc' (S.ev rfl) e_3) fun _ S=>?_
    refine OL.zf S fa56_1 fun _ S=>?_
    obtain⟨x42,c_8,H⟩:=H
    refine OL.zl S fl3 c_8 fun _ S=>?_
    refine OL.zf S fa28_2 fun _ S=>?_
    refine ol_sto S H rfl rfl rfl ti3 trivial ?_
    clear S H;intro aa ww h10 H S
    refine OL.nil ?_
    refine W.seq ?_
    replace S:=S.sub [(0,Value.pointer vh0),(2,Value.bool unique2),(4,Value.pointer (some p4)),(6,Value.pointer (some p6)),(10,Value.pointer (some p10))] ⟨rfl,rfl,rfl,rfl,rfl,trivial⟩
    refine W.regionD S (by kernel_rfl) ?_
    clear S;intro ww S
    refine AN.zq 0 S rfl (fun _=>Lf.run_move (S.ev rfl)) fun _ S=>?_
    obtain⟨p45,e_4,H⟩:=H
    refine AN.zq 1 S rfl (fun _=>Lf.run_nc' (S.ev rfl) e_4) fun _ S=>?_
    refine AN.zq 2 S rfl (fun _=>Lf.run_fa (S.ev rfl) fa56_0) fun _ S=>?_
    obtain⟨x47,c_9,H⟩:=H
    refine AN.zl 3 S rfl (fun _ hx=>Lf.run_ld (S.ev rfl) fl54 (hx.cell _ _ (S.cl c_9))) fun _ S=>?_
    refine AN.zq 4 S rfl (fun _=>Lf.run_fa (S.ev rfl) fa28_0) fun _ S=>?_
    obtain⟨x49,c_10,H⟩:=H
    refine AN.zl 5 S rfl (fun _ hx=>Lf.run_ld (S.ev rfl) fl3 (hx.cell _ _ (S.cl c_10))) fun _ S=>?_
    obtain⟨q50,e_5,e_6,e_7,H⟩:=H
    refine AN.zq 6 S rfl (fun _=>Lf.run_ixs (S.ev rfl) (S.ev rfl) Try.underlying54 ti89 e_5 e_6 e_7) fun _ S=>?_
    refine AN.zq 7 S rfl (fun _=>Lf.run_fa (S.ev rfl) fa89_2) fun _ S=>?_
    obtain⟨x52,c_11,H⟩:=H
    refine AN.zl 8 S rfl (fun _ hx=>Lf.run_ld (S.ev rfl) fl69 (hx.cell _ _ (S.cl c_11))) fun _ S=>?_
    refine AN.zq 9 S rfl (fun _=>Lf.run_assign (S.ev rfl)) fun _ S=>?_
    refine AN.done (by kernel_rfl) ?_
    replace S:=S.sub [(0,Value.pointer vh0),(2,Value.bool unique2),(4,Value.pointer (some p4)),(6,Value.pointer (some p6)),(10,Value.pointer (some p10)),(11,Value.slice x52.a x52.n x52.c)] ⟨rfl,rfl,rfl,rfl,rfl,rfl,trivial⟩
    refine W.regionD S (by kernel_rfl) ?_
    clear S;intro ww S
    refine AN.zq 0 S rfl (fun _=>Lf.run_move (S.ev rfl)) fun _ S=>?_
    obtain⟨p54,e_8,H⟩:=H
    refine AN.zq 1 S rfl (fun _=>Lf.run_nc' (S.ev rfl) e_8) fun _ S=>?_
    refine AN.zq 2 S rfl (fun _=>Lf.run_fa (S.ev rfl) fa56_0) fun _ S=>?_
    refine AN.zq 4 S rfl (fun _=>Lf.run_fa (S.ev rfl) fa28_0) fun _ S=>?_
    refine AN.zq 7 S rfl (fun _=>Lf.run_move (S.ev rfl)) fun _ S=>?_
    refine AN.zq 9 S rfl (fun _=>Lf.run_move (S.ev rfl)) fun _ S=>?_
    obtain⟨p63,e_9,H⟩:=H
    refine AN.zq 10 S rfl (fun _=>Lf.run_nc' (S.ev rfl) e_9) fun _ S=>?_
    refine AN.zq 11 S rfl (fun _=>Lf.run_fa (S.ev rfl) fa56_1) fun _ S=>?_
    refine AN.zq 13 S rfl (fun _=>Lf.run_fa (S.ev rfl) fa28_1) fun _ S=>?_
    refine AN.zq 15 S rfl (fun _=>Lf.run_move (S.ev rfl)) fun _ S=>?_
    obtain⟨IJ,Sq,hSq,hini,H⟩:=H
    obtain⟨x56,c_12,H⟩:=H
    obtain⟨x58,c_13,H⟩:=H
    obtain⟨x65,c_14,H⟩:=H
    obtain⟨x67,c_15,H⟩:=H
    obtain⟨Oq,Oq_1,Oq_2,Oq_3,H⟩:=H
    let gq3:IOp:=⟨3,56,true,[],fun lq=>Value.slice x56.a x56.n x56.c⟩
    let gq5:IOp:=⟨5,58,true,[],fun lq=>Value.int .i64 x58⟩
    let gq6:IOp:=⟨6,59,true,[6],fun lq=>Value.slice (pS (nth lq 0)).a (pS (nth lq 0)).n (pS (nth lq 0)).c⟩
    let gq8:IOp:=⟨8,61,true,[8],fun lq=>Value.slice (pS (nth lq 0)).a (pS (nth lq 0)).n (pS (nth lq 0)).c⟩
    let gq12:IOp:=⟨12,65,true,[],fun lq=>Value.int .i64 x65⟩
    let gq14:IOp:=⟨14,67,true,[],fun lq=>Value.slice x67.a x67.n x67.c⟩
    let gq16:IOp:=⟨16,69,true,[],fun lq=>Value.agg #[Value.int .i64 x65,Value.slice x67.a x67.n x67.c,Value.bool unique2]⟩
    let gq17:IOp:=⟨17,70,true,[17],fun lq=>Value.slice (pS (nth lq 0)).a (pS (nth lq 0)).n (pS (nth lq 0)).c⟩
    let gq18:IOp:=⟨18,71,true,[18],fun lq=>Value.slice (pS (nth lq 0)).a (pS (nth lq 0)).n (pS (nth lq 0)).c⟩
    replace S:=S.sub [(0,Value.pointer vh0),(2,Value.bool unique2),(4,Value.pointer (some p4)),(6,Value.pointer (some p6)),(10,Value.pointer (some p10)),(11,Value.slice x52.a x52.n x52.c),(53,Value.pointer vh0),(54,Value.pointer (some p54)),(55,Value.pointer (some p54)),(57,Value.pointer (some p4)),(60,Value.slice x52.a x52.n x52.c),(62,Value.pointer vh0),(63,Value.pointer (some p63)),(64,Value.pointer (some (p63.add 1))),(66,Value.pointer (some (p4.add 1))),(68,Value.bool unique2)] ⟨rfl,rfl,rfl,rfl,rfl,rfl,rfl,rfl,rfl,rfl,rfl,rfl,rfl,rfl,rfl,rfl,trivial⟩
    refine AN.inv (fuel:=3) (fun Lg Xg hz=>IJ (Lg 6) (Lg 8) (Lg 17) (Lg 18) (pS (Xg 6)) (pS (Xg 8)) (pS (Xg 17)) (pS (Xg 18)) hz) (fun _=>undef) [(gq3,[]),(gq5,[]),(gq6,[]),(gq8,[gq6]),(gq12,[]),(gq14,[]),(gq16,[gq12,gq14]),(gq17,[gq16]),(gq18,[gq6,gq8,gq17])] [(3,56,true,[],[]),(5,58,true,[],[]),(6,59,true,[6],[]),(8,61,true,[8],[6]),(12,65,true,[],[]),(14,67,true,[],[]),(16,69,true,[],[12,14]),(17,70,true,[17],[16]),(18,71,true,[18],[6,8,17])] [0,2,4,6,10,11,53,54,55,57,60,62,63,64,66,68] S rfl rfl (by kernel_rfl) (by simp) ?_ ⟨?_,?_,?_,?_,?_,?_,?_,?_,?_,trivial⟩ ?_
    ·
     intro Lg hLg
     have hz:=hini (pS undef) (pS undef) (pS undef) (pS undef)
     have hl6:Lg 6=false:=hLg (6,59,true,[6],[]) (by simp)
     have hl8:Lg 8=false:=hLg (8,61,true,[8],[6]) (by simp)
     have hl17:Lg 17=false:=hLg (17,70,true,[17],[16]) (by simp)
     have hl18:Lg 18=false:=hLg (18,71,true,[18],[6,8,17]) (by simp)
     show IJ (Lg 6) (Lg 8) (Lg 17) (Lg 18) (pS undef) (pS undef) (pS undef) (pS undef) h10
     rw[hl6,hl8,hl17,hl18]
     exact hz
    ·
     refine⟨_,rfl,rfl,?_⟩
     intro Lg Xg aa ww h30 Ef S hinv hl0 hok
     replace hinv:IJ (Lg 6) (Lg 8) (Lg 17) (Lg 18) (pS (Xg 6)) (pS (Xg 8)) (pS (Xg 17)) (pS (Xg 18)) h30:=hinv
     replace S:St 75 ((0,Value.pointer vh0) :: (2,Value.bool unique2) :: (4,Value.pointer (some p4)) :: (6,Value.pointer (some p6)) :: (10,Value.pointer (some p10)) :: (11,Value.slice x52.a x52.n x52.c) :: (53,Value.pointer vh0) :: (54,Value.pointer (some p54)) :: (55,Value.pointer (some p54)) :: (57,Value.pointer (some p4)) :: (60,Value.slice x52.a x52.n x52.c) :: (62,Value.pointer vh0) :: (63,Value.pointer (some p63)) :: (64,Value.pointer (some (p63.add 1))) :: (66,Value.pointer (some (p4.add 1))) :: (68,Value.bool unique2) :: Ef) h30 w0 aa ww:=S
     have hTg:=hSq (Lg 6) (Lg 8) (Lg 17) (Lg 18) (pS (Xg 6)) (pS (Xg 8)) (pS (Xg 17)) (pS (Xg 18)) _ hinv
     refine OL.zq S (Lf.run_ld (S.ev rfl) fl54 (S.cl (c_12 _ hTg))) fun _ S=>?_
     refine OL.nil ?_
     exact⟨undef,_,S,hinv⟩
    ·
     refine⟨_,rfl,rfl,?_⟩
     intro Lg Xg aa ww h31 Ef S hinv hl0 hok
     replace hinv:IJ (Lg 6) (Lg 8) (Lg 17) (Lg 18) (pS (Xg 6)) (pS (Xg 8)) (pS (Xg 17)) (pS (Xg 18)) h31:=hinv
     replace S:St 75 ((0,Value.pointer vh0) :: (2,Value.bool unique2) :: (4,Value.pointer (some p4)) :: (6,Value.pointer (some p6)) :: (10,Value.pointer (some p10)) :: (11,Value.slice x52.a x52.n x52.c) :: (53,Value.pointer vh0) :: (54,Value.pointer (some p54)) :: (55,Value.pointer (some p54)) :: (57,Value.pointer (some p4)) :: (60,Value.slice x52.a x52.n x52.c) :: (62,Value.pointer vh0) :: (63,Value.pointer (some p63)) :: (64,Value.pointer (some (p63.add 1))) :: (66,Value.pointer (some (p4.add 1))) :: (68,Value.bool unique2) :: Ef) h31 w0 aa ww:=S
     have hTg:=hSq (Lg 6) (Lg 8) (Lg 17) (Lg 18) (pS (Xg 6)) (pS (Xg 8)) (pS (Xg 17)) (pS (Xg 18)) _ hinv
     refine OL.zq S (Lf.run_ld (S.ev rfl) fl3 (S.cl (c_13 _ hTg))) fun _ S=>?_
     refine OL.nil ?_
     exact⟨undef,_,S,hinv⟩
    ·
     refine⟨_,rfl,rfl,?_⟩
     intro Lg Xg aa ww h13 Ef S hinv hl0 hok
     replace hinv:IJ (Lg 6) (Lg 8) (Lg 17) (Lg 18) (pS (Xg 6)) (pS (Xg 8)) (pS (Xg 17)) (pS (Xg 18)) h13:=hinv
     replace S:St 75 ((0,Value.pointer vh0) :: (2,Value.bool unique2) :: (4,Value.pointer (some p4)) :: (6,Value.pointer (some p6)) :: (10,Value.pointer (some p10)) :: (11,Value.slice x52.a x52.n x52.c) :: (53,Value.pointer vh0) :: (54,Value.pointer (some p54)) :: (55,Value.pointer (some p54)) :: (57,Value.pointer (some p4)) :: (60,Value.slice x52.a x52.n x52.c) :: (62,Value.pointer vh0) :: (63,Value.pointer (some p63)) :: (64,Value.pointer (some (p63.add 1))) :: (66,Value.pointer (some (p4.add 1))) :: (68,Value.bool unique2) :: Ef) h13 w0 aa ww:=S
     have H:=Oq (Lg 6) (Lg 8) (Lg 17) (Lg 18) (pS (Xg 6)) (pS (Xg 8)) (pS (Xg 17)) (pS (Xg 18)) h13 hinv hl0
     clear hinv
     refine ol_newS0 S H Try.underlying69 ti80 rfl rfl trivial ?_
     clear S H;intro s59_1 aa ww h14 H S
     refine OL.nil ?_
     exact⟨Value.slice s59_1.a s59_1.n s59_1.c,_,S,H⟩
    ·
     refine⟨_,rfl,rfl,?_⟩
     intro Lg Xg aa ww h17 Ef S hinv hl0 hok
     obtain⟨kq6,-⟩:=hok
     replace hinv:IJ (Lg 6) (Lg 8) (Lg 17) (Lg 18) (pS (Xg 6)) (pS (Xg 8)) (pS (Xg 17)) (pS (Xg 18)) h17:=hinv
     replace S:St 75 ((59,Value.slice (pS (Xg 6)).a (pS (Xg 6)).n (pS (Xg 6)).c) :: (0,Value.pointer vh0) :: (2,Value.bool unique2) :: (4,Value.pointer (some p4)) :: (6,Value.pointer (some p6)) :: (10,Value.pointer (some p10)) :: (11,Value.slice x52.a x52.n x52.c) :: (53,Value.pointer vh0) :: (54,Value.pointer (some p54)) :: (55,Value.pointer (some p54)) :: (57,Value.pointer (some p4)) :: (60,Value.slice x52.a x52.n x52.c) :: (62,Value.pointer vh0) :: (63,Value.pointer (some p63)) :: (64,Value.pointer (some (p63.add 1))) :: (66,Value.pointer (some (p4.add 1))) :: (68,Value.bool unique2) :: Ef) h17 w0 aa ww:=S
     have H:=Oq_1 (Lg 6) (Lg 8) (Lg 17) (Lg 18) (pS (Xg 6)) (pS (Xg 8)) (pS (Xg 17)) (pS (Xg 18)) h17 hinv hl0 kq6
     clear hinv
     refine ol_appS S H Try.underlying69 ti80 rfl rfl rfl trivial ?_
     clear S H;intro s61_1 aa ww h18 H S
     refine OL.nil ?_
     exact⟨Value.slice s61_1.a s61_1.n s61_1.c,_,S,H⟩
    ·
     refine⟨_,rfl,rfl,?_⟩
     intro Lg Xg aa ww h32 Ef S hinv hl0 hok
     replace hinv:IJ (Lg 6) (Lg 8) (Lg 17) (Lg 18) (pS (Xg 6)) (pS (Xg 8)) (pS (Xg 17)) (pS (Xg 18)) h32:=hinv
     replace S:St 75 ((0,Value.pointer vh0) :: (2,Value.bool unique2) :: (4,Value.pointer (some p4)) :: (6,Value.pointer (some p6)) :: (10,Value.pointer (some p10)) :: (11,Value.slice x52.a x52.n x52.c) :: (53,Value.pointer vh0) :: (54,Value.pointer (some p54)) :: (55,Value.pointer (some p54)) :: (57,Value.pointer (some p4)) :: (60,Value.slice x52.a x52.n x52.c) :: (62,Value.pointer vh0) :: (63,Value.pointer (some p63)) :: (64,Value.pointer (some (p63.add 1))) :: (66,Value.pointer (some (p4.add 1))) :: (68,Value.bool unique2) :: Ef) h32 w0 aa ww:=S
     have hTg:=hSq (Lg 6) (Lg 8) (Lg 17) (Lg 18) (pS (Xg 6)) (pS (Xg 8)) (pS (Xg 17)) (pS (Xg 18)) _ hinv
     refine OL.zq S (Lf.run_ld (S.ev rfl) fl3 (S.cl (c_14 _ hTg))) fun _ S=>?_
     refine OL.nil ?_
     exact⟨undef,_,S,hinv⟩
    ·
     refine⟨_,rfl,rfl,?_⟩
     intro Lg Xg aa ww h33 Ef S hinv hl0 hok
     replace hinv:IJ (Lg 6) (Lg 8) (Lg 17) (Lg 18) (pS (Xg 6)) (pS (Xg 8)) (pS (Xg 17)) (pS (Xg 18)) h33:=hinv
     replace S:St 75 ((0,Value.pointer vh0) :: (2,Value.bool unique2) :: (4,Value.pointer (some p4)) :: (6,Value.pointer (some p6)) :: (10,Value.pointer (some p10)) :: (11,Value.slice x52.a x52.n x52.c) :: (53,Value.pointer vh0) :: (54,Value.pointer (some p54)) :: (55,Value.pointer (some p54)) :: (57,Value.pointer (some p4)) :: (60,Value.slice x52.a x52.n x52.c) :: (62,Value.pointer vh0) :: (63,Value.pointer (some p63)) :: (64,Value.pointer (some (p63.add 1))) :: (66,Value.pointer (some (p4.add 1))) :: (68,Value.bool unique2) :: Ef) h33 w0 aa ww:=S
     have hTg:=hSq (Lg 6) (Lg 8) (Lg 17) (Lg 18) (pS (Xg 6)) (pS (Xg 8)) (pS (Xg 17)) (pS (Xg 18)) _ hinv
     refine OL.zq S (Lf.run_ld (S.ev rfl) fl26 (S.cl (c_15 _ hTg))) fun _ S=>?_
     refine OL.nil ?_
     exact⟨undef,_,S,hinv⟩
    ·
     refine⟨_,rfl,rfl,?_⟩
     intro Lg Xg aa ww h19 Ef S hinv hl0 hok
     obtain⟨kq12,kq14,-⟩:=hok
     replace hinv:IJ (Lg 6) (Lg 8) (Lg 17) (Lg 18) (pS (Xg 6)) (pS (Xg 8)) (pS (Xg 17)) (pS (Xg 18)) h19:=hinv
     replace S:St 75 ((65,Value.int .i64 x65) :: (67,Value.slice x67.a x67.n x67.c) :: (0,Value.pointer vh0) :: (2,Value.bool unique2) :: (4,Value.pointer (some p4)) :: (6,Value.pointer (some p6)) :: (10,Value.pointer (some p10)) :: (11,Value.slice x52.a x52.n x52.c) :: (53,Value.pointer vh0) :: (54,Value.pointer (some p54)) :: (55,Value.pointer (some p54)) :: (57,Value.pointer (some p4)) :: (60,Value.slice x52.a x52.n x52.c) :: (62,Value.pointer vh0) :: (63,Value.pointer (some p63)) :: (64,Value.pointer (some (p63.add 1))) :: (66,Value.pointer (some (p4.add 1))) :: (68,Value.bool unique2) :: Ef) h19 w0 aa ww:=S
     refine OL.zq S (Lf.run_build (cs:=#[Value.int .i64 x65,Value.slice x67.a x67.n x67.c,Value.bool unique2]) pl80 ti80 (parts_map S rfl) (by kernel_rfl)) fun _ S=>?_
     refine OL.nil ?_
     exact⟨undef,_,S,hinv⟩
    ·
     refine⟨_,rfl,rfl,?_⟩
     intro Lg Xg aa ww h22 Ef S hinv hl0 hok
     obtain⟨kq16,-⟩:=hok
     replace hinv:IJ (Lg 6) (Lg 8) (Lg 17) (Lg 18) (pS (Xg 6)) (pS (Xg 8)) (pS (Xg 17)) (pS (Xg 18)) h22:=hinv
     replace S:St 75 ((69,Value.agg #[Value.int .i64 x65,Value.slice x67.a x67.n x67.c,Value.bool unique2]) :: (0,Value.pointer vh0) :: (2,Value.bool unique2) :: (4,Value.pointer (some p4)) :: (6,Value.pointer (some p6)) :: (10,Value.pointer (some p10)) :: (11,Value.slice x52.a x52.n x52.c) :: (53,Value.pointer vh0) :: (54,Value.pointer (some p54)) :: (55,Value.pointer (some p54)) :: (57,Value.pointer (some p4)) :: (60,Value.slice x52.a x52.n x52.c) :: (62,Value.pointer vh0) :: (63,Value.pointer (some p63)) :: (64,Value.pointer (some (p63.add 1))) :: (66,Value.pointer (some (p4.add 1))) :: (68,Value.bool unique2) :: Ef) h22 w0 aa ww:=S
     have H:=Oq_2 (Lg 6) (Lg 8) (Lg 17) (Lg 18) (pS (Xg 6)) (pS (Xg 8)) (pS (Xg 17)) (pS (Xg 18)) h22 hinv hl0
     clear hinv
     refine ol_newS S H Try.underlying69 ti80 (by decide) (parts_map S rfl) (by kernel_rfl) (by decide) rfl trivial ?_
     clear S H;intro s70_1 aa ww h23 H S
     refine OL.nil ?_
     exact⟨Value.slice s70_1.a s70_1.n s70_1.c,_,S,H⟩
    ·
     refine⟨_,rfl,rfl,?_⟩
     intro Lg Xg aa ww h26 Ef S hinv hl0 hok
     obtain⟨kq6,kq8,kq17,-⟩:=hok
     replace hinv:IJ (Lg 6) (Lg 8) (Lg 17) (Lg 18) (pS (Xg 6)) (pS (Xg 8)) (pS (Xg 17)) (pS (Xg 18)) h26:=hinv
     replace S:St 75 ((59,Value.slice (pS (Xg 6)).a (pS (Xg 6)).n (pS (Xg 6)).c) :: (61,Value.slice (pS (Xg 8)).a (pS (Xg 8)).n (pS (Xg 8)).c) :: (70,Value.slice (pS (Xg 17)).a (pS (Xg 17)).n (pS (Xg 17)).c) :: (0,Value.pointer vh0) :: (2,Value.bool unique2) :: (4,Value.pointer (some p4)) :: (6,Value.pointer (some p6)) :: (10,Value.pointer (some p10)) :: (11,Value.slice x52.a x52.n x52.c) :: (53,Value.pointer vh0) :: (54,Value.pointer (some p54)) :: (55,Value.pointer (some p54)) :: (57,Value.pointer (some p4)) :: (60,Value.slice x52.a x52.n x52.c) :: (62,Value.pointer vh0) :: (63,Value.pointer (some p63)) :: (64,Value.pointer (some (p63.add 1))) :: (66,Value.pointer (some (p4.add 1))) :: (68,Value.bool unique2) :: Ef) h26 w0 aa ww:=S
     have H:=Oq_3 (Lg 6) (Lg 8) (Lg 17) (Lg 18) (pS (Xg 6)) (pS (Xg 8)) (pS (Xg 17)) (pS (Xg 18)) h26 hinv hl0 kq6 kq8 kq17
     clear hinv
     refine ol_appS S H Try.underlying69 ti80 rfl rfl rfl trivial ?_
     clear S H;intro s71_1 aa ww h27 H S
     refine OL.nil ?_
     exact⟨Value.slice s71_1.a s71_1.n s71_1.c,_,S,H⟩
    clear S
    intro Lg Xg aa ww h28 S hinv hok
    obtain⟨kq3,kq5,kq6,kq8,kq12,kq14,kq16,kq17,kq18,-⟩:=hok
    replace hinv:IJ (Lg 6) (Lg 8) (Lg 17) (Lg 18) (pS (Xg 6)) (pS (Xg 8)) (pS (Xg 17)) (pS (Xg 18)) h28:=hinv
    replace kq6:Lg 6=true:=kq6
    replace kq8:Lg 8=true:=kq8
    replace kq17:Lg 17=true:=kq17
    replace kq18:Lg 18=true:=kq18
    rw[kq6,kq8,kq17,kq18] at hinv
    replace H:=H (pS (Xg 6)) (pS (Xg 8)) (pS (Xg 17)) (pS (Xg 18)) h28 hinv
    replace S:=S.sub [(0,Value.pointer vh0),(2,Value.bool unique2),(4,Value.pointer (some p4)),(6,Value.pointer (some p6)),(10,Value.pointer (some p10)),(11,Value.slice x52.a x52.n x52.c),(53,Value.pointer vh0),(54,Value.pointer (some p54)),(55,Value.pointer (some p54)),(56,Value.slice x56.a x56.n x56.c),(57,Value.pointer (some p4)),(58,Value.int .i64 x58),(59,Value.slice (pS (Xg 6)).a (pS (Xg 6)).n (pS (Xg 6)).c),(60,Value.slice x52.a x52.n x52.c),(61,Value.slice (pS (Xg 8)).a (pS (Xg 8)).n (pS (Xg 8)).c),(62,Value.pointer vh0),(63,Value.pointer (some p63)),(64,Value.pointer (some (p63.add 1))),(65,Value.int .i64 x65),(66,Value.pointer (some (p4.add 1))),(67,Value.slice x67.a x67.n x67.c),(68,Value.bool unique2),(69,Value.agg #[Value.int .i64 x65,Value.slice x67.a x67.n x67.c,Value.bool unique2]),(70,Value.slice (pS (Xg 17)).a (pS (Xg 17)).n (pS (Xg 17)).c),(71,Value.slice (pS (Xg 18)).a (pS (Xg 18)).n (pS (Xg 18)).c)] ⟨rfl,rfl,rfl,rfl,rfl,rfl,rfl,rfl,rfl,rfl,rfl,rfl,rfl,rfl,rfl,rfl,rfl,rfl,rfl,rfl,rfl,rfl,rfl,rfl,rfl,trivial⟩
    generalize (pS (Xg 6))=s59 at H S
    generalize (pS (Xg 8))=s61 at H S
    generalize (pS (Xg 17))=s70 at H S
    generalize (pS (Xg 18))=s71 at H S
    clear hinv kq18 kq17 kq16 kq14 kq12 kq8 kq6 kq5 kq3 gq18 gq17 gq16 gq14 gq12 gq8 gq6 gq5 gq3 Oq Oq_1 Oq_2 Oq_3
    obtain⟨q72,e_10,e_11,e_12,H⟩:=H
    refine AN.zq 19 S rfl (fun _=>Lf.run_ixs (S.ev rfl) (S.ev rfl) Try.underlying54 ti89 e_10 e_11 e_12) fun _ S=>?_
    refine AN.zq 20 S rfl (fun _=>Lf.run_fa (S.ev rfl) fa89_2) fun _ S=>?_
    refine AN.eff 21 rfl (by kernel_rfl) ?_
    refine ol_sto S H rfl rfl rfl ti69 trivial ?_
    clear S H;intro aa ww h29 H S
    refine OL.nil ?_
    refine AN.done (by kernel_rfl) ?_
    exact⟨h29,S.sub _ ⟨rfl,rfl,trivial⟩,H⟩
   ·
    replace H:=H.2 hb_1
    refine W.skip ?_
    exact⟨h8,S.sub _ ⟨rfl,rfl,trivial⟩,H⟩
  ·
   clear H S
   rintro aa ww ⟨h34,S,HJ⟩
   have H:=HK _ HJ
   clear HK HJ
   refine W.seq ?_
   refine W.region ?_
   obtain⟨y74,y74_1,y74_2,c_20,c_21,c_22,H⟩:=H
   refine OL.zq S (Lf.run_ldA (cs:=[Value.int .i64 y74,Value.slice y74_1.a y74_1.n y74_1.c,Value.int .i64 y74_2]) (S.ev rfl) ag28 ti28 (by rw[S.heap];exact RowL.toRow ⟨c_20,c_21,c_22,trivial⟩)) fun _ S=>?_
   refine ol_stoA S H rfl rfl ti28 trivial ?_
   clear S H;intro aa ww h35 H S
   refine OL.za S fun _ S=>?_
   refine OL.nil ?_
   refine W.ret ?_
   obtain⟨y_3,y_4,y_5,c_17,c_18,c_19,H⟩:=H
   exact Ret.gen S rfl (RV.cellA (cs:=[Value.int .i64 y_3,Value.slice y_4.a y_4.n y_4.c,Value.int .i64 y_5]) rfl ag28 ti28 ⟨c_17,c_18,c_19,trivial⟩ (RV.tmp rfl RV.nil)) rfl H
def L38 (vh0:Option Addr) (i1:Int) (h:Heap) (R:Value→Heap→Prop):Prop:=
 cal Try.prog 55 #[Value.pointer vh0,Value.int .i64 i1] h fun u h1=>asB u fun x8=>
 ifb (!x8) (
  R (Value.int .i64 1) h1) (
  nn vh0 fun p11=>
  ldS h1 p11 fun x13=>
  ixS x13 i1 fun q15=>
  ∃(y17:Int) (y17_1:Int) (y17_2:ByteArray) (y17_3:Sv) (y17_4:Int) (y17_5:Sv) (y17_6:Int),cl h1 ((q15.add ((i1:Int).toNat*9)).add 1)=some (Value.int .i64 y17)∧cl h1 (((q15.add ((i1:Int).toNat*9)).add 1).add 1)=some (Value.int .u64 y17_1)∧cl h1 (((q15.add ((i1:Int).toNat*9)).add 1).add 2)=some (Value.string y17_2)∧cl h1 (((q15.add ((i1:Int).toNat*9)).add 1).add 3)=some (Value.slice y17_3.a y17_3.n y17_3.c)∧cl h1 (((q15.add ((i1:Int).toNat*9)).add 1).add 4)=some (Value.int .i64 y17_4)∧cl h1 (((q15.add ((i1:Int).toNat*9)).add 1).add 5)=some (Value.slice y17_5.a y17_5.n y17_5.c)∧cl h1 (((q15.add ((i1:Int).toNat*9)).add 1).add 6)=some (Value.int .i64 y17_6) ∧
  new 33 #[Value.int .i64 0,Value.int .u64 0,Value.string (⟨#[]⟩:ByteArray),Value.slice (⟨none,0,0⟩:Sv).a (⟨none,0,0⟩:Sv).n (⟨none,0,0⟩:Sv).c,Value.int .i64 0,Value.slice (⟨none,0,0⟩:Sv).a (⟨none,0,0⟩:Sv).n (⟨none,0,0⟩:Sv).c,Value.int .i64 0] h1 fun p5 h2=>
  stoA h2 p5 [Value.int .i64 y17,Value.int .u64 y17_1,Value.string y17_2,Value.slice y17_3.a y17_3.n y17_3.c,Value.int .i64 y17_4,Value.slice y17_5.a y17_5.n y17_5.c,Value.int .i64 y17_6] fun h3=>
  nn vh0 fun p19=>
  ldS h3 p19 fun x21=>
  ixS x21 i1 fun q24=>
  stoA h3 (q24.add ((i1:Int).toNat*9)) [Value.bool false,Value.int .i64 0,Value.int .u64 0,Value.string (⟨#[]⟩:ByteArray),Value.slice (⟨none,0,0⟩:Sv).a (⟨none,0,0⟩:Sv).n (⟨none,0,0⟩:Sv).c,Value.int .i64 0,Value.slice (⟨none,0,0⟩:Sv).a (⟨none,0,0⟩:Sv).n (⟨none,0,0⟩:Sv).c,Value.int .i64 0,Value.slice (⟨none,0,0⟩:Sv).a (⟨none,0,0⟩:Sv).n (⟨none,0,0⟩:Sv).c] fun h4=>
  ∃(y26:Int) (y26_1:Int) (y26_2:ByteArray) (y26_3:Sv) (y26_4:Int) (y26_5:Sv) (y26_6:Int),cl h4 p5=some (Value.int .i64 y26)∧cl h4 (p5.add 1)=some (Value.int .u64 y26_1)∧cl h4 (p5.add 2)=some (Value.string y26_2)∧cl h4 (p5.add 3)=some (Value.slice y26_3.a y26_3.n y26_3.c)∧cl h4 (p5.add 4)=some (Value.int .i64 y26_4)∧cl h4 (p5.add 5)=some (Value.slice y26_5.a y26_5.n y26_5.c)∧cl h4 (p5.add 6)=some (Value.int .i64 y26_6) ∧
  cal Try.prog 54 #[Value.pointer vh0,Value.agg #[Value.int .i64 y26,Value.int .u64 y26_1,Value.string y26_2,Value.slice y26_3.a y26_3.n y26_3.c,Value.int .i64 y26_4,Value.slice y26_5.a y26_5.n y26_5.c,Value.int .i64 y26_6]] h4 fun u_1 h5=>asI .i64 u_1 fun x27=>
  R (Value.int .i64 x27) h5)
set_option maxRecDepth 100000 in
theorem F38 {vh0 i1 h:_} {R:Value→Heap→Prop} (H:L38 vh0 i1 h R):CallsH Try.prog 38 #[Value.pointer vh0,Value.int .i64 i1] h R:=by
 refine CallsH.enter (n:=28) Try.func38 rfl rfl rfl rfl ?_
 intro w0 aa ww S
 unfold L38 at H
 refine W.seq ?_
 refine W.region ?_
 refine OL.za S fun _ S=>?_
 refine OL.nil ?_
 refine W.seq ?_
 refine W.seq ?_
 refine W.region ?_
 refine OL.zm S fun _ S=>?_
 refine OL.zm S fun _ S=>?_
 refine ol_cal S H isfn55 rfl rfl trivial ?_
 clear S H;intro u aa ww h1 H S
 obtain⟨x8,rfl,H⟩:=H
 refine OL.zq S (Lf.run_not (S.ev rfl)) fun _ S=>?_
 refine OL.nil ?_
 refine W.cond S (b:=(!x8)) rfl (fun hb=>?_) (fun hb=>?_)
 ·
  replace H:=H.1 hb
  refine W.seq ?_
  refine W.region ?_
  refine OL.za S fun _ S=>?_
  refine OL.nil ?_
  refine W.ret ?_
  exact Ret.one S rfl rfl H
 ·
  replace H:=H.2 hb
  refine W.skip ?_
  refine W.seq ?_
  refine W.region ?_
  refine OL.zm S fun _ S=>?_
  obtain⟨p11,e,H⟩:=H
  refine OL.zq S (Lf.run_nc' (S.ev rfl) e) fun _ S=>?_
  refine OL.zf S fa56_0 fun _ S=>?_
  obtain⟨x13,c,H⟩:=H
  refine OL.zl S fl54 c fun _ S=>?_
  refine OL.zm S fun _ S=>?_
  obtain⟨q15,e_1,e_2,e_3,H⟩:=H
  refine OL.zq S (Lf.run_ixs (S.ev rfl) (S.ev rfl) Try.underlying54 ti89 e_1 e_2 e_3) fun _ S=>?_
  refine OL.zf S fa89_1 fun _ S=>?_
  obtain⟨y17,y17_1,y17_2,y17_3,y17_4,y17_5,y17_6,c_11,c_12,c_13,c_14,c_15,c_16,c_17,H⟩:=H
  refine OL.zq S (Lf.run_ldA (cs:=[Value.int .i64 y17,Value.int .u64 y17_1,Value.string y17_2,Value.slice y17_3.a y17_3.n y17_3.c,Value.int .i64 y17_4,Value.slice y17_5.a y17_5.n y17_5.c,Value.int .i64 y17_6]) (S.ev rfl) ag33 ti33 (by rw[S.heap];exact RowL.toRow ⟨c_11,c_12,c_13,c_14,c_15,c_16,c_17,trivial⟩)) fun _ S=>?_
  refine ol_alloc S H ti33 rfl rfl trivial ?_
  clear S H;intro p5 aa ww h2 H S
  refine ol_stoA S H rfl rfl ti33 trivial ?_
  clear S H;intro aa ww h3 H S
  refine OL.nil ?_
  refine W.seq ?_
  refine W.region ?_
  refine OL.zm S fun _ S=>?_
  obtain⟨p19,e_4,H⟩:=H
  refine OL.zq S (Lf.run_nc' (S.ev rfl) e_4) fun _ S=>?_
  refine OL.zf S fa56_0 fun _ S=>?_
  obtain⟨x21,c_2,H⟩:=H
  refine OL.zl S fl54 c_2 fun _ S=>?_
  refine OL.zm S fun _ S=>?_
  refine OL.zq S (Lf.run_build (cs:=#[Value.bool false,Value.int .i64 0,Value.int .u64 0,Value.string (⟨#[]⟩:ByteArray),Value.slice (⟨none,0,0⟩:Sv).a (⟨none,0,0⟩:Sv).n (⟨none,0,0⟩:Sv).c,Value.int .i64 0,Value.slice (⟨none,0,0⟩:Sv).a (⟨none,0,0⟩:Sv).n (⟨none,0,0⟩:Sv).c,Value.int .i64 0,Value.slice (⟨none,0,0⟩:Sv).a (⟨none,0,0⟩:Sv).n (⟨none,0,0⟩:Sv).c]) pl89 ti89 (parts_map S rfl) (by kernel_rfl)) fun _ S=>?_
  obtain⟨q24,e_5,e_6,e_7,H⟩:=H
  refine OL.zq S (Lf.run_ixs (S.ev rfl) (S.ev rfl) Try.underlying54 ti89 e_5 e_6 e_7) fun _ S=>?_
  refine ol_stoA S H rfl rfl ti89 trivial ?_
  clear S H;intro aa ww h4 H S
  refine OL.nil ?_
  refine W.seq ?_
  refine W.region ?_
  refine OL.zm S fun _ S=>?_
  obtain⟨y26,y26_1,y26_2,y26_3,y26_4,y26_5,y26_6,c_4,c_5,c_6,c_7,c_8,c_9,c_10,H⟩:=H
  refine OL.zq S (Lf.run_ldA (cs:=[Value.int .i64 y26,Value.int .u64 y26_1,Value.string y26_2,Value.slice y26_3.a y26_3.n y26_3.c,Value.int .i64 y26_4,Value.slice y26_5.a y26_5.n y26_5.c,Value.int .i64 y26_6]) (S.ev rfl) ag33 ti33 (by rw[S.heap];exact RowL.toRow ⟨c_4,c_5,c_6,c_7,c_8,c_9,c_10,trivial⟩)) fun _ S=>?_
  refine ol_cal S H isfn54 rfl rfl trivial ?_
  clear S H;intro u_1 aa ww h5 H S
  obtain⟨x27,rfl,H⟩:=H
  refine OL.za S fun _ S=>?_
  refine OL.nil ?_
  refine W.ret ?_
  exact Ret.one S rfl rfl H
def L39 (vh0:Option Addr) (p1:Int) (p1_1:Sv) (p1_2:Int) (h:Heap) (R:Value→Heap→Prop):Prop:=
 new 28 #[Value.int .i64 p1,Value.slice p1_1.a p1_1.n p1_1.c,Value.int .i64 p1_2] h fun p3 h1=>
 new 33 #[Value.int .i64 0,Value.int .u64 0,Value.string (⟨#[]⟩:ByteArray),Value.slice (⟨none,0,0⟩:Sv).a (⟨none,0,0⟩:Sv).n (⟨none,0,0⟩:Sv).c,Value.int .i64 0,Value.slice (⟨none,0,0⟩:Sv).a (⟨none,0,0⟩:Sv).n (⟨none,0,0⟩:Sv).c,Value.int .i64 0] h1 fun p4 h2=>
 ldI .i64 h2 p3 fun x8=>
 cal Try.prog 55 #[Value.pointer vh0,Value.int .i64 x8] h2 fun u h3=>asB u fun x9=>
 ifb (!x9) (
  stoA h3 p4 [Value.int .i64 0,Value.int .u64 0,Value.string (⟨#[]⟩:ByteArray),Value.slice (⟨none,0,0⟩:Sv).a (⟨none,0,0⟩:Sv).n (⟨none,0,0⟩:Sv).c,Value.int .i64 0,Value.slice (⟨none,0,0⟩:Sv).a (⟨none,0,0⟩:Sv).n (⟨none,0,0⟩:Sv).c,Value.int .i64 0] fun h4=>
  ∃(y:Int) (y_1:Int) (y_2:ByteArray) (y_3:Sv) (y_4:Int) (y_5:Sv) (y_6:Int),cl h4 p4=some (Value.int .i64 y)∧cl h4 (p4.add 1)=some (Value.int .u64 y_1)∧cl h4 (p4.add 2)=some (Value.string y_2)∧cl h4 (p4.add 3)=some (Value.slice y_3.a y_3.n y_3.c)∧cl h4 (p4.add 4)=some (Value.int .i64 y_4)∧cl h4 (p4.add 5)=some (Value.slice y_5.a y_5.n y_5.c)∧cl h4 (p4.add 6)=some (Value.int .i64 y_6) ∧
  R (.tuple #[Value.agg #[Value.int .i64 y,Value.int .u64 y_1,Value.string y_2,Value.slice y_3.a y_3.n y_3.c,Value.int .i64 y_4,Value.slice y_5.a y_5.n y_5.c,Value.int .i64 y_6],Value.int .i64 1]) h4) (
  nn vh0 fun p13=>
  ldS h3 p13 fun x15=>
  ldI .i64 h3 p3 fun x17=>
  ixS x15 x17 fun q18=>
  ∃(y20:Int) (y20_1:Int) (y20_2:ByteArray) (y20_3:Sv) (y20_4:Int) (y20_5:Sv) (y20_6:Int),cl h3 ((q18.add ((x17:Int).toNat*9)).add 1)=some (Value.int .i64 y20)∧cl h3 (((q18.add ((x17:Int).toNat*9)).add 1).add 1)=some (Value.int .u64 y20_1)∧cl h3 (((q18.add ((x17:Int).toNat*9)).add 1).add 2)=some (Value.string y20_2)∧cl h3 (((q18.add ((x17:Int).toNat*9)).add 1).add 3)=some (Value.slice y20_3.a y20_3.n y20_3.c)∧cl h3 (((q18.add ((x17:Int).toNat*9)).add 1).add 4)=some (Value.int .i64 y20_4)∧cl h3 (((q18.add ((x17:Int).toNat*9)).add 1).add 5)=some (Value.slice y20_5.a y20_5.n y20_5.c)∧cl h3 (((q18.add ((x17:Int).toNat*9)).add 1).add 6)=some (Value.int .i64 y20_6) ∧
  ldS h3 (p3.add 1) fun x22=>
  cal Try.prog 53 #[Value.agg #[Value.int .i64 y20,Value.int .u64 y20_1,Value.string y20_2,Value.slice y20_3.a y20_3.n y20_3.c,Value.int .i64 y20_4,Value.slice y20_5.a y20_5.n y20_5.c,Value.int .i64 y20_6],Value.slice x22.a x22.n x22.c] h3 fun u_1 h5=>∃(y23:Int) (y23_1:Int) (y23_2:ByteArray) (y23_3:Sv) (y23_4:Int) (y23_5:Sv) (y23_6:Int) (x23:Int),u_1=Value.tuple #[Value.agg #[Value.int .i64 y23,Value.int .u64 y23_1,Value.string y23_2,Value.slice y23_3.a y23_3.n y23_3.c,Value.int .i64 y23_4,Value.slice y23_5.a y23_5.n y23_5.c,Value.int .i64 y23_6],Value.int .i64 x23] ∧
  stoA h5 p4 [Value.int .i64 y23,Value.int .u64 y23_1,Value.string y23_2,Value.slice y23_3.a y23_3.n y23_3.c,Value.int .i64 y23_4,Value.slice y23_5.a y23_5.n y23_5.c,Value.int .i64 y23_6] fun h6=>
  ∃(y_7:Int) (y_8:Int) (y_9:ByteArray) (y_10:Sv) (y_11:Int) (y_12:Sv) (y_13:Int),cl h6 p4=some (Value.int .i64 y_7)∧cl h6 (p4.add 1)=some (Value.int .u64 y_8)∧cl h6 (p4.add 2)=some (Value.string y_9)∧cl h6 (p4.add 3)=some (Value.slice y_10.a y_10.n y_10.c)∧cl h6 (p4.add 4)=some (Value.int .i64 y_11)∧cl h6 (p4.add 5)=some (Value.slice y_12.a y_12.n y_12.c)∧cl h6 (p4.add 6)=some (Value.int .i64 y_13) ∧
  R (.tuple #[Value.agg #[Value.int .i64 y_7,Value.int .u64 y_8,Value.string y_9,Value.slice y_10.a y_10.n y_10.c,Value.int .i64 y_11,Value.slice y_12.a y_12.n y_12.c,Value.int .i64 y_13],Value.int .i64 x23]) h6)
set_option maxRecDepth 100000 in
theorem F39 {vh0 p1 p1_1 p1_2 h:_} {R:Value→Heap→Prop} (H:L39 vh0 p1 p1_1 p1_2 h R):CallsH Try.prog 39 #[Value.pointer vh0,Value.agg #[Value.int .i64 p1,Value.slice p1_1.a p1_1.n p1_1.c,Value.int .i64 p1_2]] h R:=by
 refine CallsH.enter (n:=26) Try.func39 rfl rfl rfl rfl ?_
 intro w0 aa ww S
 unfold L39 at H
 refine W.seq ?_
 refine W.region ?_
 refine ol_box S H rfl rfl rfl trivial ?_
 clear S H;intro p3 aa ww h1 H S
 refine ol_alloc S H ti33 rfl rfl trivial ?_
 clear S H;intro p4 aa ww h2 H S
 refine OL.za S fun _ S=>?_
 refine OL.nil ?_
 refine W.seq ?_
 refine W.seq ?_
 refine W.region ?_
 refine OL.zm S fun _ S=>?_
 refine OL.zf S fa28_0 fun _ S=>?_
 obtain⟨x8,c,H⟩:=H
 refine OL.zl S fl3 c fun _ S=>?_
 refine ol_cal S H isfn55 rfl rfl trivial ?_
 clear S H;intro u aa ww h3 H S
 obtain⟨x9,rfl,H⟩:=H
 refine OL.zq S (Lf.run_not (S.ev rfl)) fun _ S=>?_
 refine OL.nil ?_
 refine W.cond S (b:=(!x9)) rfl (fun hb=>?_) (fun hb=>?_)
 ·
  replace H:=H.1 hb
  refine W.seq ?_
  refine W.region ?_
  refine OL.zq S (Lf.run_build (cs:=#[Value.int .i64 0,Value.int .u64 0,Value.string (⟨#[]⟩:ByteArray),Value.slice (⟨none,0,0⟩:Sv).a (⟨none,0,0⟩:Sv).n (⟨none,0,0⟩:Sv).c,Value.int .i64 0,Value.slice (⟨none,0,0⟩:Sv).a (⟨none,0,0⟩:Sv).n (⟨none,0,0⟩:Sv).c,Value.int .i64 0]) pl33 ti33 (parts_map S rfl) (by kernel_rfl)) fun _ S=>?_
  refine ol_stoA S H rfl rfl ti33 trivial ?_
  clear S H;intro aa ww h4 H S
  refine OL.za S fun _ S=>?_
  refine OL.nil ?_
  refine W.ret ?_
  obtain⟨y,y_1,y_2,y_3,y_4,y_5,y_6,c_1,c_2,c_3,c_4,c_5,c_6,c_7,H⟩:=H
  exact Ret.gen S rfl (RV.cellA (cs:=[Value.int .i64 y,Value.int .u64 y_1,Value.string y_2,Value.slice y_3.a y_3.n y_3.c,Value.int .i64 y_4,Value.slice y_5.a y_5.n y_5.c,Value.int .i64 y_6]) rfl ag33 ti33 ⟨c_1,c_2,c_3,c_4,c_5,c_6,c_7,trivial⟩ (RV.tmp rfl RV.nil)) rfl H
 ·
  replace H:=H.2 hb
  refine W.skip ?_
  refine W.seq ?_
  replace S:=S.sub [(0,Value.pointer vh0),(3,Value.pointer (some p3)),(4,Value.pointer (some p4))] ⟨rfl,rfl,rfl,trivial⟩
  refine W.regionD S (by kernel_rfl) ?_
  clear S;intro ww S
  refine AN.zq 0 S rfl (fun _=>Lf.run_move (S.ev rfl)) fun _ S=>?_
  obtain⟨p13,e,H⟩:=H
  refine AN.zq 1 S rfl (fun _=>Lf.run_nc' (S.ev rfl) e) fun _ S=>?_
  refine AN.zq 2 S rfl (fun _=>Lf.run_fa (S.ev rfl) fa56_0) fun _ S=>?_
  obtain⟨x15,c_8,H⟩:=H
  refine AN.zl 3 S rfl (fun _ hx=>Lf.run_ld (S.ev rfl) fl54 (hx.cell _ _ (S.cl c_8))) fun _ S=>?_
  refine AN.zq 4 S rfl (fun _=>Lf.run_fa (S.ev rfl) fa28_0) fun _ S=>?_
  obtain⟨x17,c_9,H⟩:=H
  refine AN.zl 5 S rfl (fun _ hx=>Lf.run_ld (S.ev rfl) fl3 (hx.cell _ _ (S.cl c_9))) fun _ S=>?_
  obtain⟨q18,e_1,e_2,e_3,H⟩:=H
  refine AN.zq 6 S rfl (fun _=>Lf.run_ixs (S.ev rfl) (S.ev rfl) Try.underlying54 ti89 e_1 e_2 e_3) fun _ S=>?_
  refine AN.zq 7 S rfl (fun _=>Lf.run_fa (S.ev rfl) fa89_1) fun _ S=>?_
  obtain⟨y20,y20_1,y20_2,y20_3,y20_4,y20_5,y20_6,c_19,c_20,c_21,c_22,c_23,c_24,c_25,H⟩:=H
  refine AN.zl 8 S rfl (fun _ hx=>Lf.run_ldA (cs:=[Value.int .i64 y20,Value.int .u64 y20_1,Value.string y20_2,Value.slice y20_3.a y20_3.n y20_3.c,Value.int .i64 y20_4,Value.slice y20_5.a y20_5.n y20_5.c,Value.int .i64 y20_6]) (S.ev rfl) ag33 ti33 (hx.row (S.row ⟨c_19,c_20,c_21,c_22,c_23,c_24,c_25,trivial⟩))) fun _ S=>?_
  refine AN.zq 9 S rfl (fun _=>Lf.run_fa (S.ev rfl) fa28_1) fun _ S=>?_
  obtain⟨x22,c_11,H⟩:=H
  refine AN.zl 10 S rfl (fun _ hx=>Lf.run_ld (S.ev rfl) fl26 (hx.cell _ _ (S.cl c_11))) fun _ S=>?_
  refine AN.eff 11 rfl (by kernel_rfl) ?_
  refine ol_cal S H isfn53 rfl rfl trivial ?_
  clear S H;intro u_1 aa ww h5 H S
  obtain⟨y23,y23_1,y23_2,y23_3,y23_4,y23_5,y23_6,x23,rfl,H⟩:=H
  refine OL.nil ?_
  refine AN.zq 12 S rfl (fun _=>Lf.run_ex (S.ev rfl) rfl) fun _ S=>?_
  refine AN.zq 13 S rfl (fun _=>Lf.run_ex (S.ev rfl) rfl) fun _ S=>?_
  refine AN.eff 14 rfl (by kernel_rfl) ?_
  refine ol_stoA S H rfl rfl ti33 trivial ?_
  clear S H;intro aa ww h6 H S
  refine OL.nil ?_
  refine AN.zq 15 S rfl (fun _=>Lf.run_assign (S.ev rfl)) fun _ S=>?_
  refine AN.done (by kernel_rfl) ?_
  refine W.ret ?_
  obtain⟨y_7,y_8,y_9,y_10,y_11,y_12,y_13,c_12,c_13,c_14,c_15,c_16,c_17,c_18,H⟩:=H
  exact Ret.gen S rfl (RV.cellA (cs:=[Value.int .i64 y_7,Value.int .u64 y_8,Value.string y_9,Value.slice y_10.a y_10.n y_10.c,Value.int .i64 y_11,Value.slice y_12.a y_12.n y_12.c,Value.int .i64 y_13]) rfl ag33 ti33 ⟨c_12,c_13,c_14,c_15,c_16,c_17,c_18,trivial⟩ (RV.tmp rfl RV.nil)) rfl H
def L40 (vh0:Option Addr) (v1:Int) (v1_1:Int) (v1_2:ByteArray) (v1_3:Sv) (v1_4:Int) (v1_5:Sv) (v1_6:Int) (h:Heap) (R:Value→Heap→Prop):Prop:=
 new 33 #[Value.int .i64 v1,Value.int .u64 v1_1,Value.string v1_2,Value.slice v1_3.a v1_3.n v1_3.c,Value.int .i64 v1_4,Value.slice v1_5.a v1_5.n v1_5.c,Value.int .i64 v1_6] h fun p3 h1=>
 new 28 #[Value.int .i64 0,Value.slice (⟨none,0,0⟩:Sv).a (⟨none,0,0⟩:Sv).n (⟨none,0,0⟩:Sv).c,Value.int .i64 0] h1 fun p4 h2=>
 ∃Sq:Heap→Prop,Sq h2∧(
  nn vh0 fun p10=>
  hlI .i64 Sq (p10.add 2) fun x12=>
  cal Try.prog 56 #[Value.pointer vh0] h2 fun u h3=>asI .i64 u fun x8=>
  Sq h3 ∧
  ifb (decide (x12≤x8)) (
   stoA h3 p4 [Value.int .i64 0,Value.slice (⟨none,0,0⟩:Sv).a (⟨none,0,0⟩:Sv).n (⟨none,0,0⟩:Sv).c,Value.int .i64 0] fun h4=>
   ∃(y:Int) (y_1:Sv) (y_2:Int),cl h4 p4=some (Value.int .i64 y)∧cl h4 (p4.add 1)=some (Value.slice y_1.a y_1.n y_1.c)∧cl h4 (p4.add 2)=some (Value.int .i64 y_2) ∧
   R (.tuple #[Value.agg #[Value.int .i64 y,Value.slice y_1.a y_1.n y_1.c,Value.int .i64 y_2],Value.bool false]) h4) (
   nn vh0 fun p16=>
   ldI .i64 h3 (p16.add 1) fun x18=>
   nn vh0 fun p20=>
   sto h3 (p20.add 1) (Value.int .i64 (IntKind.i64.wrap (x18+1))) fun h5=>
   ∃(y22:Int) (y22_1:Int) (y22_2:ByteArray) (y22_3:Sv) (y22_4:Int) (y22_5:Sv) (y22_6:Int),cl h5 p3=some (Value.int .i64 y22)∧cl h5 (p3.add 1)=some (Value.int .u64 y22_1)∧cl h5 (p3.add 2)=some (Value.string y22_2)∧cl h5 (p3.add 3)=some (Value.slice y22_3.a y22_3.n y22_3.c)∧cl h5 (p3.add 4)=some (Value.int .i64 y22_4)∧cl h5 (p3.add 5)=some (Value.slice y22_5.a y22_5.n y22_5.c)∧cl h5 (p3.add 6)=some (Value.int .i64 y22_6) ∧
   new 89 #[Value.bool false,Value.int .i64 0,Value.int .u64 0,Value.string (⟨#[]⟩:ByteArray),Value.slice (⟨none,0,0⟩:Sv).a (⟨none,0,0⟩:Sv).n (⟨none,0,0⟩:Sv).c,Value.int .i64 0,Value.slice (⟨none,0,0⟩:Sv).a (⟨none,0,0⟩:Sv).n (⟨none,0,0⟩:Sv).c,Value.int .i64 0,Value.slice (⟨none,0,0⟩:Sv).a (⟨none,0,0⟩:Sv).n (⟨none,0,0⟩:Sv).c] h5 fun p6 h6=>
   stoA h6 p6 [Value.bool true,Value.int .i64 y22,Value.int .u64 y22_1,Value.string y22_2,Value.slice y22_3.a y22_3.n y22_3.c,Value.int .i64 y22_4,Value.slice y22_5.a y22_5.n y22_5.c,Value.int .i64 y22_6,Value.slice (⟨none,0,0⟩:Sv).a (⟨none,0,0⟩:Sv).n (⟨none,0,0⟩:Sv).c] fun h7=>
   ∃J:Heap→Prop,(
    nn vh0 fun p25=>
    ldB h7 (p25.add 3) fun x27=>
    ifb x27 (
     nn vh0 fun p29=>
     ldI .i64 h7 (p29.add 1) fun x31=>
     newS 80 #[Value.int .i64 x31,Value.slice (⟨none,0,0⟩:Sv).a (⟨none,0,0⟩:Sv).n (⟨none,0,0⟩:Sv).c,Value.bool true] 1 h7 fun s33 h8=>
     sto h8 (p6.add 8) (Value.slice s33.a s33.n s33.c) fun h9=>
     J h9) (
     J h7))∧(∀h10,J h10 →
   nn vh0 fun p37=>
   ldS h10 p37 fun x39=>
   ∃(y40:Bool) (y40_1:Int) (y40_2:Int) (y40_3:ByteArray) (y40_4:Sv) (y40_5:Int) (y40_6:Sv) (y40_7:Int) (y40_8:Sv),cl h10 p6=some (Value.bool y40)∧cl h10 (p6.add 1)=some (Value.int .i64 y40_1)∧cl h10 (p6.add 2)=some (Value.int .u64 y40_2)∧cl h10 (p6.add 3)=some (Value.string y40_3)∧cl h10 (p6.add 4)=some (Value.slice y40_4.a y40_4.n y40_4.c)∧cl h10 (p6.add 5)=some (Value.int .i64 y40_5)∧cl h10 (p6.add 6)=some (Value.slice y40_6.a y40_6.n y40_6.c)∧cl h10 (p6.add 7)=some (Value.int .i64 y40_7)∧cl h10 (p6.add 8)=some (Value.slice y40_8.a y40_8.n y40_8.c) ∧
   newS 89 #[Value.bool y40,Value.int .i64 y40_1,Value.int .u64 y40_2,Value.string y40_3,Value.slice y40_4.a y40_4.n y40_4.c,Value.int .i64 y40_5,Value.slice y40_6.a y40_6.n y40_6.c,Value.int .i64 y40_7,Value.slice y40_8.a y40_8.n y40_8.c] 1 h10 fun s41 h11=>
   appS 89 (Value.agg #[Value.bool false,Value.int .i64 0,Value.int .u64 0,Value.string (⟨#[]⟩:ByteArray),Value.slice (⟨none,0,0⟩:Sv).a (⟨none,0,0⟩:Sv).n (⟨none,0,0⟩:Sv).c,Value.int .i64 0,Value.slice (⟨none,0,0⟩:Sv).a (⟨none,0,0⟩:Sv).n (⟨none,0,0⟩:Sv).c,Value.int .i64 0,Value.slice (⟨none,0,0⟩:Sv).a (⟨none,0,0⟩:Sv).n (⟨none,0,0⟩:Sv).c]).cells 9 128 h11 x39 s41 fun s42 h12=>
   nn vh0 fun p43=>
   sto h12 p43 (Value.slice s42.a s42.n s42.c) fun h13=>
   nn vh0 fun p46=>
   ldS h13 p46 fun x48=>
   nn vh0 fun p52=>
   ldI .i64 h13 (p52.add 1) fun x54=>
   stoA h13 p4 [Value.int .i64 (IntKind.i64.wrap (((x48.n:Nat):Int) - 1)),Value.slice (⟨none,0,0⟩:Sv).a (⟨none,0,0⟩:Sv).n (⟨none,0,0⟩:Sv).c,Value.int .i64 x54] fun h14=>
   ∃(y_3:Int) (y_4:Sv) (y_5:Int),cl h14 p4=some (Value.int .i64 y_3)∧cl h14 (p4.add 1)=some (Value.slice y_4.a y_4.n y_4.c)∧cl h14 (p4.add 2)=some (Value.int .i64 y_5) ∧
   R (.tuple #[Value.agg #[Value.int .i64 y_3,Value.slice y_4.a y_4.n y_4.c,Value.int .i64 y_5],Value.bool true]) h14)))
set_option maxRecDepth 100000 in
theorem F40 {vh0 v1 v1_1 v1_2 v1_3 v1_4 v1_5 v1_6 h:_} {R:Value→Heap→Prop} (H:L40 vh0 v1 v1_1 v1_2 v1_3 v1_4 v1_5 v1_6 h R):CallsH Try.prog 40 #[Value.pointer vh0,Value.agg #[Value.int .i64 v1,Value.int .u64 v1_1,Value.string v1_2,Value.slice v1_3.a v1_3.n v1_3.c,Value.int .i64 v1_4,Value.slice v1_5.a v1_5.n v1_5.c,Value.int .i64 v1_6]] h R:=by
 refine CallsH.enter (n:=56) Try.func40 rfl rfl rfl rfl ?_
 intro w0 aa ww S
 unfold L40 at H
 refine W.seq ?_
 refine W.region ?_
 refine ol_box S H rfl rfl rfl trivial ?_
 clear S H;intro p3 aa ww h1 H S
 refine ol_alloc S H ti28 rfl rfl trivial ?_
 clear S H;intro p4 aa ww h2 H S
 refine OL.za S fun _ S=>?_
 refine OL.nil ?_
 refine W.seq ?_
 refine W.seq ?_
 replace S:=S.sub [(0,Value.pointer vh0),(3,Value.pointer (some p3)),(4,Value.pointer (some p4))] ⟨rfl,rfl,rfl,trivial⟩
 obtain⟨Sq,HS,H⟩:=H
 refine W.regionN [5] [1] Sq S (by kernel_rfl) ?_
 clear S;intro ww S
 refine BN.pure 0 S (fun _=>HS) rfl (by kernel_rfl) (by kernel_rfl) (fun _=>Lf.run_move (S.ev rfl)) rfl rfl trivial fun _ S=>?_
 refine BN.pure 2 S (fun _=>HS) rfl (by kernel_rfl) (by kernel_rfl) (fun _=>Lf.run_move (S.ev rfl)) rfl rfl trivial fun _ S=>?_
 obtain⟨p10,e,H⟩:=H
 refine BN.pure 3 S (fun _=>HS) rfl (by kernel_rfl) (by kernel_rfl) (fun _=>Lf.run_nc' (S.ev rfl) e) rfl rfl trivial fun _ S=>?_
 refine BN.pure 4 S (fun _=>HS) rfl (by kernel_rfl) (by kernel_rfl) (fun _=>Lf.run_fa (S.ev rfl) fa56_2) rfl rfl trivial fun _ S=>?_
 obtain⟨x12,c,H⟩:=H
 refine BN.held 5 S HS rfl (by kernel_rfl) (fun _ hq=>Lf.run_ld (S.ev rfl) fl3 (c _ hq)) rfl rfl trivial fun _ S=>?_
 refine BN.eff 1 rfl (by kernel_rfl) ?_
 refine ol_cal S H isfn56 rfl rfl trivial ?_
 clear S H;intro u aa ww h3 H S
 obtain⟨x8,rfl,H⟩:=H
 refine OL.nil ?_
 clear HS;obtain⟨HS,H⟩:=H
 refine⟨fun _=>by rw[S.heap];exact HS,?_⟩
 refine BN.pure 6 S (fun _=>HS) rfl (by kernel_rfl) (by kernel_rfl) (fun _=>Lf.run_geq (S.ev rfl) (S.ev rfl)) rfl rfl trivial fun _ S=>?_
 refine BN.done (by kernel_rfl) ?_
 refine W.cond S (b:=(decide (x12≤x8))) rfl (fun hb=>?_) (fun hb=>?_)
 ·
  replace H:=H.1 hb
  refine W.seq ?_
  refine W.region ?_
  refine OL.zq S (Lf.run_build (cs:=#[Value.int .i64 0,Value.slice (⟨none,0,0⟩:Sv).a (⟨none,0,0⟩:Sv).n (⟨none,0,0⟩:Sv).c,Value.int .i64 0]) pl28 ti28 (parts_map S rfl) (by kernel_rfl)) fun _ S=>?_
  refine ol_stoA S H rfl rfl ti28 trivial ?_
  clear S H;intro aa ww h4 H S
  refine OL.za S fun _ S=>?_
  refine OL.nil ?_
  refine W.ret ?_
  obtain⟨y,y_1,y_2,c_1,c_2,c_3,H⟩:=H
  exact Ret.gen S rfl (RV.cellA (cs:=[Value.int .i64 y,Value.slice y_1.a y_1.n y_1.c,Value.int .i64 y_2]) rfl ag28 ti28 ⟨c_1,c_2,c_3,trivial⟩ (RV.tmp rfl RV.nil)) rfl H
 ·
  replace H:=H.2 hb
  refine W.skip ?_
  refine W.seq ?_
  refine W.region ?_
  refine OL.zm S fun _ S=>?_
  obtain⟨p16,e_1,H⟩:=H
  refine OL.zq S (Lf.run_nc' (S.ev rfl) e_1) fun _ S=>?_
  refine OL.zf S fa56_1 fun _ S=>?_
  obtain⟨x18,c_4,H⟩:=H
  refine OL.zl S fl3 c_4 fun _ S=>?_
  refine OL.zq S (Lf.run_add (S.ev rfl) (S.ev rfl)) fun _ S=>?_
  obtain⟨p20,e_2,H⟩:=H
  refine OL.zq S (Lf.run_nc' (S.ev rfl) e_2) fun _ S=>?_
  refine OL.zf S fa56_1 fun _ S=>?_
  refine ol_sto S H rfl rfl rfl ti3 trivial ?_
  clear S H;intro aa ww h5 H S
  refine OL.nil ?_
  refine W.seq ?_
  refine W.region ?_
  obtain⟨y22,y22_1,y22_2,y22_3,y22_4,y22_5,y22_6,c_24,c_25,c_26,c_27,c_28,c_29,c_30,H⟩:=H
  refine OL.zq S (Lf.run_ldA (cs:=[Value.int .i64 y22,Value.int .u64 y22_1,Value.string y22_2,Value.slice y22_3.a y22_3.n y22_3.c,Value.int .i64 y22_4,Value.slice y22_5.a y22_5.n y22_5.c,Value.int .i64 y22_6]) (S.ev rfl) ag33 ti33 (by rw[S.heap];exact RowL.toRow ⟨c_24,c_25,c_26,c_27,c_28,c_29,c_30,trivial⟩)) fun _ S=>?_
  refine OL.zq S (Lf.run_build (cs:=#[Value.bool true,Value.int .i64 y22,Value.int .u64 y22_1,Value.string y22_2,Value.slice y22_3.a y22_3.n y22_3.c,Value.int .i64 y22_4,Value.slice y22_5.a y22_5.n y22_5.c,Value.int .i64 y22_6,Value.slice (⟨none,0,0⟩:Sv).a (⟨none,0,0⟩:Sv).n (⟨none,0,0⟩:Sv).c]) pl89 ti89 (parts_map S rfl) (by kernel_rfl)) fun _ S=>?_
  refine ol_alloc S H ti89 rfl rfl trivial ?_
  clear S H;intro p6 aa ww h6 H S
  refine ol_stoA S H rfl rfl ti89 trivial ?_
  clear S H;intro aa ww h7 H S
  refine OL.nil ?_
  obtain⟨J,H,HK⟩:=H
  refine W.seqJ (fun aa ww=>∃h10,St 56 [(0,Value.pointer vh0),(4,Value.pointer (some p4)),(6,Value.pointer (some p6))] h10 w0 aa ww∧J h10) ?_ ?_
  ·
   clear HK
   refine W.seq ?_
   refine W.region ?_
   refine OL.zm S fun _ S=>?_
   obtain⟨p25,e_3,H⟩:=H
   refine OL.zq S (Lf.run_nc' (S.ev rfl) e_3) fun _ S=>?_
   refine OL.zf S fa56_3 fun _ S=>?_
   obtain⟨x27,c_6,H⟩:=H
   refine OL.zl S fl4 c_6 fun _ S=>?_
   refine OL.nil ?_
   refine W.cond S (b:=x27) rfl (fun hb_1=>?_) (fun hb_1=>?_)
   ·
    replace H:=H.1 hb_1
    refine W.region ?_
    refine OL.zm S fun _ S=>?_
    obtain⟨p29,e_4,H⟩:=H
    refine OL.zq S (Lf.run_nc' (S.ev rfl) e_4) fun _ S=>?_
    refine OL.zf S fa56_1 fun _ S=>?_
    obtain⟨x31,c_7,H⟩:=H
    refine OL.zl S fl3 c_7 fun _ S=>?_
    refine OL.zq S (Lf.run_build (cs:=#[Value.int .i64 x31,Value.slice (⟨none,0,0⟩:Sv).a (⟨none,0,0⟩:Sv).n (⟨none,0,0⟩:Sv).c,Value.bool true]) pl80 ti80 (parts_map S rfl) (by kernel_rfl)) fun _ S=>?_
    refine ol_newS S H Try.underlying69 ti80 (by decide) (parts_map S rfl) (by kernel_rfl) (by decide) rfl trivial ?_
    clear S H;intro s33 aa ww h8 H S
    refine OL.zf S fa89_2 fun _ S=>?_
    refine ol_sto S H rfl rfl rfl ti69 trivial ?_
    clear S H;intro aa ww h9 H S
    refine OL.nil ?_
    exact⟨h9,S.sub _ ⟨rfl,rfl,rfl,trivial⟩,H⟩
   ·
    replace H:=H.2 hb_1
    refine W.skip ?_
    exact⟨h7,S.sub _ ⟨rfl,rfl,rfl,trivial⟩,H⟩
  ·
   clear H S
   rintro aa ww ⟨h10,S,HJ⟩
   have H:=HK _ HJ
   clear HK HJ
   refine W.seq ?_
   replace S:=S.sub [(0,Value.pointer vh0),(4,Value.pointer (some p4)),(6,Value.pointer (some p6))] ⟨rfl,rfl,rfl,trivial⟩
   refine W.regionD S (by kernel_rfl) ?_
   clear S;intro ww S
   refine AN.zq 0 S rfl (fun _=>Lf.run_move (S.ev rfl)) fun _ S=>?_
   refine AN.zq 1 S rfl (fun _=>Lf.run_move (S.ev rfl)) fun _ S=>?_
   obtain⟨p37,e_5,H⟩:=H
   refine AN.zq 2 S rfl (fun _=>Lf.run_nc' (S.ev rfl) e_5) fun _ S=>?_
   refine AN.zq 3 S rfl (fun _=>Lf.run_fa (S.ev rfl) fa56_0) fun _ S=>?_
   obtain⟨x39,c_8,H⟩:=H
   refine AN.zl 4 S rfl (fun _ hx=>Lf.run_ld (S.ev rfl) fl54 (hx.cell _ _ (S.cl c_8))) fun _ S=>?_
   obtain⟨y40,y40_1,y40_2,y40_3,y40_4,y40_5,y40_6,y40_7,y40_8,c_15,c_16,c_17,c_18,c_19,c_20,c_21,c_22,c_23,H⟩:=H
   refine AN.zl 5 S rfl (fun _ hx=>Lf.run_ldA (cs:=[Value.bool y40,Value.int .i64 y40_1,Value.int .u64 y40_2,Value.string y40_3,Value.slice y40_4.a y40_4.n y40_4.c,Value.int .i64 y40_5,Value.slice y40_6.a y40_6.n y40_6.c,Value.int .i64 y40_7,Value.slice y40_8.a y40_8.n y40_8.c]) (S.ev rfl) ag89 ti89 (hx.row (S.row ⟨c_15,c_16,c_17,c_18,c_19,c_20,c_21,c_22,c_23,trivial⟩))) fun _ S=>?_
   refine AN.eff 6 rfl (by kernel_rfl) ?_
   refine ol_newS S H Try.underlying54 ti89 (by decide) (parts_map S rfl) (by kernel_rfl) (by decide) rfl trivial ?_
   clear S H;intro s41 aa ww h11 H S
   refine OL.nil ?_
   refine AN.eff 7 rfl (by kernel_rfl) ?_
   refine ol_appS S H Try.underlying54 ti89 rfl rfl rfl trivial ?_
   clear S H;intro s42 aa ww h12 H S
   refine OL.nil ?_
   obtain⟨p43,e_6,H⟩:=H
   refine AN.zq 8 S rfl (fun _=>Lf.run_nc' (S.ev rfl) e_6) fun _ S=>?_
   refine AN.zq 9 S rfl (fun _=>Lf.run_fa (S.ev rfl) fa56_0) fun _ S=>?_
   refine AN.eff 10 rfl (by kernel_rfl) ?_
   refine ol_sto S H rfl rfl rfl ti54 trivial ?_
   clear S H;intro aa ww h13 H S
   refine OL.nil ?_
   refine AN.done (by kernel_rfl) ?_
   refine W.seq ?_
   replace S:=S.sub [(0,Value.pointer vh0),(4,Value.pointer (some p4))] ⟨rfl,rfl,trivial⟩
   refine W.regionD S (by kernel_rfl) ?_
   clear S;intro ww S
   refine AN.zq 0 S rfl (fun _=>Lf.run_move (S.ev rfl)) fun _ S=>?_
   obtain⟨p46,e_7,H⟩:=H
   refine AN.zq 1 S rfl (fun _=>Lf.run_nc' (S.ev rfl) e_7) fun _ S=>?_
   refine AN.zq 2 S rfl (fun _=>Lf.run_fa (S.ev rfl) fa56_0) fun _ S=>?_
   obtain⟨x48,c_10,H⟩:=H
   refine AN.zl 3 S rfl (fun _ hx=>Lf.run_ld (S.ev rfl) fl54 (hx.cell _ _ (S.cl c_10))) fun _ S=>?_
   refine AN.zq 4 S rfl (fun _=>Lf.run_lens (S.ev rfl) rfl Try.underlying54) fun _ S=>?_
   refine AN.zq 5 S rfl (fun _=>Lf.run_sub (S.ev rfl) (S.ev rfl)) fun _ S=>?_
   refine AN.zq 6 S rfl (fun _=>Lf.run_move (S.ev rfl)) fun _ S=>?_
   obtain⟨p52,e_8,H⟩:=H
   refine AN.zq 7 S rfl (fun _=>Lf.run_nc' (S.ev rfl) e_8) fun _ S=>?_
   refine AN.zq 8 S rfl (fun _=>Lf.run_fa (S.ev rfl) fa56_1) fun _ S=>?_
   obtain⟨x54,c_11,H⟩:=H
   refine AN.zl 9 S rfl (fun _ hx=>Lf.run_ld (S.ev rfl) fl3 (hx.cell _ _ (S.cl c_11))) fun _ S=>?_
   refine AN.zq 10 S rfl (fun _=>Lf.run_build (cs:=#[Value.int .i64 (IntKind.i64.wrap (((x48.n:Nat):Int) - 1)),Value.slice (⟨none,0,0⟩:Sv).a (⟨none,0,0⟩:Sv).n (⟨none,0,0⟩:Sv).c,Value.int .i64 x54]) pl28 ti28 (parts_map S rfl) (by kernel_rfl)) fun _ S=>?_
   refine AN.eff 11 rfl (by kernel_rfl) ?_
   refine ol_stoA S H rfl rfl ti28 trivial ?_
   clear S H;intro aa ww h14 H S
   refine OL.nil ?_
   refine AN.zq 12 S rfl (fun _=>Lf.run_assign (S.ev rfl)) fun _ S=>?_
   refine AN.done (by kernel_rfl) ?_
   refine W.ret ?_
   obtain⟨y_3,y_4,y_5,c_12,c_13,c_14,H⟩:=H
   exact Ret.gen S rfl (RV.cellA (cs:=[Value.int .i64 y_3,Value.slice y_4.a y_4.n y_4.c,Value.int .i64 y_5]) rfl ag28 ti28 ⟨c_12,c_13,c_14,trivial⟩ (RV.tmp rfl RV.nil)) rfl H
def L41 (a0:Int) (a0_1:Sv) (a0_2:Int) (b1:Int) (b1_1:Sv) (b1_2:Int) (tags2:Bool) (h:Heap) (R:Value→Heap→Prop):Prop:=
 new 28 #[Value.int .i64 a0,Value.slice a0_1.a a0_1.n a0_1.c,Value.int .i64 a0_2] h fun p3 h1=>
 new 28 #[Value.int .i64 b1,Value.slice b1_1.a b1_1.n b1_1.c,Value.int .i64 b1_2] h1 fun p4 h2=>
 ldI .i64 h2 p3 fun x8=>
 ldI .i64 h2 p4 fun x10=>
 ∃J:Bool→Heap→Prop,(andj (x8 == x10) (fun k=>
  ldS h2 (p3.add 1) fun x14=>
  ldS h2 (p4.add 1) fun x16=>
  cal Try.prog 57 #[Value.slice x14.a x14.n x14.c,Value.slice x16.a x16.n x16.c] h2 fun u h4=>asB u fun x17=>
  k x17 h4) h2 J)∧∀x18 h3,J x18 h3 →
 ∃J_1:Bool→Prop,(andr x18 (fun k_1=>
  ∃J_2:Bool→Prop,(orr (!tags2) (fun k_2=>
   ldI .i64 h3 (p3.add 2) fun x24=>
   ldI .i64 h3 (p4.add 2) fun x26=>
   k_2 (x24 == x26)) J_2)∧∀x28,J_2 x28 →
  k_1 x28) J_1)∧∀x29,J_1 x29 →
 R (Value.bool x29) h3
set_option maxRecDepth 100000 in
theorem F41 {a0 a0_1 a0_2 b1 b1_1 b1_2 tags2 h:_} {R:Value→Heap→Prop} (H:L41 a0 a0_1 a0_2 b1 b1_1 b1_2 tags2 h R):CallsH Try.prog 41 #[Value.agg #[Value.int .i64 a0,Value.slice a0_1.a a0_1.n a0_1.c,Value.int .i64 a0_2],Value.agg #[Value.int .i64 b1,Value.slice b1_1.a b1_1.n b1_1.c,Value.int .i64 b1_2],Value.bool tags2] h R:=by
 refine CallsH.enter (n:=30) Try.func41 rfl rfl rfl rfl ?_
 intro w0 aa ww S
 unfold L41 at H
 refine W.seq ?_
 refine W.region ?_
 refine ol_box S H rfl rfl rfl trivial ?_
 clear S H;intro p3 aa ww h1 H S
 refine ol_box S H rfl rfl rfl trivial ?_
 clear S H;intro p4 aa ww h2 H S
 refine OL.za S fun _ S=>?_
 refine OL.nil ?_
 refine W.seq ?_
 refine W.region ?_
 refine OL.zf S fa28_0 fun _ S=>?_
 obtain⟨x8,c,H⟩:=H
 refine OL.zl S fl3 c fun _ S=>?_
 refine OL.zf S fa28_0 fun _ S=>?_
 obtain⟨x10,c_1,H⟩:=H
 refine OL.zl S fl3 c_1 fun _ S=>?_
 refine OL.zq S (Lf.run_eql (S.ev rfl) (S.ev rfl)) fun _ S=>?_
 refine OL.zm S fun _ S=>?_
 obtain⟨J,H,HK⟩:=H
 refine OL.cutN 6 (fun aa ww=>∃x18 h3,St 30 ((18,Value.bool x18) :: [(2,Value.bool tags2),(3,Value.pointer (some p3)),(4,Value.pointer (some p4)),(7,Value.pointer (some p3)),(8,Value.int .i64 x8),(9,Value.pointer (some p4)),(10,Value.int .i64 x10),(11,Value.bool (x8 == x10)),(12,Value.bool (x8 == x10))]) h3 w0 aa ww∧J x18 h3) ?_ ?_
 ·
  rcases Bool.eq_false_or_eq_true (x8 == x10) with hb|hb
  ·
   replace H:=H.1 hb
   refine OL.zf (hg:=GOk.mk rfl rfl hb) S fa28_1 fun _ S=>?_
   obtain⟨x14,c_2,H⟩:=H
   refine OL.zl (hg:=GOk.mk rfl rfl hb) S fl26 c_2 fun _ S=>?_
   refine OL.zf (hg:=GOk.mk rfl rfl hb) S fa28_1 fun _ S=>?_
   obtain⟨x16,c_3,H⟩:=H
   refine OL.zl (hg:=GOk.mk rfl rfl hb) S fl26 c_3 fun _ S=>?_
   refine ol_cal S H isfn57 rfl rfl (GOk.mk rfl rfl hb) ?_
   clear S H;intro u aa ww h4 H S
   obtain⟨x17,rfl,H⟩:=H
   refine OL.zq S (Lf.run_pickT (S.ev rfl) hb (S.ev rfl)) fun _ S=>?_
   refine OL.nil ?_
   exact⟨_,_,S.sub _ ⟨rfl,rfl,rfl,rfl,rfl,rfl,rfl,rfl,rfl,rfl,trivial⟩,H⟩
  ·
   replace H:=H.2 hb
   refine OL.zn S (GNo.mk rfl rfl hb) fun _ S=>?_
   refine OL.zn S (GNo.mk rfl rfl hb) fun _ S=>?_
   refine OL.zn S (GNo.mk rfl rfl hb) fun _ S=>?_
   refine OL.zn S (GNo.mk rfl rfl hb) fun _ S=>?_
   refine OL.zn S (GNo.mk rfl rfl hb) fun _ S=>?_
   refine OL.zq S (Lf.run_pickF (S.ev rfl) hb (S.ev rfl)) fun _ S=>?_
   refine OL.nil ?_
   exact⟨_,_,S.sub _ ⟨rfl,rfl,rfl,rfl,rfl,rfl,rfl,rfl,rfl,rfl,trivial⟩,H⟩
 ·
  clear S
  rintro aa ww ⟨x18,h3,S,HJ⟩
  replace H:=HK _ _ HJ
  clear HK HJ
  refine OL.zm S fun _ S=>?_
  obtain⟨J_1,H,HK_1⟩:=H
  refine OL.cutN 10 (fun aa ww=>∃x29,St 30 ((29,Value.bool x29) :: [(2,Value.bool tags2),(3,Value.pointer (some p3)),(4,Value.pointer (some p4)),(7,Value.pointer (some p3)),(8,Value.int .i64 x8),(9,Value.pointer (some p4)),(10,Value.int .i64 x10),(11,Value.bool (x8 == x10)),(12,Value.bool (x8 == x10)),(18,Value.bool x18),(19,Value.bool x18)]) h3 w0 aa ww∧J_1 x29) ?_ ?_
  ·
   rcases Bool.eq_false_or_eq_true x18 with hb_1|hb_1
   ·
    replace H:=H.1 hb_1
    refine OL.zm (hg:=GOk.mk rfl rfl hb_1) S fun _ S=>?_
    refine OL.zq (hg:=GOk.mk rfl rfl hb_1) S (Lf.run_not (S.ev rfl)) fun _ S=>?_
    refine OL.zm (hg:=GOk.mk rfl rfl hb_1) S fun _ S=>?_
    obtain⟨J_2,H,HK_2⟩:=H
    refine OL.cutN 6 (fun aa ww=>∃x28,St 30 ((28,Value.bool x28) :: [(2,Value.bool tags2),(3,Value.pointer (some p3)),(4,Value.pointer (some p4)),(7,Value.pointer (some p3)),(8,Value.int .i64 x8),(9,Value.pointer (some p4)),(10,Value.int .i64 x10),(11,Value.bool (x8 == x10)),(12,Value.bool (x8 == x10)),(18,Value.bool x18),(19,Value.bool x18),(20,Value.bool tags2),(21,Value.bool (!tags2)),(22,Value.bool (!tags2))]) h3 w0 aa ww∧J_2 x28) ?_ ?_
    ·
     rcases Bool.eq_false_or_eq_true (!tags2) with hb_2|hb_2
     ·
      replace H:=H.1 hb_2
      refine OL.zn S (GNo.mk rfl rfl hb_2) fun _ S=>?_
      refine OL.zn S (GNo.mk rfl rfl hb_2) fun _ S=>?_
      refine OL.zn S (GNo.mk rfl rfl hb_2) fun _ S=>?_
      refine OL.zn S (GNo.mk rfl rfl hb_2) fun _ S=>?_
      refine OL.zn S (GNo.mk rfl rfl hb_2) fun _ S=>?_
      refine OL.zq (hg:=GOk.mk rfl rfl hb_1) S (Lf.run_pickT (S.ev rfl) hb_2 (S.ev rfl)) fun _ S=>?_
      refine OL.nil ?_
      exact⟨_,S.sub _ ⟨rfl,rfl,rfl,rfl,rfl,rfl,rfl,rfl,rfl,rfl,rfl,rfl,rfl,rfl,rfl,trivial⟩,H⟩
     ·
      replace H:=H.2 hb_2
      refine OL.zf (hg:=GOk.mk rfl rfl hb_2) S fa28_2 fun _ S=>?_
      obtain⟨x24,c_4,H⟩:=H
      refine OL.zl (hg:=GOk.mk rfl rfl hb_2) S fl3 c_4 fun _ S=>?_
      refine OL.zf (hg:=GOk.mk rfl rfl hb_2) S fa28_2 fun _ S=>?_
      obtain⟨x26,c_5,H⟩:=H
      refine OL.zl (hg:=GOk.mk rfl rfl hb_2) S fl3 c_5 fun _ S=>?_
      refine OL.zq (hg:=GOk.mk rfl rfl hb_2) S (Lf.run_eql (S.ev rfl) (S.ev rfl)) fun _ S=>?_
      refine OL.zq (hg:=GOk.mk rfl rfl hb_1) S (Lf.run_pickF (S.ev rfl) hb_2 (S.ev rfl)) fun _ S=>?_
      refine OL.nil ?_
      exact⟨_,S.sub _ ⟨rfl,rfl,rfl,rfl,rfl,rfl,rfl,rfl,rfl,rfl,rfl,rfl,rfl,rfl,rfl,trivial⟩,H⟩
    ·
     clear S
     rintro aa ww ⟨x28,S,HJ⟩
     replace H:=HK_2 _ HJ
     clear HK_2 HJ
     refine OL.zq S (Lf.run_pickT (S.ev rfl) hb_1 (S.ev rfl)) fun _ S=>?_
     refine OL.nil ?_
     exact⟨_,S.sub _ ⟨rfl,rfl,rfl,rfl,rfl,rfl,rfl,rfl,rfl,rfl,rfl,rfl,trivial⟩,H⟩
   ·
    replace H:=H.2 hb_1
    refine OL.zn S (GNo.mk rfl rfl hb_1) fun _ S=>?_
    refine OL.zn S (GNo.mk rfl rfl hb_1) fun _ S=>?_
    refine OL.zn S (GNo.mk rfl rfl hb_1) fun _ S=>?_
    refine OL.zn S (GNo.un rfl rfl) fun _ S=>?_
    refine OL.zn S (GNo.un rfl rfl) fun _ S=>?_
    refine OL.zn S (GNo.un rfl rfl) fun _ S=>?_
    refine OL.zn S (GNo.un rfl rfl) fun _ S=>?_
    refine OL.zn S (GNo.un rfl rfl) fun _ S=>?_
    refine OL.zn S (GNo.mk rfl rfl hb_1) fun _ S=>?_
    refine OL.zq S (Lf.run_pickF (S.ev rfl) hb_1 (S.ev rfl)) fun _ S=>?_
    refine OL.nil ?_
    exact⟨_,S.sub _ ⟨rfl,rfl,rfl,rfl,rfl,rfl,rfl,rfl,rfl,rfl,rfl,rfl,trivial⟩,H⟩
  ·
   clear S
   rintro aa ww ⟨x29,S,HJ⟩
   replace H:=HK_1 _ HJ
   clear HK_1 HJ
   refine OL.za S fun _ S=>?_
   refine OL.nil ?_
   refine W.ret ?_
   exact Ret.one S rfl rfl H
def L42 (a0:Int) (a0_1:Int) (a0_2:ByteArray) (a0_3:Sv) (a0_4:Int) (a0_5:Sv) (a0_6:Int) (b1:Int) (b1_1:Int) (b1_2:ByteArray) (b1_3:Sv) (b1_4:Int) (b1_5:Sv) (b1_6:Int) (tags2:Bool) (h:Heap) (R:Value→Heap→Prop):Prop:=
 new 33 #[Value.int .i64 a0,Value.int .u64 a0_1,Value.string a0_2,Value.slice a0_3.a a0_3.n a0_3.c,Value.int .i64 a0_4,Value.slice a0_5.a a0_5.n a0_5.c,Value.int .i64 a0_6] h fun p3 h1=>
 new 33 #[Value.int .i64 b1,Value.int .u64 b1_1,Value.string b1_2,Value.slice b1_3.a b1_3.n b1_3.c,Value.int .i64 b1_4,Value.slice b1_5.a b1_5.n b1_5.c,Value.int .i64 b1_6] h1 fun p4 h2=>
 ldI .i64 h2 p3 fun x9=>
 ldI .i64 h2 p4 fun x11=>
 ∃J:Bool→Prop,(orr (x9 != x11) (fun k=>
  ldI .u64 h2 (p3.add 1) fun x15=>
  ldI .u64 h2 (p4.add 1) fun x17=>
  k (x15 != x17)) J)∧∀x19,J x19 →
 ∃J_1:Bool→Prop,(orr x19 (fun k_1=>
  ldT h2 (p3.add 2) fun x22=>
  ldT h2 (p4.add 2) fun x24=>
  k_1 (x22.toList != x24.toList)) J_1)∧∀x26,J_1 x26 →
 ∃J_2:Bool→Prop,(orr x26 (fun k_2=>
  ldS h2 (p3.add 3) fun x29=>
  ldS h2 (p4.add 3) fun x32=>
  k_2 (((x29.n:Nat):Int) != ((x32.n:Nat):Int))) J_2)∧∀x35,J_2 x35 →
 ∃J_3:Bool→Heap→Prop,(orj x35 (fun k_3=>
  ∃(y38:Int) (y38_1:Sv) (y38_2:Int),cl h2 (p3.add 4)=some (Value.int .i64 y38)∧cl h2 ((p3.add 4).add 1)=some (Value.slice y38_1.a y38_1.n y38_1.c)∧cl h2 ((p3.add 4).add 2)=some (Value.int .i64 y38_2) ∧
  ∃(y40:Int) (y40_1:Sv) (y40_2:Int),cl h2 (p4.add 4)=some (Value.int .i64 y40)∧cl h2 ((p4.add 4).add 1)=some (Value.slice y40_1.a y40_1.n y40_1.c)∧cl h2 ((p4.add 4).add 2)=some (Value.int .i64 y40_2) ∧
  cal Try.prog 41 #[Value.agg #[Value.int .i64 y38,Value.slice y38_1.a y38_1.n y38_1.c,Value.int .i64 y38_2],Value.agg #[Value.int .i64 y40,Value.slice y40_1.a y40_1.n y40_1.c,Value.int .i64 y40_2],Value.bool tags2] h2 fun u h4=>asB u fun x42=>
  k_3 (!x42) h4) h2 J_3)∧∀x44 h3,J_3 x44 h3 →
 ifb x44 (
  R (Value.bool false) h3) (
  ∃(I:Int→Heap→Prop) (m:Int→Heap→Nat),I 0 h3∧∀i7 h5,I i7 h5 →
  ldS h5 (p3.add 3) fun x47=>
  ifb (decide (i7<((x47.n:Nat):Int))) (
   ldS h5 (p3.add 3) fun x53=>
   ixS x53 i7 fun q55=>
   ∃(y56:Int) (y56_1:Int) (y56_2:ByteArray) (y56_3:Sv) (y56_4:Int) (y56_5:Sv) (y56_6:Int),cl h5 (q55.add ((i7:Int).toNat*7))=some (Value.int .i64 y56)∧cl h5 ((q55.add ((i7:Int).toNat*7)).add 1)=some (Value.int .u64 y56_1)∧cl h5 ((q55.add ((i7:Int).toNat*7)).add 2)=some (Value.string y56_2)∧cl h5 ((q55.add ((i7:Int).toNat*7)).add 3)=some (Value.slice y56_3.a y56_3.n y56_3.c)∧cl h5 ((q55.add ((i7:Int).toNat*7)).add 4)=some (Value.int .i64 y56_4)∧cl h5 ((q55.add ((i7:Int).toNat*7)).add 5)=some (Value.slice y56_5.a y56_5.n y56_5.c)∧cl h5 ((q55.add ((i7:Int).toNat*7)).add 6)=some (Value.int .i64 y56_6) ∧
   ldS h5 (p4.add 3) fun x58=>
   ixS x58 i7 fun q60=>
   ∃(y61:Int) (y61_1:Int) (y61_2:ByteArray) (y61_3:Sv) (y61_4:Int) (y61_5:Sv) (y61_6:Int),cl h5 (q60.add ((i7:Int).toNat*7))=some (Value.int .i64 y61)∧cl h5 ((q60.add ((i7:Int).toNat*7)).add 1)=some (Value.int .u64 y61_1)∧cl h5 ((q60.add ((i7:Int).toNat*7)).add 2)=some (Value.string y61_2)∧cl h5 ((q60.add ((i7:Int).toNat*7)).add 3)=some (Value.slice y61_3.a y61_3.n y61_3.c)∧cl h5 ((q60.add ((i7:Int).toNat*7)).add 4)=some (Value.int .i64 y61_4)∧cl h5 ((q60.add ((i7:Int).toNat*7)).add 5)=some (Value.slice y61_5.a y61_5.n y61_5.c)∧cl h5 ((q60.add ((i7:Int).toNat*7)).add 6)=some (Value.int .i64 y61_6) ∧
   cal Try.prog 42 #[Value.agg #[Value.int .i64 y56,Value.int .u64 y56_1,Value.string y56_2,Value.slice y56_3.a y56_3.n y56_3.c,Value.int .i64 y56_4,Value.slice y56_5.a y56_5.n y56_5.c,Value.int .i64 y56_6],Value.agg #[Value.int .i64 y61,Value.int .u64 y61_1,Value.string y61_2,Value.slice y61_3.a y61_3.n y61_3.c,Value.int .i64 y61_4,Value.slice y61_5.a y61_5.n y61_5.c,Value.int .i64 y61_6],Value.bool tags2] h5 fun u_1 h6=>asB u_1 fun x63=>
   ifb (!x63) (
    R (Value.bool false) h6) (
    I (IntKind.i64.wrap (i7+1)) h6∧m (IntKind.i64.wrap (i7+1)) h6<m i7 h5)) (
   R (Value.bool true) h5))
set_option maxRecDepth 100000 in
theorem F42 {a0 a0_1 a0_2 a0_3 a0_4 a0_5 a0_6 b1 b1_1 b1_2 b1_3 b1_4 b1_5 b1_6 tags2 h:_} {R:Value→Heap→Prop} (H:L42 a0 a0_1 a0_2 a0_3 a0_4 a0_5 a0_6 b1 b1_1 b1_2 b1_3 b1_4 b1_5 b1_6 tags2 h R):CallsH Try.prog 42 #[Value.agg #[Value.int .i64 a0,Value.int .u64 a0_1,Value.string a0_2,Value.slice a0_3.a a0_3.n a0_3.c,Value.int .i64 a0_4,Value.slice a0_5.a a0_5.n a0_5.c,Value.int .i64 a0_6],Value.agg #[Value.int .i64 b1,Value.int .u64 b1_1,Value.string b1_2,Value.slice b1_3.a b1_3.n b1_3.c,Value.int .i64 b1_4,Value.slice b1_5.a b1_5.n b1_5.c,Value.int .i64 b1_6],Value.bool tags2] h R:=by
 refine CallsH.enter (n:=65) Try.func42 rfl rfl rfl rfl ?_
 intro w0 aa ww S
 unfold L42 at H
 refine W.seq ?_
 refine W.region ?_
 refine ol_box S H rfl rfl rfl trivial ?_
 clear S H;intro p3 aa ww h1 H S
 refine ol_box S H rfl rfl rfl trivial ?_
 clear S H;intro p4 aa ww h2 H S
 refine OL.za S fun _ S=>?_
 refine OL.nil ?_
 refine W.seq ?_
 refine W.seq ?_
 refine W.region ?_
 refine OL.zf S fa33_0 fun _ S=>?_
 obtain⟨x9,c,H⟩:=H
 refine OL.zl S fl3 c fun _ S=>?_
 refine OL.zf S fa33_0 fun _ S=>?_
 obtain⟨x11,c_1,H⟩:=H
 refine OL.zl S fl3 c_1 fun _ S=>?_
 refine OL.zq S (Lf.run_neq (S.ev rfl) (S.ev rfl)) fun _ S=>?_
 refine OL.zm S fun _ S=>?_
 obtain⟨J,H,HK⟩:=H
 refine OL.cutN 6 (fun aa ww=>∃x19,St 65 ((19,Value.bool x19) :: [(2,Value.bool tags2),(3,Value.pointer (some p3)),(4,Value.pointer (some p4)),(8,Value.pointer (some p3)),(9,Value.int .i64 x9),(10,Value.pointer (some p4)),(11,Value.int .i64 x11),(12,Value.bool (x9 != x11)),(13,Value.bool (x9 != x11))]) h2 w0 aa ww∧J x19) ?_ ?_
 ·
  rcases Bool.eq_false_or_eq_true (x9 != x11) with hb|hb
  ·
   replace H:=H.1 hb
   refine OL.zn S (GNo.mk rfl rfl hb) fun _ S=>?_
   refine OL.zn S (GNo.mk rfl rfl hb) fun _ S=>?_
   refine OL.zn S (GNo.mk rfl rfl hb) fun _ S=>?_
   refine OL.zn S (GNo.mk rfl rfl hb) fun _ S=>?_
   refine OL.zn S (GNo.mk rfl rfl hb) fun _ S=>?_
   refine OL.zq S (Lf.run_pickT (S.ev rfl) hb (S.ev rfl)) fun _ S=>?_
   refine OL.nil ?_
   exact⟨_,S.sub _ ⟨rfl,rfl,rfl,rfl,rfl,rfl,rfl,rfl,rfl,rfl,trivial⟩,H⟩
  ·
   replace H:=H.2 hb
   refine OL.zf (hg:=GOk.mk rfl rfl hb) S fa33_1 fun _ S=>?_
   obtain⟨x15,c_2,H⟩:=H
   refine OL.zl (hg:=GOk.mk rfl rfl hb) S fl22 c_2 fun _ S=>?_
   refine OL.zf (hg:=GOk.mk rfl rfl hb) S fa33_1 fun _ S=>?_
   obtain⟨x17,c_3,H⟩:=H
   refine OL.zl (hg:=GOk.mk rfl rfl hb) S fl22 c_3 fun _ S=>?_
   refine OL.zq (hg:=GOk.mk rfl rfl hb) S (Lf.run_neq (S.ev rfl) (S.ev rfl)) fun _ S=>?_
   refine OL.zq S (Lf.run_pickF (S.ev rfl) hb (S.ev rfl)) fun _ S=>?_
   refine OL.nil ?_
   exact⟨_,S.sub _ ⟨rfl,rfl,rfl,rfl,rfl,rfl,rfl,rfl,rfl,rfl,trivial⟩,H⟩
 ·
  clear S
  rintro aa ww ⟨x19,S,HJ⟩
  replace H:=HK _ HJ
  clear HK HJ
  refine OL.zm S fun _ S=>?_
  obtain⟨J_1,H,HK_1⟩:=H
  refine OL.cutN 6 (fun aa ww=>∃x26,St 65 ((26,Value.bool x26) :: [(2,Value.bool tags2),(3,Value.pointer (some p3)),(4,Value.pointer (some p4)),(8,Value.pointer (some p3)),(9,Value.int .i64 x9),(10,Value.pointer (some p4)),(11,Value.int .i64 x11),(12,Value.bool (x9 != x11)),(13,Value.bool (x9 != x11)),(19,Value.bool x19),(20,Value.bool x19)]) h2 w0 aa ww∧J_1 x26) ?_ ?_
  ·
   rcases Bool.eq_false_or_eq_true x19 with hb_1|hb_1
   ·
    replace H:=H.1 hb_1
    refine OL.zn S (GNo.mk rfl rfl hb_1) fun _ S=>?_
    refine OL.zn S (GNo.mk rfl rfl hb_1) fun _ S=>?_
    refine OL.zn S (GNo.mk rfl rfl hb_1) fun _ S=>?_
    refine OL.zn S (GNo.mk rfl rfl hb_1) fun _ S=>?_
    refine OL.zn S (GNo.mk rfl rfl hb_1) fun _ S=>?_
    refine OL.zq S (Lf.run_pickT (S.ev rfl) hb_1 (S.ev rfl)) fun _ S=>?_
    refine OL.nil ?_
    exact⟨_,S.sub _ ⟨rfl,rfl,rfl,rfl,rfl,rfl,rfl,rfl,rfl,rfl,rfl,rfl,trivial⟩,H⟩
   ·
    replace H:=H.2 hb_1
    refine OL.zf (hg:=GOk.mk rfl rfl hb_1) S fa33_2 fun _ S=>?_
    obtain⟨x22,c_4,H⟩:=H
    refine OL.zl (hg:=GOk.mk rfl rfl hb_1) S fl9 c_4 fun _ S=>?_
    refine OL.zf (hg:=GOk.mk rfl rfl hb_1) S fa33_2 fun _ S=>?_
    obtain⟨x24,c_5,H⟩:=H
    refine OL.zl (hg:=GOk.mk rfl rfl hb_1) S fl9 c_5 fun _ S=>?_
    refine OL.zq (hg:=GOk.mk rfl rfl hb_1) S (Lf.run_neqt (S.ev rfl) (S.ev rfl)) fun _ S=>?_
    refine OL.zq S (Lf.run_pickF (S.ev rfl) hb_1 (S.ev rfl)) fun _ S=>?_
    refine OL.nil ?_
    exact⟨_,S.sub _ ⟨rfl,rfl,rfl,rfl,rfl,rfl,rfl,rfl,rfl,rfl,rfl,rfl,trivial⟩,H⟩
  ·
   clear S
   rintro aa ww ⟨x26,S,HJ⟩
   replace H:=HK_1 _ HJ
   clear HK_1 HJ
   refine OL.zm S fun _ S=>?_
   obtain⟨J_2,H,HK_2⟩:=H
   refine OL.cutN 8 (fun aa ww=>∃x35,St 65 ((35,Value.bool x35) :: [(2,Value.bool tags2),(3,Value.pointer (some p3)),(4,Value.pointer (some p4)),(8,Value.pointer (some p3)),(9,Value.int .i64 x9),(10,Value.pointer (some p4)),(11,Value.int .i64 x11),(12,Value.bool (x9 != x11)),(13,Value.bool (x9 != x11)),(19,Value.bool x19),(20,Value.bool x19),(26,Value.bool x26),(27,Value.bool x26)]) h2 w0 aa ww∧J_2 x35) ?_ ?_
   ·
    rcases Bool.eq_false_or_eq_true x26 with hb_2|hb_2
    ·
     replace H:=H.1 hb_2
     refine OL.zn S (GNo.mk rfl rfl hb_2) fun _ S=>?_
     refine OL.zn S (GNo.mk rfl rfl hb_2) fun _ S=>?_
     refine OL.zn S (GNo.mk rfl rfl hb_2) fun _ S=>?_
     refine OL.zn S (GNo.mk rfl rfl hb_2) fun _ S=>?_
     refine OL.zn S (GNo.mk rfl rfl hb_2) fun _ S=>?_
     refine OL.zn S (GNo.mk rfl rfl hb_2) fun _ S=>?_
     refine OL.zn S (GNo.mk rfl rfl hb_2) fun _ S=>?_
     refine OL.zq S (Lf.run_pickT (S.ev rfl) hb_2 (S.ev rfl)) fun _ S=>?_
     refine OL.nil ?_
     exact⟨_,S.sub _ ⟨rfl,rfl,rfl,rfl,rfl,rfl,rfl,rfl,rfl,rfl,rfl,rfl,rfl,rfl,trivial⟩,H⟩
    ·
     replace H:=H.2 hb_2
     refine OL.zf (hg:=GOk.mk rfl rfl hb_2) S fa33_3 fun _ S=>?_
     obtain⟨x29,c_6,H⟩:=H
     refine OL.zl (hg:=GOk.mk rfl rfl hb_2) S fl31 c_6 fun _ S=>?_
     refine OL.zq (hg:=GOk.mk rfl rfl hb_2) S (Lf.run_lens (S.ev rfl) rfl Try.underlying31) fun _ S=>?_
     refine OL.zf (hg:=GOk.mk rfl rfl hb_2) S fa33_3 fun _ S=>?_
     obtain⟨x32,c_7,H⟩:=H
     refine OL.zl (hg:=GOk.mk rfl rfl hb_2) S fl31 c_7 fun _ S=>?_
     refine OL.zq (hg:=GOk.mk rfl rfl hb_2) S (Lf.run_lens (S.ev rfl) rfl Try.underlying31) fun _ S=>?_
     refine OL.zq (hg:=GOk.mk rfl rfl hb_2) S (Lf.run_neq (S.ev rfl) (S.ev rfl)) fun _ S=>?_
     refine OL.zq S (Lf.run_pickF (S.ev rfl) hb_2 (S.ev rfl)) fun _ S=>?_
     refine OL.nil ?_
     exact⟨_,S.sub _ ⟨rfl,rfl,rfl,rfl,rfl,rfl,rfl,rfl,rfl,rfl,rfl,rfl,rfl,rfl,trivial⟩,H⟩
   ·
    clear S
    rintro aa ww ⟨x35,S,HJ⟩
    replace H:=HK_2 _ HJ
    clear HK_2 HJ
    refine OL.zm S fun _ S=>?_
    obtain⟨J_3,H,HK_3⟩:=H
    refine OL.cutN 8 (fun aa ww=>∃x44 h3,St 65 ((44,Value.bool x44) :: [(2,Value.bool tags2),(3,Value.pointer (some p3)),(4,Value.pointer (some p4)),(8,Value.pointer (some p3)),(9,Value.int .i64 x9),(10,Value.pointer (some p4)),(11,Value.int .i64 x11),(12,Value.bool (x9 != x11)),(13,Value.bool (x9 != x11)),(19,Value.bool x19),(20,Value.bool x19),(26,Value.bool x26),(27,Value.bool x26),(35,Value.bool x35),(36,Value.bool x35)]) h3 w0 aa ww∧J_3 x44 h3) ?_ ?_
    ·
     rcases Bool.eq_false_or_eq_true x35 with hb_3|hb_3
     ·
      replace H:=H.1 hb_3
      refine OL.zn S (GNo.mk rfl rfl hb_3) fun _ S=>?_
      refine OL.zn S (GNo.mk rfl rfl hb_3) fun _ S=>?_
      refine OL.zn S (GNo.mk rfl rfl hb_3) fun _ S=>?_
      refine OL.zn S (GNo.mk rfl rfl hb_3) fun _ S=>?_
      refine OL.zn S (GNo.mk rfl rfl hb_3) fun _ S=>?_
      refine OL.zn S (GNo.mk rfl rfl hb_3) fun _ S=>?_
      refine OL.zn S (GNo.mk rfl rfl hb_3) fun _ S=>?_
      refine OL.zq S (Lf.run_pickT (S.ev rfl) hb_3 (S.ev rfl)) fun _ S=>?_
      refine OL.nil ?_
      exact⟨_,_,S.sub _ ⟨rfl,rfl,rfl,rfl,rfl,rfl,rfl,rfl,rfl,rfl,rfl,rfl,rfl,rfl,rfl,rfl,trivial⟩,H⟩
     ·
      replace H:=H.2 hb_3
      refine OL.zf (hg:=GOk.mk rfl rfl hb_3) S fa33_4 fun _ S=>?_
      obtain⟨y38,y38_1,y38_2,c_13,c_14,c_15,H⟩:=H
      refine OL.zq (hg:=GOk.mk rfl rfl hb_3) S (Lf.run_ldA (cs:=[Value.int .i64 y38,Value.slice y38_1.a y38_1.n y38_1.c,Value.int .i64 y38_2]) (S.ev rfl) ag28 ti28 (by rw[S.heap];exact RowL.toRow ⟨c_13,c_14,c_15,trivial⟩)) fun _ S=>?_
      refine OL.zf (hg:=GOk.mk rfl rfl hb_3) S fa33_4 fun _ S=>?_
      obtain⟨y40,y40_1,y40_2,c_10,c_11,c_12,H⟩:=H
      refine OL.zq (hg:=GOk.mk rfl rfl hb_3) S (Lf.run_ldA (cs:=[Value.int .i64 y40,Value.slice y40_1.a y40_1.n y40_1.c,Value.int .i64 y40_2]) (S.ev rfl) ag28 ti28 (by rw[S.heap];exact RowL.toRow ⟨c_10,c_11,c_12,trivial⟩)) fun _ S=>?_
      refine OL.zm (hg:=GOk.mk rfl rfl hb_3) S fun _ S=>?_
      refine ol_cal S H isfn41 rfl rfl (GOk.mk rfl rfl hb_3) ?_
      clear S H;intro u aa ww h4 H S
      obtain⟨x42,rfl,H⟩:=H
      refine OL.zq (hg:=GOk.mk rfl rfl hb_3) S (Lf.run_not (S.ev rfl)) fun _ S=>?_
      refine OL.zq S (Lf.run_pickF (S.ev rfl) hb_3 (S.ev rfl)) fun _ S=>?_
      refine OL.nil ?_
      exact⟨_,_,S.sub _ ⟨rfl,rfl,rfl,rfl,rfl,rfl,rfl,rfl,rfl,rfl,rfl,rfl,rfl,rfl,rfl,rfl,trivial⟩,H⟩
    ·
     clear S
     rintro aa ww ⟨x44,h3,S,HJ⟩
     replace H:=HK_3 _ _ HJ
     clear HK_3 HJ
     refine OL.nil ?_
     refine W.cond S (b:=x44) rfl (fun hb_4=>?_) (fun hb_4=>?_)
     ·
      replace H:=H.1 hb_4
      refine W.seq ?_
      refine W.region ?_
      refine OL.za S fun _ S=>?_
      refine OL.nil ?_
      refine W.ret ?_
      exact Ret.one S rfl rfl H
     ·
      replace H:=H.2 hb_4
      refine W.skip ?_
      refine W.seq ?_
      refine W.seq ?_
      refine W.region ?_
      refine OL.za S fun _ S=>?_
      refine OL.nil ?_
      refine W.block ?_
      obtain⟨I,m,H,HB⟩:=H
      refine W.loopS (σ:=Int×Heap) (fun s aa ww=>St 65 [(2,Value.bool tags2),(3,Value.pointer (some p3)),(4,Value.pointer (some p4)),(7,Value.int .i64 s.1)] s.2 w0 aa ww∧I s.1 s.2) (fun s=>m s.1 s.2) (0,h3) ⟨S.sub _ ⟨rfl,rfl,rfl,rfl,trivial⟩,H⟩ ?_
      clear H S
      rintro ⟨i7,h5⟩ aa ww ⟨S,HI⟩
      replace S:St 65 [(2,Value.bool tags2),(3,Value.pointer (some p3)),(4,Value.pointer (some p4)),(7,Value.int .i64 i7)] h5 w0 aa ww:=S
      have H:=HB i7 h5 HI
      clear HI
      refine W.seq ?_
      refine W.seq ?_
      refine W.region ?_
      refine OL.zm S fun _ S=>?_
      refine OL.zf S fa33_3 fun _ S=>?_
      obtain⟨x47,c_16,H⟩:=H
      refine OL.zl S fl31 c_16 fun _ S=>?_
      refine OL.zq S (Lf.run_lens (S.ev rfl) rfl Try.underlying31) fun _ S=>?_
      refine OL.zq S (Lf.run_lss (S.ev rfl) (S.ev rfl)) fun _ S=>?_
      refine OL.nil ?_
      refine W.cond S (b:=(decide (i7<((x47.n:Nat):Int)))) rfl (fun hb_5=>?_) (fun hb_5=>?_)
      ·
       replace H:=H.1 hb_5
       refine W.skip ?_
       refine W.seq ?_
       refine W.block ?_
       refine W.seq ?_
       replace S:=S.sub [(2,Value.bool tags2),(3,Value.pointer (some p3)),(4,Value.pointer (some p4)),(7,Value.int .i64 i7)] ⟨rfl,rfl,rfl,rfl,trivial⟩
       refine W.regionD S (by kernel_rfl) ?_
       clear S;intro ww S
       refine AN.zq 0 S rfl (fun _=>Lf.run_fa (S.ev rfl) fa33_3) fun _ S=>?_
       obtain⟨x53,c_17,H⟩:=H
       refine AN.zl 1 S rfl (fun _ hx=>Lf.run_ld (S.ev rfl) fl31 (hx.cell _ _ (S.cl c_17))) fun _ S=>?_
       refine AN.zq 2 S rfl (fun _=>Lf.run_move (S.ev rfl)) fun _ S=>?_
       obtain⟨q55,e,e_1,e_2,H⟩:=H
       refine AN.zq 3 S rfl (fun _=>Lf.run_ixs (S.ev rfl) (S.ev rfl) Try.underlying31 ti33 e e_1 e_2) fun _ S=>?_
       obtain⟨y56,y56_1,y56_2,y56_3,y56_4,y56_5,y56_6,c_28,c_29,c_30,c_31,c_32,c_33,c_34,H⟩:=H
       refine AN.zl 4 S rfl (fun _ hx=>Lf.run_ldA (cs:=[Value.int .i64 y56,Value.int .u64 y56_1,Value.string y56_2,Value.slice y56_3.a y56_3.n y56_3.c,Value.int .i64 y56_4,Value.slice y56_5.a y56_5.n y56_5.c,Value.int .i64 y56_6]) (S.ev rfl) ag33 ti33 (hx.row (S.row ⟨c_28,c_29,c_30,c_31,c_32,c_33,c_34,trivial⟩))) fun _ S=>?_
       refine AN.zq 5 S rfl (fun _=>Lf.run_fa (S.ev rfl) fa33_3) fun _ S=>?_
       obtain⟨x58,c_19,H⟩:=H
       refine AN.zl 6 S rfl (fun _ hx=>Lf.run_ld (S.ev rfl) fl31 (hx.cell _ _ (S.cl c_19))) fun _ S=>?_
       refine AN.zq 7 S rfl (fun _=>Lf.run_move (S.ev rfl)) fun _ S=>?_
       obtain⟨q60,e_3,e_4,e_5,H⟩:=H
       refine AN.zq 8 S rfl (fun _=>Lf.run_ixs (S.ev rfl) (S.ev rfl) Try.underlying31 ti33 e_3 e_4 e_5) fun _ S=>?_
       obtain⟨y61,y61_1,y61_2,y61_3,y61_4,y61_5,y61_6,c_21,c_22,c_23,c_24,c_25,c_26,c_27,H⟩:=H
       refine AN.zl 9 S rfl (fun _ hx=>Lf.run_ldA (cs:=[Value.int .i64 y61,Value.int .u64 y61_1,Value.string y61_2,Value.slice y61_3.a y61_3.n y61_3.c,Value.int .i64 y61_4,Value.slice y61_5.a y61_5.n y61_5.c,Value.int .i64 y61_6]) (S.ev rfl) ag33 ti33 (hx.row (S.row ⟨c_21,c_22,c_23,c_24,c_25,c_26,c_27,trivial⟩))) fun _ S=>?_
       refine AN.zq 10 S rfl (fun _=>Lf.run_move (S.ev rfl)) fun _ S=>?_
       refine AN.eff 11 rfl (by kernel_rfl) ?_
       refine ol_cal S H isfn42 rfl rfl trivial ?_
       clear S H;intro u_1 aa ww h6 H S
       obtain⟨x63,rfl,H⟩:=H
       refine OL.nil ?_
       refine AN.zq 12 S rfl (fun _=>Lf.run_not (S.ev rfl)) fun _ S=>?_
       refine AN.done (by kernel_rfl) ?_
       refine W.cond S (b:=(!x63)) rfl (fun hb_6=>?_) (fun hb_6=>?_)
       ·
        replace H:=H.1 hb_6
        refine W.seq ?_
        refine W.region ?_
        refine OL.za S fun _ S=>?_
        refine OL.nil ?_
        refine W.ret ?_
        exact Ret.one S rfl rfl H
       ·
        replace H:=H.2 hb_6
        refine W.skip ?_
        refine W.region ?_
        refine OL.zm S fun _ S=>?_
        refine OL.zq S (Lf.run_add (S.ev rfl) (S.ev rfl)) fun _ S=>?_
        refine OL.za S fun _ S=>?_
        refine OL.nil ?_
        exact⟨((IntKind.i64.wrap (i7+1)),h6),⟨S.sub _ ⟨rfl,rfl,rfl,rfl,trivial⟩,H.1⟩,H.2⟩
      ·
       replace H:=H.2 hb_5
       refine W.exit_ ?_
       refine xhit ?_
       refine W.seq ?_
       refine W.region ?_
       refine OL.za S fun _ S=>?_
       refine OL.nil ?_
       refine W.ret ?_
       exact Ret.one S rfl rfl H
def L50 (vh0:Option Addr) (p1:Int) (p1_1:Sv) (p1_2:Int) (write2:Bool) (h:Heap) (R:Value→Heap→Prop):Prop:=
 new 28 #[Value.int .i64 p1,Value.slice p1_1.a p1_1.n p1_1.c,Value.int .i64 p1_2] h fun p4 h1=>
 new 33 #[Value.int .i64 0,Value.int .u64 0,Value.string (⟨#[]⟩:ByteArray),Value.slice (⟨none,0,0⟩:Sv).a (⟨none,0,0⟩:Sv).n (⟨none,0,0⟩:Sv).c,Value.int .i64 0,Value.slice (⟨none,0,0⟩:Sv).a (⟨none,0,0⟩:Sv).n (⟨none,0,0⟩:Sv).c,Value.int .i64 0] h1 fun p6 h2=>
 ∃(y12:Int) (y12_1:Sv) (y12_2:Int),cl h2 p4=some (Value.int .i64 y12)∧cl h2 (p4.add 1)=some (Value.slice y12_1.a y12_1.n y12_1.c)∧cl h2 (p4.add 2)=some (Value.int .i64 y12_2) ∧
 cal Try.prog 52 #[Value.pointer vh0,Value.agg #[Value.int .i64 y12,Value.slice y12_1.a y12_1.n y12_1.c,Value.int .i64 y12_2],Value.bool write2] h2 fun u h3=>asI .i64 u fun x14=>
 ifb (x14 != 0) (
  stoA h3 p6 [Value.int .i64 0,Value.int .u64 0,Value.string (⟨#[]⟩:ByteArray),Value.slice (⟨none,0,0⟩:Sv).a (⟨none,0,0⟩:Sv).n (⟨none,0,0⟩:Sv).c,Value.int .i64 0,Value.slice (⟨none,0,0⟩:Sv).a (⟨none,0,0⟩:Sv).n (⟨none,0,0⟩:Sv).c,Value.int .i64 0] fun h4=>
  ∃(y:Int) (y_1:Int) (y_2:ByteArray) (y_3:Sv) (y_4:Int) (y_5:Sv) (y_6:Int),cl h4 p6=some (Value.int .i64 y)∧cl h4 (p6.add 1)=some (Value.int .u64 y_1)∧cl h4 (p6.add 2)=some (Value.string y_2)∧cl h4 (p6.add 3)=some (Value.slice y_3.a y_3.n y_3.c)∧cl h4 (p6.add 4)=some (Value.int .i64 y_4)∧cl h4 (p6.add 5)=some (Value.slice y_5.a y_5.n y_5.c)∧cl h4 (p6.add 6)=some (Value.int .i64 y_6) ∧
  R (.tuple #[Value.agg #[Value.int .i64 y,Value.int .u64 y_1,Value.string y_2,Value.slice y_3.a y_3.n y_3.c,Value.int .i64 y_4,Value.slice y_5.a y_5.n y_5.c,Value.int .i64 y_6],Value.int .i64 x14]) h4) (
  ∃J:Addr→Int→Heap→Prop,(
   ∃Sq:Heap→Prop,Sq h3∧(
    nn vh0 fun p21=>
    hlS Sq p21 fun x23=>
    hlI .i64 Sq p4 fun x25=>
    ixS x23 x25 fun q26=>
    ∃(y28:Int) (y28_1:Int) (y28_2:ByteArray) (y28_3:Sv) (y28_4:Int) (y28_5:Sv) (y28_6:Int),hld Sq ((q26.add ((x25:Int).toNat*9)).add 1) (Value.int .i64 y28)∧hld Sq (((q26.add ((x25:Int).toNat*9)).add 1).add 1) (Value.int .u64 y28_1)∧hld Sq (((q26.add ((x25:Int).toNat*9)).add 1).add 2) (Value.string y28_2)∧hld Sq (((q26.add ((x25:Int).toNat*9)).add 1).add 3) (Value.slice y28_3.a y28_3.n y28_3.c)∧hld Sq (((q26.add ((x25:Int).toNat*9)).add 1).add 4) (Value.int .i64 y28_4)∧hld Sq (((q26.add ((x25:Int).toNat*9)).add 1).add 5) (Value.slice y28_5.a y28_5.n y28_5.c)∧hld Sq (((q26.add ((x25:Int).toNat*9)).add 1).add 6) (Value.int .i64 y28_6) ∧
    hlS Sq (p4.add 1) fun x30=>
    (
     cal Try.prog 53 #[Value.agg #[Value.int .i64 y28,Value.int .u64 y28_1,Value.string y28_2,Value.slice y28_3.a y28_3.n y28_3.c,Value.int .i64 y28_4,Value.slice y28_5.a y28_5.n y28_5.c,Value.int .i64 y28_6],Value.slice x30.a x30.n x30.c] h3 fun u_1 h5=>∃(y31:Int) (y31_1:Int) (y31_2:ByteArray) (y31_3:Sv) (y31_4:Int) (y31_5:Sv) (y31_6:Int) (x31:Int),u_1=Value.tuple #[Value.agg #[Value.int .i64 y31,Value.int .u64 y31_1,Value.string y31_2,Value.slice y31_3.a y31_3.n y31_3.c,Value.int .i64 y31_4,Value.slice y31_5.a y31_5.n y31_5.c,Value.int .i64 y31_6],Value.int .i64 x31] ∧
     new 33 #[Value.int .i64 0,Value.int .u64 0,Value.string (⟨#[]⟩:ByteArray),Value.slice (⟨none,0,0⟩:Sv).a (⟨none,0,0⟩:Sv).n (⟨none,0,0⟩:Sv).c,Value.int .i64 0,Value.slice (⟨none,0,0⟩:Sv).a (⟨none,0,0⟩:Sv).n (⟨none,0,0⟩:Sv).c,Value.int .i64 0] h5 fun p9 h6=>
     stoA h6 p9 [Value.int .i64 y31,Value.int .u64 y31_1,Value.string y31_2,Value.slice y31_3.a y31_3.n y31_3.c,Value.int .i64 y31_4,Value.slice y31_5.a y31_5.n y31_5.c,Value.int .i64 y31_6] fun h7=>
     J p9 x31 h7)∧(
     new 33 #[Value.int .i64 0,Value.int .u64 0,Value.string (⟨#[]⟩:ByteArray),Value.slice (⟨none,0,0⟩:Sv).a (⟨none,0,0⟩:Sv).n (⟨none,0,0⟩:Sv).c,Value.int .i64 0,Value.slice (⟨none,0,0⟩:Sv).a (⟨none,0,0⟩:Sv).n (⟨none,0,0⟩:Sv).c,Value.int .i64 0] h3 fun p9_1 h8=>
     Sq h8 ∧
     cal Try.prog 53 #[Value.agg #[Value.int .i64 y28,Value.int .u64 y28_1,Value.string y28_2,Value.slice y28_3.a y28_3.n y28_3.c,Value.int .i64 y28_4,Value.slice y28_5.a y28_5.n y28_5.c,Value.int .i64 y28_6],Value.slice x30.a x30.n x30.c] h8 fun u_2 h9=>∃(y31_7:Int) (y31_8:Int) (y31_9:ByteArray) (y31_10:Sv) (y31_11:Int) (y31_12:Sv) (y31_13:Int) (x31_1:Int),u_2=Value.tuple #[Value.agg #[Value.int .i64 y31_7,Value.int .u64 y31_8,Value.string y31_9,Value.slice y31_10.a y31_10.n y31_10.c,Value.int .i64 y31_11,Value.slice y31_12.a y31_12.n y31_12.c,Value.int .i64 y31_13],Value.int .i64 x31_1] ∧
     stoA h9 p9_1 [Value.int .i64 y31_7,Value.int .u64 y31_8,Value.string y31_9,Value.slice y31_10.a y31_10.n y31_10.c,Value.int .i64 y31_11,Value.slice y31_12.a y31_12.n y31_12.c,Value.int .i64 y31_13] fun h10=>
     J p9_1 x31_1 h10)))∧(∀v9 f10 h11,J v9 f10 h11 →
  ifb (f10 != 0) (
   stoA h11 p6 [Value.int .i64 0,Value.int .u64 0,Value.string (⟨#[]⟩:ByteArray),Value.slice (⟨none,0,0⟩:Sv).a (⟨none,0,0⟩:Sv).n (⟨none,0,0⟩:Sv).c,Value.int .i64 0,Value.slice (⟨none,0,0⟩:Sv).a (⟨none,0,0⟩:Sv).n (⟨none,0,0⟩:Sv).c,Value.int .i64 0] fun h12=>
   ∃(y_7:Int) (y_8:Int) (y_9:ByteArray) (y_10:Sv) (y_11:Int) (y_12:Sv) (y_13:Int),cl h12 p6=some (Value.int .i64 y_7)∧cl h12 (p6.add 1)=some (Value.int .u64 y_8)∧cl h12 (p6.add 2)=some (Value.string y_9)∧cl h12 (p6.add 3)=some (Value.slice y_10.a y_10.n y_10.c)∧cl h12 (p6.add 4)=some (Value.int .i64 y_11)∧cl h12 (p6.add 5)=some (Value.slice y_12.a y_12.n y_12.c)∧cl h12 (p6.add 6)=some (Value.int .i64 y_13) ∧
   R (.tuple #[Value.agg #[Value.int .i64 y_7,Value.int .u64 y_8,Value.string y_9,Value.slice y_10.a y_10.n y_10.c,Value.int .i64 y_11,Value.slice y_12.a y_12.n y_12.c,Value.int .i64 y_13],Value.int .i64 f10]) h12) (
   ∃(y38:Int) (y38_1:Int) (y38_2:ByteArray) (y38_3:Sv) (y38_4:Int) (y38_5:Sv) (y38_6:Int),cl h11 v9=some (Value.int .i64 y38)∧cl h11 (v9.add 1)=some (Value.int .u64 y38_1)∧cl h11 (v9.add 2)=some (Value.string y38_2)∧cl h11 (v9.add 3)=some (Value.slice y38_3.a y38_3.n y38_3.c)∧cl h11 (v9.add 4)=some (Value.int .i64 y38_4)∧cl h11 (v9.add 5)=some (Value.slice y38_5.a y38_5.n y38_5.c)∧cl h11 (v9.add 6)=some (Value.int .i64 y38_6) ∧
   cal Try.prog 61 #[Value.agg #[Value.int .i64 y38,Value.int .u64 y38_1,Value.string y38_2,Value.slice y38_3.a y38_3.n y38_3.c,Value.int .i64 y38_4,Value.slice y38_5.a y38_5.n y38_5.c,Value.int .i64 y38_6]] h11 fun u_3 h13=>asB u_3 fun x39=>
   ifb (!x39) (
    stoA h13 p6 [Value.int .i64 0,Value.int .u64 0,Value.string (⟨#[]⟩:ByteArray),Value.slice (⟨none,0,0⟩:Sv).a (⟨none,0,0⟩:Sv).n (⟨none,0,0⟩:Sv).c,Value.int .i64 0,Value.slice (⟨none,0,0⟩:Sv).a (⟨none,0,0⟩:Sv).n (⟨none,0,0⟩:Sv).c,Value.int .i64 0] fun h14=>
    ∃(y_14:Int) (y_15:Int) (y_16:ByteArray) (y_17:Sv) (y_18:Int) (y_19:Sv) (y_20:Int),cl h14 p6=some (Value.int .i64 y_14)∧cl h14 (p6.add 1)=some (Value.int .u64 y_15)∧cl h14 (p6.add 2)=some (Value.string y_16)∧cl h14 (p6.add 3)=some (Value.slice y_17.a y_17.n y_17.c)∧cl h14 (p6.add 4)=some (Value.int .i64 y_18)∧cl h14 (p6.add 5)=some (Value.slice y_19.a y_19.n y_19.c)∧cl h14 (p6.add 6)=some (Value.int .i64 y_20) ∧
    R (.tuple #[Value.agg #[Value.int .i64 y_14,Value.int .u64 y_15,Value.string y_16,Value.slice y_17.a y_17.n y_17.c,Value.int .i64 y_18,Value.slice y_19.a y_19.n y_19.c,Value.int .i64 y_20],Value.int .i64 3]) h14) (
    ∃(y42:Int) (y42_1:Int) (y42_2:ByteArray) (y42_3:Sv) (y42_4:Int) (y42_5:Sv) (y42_6:Int),cl h13 v9=some (Value.int .i64 y42)∧cl h13 (v9.add 1)=some (Value.int .u64 y42_1)∧cl h13 (v9.add 2)=some (Value.string y42_2)∧cl h13 (v9.add 3)=some (Value.slice y42_3.a y42_3.n y42_3.c)∧cl h13 (v9.add 4)=some (Value.int .i64 y42_4)∧cl h13 (v9.add 5)=some (Value.slice y42_5.a y42_5.n y42_5.c)∧cl h13 (v9.add 6)=some (Value.int .i64 y42_6) ∧
    stoA h13 p6 [Value.int .i64 y42,Value.int .u64 y42_1,Value.string y42_2,Value.slice y42_3.a y42_3.n y42_3.c,Value.int .i64 y42_4,Value.slice y42_5.a y42_5.n y42_5.c,Value.int .i64 y42_6] fun h15=>
    ∃(y_21:Int) (y_22:Int) (y_23:ByteArray) (y_24:Sv) (y_25:Int) (y_26:Sv) (y_27:Int),cl h15 p6=some (Value.int .i64 y_21)∧cl h15 (p6.add 1)=some (Value.int .u64 y_22)∧cl h15 (p6.add 2)=some (Value.string y_23)∧cl h15 (p6.add 3)=some (Value.slice y_24.a y_24.n y_24.c)∧cl h15 (p6.add 4)=some (Value.int .i64 y_25)∧cl h15 (p6.add 5)=some (Value.slice y_26.a y_26.n y_26.c)∧cl h15 (p6.add 6)=some (Value.int .i64 y_27) ∧
    R (.tuple #[Value.agg #[Value.int .i64 y_21,Value.int .u64 y_22,Value.string y_23,Value.slice y_24.a y_24.n y_24.c,Value.int .i64 y_25,Value.slice y_26.a y_26.n y_26.c,Value.int .i64 y_27],Value.int .i64 0]) h15))))
set_option maxRecDepth 100000 in
theorem F50 {vh0 p1 p1_1 p1_2 write2 h:_} {R:Value→Heap→Prop} (H:L50 vh0 p1 p1_1 p1_2 write2 h R):CallsH Try.prog 50 #[Value.pointer vh0,Value.agg #[Value.int .i64 p1,Value.slice p1_1.a p1_1.n p1_1.c,Value.int .i64 p1_2],Value.bool write2] h R:=by
 refine CallsH.enter (n:=43) Try.func50 rfl rfl rfl rfl ?_
 intro w0 aa ww S
 unfold L50 at H
 refine W.seq ?_
 refine W.region ?_
 refine ol_box S H rfl rfl rfl trivial ?_
 clear S H;intro p4 aa ww h1 H S
 refine ol_alloc S H ti33 rfl rfl trivial ?_
 clear S H;intro p6 aa ww h2 H S
 refine OL.za S fun _ S=>?_
 refine OL.nil ?_
 refine W.seq ?_
 refine W.seq ?_
 refine W.region ?_
 refine OL.zm S fun _ S=>?_
 obtain⟨y12,y12_1,y12_2,c_56,c_57,c_58,H⟩:=H
 refine OL.zq S (Lf.run_ldA (cs:=[Value.int .i64 y12,Value.slice y12_1.a y12_1.n y12_1.c,Value.int .i64 y12_2]) (S.ev rfl) ag28 ti28 (by rw[S.heap];exact RowL.toRow ⟨c_56,c_57,c_58,trivial⟩)) fun _ S=>?_
 refine OL.zm S fun _ S=>?_
 refine ol_cal S H isfn52 rfl rfl trivial ?_
 clear S H;intro u aa ww h3 H S
 obtain⟨x14,rfl,H⟩:=H
 refine OL.za S fun _ S=>?_
 refine OL.nil ?_
 refine W.seq ?_
 refine W.region ?_
 refine OL.zm S fun _ S=>?_
 refine OL.zq S (Lf.run_neq (S.ev rfl) (S.ev rfl)) fun _ S=>?_
 refine OL.nil ?_
 refine W.cond S (b:=(x14 != 0)) rfl (fun hb=>?_) (fun hb=>?_)
 ·
  replace H:=H.1 hb
  refine W.seq ?_
  refine W.region ?_
  refine OL.zq S (Lf.run_build (cs:=#[Value.int .i64 0,Value.int .u64 0,Value.string (⟨#[]⟩:ByteArray),Value.slice (⟨none,0,0⟩:Sv).a (⟨none,0,0⟩:Sv).n (⟨none,0,0⟩:Sv).c,Value.int .i64 0,Value.slice (⟨none,0,0⟩:Sv).a (⟨none,0,0⟩:Sv).n (⟨none,0,0⟩:Sv).c,Value.int .i64 0]) pl33 ti33 (parts_map S rfl) (by kernel_rfl)) fun _ S=>?_
  refine OL.zm S fun _ S=>?_
  refine ol_stoA S H rfl rfl ti33 trivial ?_
  clear S H;intro aa ww h4 H S
  refine OL.za S fun _ S=>?_
  refine OL.nil ?_
  refine W.ret ?_
  obtain⟨y,y_1,y_2,y_3,y_4,y_5,y_6,c_1,c_2,c_3,c_4,c_5,c_6,c_7,H⟩:=H
  exact Ret.gen S rfl (RV.cellA (cs:=[Value.int .i64 y,Value.int .u64 y_1,Value.string y_2,Value.slice y_3.a y_3.n y_3.c,Value.int .i64 y_4,Value.slice y_5.a y_5.n y_5.c,Value.int .i64 y_6]) rfl ag33 ti33 ⟨c_1,c_2,c_3,c_4,c_5,c_6,c_7,trivial⟩ (RV.tmp rfl RV.nil)) rfl H
 ·
  replace H:=H.2 hb
  refine W.skip ?_
  refine W.seq ?_
  replace S:=S.sub [(0,Value.pointer vh0),(4,Value.pointer (some p4)),(6,Value.pointer (some p6))] ⟨rfl,rfl,rfl,trivial⟩
  obtain⟨J,H,HK⟩:=H
  refine W.mono (N':=fun aa ww=>∃v9 f10 h11,St 43 [(6,Value.pointer (some p6)),(9,Value.pointer (some v9)),(10,Value.int .i64 f10)] h11 w0 aa ww∧J v9 f10 h11) ?_ ?_
  ·
   obtain⟨Sq,HS,H⟩:=H
   refine W.regionN [3,5,8,10] [11,15,16] Sq S (by kernel_rfl) ?_
   clear S;intro ww S
   refine BN.pure 0 S (fun _=>HS) rfl (by kernel_rfl) (by kernel_rfl) (fun _=>Lf.run_move (S.ev rfl)) rfl rfl trivial fun _ S=>?_
   obtain⟨p21,e,H⟩:=H
   refine BN.pure 1 S (fun _=>HS) rfl (by kernel_rfl) (by kernel_rfl) (fun _=>Lf.run_nc' (S.ev rfl) e) rfl rfl trivial fun _ S=>?_
   refine BN.pure 2 S (fun _=>HS) rfl (by kernel_rfl) (by kernel_rfl) (fun _=>Lf.run_fa (S.ev rfl) fa56_0) rfl rfl trivial fun _ S=>?_
   refine BN.pure 4 S (fun _=>HS) rfl (by kernel_rfl) (by kernel_rfl) (fun _=>Lf.run_fa (S.ev rfl) fa28_0) rfl rfl trivial fun _ S=>?_
   refine BN.pure 9 S (fun _=>HS) rfl (by kernel_rfl) (by kernel_rfl) (fun _=>Lf.run_fa (S.ev rfl) fa28_1) rfl rfl trivial fun _ S=>?_
   obtain⟨x23,c_8,H⟩:=H
   refine BN.held 3 S HS rfl (by kernel_rfl) (fun _ hq=>Lf.run_ld (S.ev rfl) fl54 (c_8 _ hq)) rfl rfl trivial fun _ S=>?_
   obtain⟨x25,c_9,H⟩:=H
   refine BN.held 5 S HS rfl (by kernel_rfl) (fun _ hq=>Lf.run_ld (S.ev rfl) fl3 (c_9 _ hq)) rfl rfl trivial fun _ S=>?_
   obtain⟨q26,e_1,e_2,e_3,H⟩:=H
   refine BN.pure 6 S (fun _=>HS) rfl (by kernel_rfl) (by kernel_rfl) (fun _=>Lf.run_ixs (S.ev rfl) (S.ev rfl) Try.underlying54 ti89 e_1 e_2 e_3) rfl rfl trivial fun _ S=>?_
   refine BN.pure 7 S (fun _=>HS) rfl (by kernel_rfl) (by kernel_rfl) (fun _=>Lf.run_fa (S.ev rfl) fa89_1) rfl rfl trivial fun _ S=>?_
   obtain⟨y28,y28_1,y28_2,y28_3,y28_4,y28_5,y28_6,c_12,c_13,c_14,c_15,c_16,c_17,c_18,H⟩:=H
   refine BN.held 8 S HS rfl (by kernel_rfl) (fun _ hq=>Lf.run_ldA (cs:=[Value.int .i64 y28,Value.int .u64 y28_1,Value.string y28_2,Value.slice y28_3.a y28_3.n y28_3.c,Value.int .i64 y28_4,Value.slice y28_5.a y28_5.n y28_5.c,Value.int .i64 y28_6]) (S.ev rfl) ag33 ti33 (hlRow hq fun h_ hs_=>⟨c_12 h_ hs_,c_13 h_ hs_,c_14 h_ hs_,c_15 h_ hs_,c_16 h_ hs_,c_17 h_ hs_,c_18 h_ hs_,trivial⟩)) rfl rfl trivial fun _ S=>?_
   obtain⟨x30,c_11,H⟩:=H
   refine BN.held 10 S HS rfl (by kernel_rfl) (fun _ hq=>Lf.run_ld (S.ev rfl) fl26 (c_11 _ hq)) rfl rfl trivial fun _ S=>?_
   refine BN.effs [11,15] (by kernel_rfl) rfl ⟨⟨_,rfl,?_⟩,⟨_,rfl,?_⟩,trivial⟩
   ·
    replace H:=H.1
    refine ol_cal S H isfn53 rfl rfl trivial ?_
    clear S H;intro u_1 aa ww h5 H S
    obtain⟨y31,y31_1,y31_2,y31_3,y31_4,y31_5,y31_6,x31,rfl,H⟩:=H
    refine OL.nil ?_
    refine⟨noNeed (by kernel_rfl),?_⟩
    refine BN.pure 12 S (noNeed (by kernel_rfl)) rfl (by kernel_rfl) (by kernel_rfl) (fun _=>Lf.run_move (S.ev rfl)) rfl rfl trivial fun _ S=>?_
    refine BN.pure 13 S (noNeed (by kernel_rfl)) rfl (by kernel_rfl) (by kernel_rfl) (fun _=>Lf.run_ex (S.ev rfl) rfl) rfl rfl trivial fun _ S=>?_
    refine BN.pure 14 S (noNeed (by kernel_rfl)) rfl (by kernel_rfl) (by kernel_rfl) (fun _=>Lf.run_ex (S.ev rfl) rfl) rfl rfl trivial fun _ S=>?_
    refine BN.eff 15 rfl (by kernel_rfl) ?_
    refine ol_alloc S H ti33 rfl rfl trivial ?_
    clear S H;intro p9 aa ww h6 H S
    refine OL.nil ?_
    refine⟨noNeed (by kernel_rfl),?_⟩
    refine BN.eff 16 rfl (by kernel_rfl) ?_
    refine ol_stoA S H rfl rfl ti33 trivial ?_
    clear S H;intro aa ww h7 H S
    refine OL.nil ?_
    refine⟨noNeed (by kernel_rfl),?_⟩
    refine BN.pure 17 S (noNeed (by kernel_rfl)) rfl (by kernel_rfl) (by kernel_rfl) (fun _=>Lf.run_assign (S.ev rfl)) rfl rfl trivial fun _ S=>?_
    refine BN.done (by kernel_rfl) ?_
    exact⟨p9,x31,h7,S.sub _ ⟨rfl,rfl,rfl,trivial⟩,H⟩
   ·
    replace H:=H.2
    refine ol_alloc S H ti33 rfl rfl trivial ?_
    clear S H;intro p9_1 aa ww h8 H S
    refine OL.nil ?_
    clear HS;obtain⟨HS,H⟩:=H
    refine⟨fun _=>by rw[S.heap];exact HS,?_⟩
    refine BN.eff 11 rfl (by kernel_rfl) ?_
    refine ol_cal S H isfn53 rfl rfl trivial ?_
    clear S H;intro u_2 aa ww h9 H S
    obtain⟨y31_7,y31_8,y31_9,y31_10,y31_11,y31_12,y31_13,x31_1,rfl,H⟩:=H
    refine OL.nil ?_
    refine⟨noNeed (by kernel_rfl),?_⟩
    refine BN.pure 12 S (noNeed (by kernel_rfl)) rfl (by kernel_rfl) (by kernel_rfl) (fun _=>Lf.run_move (S.ev rfl)) rfl rfl trivial fun _ S=>?_
    refine BN.pure 13 S (noNeed (by kernel_rfl)) rfl (by kernel_rfl) (by kernel_rfl) (fun _=>Lf.run_ex (S.ev rfl) rfl) rfl rfl trivial fun _ S=>?_
    refine BN.pure 14 S (noNeed (by kernel_rfl)) rfl (by kernel_rfl) (by kernel_rfl) (fun _=>Lf.run_ex (S.ev rfl) rfl) rfl rfl trivial fun _ S=>?_
    refine BN.eff 16 rfl (by kernel_rfl) ?_
    refine ol_stoA S H rfl rfl ti33 trivial ?_
    clear S H;intro aa ww h10 H S
    refine OL.nil ?_
    refine⟨noNeed (by kernel_rfl),?_⟩
    refine BN.pure 17 S (noNeed (by kernel_rfl)) rfl (by kernel_rfl) (by kernel_rfl) (fun _=>Lf.run_assign (S.ev rfl)) rfl rfl trivial fun _ S=>?_
    refine BN.done (by kernel_rfl) ?_
    exact⟨p9_1,x31_1,h10,S.sub _ ⟨rfl,rfl,rfl,trivial⟩,H⟩
  ·
   clear H S
   rintro aa ww ⟨v9,f10,h11,S,HJ⟩
   have H:=HK _ _ _ HJ
   clear HK HJ
   refine W.seq ?_
   refine W.seq ?_
   refine W.region ?_
   refine OL.zm S fun _ S=>?_
   refine OL.zq S (Lf.run_neq (S.ev rfl) (S.ev rfl)) fun _ S=>?_
   refine OL.nil ?_
   refine W.cond S (b:=(f10 != 0)) rfl (fun hb_1=>?_) (fun hb_1=>?_)
   ·
    replace H:=H.1 hb_1
    refine W.seq ?_
    refine W.region ?_
    refine OL.zq S (Lf.run_build (cs:=#[Value.int .i64 0,Value.int .u64 0,Value.string (⟨#[]⟩:ByteArray),Value.slice (⟨none,0,0⟩:Sv).a (⟨none,0,0⟩:Sv).n (⟨none,0,0⟩:Sv).c,Value.int .i64 0,Value.slice (⟨none,0,0⟩:Sv).a (⟨none,0,0⟩:Sv).n (⟨none,0,0⟩:Sv).c,Value.int .i64 0]) pl33 ti33 (parts_map S rfl) (by kernel_rfl)) fun _ S=>?_
    refine OL.zm S fun _ S=>?_
    refine ol_stoA S H rfl rfl ti33 trivial ?_
    clear S H;intro aa ww h12 H S
    refine OL.za S fun _ S=>?_
    refine OL.nil ?_
    refine W.ret ?_
    obtain⟨y_7,y_8,y_9,y_10,y_11,y_12,y_13,c_19,c_20,c_21,c_22,c_23,c_24,c_25,H⟩:=H
    exact Ret.gen S rfl (RV.cellA (cs:=[Value.int .i64 y_7,Value.int .u64 y_8,Value.string y_9,Value.slice y_10.a y_10.n y_10.c,Value.int .i64 y_11,Value.slice y_12.a y_12.n y_12.c,Value.int .i64 y_13]) rfl ag33 ti33 ⟨c_19,c_20,c_21,c_22,c_23,c_24,c_25,trivial⟩ (RV.tmp rfl RV.nil)) rfl H
   ·
    replace H:=H.2 hb_1
    refine W.skip ?_
    refine W.seq ?_
    refine W.seq ?_
    refine W.region ?_
    obtain⟨y38,y38_1,y38_2,y38_3,y38_4,y38_5,y38_6,c_49,c_50,c_51,c_52,c_53,c_54,c_55,H⟩:=H
    refine OL.zq S (Lf.run_ldA (cs:=[Value.int .i64 y38,Value.int .u64 y38_1,Value.string y38_2,Value.slice y38_3.a y38_3.n y38_3.c,Value.int .i64 y38_4,Value.slice y38_5.a y38_5.n y38_5.c,Value.int .i64 y38_6]) (S.ev rfl) ag33 ti33 (by rw[S.heap];exact RowL.toRow ⟨c_49,c_50,c_51,c_52,c_53,c_54,c_55,trivial⟩)) fun _ S=>?_
    refine ol_cal S H isfn61 rfl rfl trivial ?_
    clear S H;intro u_3 aa ww h13 H S
    obtain⟨x39,rfl,H⟩:=H
    refine OL.zq S (Lf.run_not (S.ev rfl)) fun _ S=>?_
    refine OL.nil ?_
    refine W.cond S (b:=(!x39)) rfl (fun hb_2=>?_) (fun hb_2=>?_)
    ·
     replace H:=H.1 hb_2
     refine W.seq ?_
     refine W.region ?_
     refine OL.zq S (Lf.run_build (cs:=#[Value.int .i64 0,Value.int .u64 0,Value.string (⟨#[]⟩:ByteArray),Value.slice (⟨none,0,0⟩:Sv).a (⟨none,0,0⟩:Sv).n (⟨none,0,0⟩:Sv).c,Value.int .i64 0,Value.slice (⟨none,0,0⟩:Sv).a (⟨none,0,0⟩:Sv).n (⟨none,0,0⟩:Sv).c,Value.int .i64 0]) pl33 ti33 (parts_map S rfl) (by kernel_rfl)) fun _ S=>?_
     refine ol_stoA S H rfl rfl ti33 trivial ?_
     clear S H;intro aa ww h14 H S
     refine OL.za S fun _ S=>?_
     refine OL.nil ?_
     refine W.ret ?_
     obtain⟨y_14,y_15,y_16,y_17,y_18,y_19,y_20,c_27,c_28,c_29,c_30,c_31,c_32,c_33,H⟩:=H
     exact Ret.gen S rfl (RV.cellA (cs:=[Value.int .i64 y_14,Value.int .u64 y_15,Value.string y_16,Value.slice y_17.a y_17.n y_17.c,Value.int .i64 y_18,Value.slice y_19.a y_19.n y_19.c,Value.int .i64 y_20]) rfl ag33 ti33 ⟨c_27,c_28,c_29,c_30,c_31,c_32,c_33,trivial⟩ (RV.tmp rfl RV.nil)) rfl H
    ·
     replace H:=H.2 hb_2
     refine W.skip ?_
     refine W.seq ?_
     refine W.region ?_
     obtain⟨y42,y42_1,y42_2,y42_3,y42_4,y42_5,y42_6,c_42,c_43,c_44,c_45,c_46,c_47,c_48,H⟩:=H
     refine OL.zq S (Lf.run_ldA (cs:=[Value.int .i64 y42,Value.int .u64 y42_1,Value.string y42_2,Value.slice y42_3.a y42_3.n y42_3.c,Value.int .i64 y42_4,Value.slice y42_5.a y42_5.n y42_5.c,Value.int .i64 y42_6]) (S.ev rfl) ag33 ti33 (by rw[S.heap];exact RowL.toRow ⟨c_42,c_43,c_44,c_45,c_46,c_47,c_48,trivial⟩)) fun _ S=>?_
     refine ol_stoA S H rfl rfl ti33 trivial ?_
     clear S H;intro aa ww h15 H S
     refine OL.za S fun _ S=>?_
     refine OL.nil ?_
     refine W.ret ?_
     obtain⟨y_21,y_22,y_23,y_24,y_25,y_26,y_27,c_35,c_36,c_37,c_38,c_39,c_40,c_41,H⟩:=H
     exact Ret.gen S rfl (RV.cellA (cs:=[Value.int .i64 y_21,Value.int .u64 y_22,Value.string y_23,Value.slice y_24.a y_24.n y_24.c,Value.int .i64 y_25,Value.slice y_26.a y_26.n y_26.c,Value.int .i64 y_27]) rfl ag33 ti33 ⟨c_35,c_36,c_37,c_38,c_39,c_40,c_41,trivial⟩ (RV.tmp rfl RV.nil)) rfl H
def L51 (v0:Int) (v0_1:Int) (v0_2:ByteArray) (v0_3:Sv) (v0_4:Int) (v0_5:Sv) (v0_6:Int) (path1:Sv) (x2:Int) (x2_1:Int) (x2_2:ByteArray) (x2_3:Sv) (x2_4:Int) (x2_5:Sv) (x2_6:Int) (h:Heap) (R:Value→Heap→Prop):Prop:=
 new 33 #[Value.int .i64 v0,Value.int .u64 v0_1,Value.string v0_2,Value.slice v0_3.a v0_3.n v0_3.c,Value.int .i64 v0_4,Value.slice v0_5.a v0_5.n v0_5.c,Value.int .i64 v0_6] h fun p3 h1=>
 new 33 #[Value.int .i64 x2,Value.int .u64 x2_1,Value.string x2_2,Value.slice x2_3.a x2_3.n x2_3.c,Value.int .i64 x2_4,Value.slice x2_5.a x2_5.n x2_5.c,Value.int .i64 x2_6] h1 fun p5 h2=>
 new 33 #[Value.int .i64 0,Value.int .u64 0,Value.string (⟨#[]⟩:ByteArray),Value.slice (⟨none,0,0⟩:Sv).a (⟨none,0,0⟩:Sv).n (⟨none,0,0⟩:Sv).c,Value.int .i64 0,Value.slice (⟨none,0,0⟩:Sv).a (⟨none,0,0⟩:Sv).n (⟨none,0,0⟩:Sv).c,Value.int .i64 0] h2 fun p6 h3=>
 ifb (((path1.n:Nat):Int) == 0) (
  ∃(y11:Int) (y11_1:Int) (y11_2:ByteArray) (y11_3:Sv) (y11_4:Int) (y11_5:Sv) (y11_6:Int),cl h3 p5=some (Value.int .i64 y11)∧cl h3 (p5.add 1)=some (Value.int .u64 y11_1)∧cl h3 (p5.add 2)=some (Value.string y11_2)∧cl h3 (p5.add 3)=some (Value.slice y11_3.a y11_3.n y11_3.c)∧cl h3 (p5.add 4)=some (Value.int .i64 y11_4)∧cl h3 (p5.add 5)=some (Value.slice y11_5.a y11_5.n y11_5.c)∧cl h3 (p5.add 6)=some (Value.int .i64 y11_6) ∧
  stoA h3 p6 [Value.int .i64 y11,Value.int .u64 y11_1,Value.string y11_2,Value.slice y11_3.a y11_3.n y11_3.c,Value.int .i64 y11_4,Value.slice y11_5.a y11_5.n y11_5.c,Value.int .i64 y11_6] fun h4=>
  ∃(y:Int) (y_1:Int) (y_2:ByteArray) (y_3:Sv) (y_4:Int) (y_5:Sv) (y_6:Int),cl h4 p6=some (Value.int .i64 y)∧cl h4 (p6.add 1)=some (Value.int .u64 y_1)∧cl h4 (p6.add 2)=some (Value.string y_2)∧cl h4 (p6.add 3)=some (Value.slice y_3.a y_3.n y_3.c)∧cl h4 (p6.add 4)=some (Value.int .i64 y_4)∧cl h4 (p6.add 5)=some (Value.slice y_5.a y_5.n y_5.c)∧cl h4 (p6.add 6)=some (Value.int .i64 y_6) ∧
  R (Value.agg #[Value.int .i64 y,Value.int .u64 y_1,Value.string y_2,Value.slice y_3.a y_3.n y_3.c,Value.int .i64 y_4,Value.slice y_5.a y_5.n y_5.c,Value.int .i64 y_6]) h4) (
  ∃(y12:Int) (y12_1:Int) (y12_2:ByteArray) (y12_3:Sv) (y12_4:Int) (y12_5:Sv) (y12_6:Int),cl h3 p3=some (Value.int .i64 y12)∧cl h3 (p3.add 1)=some (Value.int .u64 y12_1)∧cl h3 (p3.add 2)=some (Value.string y12_2)∧cl h3 (p3.add 3)=some (Value.slice y12_3.a y12_3.n y12_3.c)∧cl h3 (p3.add 4)=some (Value.int .i64 y12_4)∧cl h3 (p3.add 5)=some (Value.slice y12_5.a y12_5.n y12_5.c)∧cl h3 (p3.add 6)=some (Value.int .i64 y12_6) ∧
  new 33 #[Value.int .i64 0,Value.int .u64 0,Value.string (⟨#[]⟩:ByteArray),Value.slice (⟨none,0,0⟩:Sv).a (⟨none,0,0⟩:Sv).n (⟨none,0,0⟩:Sv).c,Value.int .i64 0,Value.slice (⟨none,0,0⟩:Sv).a (⟨none,0,0⟩:Sv).n (⟨none,0,0⟩:Sv).c,Value.int .i64 0] h3 fun p7 h5=>
  stoA h5 p7 [Value.int .i64 y12,Value.int .u64 y12_1,Value.string y12_2,Value.slice y12_3.a y12_3.n y12_3.c,Value.int .i64 y12_4,Value.slice y12_5.a y12_5.n y12_5.c,Value.int .i64 y12_6] fun h6=>
  newS 33 #[] 0 h6 fun s13 h7=>
  ldS h7 (p3.add 3) fun x15=>
  appS 33 (Value.agg #[Value.int .i64 0,Value.int .u64 0,Value.string (⟨#[]⟩:ByteArray),Value.slice (⟨none,0,0⟩:Sv).a (⟨none,0,0⟩:Sv).n (⟨none,0,0⟩:Sv).c,Value.int .i64 0,Value.slice (⟨none,0,0⟩:Sv).a (⟨none,0,0⟩:Sv).n (⟨none,0,0⟩:Sv).c,Value.int .i64 0]).cells 7 96 h7 s13 x15 fun s16 h8=>
  sto h8 (p7.add 3) (Value.slice s16.a s16.n s16.c) fun h9=>
  ∃Sq:Heap→Prop,Sq h9∧(
   ixS path1 0 fun q21=>
   ixS path1 0 fun q26=>
   hlS Sq (p7.add 3) fun x19=>
   hlI .i64 Sq q21 fun x22=>
   hlS Sq (p3.add 3) fun x24=>
   hlI .i64 Sq q26 fun x27=>
   ixS x24 x27 fun q28=>
   ∃(y29:Int) (y29_1:Int) (y29_2:ByteArray) (y29_3:Sv) (y29_4:Int) (y29_5:Sv) (y29_6:Int),hld Sq (q28.add ((x27:Int).toNat*7)) (Value.int .i64 y29)∧hld Sq ((q28.add ((x27:Int).toNat*7)).add 1) (Value.int .u64 y29_1)∧hld Sq ((q28.add ((x27:Int).toNat*7)).add 2) (Value.string y29_2)∧hld Sq ((q28.add ((x27:Int).toNat*7)).add 3) (Value.slice y29_3.a y29_3.n y29_3.c)∧hld Sq ((q28.add ((x27:Int).toNat*7)).add 4) (Value.int .i64 y29_4)∧hld Sq ((q28.add ((x27:Int).toNat*7)).add 5) (Value.slice y29_5.a y29_5.n y29_5.c)∧hld Sq ((q28.add ((x27:Int).toNat*7)).add 6) (Value.int .i64 y29_6) ∧
   ∃(y32:Int) (y32_1:Int) (y32_2:ByteArray) (y32_3:Sv) (y32_4:Int) (y32_5:Sv) (y32_6:Int),hld Sq p5 (Value.int .i64 y32)∧hld Sq (p5.add 1) (Value.int .u64 y32_1)∧hld Sq (p5.add 2) (Value.string y32_2)∧hld Sq (p5.add 3) (Value.slice y32_3.a y32_3.n y32_3.c)∧hld Sq (p5.add 4) (Value.int .i64 y32_4)∧hld Sq (p5.add 5) (Value.slice y32_5.a y32_5.n y32_5.c)∧hld Sq (p5.add 6) (Value.int .i64 y32_6) ∧
   slS path1 1 1 ((path1.n:Nat):Int) fun s31=>
   Sq h9 ∧
   cal Try.prog 51 #[Value.agg #[Value.int .i64 y29,Value.int .u64 y29_1,Value.string y29_2,Value.slice y29_3.a y29_3.n y29_3.c,Value.int .i64 y29_4,Value.slice y29_5.a y29_5.n y29_5.c,Value.int .i64 y29_6],Value.slice s31.a s31.n s31.c,Value.agg #[Value.int .i64 y32,Value.int .u64 y32_1,Value.string y32_2,Value.slice y32_3.a y32_3.n y32_3.c,Value.int .i64 y32_4,Value.slice y32_5.a y32_5.n y32_5.c,Value.int .i64 y32_6]] h9 fun u h10=>∃(y33:Int) (y33_1:Int) (y33_2:ByteArray) (y33_3:Sv) (y33_4:Int) (y33_5:Sv) (y33_6:Int),u=Value.agg #[Value.int .i64 y33,Value.int .u64 y33_1,Value.string y33_2,Value.slice y33_3.a y33_3.n y33_3.c,Value.int .i64 y33_4,Value.slice y33_5.a y33_5.n y33_5.c,Value.int .i64 y33_6] ∧
   Sq h10 ∧
   ixS x19 x22 fun q34=>
   stoA h10 (q34.add ((x22:Int).toNat*7)) [Value.int .i64 y33,Value.int .u64 y33_1,Value.string y33_2,Value.slice y33_3.a y33_3.n y33_3.c,Value.int .i64 y33_4,Value.slice y33_5.a y33_5.n y33_5.c,Value.int .i64 y33_6] fun h11=>
   ∃(y35:Int) (y35_1:Int) (y35_2:ByteArray) (y35_3:Sv) (y35_4:Int) (y35_5:Sv) (y35_6:Int),cl h11 p7=some (Value.int .i64 y35)∧cl h11 (p7.add 1)=some (Value.int .u64 y35_1)∧cl h11 (p7.add 2)=some (Value.string y35_2)∧cl h11 (p7.add 3)=some (Value.slice y35_3.a y35_3.n y35_3.c)∧cl h11 (p7.add 4)=some (Value.int .i64 y35_4)∧cl h11 (p7.add 5)=some (Value.slice y35_5.a y35_5.n y35_5.c)∧cl h11 (p7.add 6)=some (Value.int .i64 y35_6) ∧
   stoA h11 p6 [Value.int .i64 y35,Value.int .u64 y35_1,Value.string y35_2,Value.slice y35_3.a y35_3.n y35_3.c,Value.int .i64 y35_4,Value.slice y35_5.a y35_5.n y35_5.c,Value.int .i64 y35_6] fun h12=>
   ∃(y_7:Int) (y_8:Int) (y_9:ByteArray) (y_10:Sv) (y_11:Int) (y_12:Sv) (y_13:Int),cl h12 p6=some (Value.int .i64 y_7)∧cl h12 (p6.add 1)=some (Value.int .u64 y_8)∧cl h12 (p6.add 2)=some (Value.string y_9)∧cl h12 (p6.add 3)=some (Value.slice y_10.a y_10.n y_10.c)∧cl h12 (p6.add 4)=some (Value.int .i64 y_11)∧cl h12 (p6.add 5)=some (Value.slice y_12.a y_12.n y_12.c)∧cl h12 (p6.add 6)=some (Value.int .i64 y_13) ∧
   R (Value.agg #[Value.int .i64 y_7,Value.int .u64 y_8,Value.string y_9,Value.slice y_10.a y_10.n y_10.c,Value.int .i64 y_11,Value.slice y_12.a y_12.n y_12.c,Value.int .i64 y_13]) h12))
set_option maxRecDepth 100000 in
theorem F51 {v0 v0_1 v0_2 v0_3 v0_4 v0_5 v0_6 path1 x2 x2_1 x2_2 x2_3 x2_4 x2_5 x2_6 h:_} {R:Value→Heap→Prop} (H:L51 v0 v0_1 v0_2 v0_3 v0_4 v0_5 v0_6 path1 x2 x2_1 x2_2 x2_3 x2_4 x2_5 x2_6 h R):CallsH Try.prog 51 #[Value.agg #[Value.int .i64 v0,Value.int .u64 v0_1,Value.string v0_2,Value.slice v0_3.a v0_3.n v0_3.c,Value.int .i64 v0_4,Value.slice v0_5.a v0_5.n v0_5.c,Value.int .i64 v0_6],Value.slice path1.a path1.n path1.c,Value.agg #[Value.int .i64 x2,Value.int .u64 x2_1,Value.string x2_2,Value.slice x2_3.a x2_3.n x2_3.c,Value.int .i64 x2_4,Value.slice x2_5.a x2_5.n x2_5.c,Value.int .i64 x2_6]] h R:=by
 refine CallsH.enter (n:=36) Try.func51 rfl rfl rfl rfl ?_
 intro w0 aa ww S
 unfold L51 at H
 refine W.seq ?_
 refine W.region ?_
 refine ol_box S H rfl rfl rfl trivial ?_
 clear S H;intro p3 aa ww h1 H S
 refine ol_box S H rfl rfl rfl trivial ?_
 clear S H;intro p5 aa ww h2 H S
 refine ol_alloc S H ti33 rfl rfl trivial ?_
 clear S H;intro p6 aa ww h3 H S
 refine OL.nil ?_
 refine W.seq ?_
 refine W.seq ?_
 refine W.region ?_
 refine OL.zm S fun _ S=>?_
 refine OL.zq S (Lf.run_lens (S.ev rfl) rfl Try.underlying26) fun _ S=>?_
 refine OL.zq S (Lf.run_eql (S.ev rfl) (S.ev rfl)) fun _ S=>?_
 refine OL.nil ?_
 refine W.cond S (b:=(((path1.n:Nat):Int) == 0)) rfl (fun hb=>?_) (fun hb=>?_)
 ·
  replace H:=H.1 hb
  refine W.seq ?_
  refine W.region ?_
  obtain⟨y11,y11_1,y11_2,y11_3,y11_4,y11_5,y11_6,c_8,c_9,c_10,c_11,c_12,c_13,c_14,H⟩:=H
  refine OL.zq S (Lf.run_ldA (cs:=[Value.int .i64 y11,Value.int .u64 y11_1,Value.string y11_2,Value.slice y11_3.a y11_3.n y11_3.c,Value.int .i64 y11_4,Value.slice y11_5.a y11_5.n y11_5.c,Value.int .i64 y11_6]) (S.ev rfl) ag33 ti33 (by rw[S.heap];exact RowL.toRow ⟨c_8,c_9,c_10,c_11,c_12,c_13,c_14,trivial⟩)) fun _ S=>?_
  refine ol_stoA S H rfl rfl ti33 trivial ?_
  clear S H;intro aa ww h4 H S
  refine OL.nil ?_
  refine W.ret ?_
  obtain⟨y,y_1,y_2,y_3,y_4,y_5,y_6,c_1,c_2,c_3,c_4,c_5,c_6,c_7,H⟩:=H
  exact Ret.gen S rfl (RV.cellA (cs:=[Value.int .i64 y,Value.int .u64 y_1,Value.string y_2,Value.slice y_3.a y_3.n y_3.c,Value.int .i64 y_4,Value.slice y_5.a y_5.n y_5.c,Value.int .i64 y_6]) rfl ag33 ti33 ⟨c_1,c_2,c_3,c_4,c_5,c_6,c_7,trivial⟩ RV.nil) rfl H
 ·
  replace H:=H.2 hb
  refine W.skip ?_
  refine W.seq ?_
  refine W.region ?_
  obtain⟨y12,y12_1,y12_2,y12_3,y12_4,y12_5,y12_6,c_56,c_57,c_58,c_59,c_60,c_61,c_62,H⟩:=H
  refine OL.zq S (Lf.run_ldA (cs:=[Value.int .i64 y12,Value.int .u64 y12_1,Value.string y12_2,Value.slice y12_3.a y12_3.n y12_3.c,Value.int .i64 y12_4,Value.slice y12_5.a y12_5.n y12_5.c,Value.int .i64 y12_6]) (S.ev rfl) ag33 ti33 (by rw[S.heap];exact RowL.toRow ⟨c_56,c_57,c_58,c_59,c_60,c_61,c_62,trivial⟩)) fun _ S=>?_
  refine ol_alloc S H ti33 rfl rfl trivial ?_
  clear S H;intro p7 aa ww h5 H S
  refine ol_stoA S H rfl rfl ti33 trivial ?_
  clear S H;intro aa ww h6 H S
  refine OL.nil ?_
  refine W.seq ?_
  refine W.region ?_
  refine ol_newS0 S H Try.underlying31 ti33 rfl rfl trivial ?_
  clear S H;intro s13 aa ww h7 H S
  refine OL.zf S fa33_3 fun _ S=>?_
  obtain⟨x15,c_16,H⟩:=H
  refine OL.zl S fl31 c_16 fun _ S=>?_
  refine ol_appS S H Try.underlying31 ti33 rfl rfl rfl trivial ?_
  clear S H;intro s16 aa ww h8 H S
  refine OL.zf S fa33_3 fun _ S=>?_
  refine ol_sto S H rfl rfl rfl ti31 trivial ?_
  clear S H;intro aa ww h9 H S
  refine OL.nil ?_
  refine W.seq ?_
  replace S:=S.sub [(1,Value.slice path1.a path1.n path1.c),(3,Value.pointer (some p3)),(5,Value.pointer (some p5)),(6,Value.pointer (some p6)),(7,Value.pointer (some p7))] ⟨rfl,rfl,rfl,rfl,rfl,trivial⟩
  obtain⟨Sq,HS,H⟩:=H
  refine W.regionN [1,4,6,9,11,14] [13,15,17] Sq S (by kernel_rfl) ?_
  clear S;intro ww S
  refine BN.pure 0 S (fun _=>HS) rfl (by kernel_rfl) (by kernel_rfl) (fun _=>Lf.run_fa (S.ev rfl) fa33_3) rfl rfl trivial fun _ S=>?_
  refine BN.pure 2 S (fun _=>HS) rfl (by kernel_rfl) (by kernel_rfl) (fun _=>Lf.run_move (S.ev rfl)) rfl rfl trivial fun _ S=>?_
  obtain⟨q21,e,e_1,e_2,H⟩:=H
  refine BN.pure 3 S (fun _=>HS) rfl (by kernel_rfl) (by kernel_rfl) (fun _=>Lf.run_ixs (S.ev rfl) (S.ev rfl) Try.underlying26 ti3 e e_1 e_2) rfl rfl trivial fun _ S=>?_
  refine BN.pure 5 S (fun _=>HS) rfl (by kernel_rfl) (by kernel_rfl) (fun _=>Lf.run_fa (S.ev rfl) fa33_3) rfl rfl trivial fun _ S=>?_
  refine BN.pure 7 S (fun _=>HS) rfl (by kernel_rfl) (by kernel_rfl) (fun _=>Lf.run_move (S.ev rfl)) rfl rfl trivial fun _ S=>?_
  obtain⟨q26,e_3,e_4,e_5,H⟩:=H
  refine BN.pure 8 S (fun _=>HS) rfl (by kernel_rfl) (by kernel_rfl) (fun _=>Lf.run_ixs (S.ev rfl) (S.ev rfl) Try.underlying26 ti3 e_3 e_4 e_5) rfl rfl trivial fun _ S=>?_
  refine BN.pure 12 S (fun _=>HS) rfl (by kernel_rfl) (by kernel_rfl) (fun _=>Lf.run_move (S.ev rfl)) rfl rfl trivial fun _ S=>?_
  obtain⟨x19,c_17,H⟩:=H
  refine BN.held 1 S HS rfl (by kernel_rfl) (fun _ hq=>Lf.run_ld (S.ev rfl) fl31 (c_17 _ hq)) rfl rfl trivial fun _ S=>?_
  obtain⟨x22,c_18,H⟩:=H
  refine BN.held 4 S HS rfl (by kernel_rfl) (fun _ hq=>Lf.run_ld (S.ev rfl) fl3 (c_18 _ hq)) rfl rfl trivial fun _ S=>?_
  obtain⟨x24,c_19,H⟩:=H
  refine BN.held 6 S HS rfl (by kernel_rfl) (fun _ hq=>Lf.run_ld (S.ev rfl) fl31 (c_19 _ hq)) rfl rfl trivial fun _ S=>?_
  obtain⟨x27,c_20,H⟩:=H
  refine BN.held 9 S HS rfl (by kernel_rfl) (fun _ hq=>Lf.run_ld (S.ev rfl) fl3 (c_20 _ hq)) rfl rfl trivial fun _ S=>?_
  obtain⟨q28,e_6,e_7,e_8,H⟩:=H
  refine BN.pure 10 S (fun _=>HS) rfl (by kernel_rfl) (by kernel_rfl) (fun _=>Lf.run_ixs (S.ev rfl) (S.ev rfl) Try.underlying31 ti33 e_6 e_7 e_8) rfl rfl trivial fun _ S=>?_
  obtain⟨y29,y29_1,y29_2,y29_3,y29_4,y29_5,y29_6,c_49,c_50,c_51,c_52,c_53,c_54,c_55,H⟩:=H
  refine BN.held 11 S HS rfl (by kernel_rfl) (fun _ hq=>Lf.run_ldA (cs:=[Value.int .i64 y29,Value.int .u64 y29_1,Value.string y29_2,Value.slice y29_3.a y29_3.n y29_3.c,Value.int .i64 y29_4,Value.slice y29_5.a y29_5.n y29_5.c,Value.int .i64 y29_6]) (S.ev rfl) ag33 ti33 (hlRow hq fun h_ hs_=>⟨c_49 h_ hs_,c_50 h_ hs_,c_51 h_ hs_,c_52 h_ hs_,c_53 h_ hs_,c_54 h_ hs_,c_55 h_ hs_,trivial⟩)) rfl rfl trivial fun _ S=>?_
  obtain⟨y32,y32_1,y32_2,y32_3,y32_4,y32_5,y32_6,c_42,c_43,c_44,c_45,c_46,c_47,c_48,H⟩:=H
  refine BN.held 14 S HS rfl (by kernel_rfl) (fun _ hq=>Lf.run_ldA (cs:=[Value.int .i64 y32,Value.int .u64 y32_1,Value.string y32_2,Value.slice y32_3.a y32_3.n y32_3.c,Value.int .i64 y32_4,Value.slice y32_5.a y32_5.n y32_5.c,Value.int .i64 y32_6]) (S.ev rfl) ag33 ti33 (hlRow hq fun h_ hs_=>⟨c_42 h_ hs_,c_43 h_ hs_,c_44 h_ hs_,c_45 h_ hs_,c_46 h_ hs_,c_47 h_ hs_,c_48 h_ hs_,trivial⟩)) rfl rfl trivial fun _ S=>?_
  refine BN.eff 13 rfl (by kernel_rfl) ?_
  obtain⟨s31,c_23,c_24,c_25,c_26,H⟩:=slS_ex H
  refine OL.zq S (Lf.run_slSN Try.underlying26 ti3 (S.ev rfl) (S.ev rfl) c_23 c_24 c_25 c_26) fun _ S=>?_
  refine OL.nil ?_
  clear HS;obtain⟨HS,H⟩:=H
  refine⟨fun _=>by rw[S.heap];exact HS,?_⟩
  refine BN.eff 15 rfl (by kernel_rfl) ?_
  refine ol_cal S H isfn51 rfl rfl trivial ?_
  clear S H;intro u aa ww h10 H S
  obtain⟨y33,y33_1,y33_2,y33_3,y33_4,y33_5,y33_6,rfl,H⟩:=H
  refine OL.nil ?_
  clear HS;obtain⟨HS,H⟩:=H
  refine⟨fun _=>by rw[S.heap];exact HS,?_⟩
  obtain⟨q34,e_9,e_10,e_11,H⟩:=H
  refine BN.pure 16 S (fun _=>HS) rfl (by kernel_rfl) (by kernel_rfl) (fun _=>Lf.run_ixs (S.ev rfl) (S.ev rfl) Try.underlying31 ti33 e_9 e_10 e_11) rfl rfl trivial fun _ S=>?_
  refine BN.eff 17 rfl (by kernel_rfl) ?_
  refine ol_stoA S H rfl rfl ti33 trivial ?_
  clear S H;intro aa ww h11 H S
  refine OL.nil ?_
  refine⟨noNeed (by kernel_rfl),?_⟩
  refine BN.done (by kernel_rfl) ?_
  refine W.seq ?_
  refine W.region ?_
  obtain⟨y35,y35_1,y35_2,y35_3,y35_4,y35_5,y35_6,c_35,c_36,c_37,c_38,c_39,c_40,c_41,H⟩:=H
  refine OL.zq S (Lf.run_ldA (cs:=[Value.int .i64 y35,Value.int .u64 y35_1,Value.string y35_2,Value.slice y35_3.a y35_3.n y35_3.c,Value.int .i64 y35_4,Value.slice y35_5.a y35_5.n y35_5.c,Value.int .i64 y35_6]) (S.ev rfl) ag33 ti33 (by rw[S.heap];exact RowL.toRow ⟨c_35,c_36,c_37,c_38,c_39,c_40,c_41,trivial⟩)) fun _ S=>?_
  refine ol_stoA S H rfl rfl ti33 trivial ?_
  clear S H;intro aa ww h12 H S
  refine OL.nil ?_
  refine W.ret ?_
  obtain⟨y_7,y_8,y_9,y_10,y_11,y_12,y_13,c_28,c_29,c_30,c_31,c_32,c_33,c_34,H⟩:=H
  exact Ret.gen S rfl (RV.cellA (cs:=[Value.int .i64 y_7,Value.int .u64 y_8,Value.string y_9,Value.slice y_10.a y_10.n y_10.c,Value.int .i64 y_11,Value.slice y_12.a y_12.n y_12.c,Value.int .i64 y_13]) rfl ag33 ti33 ⟨c_28,c_29,c_30,c_31,c_32,c_33,c_34,trivial⟩ RV.nil) rfl H
def L52 (vh0:Option Addr) (p1:Int) (p1_1:Sv) (p1_2:Int) (write2:Bool) (h:Heap) (R:Value→Heap→Prop):Prop:=
 new 28 #[Value.int .i64 p1,Value.slice p1_1.a p1_1.n p1_1.c,Value.int .i64 p1_2] h fun p4 h1=>
 ldI .i64 h1 p4 fun x14=>
 cal Try.prog 55 #[Value.pointer vh0,Value.int .i64 x14] h1 fun u h2=>asB u fun x15=>
 ifb (!x15) (
  R (Value.int .i64 1) h2) (
  nn vh0 fun p18=>
  ldB h2 (p18.add 3) fun x20=>
  ifb (!x20) (
   R (Value.int .i64 0) h2) (
   nn vh0 fun p23=>
   ldS h2 p23 fun x25=>
   ldI .i64 h2 p4 fun x27=>
   ixS x25 x27 fun q28=>
   ldS h2 ((q28.add ((x27:Int).toNat*9)).add 8) fun x30=>
   ∃(I:Int→Int→Prop) (m:Int→Int→Nat),I (-1) 0∧∀vat8 i9,I vat8 i9 →
   ifb (decide (i9<((x30.n:Nat):Int))) (
    ∃J:Int→Prop,(
     ixS x30 i9 fun q39=>
     ldI .i64 h2 (q39.add ((i9:Int).toNat*3)) fun x41=>
     ldI .i64 h2 (p4.add 2) fun x43=>
     ifb (x41 == x43) (
      J i9) (
      J vat8))∧(∀vat8_1,J vat8_1 →
    I vat8_1 (IntKind.i64.wrap (i9+1))∧m vat8_1 (IntKind.i64.wrap (i9+1))<m vat8 i9)) (
    ∃J_1:Bool→Heap→Prop,(
     ∃Sq:Heap→Prop,Sq h2∧(
      ifb (decide (vat8<0)) (
       J_1 true h2) (
       ixS x30 vat8 fun q51=>
       hlS Sq ((q51.add ((vat8:Int).toNat*3)).add 1) fun x53=>
       ldS h2 (p4.add 1) fun x56=>
       ifb (decide (((x56.n:Nat):Int)<((x53.n:Nat):Int))) (
        J_1 true h2) (
        ixS x30 vat8 fun q63=>
        ldS h2 ((q63.add ((vat8:Int).toNat*3)).add 1) fun x65=>
        ldS h2 (p4.add 1) fun x67=>
        cal Try.prog 62 #[Value.slice x65.a x65.n x65.c,Value.slice x67.a x67.n x67.c] h2 fun u_1 h3=>asB u_1 fun x68=>
        ifb (!x68) (
         J_1 true h3) (
         ifb write2 (
          ixS x30 vat8 fun q76=>
          ldB h3 ((q76.add ((vat8:Int).toNat*3)).add 2) fun x78=>
          J_1 (!x78) h3) (
          J_1 false h3))))))∧(∀x81 h4,J_1 x81 h4 →
    ifb x81 (
     R (Value.int .i64 2) h4) (
     ∃(I_1:Sv→Int→Heap→Prop) (m_1:Sv→Int→Heap→Nat),I_1 (⟨none,0,0⟩:Sv) 0 h4∧∀kept10 i11 h5,I_1 kept10 i11 h5 →
     ifb (decide (i11<((x30.n:Nat):Int))) (
      ∃J_2:Sv→Heap→Prop,(
       ∃J_3:Bool→Heap→Prop,(
        ifb (decide (vat8<i11)) (
         ixS x30 i11 fun q94=>
         ldS h5 ((q94.add ((i11:Int).toNat*3)).add 1) fun x96=>
         ldS h5 (p4.add 1) fun x98=>
         cal Try.prog 62 #[Value.slice x96.a x96.n x96.c,Value.slice x98.a x98.n x98.c] h5 fun u_2 h6=>asB u_2 fun x99=>
         ifb x99 (
          ifb write2 (
           J_3 true h6) (
           ixS x30 i11 fun q106=>
           ldB h6 ((q106.add ((i11:Int).toNat*3)).add 2) fun x108=>
           J_3 x108 h6)) (
          J_3 false h6)) (
         J_3 false h5))∧(∀x110 h7,J_3 x110 h7 →
       ifb x110 (
        J_2 kept10 h7) (
        ixS x30 i11 fun q114=>
        ∃(y115:Int) (y115_1:Sv) (y115_2:Bool),cl h7 (q114.add ((i11:Int).toNat*3))=some (Value.int .i64 y115)∧cl h7 ((q114.add ((i11:Int).toNat*3)).add 1)=some (Value.slice y115_1.a y115_1.n y115_1.c)∧cl h7 ((q114.add ((i11:Int).toNat*3)).add 2)=some (Value.bool y115_2) ∧
        newS 80 #[Value.int .i64 y115,Value.slice y115_1.a y115_1.n y115_1.c,Value.bool y115_2] 1 h7 fun s116 h8=>
        appS 80 (Value.agg #[Value.int .i64 0,Value.slice (⟨none,0,0⟩:Sv).a (⟨none,0,0⟩:Sv).n (⟨none,0,0⟩:Sv).c,Value.bool false]).cells 3 40 h8 kept10 s116 fun s117 h9=>
        J_2 s117 h9)))∧(∀kept10_1 h10,J_2 kept10_1 h10 →
      I_1 kept10_1 (IntKind.i64.wrap (i11+1)) h10∧m_1 kept10_1 (IntKind.i64.wrap (i11+1)) h10<m_1 kept10 i11 h5)) (
      nn vh0 fun p119=>
      ldS h5 p119 fun x121=>
      ldI .i64 h5 p4 fun x123=>
      ixS x121 x123 fun q125=>
      sto h5 ((q125.add ((x123:Int).toNat*9)).add 8) (Value.slice kept10.a kept10.n kept10.c) fun h11=>
      R (Value.int .i64 0) h11))))))
set_option maxRecDepth 100000 in
theorem F52 {vh0 p1 p1_1 p1_2 write2 h:_} {R:Value→Heap→Prop} (H:L52 vh0 p1 p1_1 p1_2 write2 h R):CallsH Try.prog 52 #[Value.pointer vh0,Value.agg #[Value.int .i64 p1,Value.slice p1_1.a p1_1.n p1_1.c,Value.int .i64 p1_2],Value.bool write2] h R:=by
 refine CallsH.enter (n:=127) Try.func52 rfl rfl rfl rfl ?_
 intro w0 aa ww S
 unfold L52 at H
 refine W.seq ?_
 refine W.region ?_
 refine ol_box S H rfl rfl rfl trivial ?_
 clear S H;intro p4 aa ww h1 H S
 refine OL.za S fun _ S=>?_
 refine OL.nil ?_
 refine W.seq ?_
 refine W.seq ?_
 refine W.region ?_
 refine OL.zm S fun _ S=>?_
 refine OL.zf S fa28_0 fun _ S=>?_
 obtain⟨x14,c,H⟩:=H
 refine OL.zl S fl3 c fun _ S=>?_
 refine ol_cal S H isfn55 rfl rfl trivial ?_
 clear S H;intro u aa ww h2 H S
 obtain⟨x15,rfl,H⟩:=H
 refine OL.zq S (Lf.run_not (S.ev rfl)) fun _ S=>?_
 refine OL.nil ?_
 refine W.cond S (b:=(!x15)) rfl (fun hb=>?_) (fun hb=>?_)
 ·
  replace H:=H.1 hb
  refine W.seq ?_
  refine W.region ?_
  refine OL.za S fun _ S=>?_
  refine OL.nil ?_
  refine W.ret ?_
  exact Ret.one S rfl rfl H
 ·
  replace H:=H.2 hb
  refine W.skip ?_
  refine W.seq ?_
  refine W.seq ?_
  refine W.region ?_
  refine OL.zm S fun _ S=>?_
  obtain⟨p18,e,H⟩:=H
  refine OL.zq S (Lf.run_nc' (S.ev rfl) e) fun _ S=>?_
  refine OL.zf S fa56_3 fun _ S=>?_
  obtain⟨x20,c_1,H⟩:=H
  refine OL.zl S fl4 c_1 fun _ S=>?_
  refine OL.zq S (Lf.run_not (S.ev rfl)) fun _ S=>?_
  refine OL.nil ?_
  refine W.cond S (b:=(!x20)) rfl (fun hb_1=>?_) (fun hb_1=>?_)
  ·
   replace H:=H.1 hb_1
   refine W.seq ?_
   refine W.region ?_
   refine OL.za S fun _ S=>?_
   refine OL.nil ?_
   refine W.ret ?_
   exact Ret.one S rfl rfl H
  ·
   replace H:=H.2 hb_1
   refine W.skip ?_
   refine W.seq ?_
   replace S:=S.sub [(0,Value.pointer vh0),(2,Value.bool write2),(4,Value.pointer (some p4))] ⟨rfl,rfl,rfl,trivial⟩
   refine W.regionD S (by kernel_rfl) ?_
   clear S;intro ww S
   refine AN.zq 0 S rfl (fun _=>Lf.run_move (S.ev rfl)) fun _ S=>?_
   obtain⟨p23,e_1,H⟩:=H
   refine AN.zq 1 S rfl (fun _=>Lf.run_nc' (S.ev rfl) e_1) fun _ S=>?_
   refine AN.zq 2 S rfl (fun _=>Lf.run_fa (S.ev rfl) fa56_0) fun _ S=>?_
   obtain⟨x25,c_2,H⟩:=H
   refine AN.zl 3 S rfl (fun _ hx=>Lf.run_ld (S.ev rfl) fl54 (hx.cell _ _ (S.cl c_2))) fun _ S=>?_
   refine AN.zq 4 S rfl (fun _=>Lf.run_fa (S.ev rfl) fa28_0) fun _ S=>?_
   obtain⟨x27,c_3,H⟩:=H
   refine AN.zl 5 S rfl (fun _ hx=>Lf.run_ld (S.ev rfl) fl3 (hx.cell _ _ (S.cl c_3))) fun _ S=>?_
   obtain⟨q28,e_2,e_3,e_4,H⟩:=H
   refine AN.zq 6 S rfl (fun _=>Lf.run_ixs (S.ev rfl) (S.ev rfl) Try.underlying54 ti89 e_2 e_3 e_4) fun _ S=>?_
   refine AN.zq 7 S rfl (fun _=>Lf.run_fa (S.ev rfl) fa89_2) fun _ S=>?_
   obtain⟨x30,c_4,H⟩:=H
   refine AN.zl 8 S rfl (fun _ hx=>Lf.run_ld (S.ev rfl) fl69 (hx.cell _ _ (S.cl c_4))) fun _ S=>?_
   refine AN.zq 9 S rfl (fun _=>Lf.run_assign (S.ev rfl)) fun _ S=>?_
   refine AN.done (by kernel_rfl) ?_
   refine W.seq ?_
   refine W.region ?_
   refine OL.za S fun _ S=>?_
   refine OL.nil ?_
   refine W.seq ?_
   refine W.seq ?_
   refine W.region ?_
   refine OL.za S fun _ S=>?_
   refine OL.nil ?_
   refine W.block ?_
   obtain⟨I,m,H,HB_1⟩:=H
   refine W.loopS (σ:=Int×Int) (fun s aa ww=>St 127 [(0,Value.pointer vh0),(2,Value.bool write2),(4,Value.pointer (some p4)),(7,Value.slice x30.a x30.n x30.c),(8,Value.int .i64 s.1),(9,Value.int .i64 s.2)] h2 w0 aa ww∧I s.1 s.2) (fun s=>m s.1 s.2) ((-1),0) ⟨S.sub _ ⟨rfl,rfl,rfl,rfl,rfl,rfl,trivial⟩,H⟩ ?_
   clear H S
   rintro ⟨vat8,i9⟩ aa ww ⟨S,HI⟩
   replace S:St 127 [(0,Value.pointer vh0),(2,Value.bool write2),(4,Value.pointer (some p4)),(7,Value.slice x30.a x30.n x30.c),(8,Value.int .i64 vat8),(9,Value.int .i64 i9)] h2 w0 aa ww:=S
   have H:=HB_1 vat8 i9 HI
   clear HI
   refine W.seq ?_
   refine W.seq ?_
   refine W.region ?_
   refine OL.zm S fun _ S=>?_
   refine OL.zm S fun _ S=>?_
   refine OL.zq S (Lf.run_lens (S.ev rfl) rfl Try.underlying69) fun _ S=>?_
   refine OL.zq S (Lf.run_lss (S.ev rfl) (S.ev rfl)) fun _ S=>?_
   refine OL.nil ?_
   refine W.cond S (b:=(decide (i9<((x30.n:Nat):Int)))) rfl (fun hb_2=>?_) (fun hb_2=>?_)
   ·
    replace H:=H.1 hb_2
    refine W.skip ?_
    obtain⟨J,H,HK⟩:=H
    refine W.seqJ (fun aa ww=>∃vat8_1,St 127 [(0,Value.pointer vh0),(2,Value.bool write2),(4,Value.pointer (some p4)),(7,Value.slice x30.a x30.n x30.c),(8,Value.int .i64 vat8_1),(9,Value.int .i64 i9)] h2 w0 aa ww∧J vat8_1) ?_ ?_
    ·
     clear HK
     refine W.block ?_
     refine W.seq ?_
     replace S:=S.sub [(0,Value.pointer vh0),(2,Value.bool write2),(4,Value.pointer (some p4)),(7,Value.slice x30.a x30.n x30.c),(8,Value.int .i64 vat8),(9,Value.int .i64 i9)] ⟨rfl,rfl,rfl,rfl,rfl,rfl,trivial⟩
     refine W.regionD S (by kernel_rfl) ?_
     clear S;intro ww S
     refine AN.zq 0 S rfl (fun _=>Lf.run_move (S.ev rfl)) fun _ S=>?_
     refine AN.zq 1 S rfl (fun _=>Lf.run_move (S.ev rfl)) fun _ S=>?_
     obtain⟨q39,e_5,e_6,e_7,H⟩:=H
     refine AN.zq 2 S rfl (fun _=>Lf.run_ixs (S.ev rfl) (S.ev rfl) Try.underlying69 ti80 e_5 e_6 e_7) fun _ S=>?_
     refine AN.zq 3 S rfl (fun _=>Lf.run_fa (S.ev rfl) fa80_0) fun _ S=>?_
     obtain⟨x41,c_5,H⟩:=H
     refine AN.zl 4 S rfl (fun _ hx=>Lf.run_ld (S.ev rfl) fl3 (hx.cell _ _ (S.cl c_5))) fun _ S=>?_
     refine AN.zq 5 S rfl (fun _=>Lf.run_fa (S.ev rfl) fa28_2) fun _ S=>?_
     obtain⟨x43,c_6,H⟩:=H
     refine AN.zl 6 S rfl (fun _ hx=>Lf.run_ld (S.ev rfl) fl3 (hx.cell _ _ (S.cl c_6))) fun _ S=>?_
     refine AN.zq 7 S rfl (fun _=>Lf.run_eql (S.ev rfl) (S.ev rfl)) fun _ S=>?_
     refine AN.done (by kernel_rfl) ?_
     refine W.cond S (b:=(x41 == x43)) rfl (fun hb_3=>?_) (fun hb_3=>?_)
     ·
      replace H:=H.1 hb_3
      refine W.region ?_
      refine OL.zm S fun _ S=>?_
      refine OL.za S fun _ S=>?_
      refine OL.nil ?_
      exact⟨i9,S.sub _ ⟨rfl,rfl,rfl,rfl,rfl,rfl,trivial⟩,H⟩
     ·
      replace H:=H.2 hb_3
      refine W.skip ?_
      exact⟨vat8,S.sub _ ⟨rfl,rfl,rfl,rfl,rfl,rfl,trivial⟩,H⟩
    ·
     clear H S
     rintro aa ww ⟨vat8_1,S,HJ⟩
     have H:=HK _ HJ
     clear HK HJ
     refine W.region ?_
     refine OL.zm S fun _ S=>?_
     refine OL.zq S (Lf.run_add (S.ev rfl) (S.ev rfl)) fun _ S=>?_
     refine OL.za S fun _ S=>?_
     refine OL.nil ?_
     exact⟨(vat8_1,(IntKind.i64.wrap (i9+1))),⟨S.sub _ ⟨rfl,rfl,rfl,rfl,rfl,rfl,trivial⟩,H.1⟩,H.2⟩
   ·
    replace H:=H.2 hb_2
    refine W.exit_ ?_
    refine xhit ?_
    refine W.seq ?_
    refine W.seq ?_
    replace S:=S.sub [(0,Value.pointer vh0),(2,Value.bool write2),(4,Value.pointer (some p4)),(7,Value.slice x30.a x30.n x30.c),(8,Value.int .i64 vat8)] ⟨rfl,rfl,rfl,rfl,rfl,trivial⟩
    obtain⟨J_1,H,HK_1⟩:=H
    refine W.mono (N':=fun aa ww=>∃x81 h4,St 127 [(0,Value.pointer vh0),(2,Value.bool write2),(4,Value.pointer (some p4)),(7,Value.slice x30.a x30.n x30.c),(8,Value.int .i64 vat8),(81,Value.bool x81)] h4 w0 aa ww∧J_1 x81 h4) ?_ ?_
    ·
     obtain⟨Sq,HS,H⟩:=H
     refine W.regionN [7] [22] Sq S (by kernel_rfl) ?_
     clear S;intro ww S
     refine BN.pure 0 S (fun _=>HS) rfl (by kernel_rfl) (by kernel_rfl) (fun _=>Lf.run_move (S.ev rfl)) rfl rfl trivial fun _ S=>?_
     refine BN.pure 1 S (fun _=>HS) rfl (by kernel_rfl) (by kernel_rfl) (fun _=>Lf.run_lss (S.ev rfl) (S.ev rfl)) rfl rfl trivial fun _ S=>?_
     refine BN.pure 2 S (fun _=>HS) rfl (by kernel_rfl) (by kernel_rfl) (fun _=>Lf.run_move (S.ev rfl)) rfl rfl trivial fun _ S=>?_
     rcases Bool.eq_false_or_eq_true (decide (vat8<0)) with hb_4|hb_4
     ·
      replace H:=H.1 hb_4
      refine BN.not 3 S (fun _=>HS) rfl (by kernel_rfl) (by kernel_rfl) rfl rfl (GNo.mk rfl rfl hb_4) fun _ S=>?_
      refine BN.not 4 S (fun _=>HS) rfl (by kernel_rfl) (by kernel_rfl) rfl rfl (GNo.mk rfl rfl hb_4) fun _ S=>?_
      refine BN.not 5 S (fun _=>HS) rfl (by kernel_rfl) (by kernel_rfl) rfl rfl (GNo.mk rfl rfl hb_4) fun _ S=>?_
      refine BN.not 6 S (fun _=>HS) rfl (by kernel_rfl) (by kernel_rfl) rfl rfl (GNo.mk rfl rfl hb_4) fun _ S=>?_
      refine BN.not 7 S (fun _=>HS) rfl (by kernel_rfl) (by kernel_rfl) rfl rfl (GNo.mk rfl rfl hb_4) fun _ S=>?_
      refine BN.not 8 S (fun _=>HS) rfl (by kernel_rfl) (by kernel_rfl) rfl rfl (GNo.mk rfl rfl hb_4) fun _ S=>?_
      refine BN.not 9 S (fun _=>HS) rfl (by kernel_rfl) (by kernel_rfl) rfl rfl (GNo.mk rfl rfl hb_4) fun _ S=>?_
      refine BN.not 10 S (fun _=>HS) rfl (by kernel_rfl) (by kernel_rfl) rfl rfl (GNo.mk rfl rfl hb_4) fun _ S=>?_
      refine BN.not 11 S (fun _=>HS) rfl (by kernel_rfl) (by kernel_rfl) rfl rfl (GNo.mk rfl rfl hb_4) fun _ S=>?_
      refine BN.not 12 S (fun _=>HS) rfl (by kernel_rfl) (by kernel_rfl) rfl rfl (GNo.mk rfl rfl hb_4) fun _ S=>?_
      refine BN.pure 13 S (fun _=>HS) rfl (by kernel_rfl) (by kernel_rfl) (fun _=>run_pickT (S.ev rfl) hb_4 (S.ev rfl)) rfl rfl trivial fun _ S=>?_
      refine BN.pure 14 S (fun _=>HS) rfl (by kernel_rfl) (by kernel_rfl) (fun _=>Lf.run_move (S.ev rfl)) rfl rfl trivial fun _ S=>?_
      have hb_9:(true:Bool)=true:=rfl
      refine BN.not 15 S (fun _=>HS) rfl (by kernel_rfl) (by kernel_rfl) rfl rfl (GNo.mk rfl rfl hb_9) fun _ S=>?_
      refine BN.not 16 S (fun _=>HS) rfl (by kernel_rfl) (by kernel_rfl) rfl rfl (GNo.mk rfl rfl hb_9) fun _ S=>?_
      refine BN.not 17 S (fun _=>HS) rfl (by kernel_rfl) (by kernel_rfl) rfl rfl (GNo.mk rfl rfl hb_9) fun _ S=>?_
      refine BN.not 18 S (fun _=>HS) rfl (by kernel_rfl) (by kernel_rfl) rfl rfl (GNo.mk rfl rfl hb_9) fun _ S=>?_
      refine BN.not 19 S (fun _=>HS) rfl (by kernel_rfl) (by kernel_rfl) rfl rfl (GNo.mk rfl rfl hb_9) fun _ S=>?_
      refine BN.not 20 S (fun _=>HS) rfl (by kernel_rfl) (by kernel_rfl) rfl rfl (GNo.mk rfl rfl hb_9) fun _ S=>?_
      refine BN.not 21 S (fun _=>HS) rfl (by kernel_rfl) (by kernel_rfl) rfl rfl (GNo.mk rfl rfl hb_9) fun _ S=>?_
      refine BN.eff 22 rfl (by kernel_rfl) ?_
      refine OL.zn S (GNo.mk rfl rfl hb_9) fun _ S=>?_
      refine OL.nil ?_
      refine⟨noNeed (by kernel_rfl),?_⟩
      refine BN.not 23 S (noNeed (by kernel_rfl)) rfl (by kernel_rfl) (by kernel_rfl) rfl rfl (GNo.mk rfl rfl hb_9) fun _ S=>?_
      refine BN.pure 24 S (noNeed (by kernel_rfl)) rfl (by kernel_rfl) (by kernel_rfl) (fun _=>run_pickT (S.ev rfl) hb_9 (S.ev rfl)) rfl rfl trivial fun _ S=>?_
      refine BN.pure 25 S (noNeed (by kernel_rfl)) rfl (by kernel_rfl) (by kernel_rfl) (fun _=>Lf.run_move (S.ev rfl)) rfl rfl trivial fun _ S=>?_
      have hb_10:(true:Bool)=true:=rfl
      refine BN.not 26 S (noNeed (by kernel_rfl)) rfl (by kernel_rfl) (by kernel_rfl) rfl rfl (GNo.mk rfl rfl hb_10) fun _ S=>?_
      refine BN.not 27 S (noNeed (by kernel_rfl)) rfl (by kernel_rfl) (by kernel_rfl) rfl rfl (GNo.mk rfl rfl hb_10) fun _ S=>?_
      refine BN.not 28 S (noNeed (by kernel_rfl)) rfl (by kernel_rfl) (by kernel_rfl) rfl rfl (GNo.un rfl rfl) fun _ S=>?_
      refine BN.not 29 S (noNeed (by kernel_rfl)) rfl (by kernel_rfl) (by kernel_rfl) rfl rfl (GNo.un rfl rfl) fun _ S=>?_
      refine BN.not 30 S (noNeed (by kernel_rfl)) rfl (by kernel_rfl) (by kernel_rfl) rfl rfl (GNo.un rfl rfl) fun _ S=>?_
      refine BN.not 31 S (noNeed (by kernel_rfl)) rfl (by kernel_rfl) (by kernel_rfl) rfl rfl (GNo.un rfl rfl) fun _ S=>?_
      refine BN.not 32 S (noNeed (by kernel_rfl)) rfl (by kernel_rfl) (by kernel_rfl) rfl rfl (GNo.un rfl rfl) fun _ S=>?_
      refine BN.not 33 S (noNeed (by kernel_rfl)) rfl (by kernel_rfl) (by kernel_rfl) rfl rfl (GNo.un rfl rfl) fun _ S=>?_
      refine BN.not 34 S (noNeed (by kernel_rfl)) rfl (by kernel_rfl) (by kernel_rfl) rfl rfl (GNo.mk rfl rfl hb_10) fun _ S=>?_
      refine BN.pure 35 S (noNeed (by kernel_rfl)) rfl (by kernel_rfl) (by kernel_rfl) (fun _=>run_pickT (S.ev rfl) hb_10 (S.ev rfl)) rfl rfl trivial fun _ S=>?_
      refine BN.done (by kernel_rfl) ?_
      exact⟨true,h2,S.sub _ ⟨rfl,rfl,rfl,rfl,rfl,rfl,trivial⟩,H⟩
     ·
      replace H:=H.2 hb_4
      refine BN.pure 3 S (fun _=>HS) rfl (by kernel_rfl) (by kernel_rfl) (fun _=>Lf.run_move (S.ev rfl)) rfl rfl (GOk.mk rfl rfl hb_4) fun _ S=>?_
      refine BN.pure 4 S (fun _=>HS) rfl (by kernel_rfl) (by kernel_rfl) (fun _=>Lf.run_move (S.ev rfl)) rfl rfl (GOk.mk rfl rfl hb_4) fun _ S=>?_
      obtain⟨q51,e_8,e_9,e_10,H⟩:=H
      refine BN.pure 5 S (fun _=>HS) rfl (by kernel_rfl) (by kernel_rfl) (fun _=>Lf.run_ixs (S.ev rfl) (S.ev rfl) Try.underlying69 ti80 e_8 e_9 e_10) rfl rfl (GOk.mk rfl rfl hb_4) fun _ S=>?_
      refine BN.pure 6 S (fun _=>HS) rfl (by kernel_rfl) (by kernel_rfl) (fun _=>Lf.run_fa (S.ev rfl) fa80_1) rfl rfl (GOk.mk rfl rfl hb_4) fun _ S=>?_
      refine BN.pure 9 S (fun _=>HS) rfl (by kernel_rfl) (by kernel_rfl) (fun _=>Lf.run_fa (S.ev rfl) fa28_1) rfl rfl (GOk.mk rfl rfl hb_4) fun _ S=>?_
      obtain⟨x53,c_7,H⟩:=H
      refine BN.held 7 S HS rfl (by kernel_rfl) (fun _ hq=>Lf.run_ld (S.ev rfl) fl26 (c_7 _ hq)) rfl rfl (GOk.mk rfl rfl hb_4) fun _ S=>?_
      refine BN.pure 8 S (fun _=>HS) rfl (by kernel_rfl) (by kernel_rfl) (fun _=>Lf.run_lens (S.ev rfl) rfl Try.underlying26) rfl rfl (GOk.mk rfl rfl hb_4) fun _ S=>?_
      obtain⟨x56,c_8,H⟩:=H
      refine BN.load 10 S (fun _=>HS) rfl (by kernel_rfl) (by kernel_rfl) (fun _ hx=>Lf.run_ld (S.ev rfl) fl26 (hx.cell _ _ (S.cl c_8))) rfl rfl (GOk.mk rfl rfl hb_4) fun _ S=>?_
      refine BN.pure 11 S (fun _=>HS) rfl (by kernel_rfl) (by kernel_rfl) (fun _=>Lf.run_lens (S.ev rfl) rfl Try.underlying26) rfl rfl (GOk.mk rfl rfl hb_4) fun _ S=>?_
      refine BN.pure 12 S (fun _=>HS) rfl (by kernel_rfl) (by kernel_rfl) (fun _=>Lf.run_gtr (S.ev rfl) (S.ev rfl)) rfl rfl (GOk.mk rfl rfl hb_4) fun _ S=>?_
      refine BN.pure 13 S (fun _=>HS) rfl (by kernel_rfl) (by kernel_rfl) (fun _=>run_pickF (S.ev rfl) hb_4 (S.ev rfl)) rfl rfl trivial fun _ S=>?_
      refine BN.pure 14 S (fun _=>HS) rfl (by kernel_rfl) (by kernel_rfl) (fun _=>Lf.run_move (S.ev rfl)) rfl rfl trivial fun _ S=>?_
      rcases Bool.eq_false_or_eq_true (decide (((x56.n:Nat):Int)<((x53.n:Nat):Int))) with hb_5|hb_5
      ·
       replace H:=H.1 hb_5
       refine BN.not 15 S (fun _=>HS) rfl (by kernel_rfl) (by kernel_rfl) rfl rfl (GNo.mk rfl rfl hb_5) fun _ S=>?_
       refine BN.not 16 S (fun _=>HS) rfl (by kernel_rfl) (by kernel_rfl) rfl rfl (GNo.mk rfl rfl hb_5) fun _ S=>?_
       refine BN.not 17 S (fun _=>HS) rfl (by kernel_rfl) (by kernel_rfl) rfl rfl (GNo.mk rfl rfl hb_5) fun _ S=>?_
       refine BN.not 18 S (fun _=>HS) rfl (by kernel_rfl) (by kernel_rfl) rfl rfl (GNo.mk rfl rfl hb_5) fun _ S=>?_
       refine BN.not 19 S (fun _=>HS) rfl (by kernel_rfl) (by kernel_rfl) rfl rfl (GNo.mk rfl rfl hb_5) fun _ S=>?_
       refine BN.not 20 S (fun _=>HS) rfl (by kernel_rfl) (by kernel_rfl) rfl rfl (GNo.mk rfl rfl hb_5) fun _ S=>?_
       refine BN.not 21 S (fun _=>HS) rfl (by kernel_rfl) (by kernel_rfl) rfl rfl (GNo.mk rfl rfl hb_5) fun _ S=>?_
       refine BN.eff 22 rfl (by kernel_rfl) ?_
       refine OL.zn S (GNo.mk rfl rfl hb_5) fun _ S=>?_
       refine OL.nil ?_
       refine⟨noNeed (by kernel_rfl),?_⟩
       refine BN.not 23 S (noNeed (by kernel_rfl)) rfl (by kernel_rfl) (by kernel_rfl) rfl rfl (GNo.mk rfl rfl hb_5) fun _ S=>?_
       refine BN.pure 24 S (noNeed (by kernel_rfl)) rfl (by kernel_rfl) (by kernel_rfl) (fun _=>run_pickT (S.ev rfl) hb_5 (S.ev rfl)) rfl rfl trivial fun _ S=>?_
       refine BN.pure 25 S (noNeed (by kernel_rfl)) rfl (by kernel_rfl) (by kernel_rfl) (fun _=>Lf.run_move (S.ev rfl)) rfl rfl trivial fun _ S=>?_
       have hb_8:(true:Bool)=true:=rfl
       refine BN.not 26 S (noNeed (by kernel_rfl)) rfl (by kernel_rfl) (by kernel_rfl) rfl rfl (GNo.mk rfl rfl hb_8) fun _ S=>?_
       refine BN.not 27 S (noNeed (by kernel_rfl)) rfl (by kernel_rfl) (by kernel_rfl) rfl rfl (GNo.mk rfl rfl hb_8) fun _ S=>?_
       refine BN.not 28 S (noNeed (by kernel_rfl)) rfl (by kernel_rfl) (by kernel_rfl) rfl rfl (GNo.un rfl rfl) fun _ S=>?_
       refine BN.not 29 S (noNeed (by kernel_rfl)) rfl (by kernel_rfl) (by kernel_rfl) rfl rfl (GNo.un rfl rfl) fun _ S=>?_
       refine BN.not 30 S (noNeed (by kernel_rfl)) rfl (by kernel_rfl) (by kernel_rfl) rfl rfl (GNo.un rfl rfl) fun _ S=>?_
       refine BN.not 31 S (noNeed (by kernel_rfl)) rfl (by kernel_rfl) (by kernel_rfl) rfl rfl (GNo.un rfl rfl) fun _ S=>?_
       refine BN.not 32 S (noNeed (by kernel_rfl)) rfl (by kernel_rfl) (by kernel_rfl) rfl rfl (GNo.un rfl rfl) fun _ S=>?_
       refine BN.not 33 S (noNeed (by kernel_rfl)) rfl (by kernel_rfl) (by kernel_rfl) rfl rfl (GNo.un rfl rfl) fun _ S=>?_
       refine BN.not 34 S (noNeed (by kernel_rfl)) rfl (by kernel_rfl) (by kernel_rfl) rfl rfl (GNo.mk rfl rfl hb_8) fun _ S=>?_
       refine BN.pure 35 S (noNeed (by kernel_rfl)) rfl (by kernel_rfl) (by kernel_rfl) (fun _=>run_pickT (S.ev rfl) hb_8 (S.ev rfl)) rfl rfl trivial fun _ S=>?_
       refine BN.done (by kernel_rfl) ?_
       exact⟨true,h2,S.sub _ ⟨rfl,rfl,rfl,rfl,rfl,rfl,trivial⟩,H⟩
      ·
       replace H:=H.2 hb_5
       refine BN.pure 15 S (fun _=>HS) rfl (by kernel_rfl) (by kernel_rfl) (fun _=>Lf.run_move (S.ev rfl)) rfl rfl (GOk.mk rfl rfl hb_5) fun _ S=>?_
       refine BN.pure 16 S (fun _=>HS) rfl (by kernel_rfl) (by kernel_rfl) (fun _=>Lf.run_move (S.ev rfl)) rfl rfl (GOk.mk rfl rfl hb_5) fun _ S=>?_
       obtain⟨q63,e_11,e_12,e_13,H⟩:=H
       refine BN.pure 17 S (fun _=>HS) rfl (by kernel_rfl) (by kernel_rfl) (fun _=>Lf.run_ixs (S.ev rfl) (S.ev rfl) Try.underlying69 ti80 e_11 e_12 e_13) rfl rfl (GOk.mk rfl rfl hb_5) fun _ S=>?_
       refine BN.pure 18 S (fun _=>HS) rfl (by kernel_rfl) (by kernel_rfl) (fun _=>Lf.run_fa (S.ev rfl) fa80_1) rfl rfl (GOk.mk rfl rfl hb_5) fun _ S=>?_
       obtain⟨x65,c_9,H⟩:=H
       refine BN.load 19 S (fun _=>HS) rfl (by kernel_rfl) (by kernel_rfl) (fun _ hx=>Lf.run_ld (S.ev rfl) fl26 (hx.cell _ _ (S.cl c_9))) rfl rfl (GOk.mk rfl rfl hb_5) fun _ S=>?_
       refine BN.pure 20 S (fun _=>HS) rfl (by kernel_rfl) (by kernel_rfl) (fun _=>Lf.run_fa (S.ev rfl) fa28_1) rfl rfl (GOk.mk rfl rfl hb_5) fun _ S=>?_
       obtain⟨x67,c_10,H⟩:=H
       refine BN.load 21 S (fun _=>HS) rfl (by kernel_rfl) (by kernel_rfl) (fun _ hx=>Lf.run_ld (S.ev rfl) fl26 (hx.cell _ _ (S.cl c_10))) rfl rfl (GOk.mk rfl rfl hb_5) fun _ S=>?_
       refine BN.eff 22 rfl (by kernel_rfl) ?_
       refine ol_cal S H isfn62 rfl rfl (GOk.mk rfl rfl hb_5) ?_
       clear S H;intro u_1 aa ww h3 H S
       obtain⟨x68,rfl,H⟩:=H
       refine OL.nil ?_
       refine⟨noNeed (by kernel_rfl),?_⟩
       refine BN.pure 23 S (noNeed (by kernel_rfl)) rfl (by kernel_rfl) (by kernel_rfl) (fun _=>Lf.run_not (S.ev rfl)) rfl rfl (GOk.mk rfl rfl hb_5) fun _ S=>?_
       refine BN.pure 24 S (noNeed (by kernel_rfl)) rfl (by kernel_rfl) (by kernel_rfl) (fun _=>run_pickF (S.ev rfl) hb_5 (S.ev rfl)) rfl rfl trivial fun _ S=>?_
       refine BN.pure 25 S (noNeed (by kernel_rfl)) rfl (by kernel_rfl) (by kernel_rfl) (fun _=>Lf.run_move (S.ev rfl)) rfl rfl trivial fun _ S=>?_
       rcases Bool.eq_false_or_eq_true (!x68) with hb_6|hb_6
       ·
        replace H:=H.1 hb_6
        refine BN.not 26 S (noNeed (by kernel_rfl)) rfl (by kernel_rfl) (by kernel_rfl) rfl rfl (GNo.mk rfl rfl hb_6) fun _ S=>?_
        refine BN.not 27 S (noNeed (by kernel_rfl)) rfl (by kernel_rfl) (by kernel_rfl) rfl rfl (GNo.mk rfl rfl hb_6) fun _ S=>?_
        refine BN.not 28 S (noNeed (by kernel_rfl)) rfl (by kernel_rfl) (by kernel_rfl) rfl rfl (GNo.un rfl rfl) fun _ S=>?_
        refine BN.not 29 S (noNeed (by kernel_rfl)) rfl (by kernel_rfl) (by kernel_rfl) rfl rfl (GNo.un rfl rfl) fun _ S=>?_
        refine BN.not 30 S (noNeed (by kernel_rfl)) rfl (by kernel_rfl) (by kernel_rfl) rfl rfl (GNo.un rfl rfl) fun _ S=>?_
        refine BN.not 31 S (noNeed (by kernel_rfl)) rfl (by kernel_rfl) (by kernel_rfl) rfl rfl (GNo.un rfl rfl) fun _ S=>?_
        refine BN.not 32 S (noNeed (by kernel_rfl)) rfl (by kernel_rfl) (by kernel_rfl) rfl rfl (GNo.un rfl rfl) fun _ S=>?_
        refine BN.not 33 S (noNeed (by kernel_rfl)) rfl (by kernel_rfl) (by kernel_rfl) rfl rfl (GNo.un rfl rfl) fun _ S=>?_
        refine BN.not 34 S (noNeed (by kernel_rfl)) rfl (by kernel_rfl) (by kernel_rfl) rfl rfl (GNo.mk rfl rfl hb_6) fun _ S=>?_
        refine BN.pure 35 S (noNeed (by kernel_rfl)) rfl (by kernel_rfl) (by kernel_rfl) (fun _=>run_pickT (S.ev rfl) hb_6 (S.ev rfl)) rfl rfl trivial fun _ S=>?_
        refine BN.done (by kernel_rfl) ?_
        exact⟨true,h3,S.sub _ ⟨rfl,rfl,rfl,rfl,rfl,rfl,trivial⟩,H⟩
       ·
        replace H:=H.2 hb_6
        refine BN.pure 26 S (noNeed (by kernel_rfl)) rfl (by kernel_rfl) (by kernel_rfl) (fun _=>Lf.run_move (S.ev rfl)) rfl rfl (GOk.mk rfl rfl hb_6) fun _ S=>?_
        refine BN.pure 27 S (noNeed (by kernel_rfl)) rfl (by kernel_rfl) (by kernel_rfl) (fun _=>Lf.run_move (S.ev rfl)) rfl rfl (GOk.mk rfl rfl hb_6) fun _ S=>?_
        rcases Bool.eq_false_or_eq_true write2 with hb_7|hb_7
        ·
         replace H:=H.1 hb_7
         refine BN.pure 28 S (noNeed (by kernel_rfl)) rfl (by kernel_rfl) (by kernel_rfl) (fun _=>Lf.run_move (S.ev rfl)) rfl rfl (GOk.mk rfl rfl hb_7) fun _ S=>?_
         refine BN.pure 29 S (noNeed (by kernel_rfl)) rfl (by kernel_rfl) (by kernel_rfl) (fun _=>Lf.run_move (S.ev rfl)) rfl rfl (GOk.mk rfl rfl hb_7) fun _ S=>?_
         obtain⟨q76,e_14,e_15,e_16,H⟩:=H
         refine BN.pure 30 S (noNeed (by kernel_rfl)) rfl (by kernel_rfl) (by kernel_rfl) (fun _=>Lf.run_ixs (S.ev rfl) (S.ev rfl) Try.underlying69 ti80 e_14 e_15 e_16) rfl rfl (GOk.mk rfl rfl hb_7) fun _ S=>?_
         refine BN.pure 31 S (noNeed (by kernel_rfl)) rfl (by kernel_rfl) (by kernel_rfl) (fun _=>Lf.run_fa (S.ev rfl) fa80_2) rfl rfl (GOk.mk rfl rfl hb_7) fun _ S=>?_
         obtain⟨x78,c_11,H⟩:=H
         refine BN.load 32 S (noNeed (by kernel_rfl)) rfl (by kernel_rfl) (by kernel_rfl) (fun _ hx=>Lf.run_ld (S.ev rfl) fl4 (hx.cell _ _ (S.cl c_11))) rfl rfl (GOk.mk rfl rfl hb_7) fun _ S=>?_
         refine BN.pure 33 S (noNeed (by kernel_rfl)) rfl (by kernel_rfl) (by kernel_rfl) (fun _=>Lf.run_not (S.ev rfl)) rfl rfl (GOk.mk rfl rfl hb_7) fun _ S=>?_
         refine BN.pure 34 S (noNeed (by kernel_rfl)) rfl (by kernel_rfl) (by kernel_rfl) (fun _=>run_pickT (S.ev rfl) hb_7 (S.ev rfl)) rfl rfl (GOk.mk rfl rfl hb_6) fun _ S=>?_
         refine BN.pure 35 S (noNeed (by kernel_rfl)) rfl (by kernel_rfl) (by kernel_rfl) (fun _=>run_pickF (S.ev rfl) hb_6 (S.ev rfl)) rfl rfl trivial fun _ S=>?_
         refine BN.done (by kernel_rfl) ?_
         exact⟨(!x78),h3,S.sub _ ⟨rfl,rfl,rfl,rfl,rfl,rfl,trivial⟩,H⟩
        ·
         replace H:=H.2 hb_7
         refine BN.not 28 S (noNeed (by kernel_rfl)) rfl (by kernel_rfl) (by kernel_rfl) rfl rfl (GNo.mk rfl rfl hb_7) fun _ S=>?_
         refine BN.not 29 S (noNeed (by kernel_rfl)) rfl (by kernel_rfl) (by kernel_rfl) rfl rfl (GNo.mk rfl rfl hb_7) fun _ S=>?_
         refine BN.not 30 S (noNeed (by kernel_rfl)) rfl (by kernel_rfl) (by kernel_rfl) rfl rfl (GNo.mk rfl rfl hb_7) fun _ S=>?_
         refine BN.not 31 S (noNeed (by kernel_rfl)) rfl (by kernel_rfl) (by kernel_rfl) rfl rfl (GNo.mk rfl rfl hb_7) fun _ S=>?_
         refine BN.not 32 S (noNeed (by kernel_rfl)) rfl (by kernel_rfl) (by kernel_rfl) rfl rfl (GNo.mk rfl rfl hb_7) fun _ S=>?_
         refine BN.not 33 S (noNeed (by kernel_rfl)) rfl (by kernel_rfl) (by kernel_rfl) rfl rfl (GNo.mk rfl rfl hb_7) fun _ S=>?_
         refine BN.pure 34 S (noNeed (by kernel_rfl)) rfl (by kernel_rfl) (by kernel_rfl) (fun _=>run_pickF (S.ev rfl) hb_7 (S.ev rfl)) rfl rfl (GOk.mk rfl rfl hb_6) fun _ S=>?_
         refine BN.pure 35 S (noNeed (by kernel_rfl)) rfl (by kernel_rfl) (by kernel_rfl) (fun _=>run_pickF (S.ev rfl) hb_6 (S.ev rfl)) rfl rfl trivial fun _ S=>?_
         refine BN.done (by kernel_rfl) ?_
         exact⟨false,h3,S.sub _ ⟨rfl,rfl,rfl,rfl,rfl,rfl,trivial⟩,H⟩
    ·
     clear H S
     rintro aa ww ⟨x81,h4,S,HJ⟩
     have H:=HK_1 _ _ HJ
     clear HK_1 HJ
     refine W.cond S (b:=x81) rfl (fun hb_11=>?_) (fun hb_11=>?_)
     ·
      replace H:=H.1 hb_11
      refine W.seq ?_
      refine W.region ?_
      refine OL.za S fun _ S=>?_
      refine OL.nil ?_
      refine W.ret ?_
      exact Ret.one S rfl rfl H
     ·
      replace H:=H.2 hb_11
      refine W.skip ?_
      refine W.seq ?_
      refine W.region ?_
      refine OL.za S fun _ S=>?_
      refine OL.nil ?_
      refine W.seq ?_
      refine W.seq ?_
      refine W.region ?_
      refine OL.za S fun _ S=>?_
      refine OL.nil ?_
      refine W.block ?_
      obtain⟨I_1,m_1,H,HB⟩:=H
      refine W.loopS (σ:=Sv×Int×Heap) (fun s aa ww=>St 127 [(0,Value.pointer vh0),(2,Value.bool write2),(4,Value.pointer (some p4)),(7,Value.slice x30.a x30.n x30.c),(8,Value.int .i64 vat8),(10,Value.slice s.1.a s.1.n s.1.c),(11,Value.int .i64 s.2.1)] s.2.2 w0 aa ww∧I_1 s.1 s.2.1 s.2.2) (fun s=>m_1 s.1 s.2.1 s.2.2) ((⟨none,0,0⟩:Sv),0,h4) ⟨S.sub _ ⟨rfl,rfl,rfl,rfl,rfl,rfl,rfl,trivial⟩,H⟩ ?_
      clear H S
      rintro ⟨kept10,i11,h5⟩ aa ww ⟨S,HI⟩
      replace S:St 127 [(0,Value.pointer vh0),(2,Value.bool write2),(4,Value.pointer (some p4)),(7,Value.slice x30.a x30.n x30.c),(8,Value.int .i64 vat8),(10,Value.slice kept10.a kept10.n kept10.c),(11,Value.int .i64 i11)] h5 w0 aa ww:=S
      have H:=HB kept10 i11 h5 HI
      clear HI
      refine W.seq ?_
      refine W.seq ?_
      refine W.region ?_
      refine OL.zm S fun _ S=>?_
      refine OL.zm S fun _ S=>?_
      refine OL.zq S (Lf.run_lens (S.ev rfl) rfl Try.underlying69) fun _ S=>?_
      refine OL.zq S (Lf.run_lss (S.ev rfl) (S.ev rfl)) fun _ S=>?_
      refine OL.nil ?_
      refine W.cond S (b:=(decide (i11<((x30.n:Nat):Int)))) rfl (fun hb_12=>?_) (fun hb_12=>?_)
      ·
       replace H:=H.1 hb_12
       refine W.skip ?_
       obtain⟨J_2,H,HK_2⟩:=H
       refine W.seqJ (fun aa ww=>∃kept10_1 h10,St 127 [(0,Value.pointer vh0),(2,Value.bool write2),(4,Value.pointer (some p4)),(7,Value.slice x30.a x30.n x30.c),(8,Value.int .i64 vat8),(10,Value.slice kept10_1.a kept10_1.n kept10_1.c),(11,Value.int .i64 i11)] h10 w0 aa ww∧J_2 kept10_1 h10) ?_ ?_
       ·
        clear HK_2
        refine W.block ?_
        refine W.seq ?_
        refine W.seq ?_
        replace S:=S.sub [(0,Value.pointer vh0),(2,Value.bool write2),(4,Value.pointer (some p4)),(7,Value.slice x30.a x30.n x30.c),(8,Value.int .i64 vat8),(10,Value.slice kept10.a kept10.n kept10.c),(11,Value.int .i64 i11)] ⟨rfl,rfl,rfl,rfl,rfl,rfl,rfl,trivial⟩
        obtain⟨J_3,H,HK_3⟩:=H
        refine W.mono (N':=fun aa ww=>∃x110 h7,St 127 [(0,Value.pointer vh0),(2,Value.bool write2),(4,Value.pointer (some p4)),(7,Value.slice x30.a x30.n x30.c),(8,Value.int .i64 vat8),(10,Value.slice kept10.a kept10.n kept10.c),(11,Value.int .i64 i11),(110,Value.bool x110)] h7 w0 aa ww∧J_3 x110 h7) ?_ ?_
        ·
         refine W.regionD S (by kernel_rfl) ?_
         clear S;intro ww S
         refine AN.zq 0 S rfl (fun _=>Lf.run_move (S.ev rfl)) fun _ S=>?_
         refine AN.zq 1 S rfl (fun _=>Lf.run_move (S.ev rfl)) fun _ S=>?_
         refine AN.zq 2 S rfl (fun _=>Lf.run_gtr (S.ev rfl) (S.ev rfl)) fun _ S=>?_
         refine AN.zq 3 S rfl (fun _=>Lf.run_move (S.ev rfl)) fun _ S=>?_
         rcases Bool.eq_false_or_eq_true (decide (vat8<i11)) with hb_13|hb_13
         ·
          replace H:=H.1 hb_13
          refine AN.zq (hg:=GOk.mk rfl rfl hb_13) 4 S rfl (fun _=>Lf.run_move (S.ev rfl)) fun _ S=>?_
          refine AN.zq (hg:=GOk.mk rfl rfl hb_13) 5 S rfl (fun _=>Lf.run_move (S.ev rfl)) fun _ S=>?_
          obtain⟨q94,e_17,e_18,e_19,H⟩:=H
          refine AN.zq (hg:=GOk.mk rfl rfl hb_13) 6 S rfl (fun _=>Lf.run_ixs (S.ev rfl) (S.ev rfl) Try.underlying69 ti80 e_17 e_18 e_19) fun _ S=>?_
          refine AN.zq (hg:=GOk.mk rfl rfl hb_13) 7 S rfl (fun _=>Lf.run_fa (S.ev rfl) fa80_1) fun _ S=>?_
          obtain⟨x96,c_12,H⟩:=H
          refine AN.zl (hg:=GOk.mk rfl rfl hb_13) 8 S rfl (fun _ hx=>Lf.run_ld (S.ev rfl) fl26 (hx.cell _ _ (S.cl c_12))) fun _ S=>?_
          refine AN.zq (hg:=GOk.mk rfl rfl hb_13) 9 S rfl (fun _=>Lf.run_fa (S.ev rfl) fa28_1) fun _ S=>?_
          obtain⟨x98,c_13,H⟩:=H
          refine AN.zl (hg:=GOk.mk rfl rfl hb_13) 10 S rfl (fun _ hx=>Lf.run_ld (S.ev rfl) fl26 (hx.cell _ _ (S.cl c_13))) fun _ S=>?_
          refine AN.eff 11 rfl (by kernel_rfl) ?_
          refine ol_cal S H isfn62 rfl rfl (GOk.mk rfl rfl hb_13) ?_
          clear S H;intro u_2 aa ww h6 H S
          obtain⟨x99,rfl,H⟩:=H
          refine OL.nil ?_
          refine AN.zq 12 S rfl (fun _=>run_pickT (S.ev rfl) hb_13 (S.ev rfl)) fun _ S=>?_
          refine AN.zq 13 S rfl (fun _=>Lf.run_move (S.ev rfl)) fun _ S=>?_
          rcases Bool.eq_false_or_eq_true x99 with hb_14|hb_14
          ·
           replace H:=H.1 hb_14
           refine AN.zq (hg:=GOk.mk rfl rfl hb_14) 14 S rfl (fun _=>Lf.run_move (S.ev rfl)) fun _ S=>?_
           refine AN.zq (hg:=GOk.mk rfl rfl hb_14) 15 S rfl (fun _=>Lf.run_move (S.ev rfl)) fun _ S=>?_
           rcases Bool.eq_false_or_eq_true write2 with hb_15|hb_15
           ·
            replace H:=H.1 hb_15
            refine AN.zn 16 S rfl (GNo.mk rfl rfl hb_15) fun _ S=>?_
            refine AN.zn 17 S rfl (GNo.mk rfl rfl hb_15) fun _ S=>?_
            refine AN.zn 18 S rfl (GNo.mk rfl rfl hb_15) fun _ S=>?_
            refine AN.zn 19 S rfl (GNo.mk rfl rfl hb_15) fun _ S=>?_
            refine AN.zn 20 S rfl (GNo.mk rfl rfl hb_15) fun _ S=>?_
            refine AN.zq (hg:=GOk.mk rfl rfl hb_14) 21 S rfl (fun _=>run_pickT (S.ev rfl) hb_15 (S.ev rfl)) fun _ S=>?_
            refine AN.zq 22 S rfl (fun _=>run_pickT (S.ev rfl) hb_14 (S.ev rfl)) fun _ S=>?_
            refine AN.done (by kernel_rfl) ?_
            exact⟨true,h6,S.sub _ ⟨rfl,rfl,rfl,rfl,rfl,rfl,rfl,rfl,trivial⟩,H⟩
           ·
            replace H:=H.2 hb_15
            refine AN.zq (hg:=GOk.mk rfl rfl hb_15) 16 S rfl (fun _=>Lf.run_move (S.ev rfl)) fun _ S=>?_
            refine AN.zq (hg:=GOk.mk rfl rfl hb_15) 17 S rfl (fun _=>Lf.run_move (S.ev rfl)) fun _ S=>?_
            obtain⟨q106,e_20,e_21,e_22,H⟩:=H
            refine AN.zq (hg:=GOk.mk rfl rfl hb_15) 18 S rfl (fun _=>Lf.run_ixs (S.ev rfl) (S.ev rfl) Try.underlying69 ti80 e_20 e_21 e_22) fun _ S=>?_
            refine AN.zq (hg:=GOk.mk rfl rfl hb_15) 19 S rfl (fun _=>Lf.run_fa (S.ev rfl) fa80_2) fun _ S=>?_
            obtain⟨x108,c_14,H⟩:=H
            refine AN.zl (hg:=GOk.mk rfl rfl hb_15) 20 S rfl (fun _ hx=>Lf.run_ld (S.ev rfl) fl4 (hx.cell _ _ (S.cl c_14))) fun _ S=>?_
            refine AN.zq (hg:=GOk.mk rfl rfl hb_14) 21 S rfl (fun _=>run_pickF (S.ev rfl) hb_15 (S.ev rfl)) fun _ S=>?_
            refine AN.zq 22 S rfl (fun _=>run_pickT (S.ev rfl) hb_14 (S.ev rfl)) fun _ S=>?_
            refine AN.done (by kernel_rfl) ?_
            exact⟨x108,h6,S.sub _ ⟨rfl,rfl,rfl,rfl,rfl,rfl,rfl,rfl,trivial⟩,H⟩
          ·
           replace H:=H.2 hb_14
           refine AN.zn 14 S rfl (GNo.mk rfl rfl hb_14) fun _ S=>?_
           refine AN.zn 15 S rfl (GNo.mk rfl rfl hb_14) fun _ S=>?_
           refine AN.zn 16 S rfl (GNo.un rfl rfl) fun _ S=>?_
           refine AN.zn 17 S rfl (GNo.un rfl rfl) fun _ S=>?_
           refine AN.zn 18 S rfl (GNo.un rfl rfl) fun _ S=>?_
           refine AN.zn 19 S rfl (GNo.un rfl rfl) fun _ S=>?_
           refine AN.zn 20 S rfl (GNo.un rfl rfl) fun _ S=>?_
           refine AN.zn 21 S rfl (GNo.mk rfl rfl hb_14) fun _ S=>?_
           refine AN.zq 22 S rfl (fun _=>run_pickF (S.ev rfl) hb_14 (S.ev rfl)) fun _ S=>?_
           refine AN.done (by kernel_rfl) ?_
           exact⟨false,h6,S.sub _ ⟨rfl,rfl,rfl,rfl,rfl,rfl,rfl,rfl,trivial⟩,H⟩
         ·
          replace H:=H.2 hb_13
          refine AN.zn 4 S rfl (GNo.mk rfl rfl hb_13) fun _ S=>?_
          refine AN.zn 5 S rfl (GNo.mk rfl rfl hb_13) fun _ S=>?_
          refine AN.zn 6 S rfl (GNo.mk rfl rfl hb_13) fun _ S=>?_
          refine AN.zn 7 S rfl (GNo.mk rfl rfl hb_13) fun _ S=>?_
          refine AN.zn 8 S rfl (GNo.mk rfl rfl hb_13) fun _ S=>?_
          refine AN.zn 9 S rfl (GNo.mk rfl rfl hb_13) fun _ S=>?_
          refine AN.zn 10 S rfl (GNo.mk rfl rfl hb_13) fun _ S=>?_
          refine AN.zn 11 S rfl (GNo.mk rfl rfl hb_13) fun _ S=>?_
          refine AN.zq 12 S rfl (fun _=>run_pickF (S.ev rfl) hb_13 (S.ev rfl)) fun _ S=>?_
          refine AN.zq 13 S rfl (fun _=>Lf.run_move (S.ev rfl)) fun _ S=>?_
          have hb_16:(false:Bool)=false:=rfl
          refine AN.zn 14 S rfl (GNo.mk rfl rfl hb_16) fun _ S=>?_
          refine AN.zn 15 S rfl (GNo.mk rfl rfl hb_16) fun _ S=>?_
          refine AN.zn 16 S rfl (GNo.un rfl rfl) fun _ S=>?_
          refine AN.zn 17 S rfl (GNo.un rfl rfl) fun _ S=>?_
          refine AN.zn 18 S rfl (GNo.un rfl rfl) fun _ S=>?_
          refine AN.zn 19 S rfl (GNo.un rfl rfl) fun _ S=>?_
          refine AN.zn 20 S rfl (GNo.un rfl rfl) fun _ S=>?_
          refine AN.zn 21 S rfl (GNo.mk rfl rfl hb_16) fun _ S=>?_
          refine AN.zq 22 S rfl (fun _=>run_pickF (S.ev rfl) hb_16 (S.ev rfl)) fun _ S=>?_
          refine AN.done (by kernel_rfl) ?_
          exact⟨false,h5,S.sub _ ⟨rfl,rfl,rfl,rfl,rfl,rfl,rfl,rfl,trivial⟩,H⟩
        ·
         clear H S
         rintro aa ww ⟨x110,h7,S,HJ⟩
         have H:=HK_3 _ _ HJ
         clear HK_3 HJ
         refine W.cond S (b:=x110) rfl (fun hb_17=>?_) (fun hb_17=>?_)
         ·
          replace H:=H.1 hb_17
          refine W.exit_ ?_
          refine xhit ?_
          exact⟨kept10,h7,S.sub _ ⟨rfl,rfl,rfl,rfl,rfl,rfl,rfl,trivial⟩,H⟩
         ·
          replace H:=H.2 hb_17
          refine W.skip ?_
          refine W.region ?_
          refine OL.zm S fun _ S=>?_
          refine OL.zm S fun _ S=>?_
          refine OL.zm S fun _ S=>?_
          obtain⟨q114,e_23,e_24,e_25,H⟩:=H
          refine OL.zq S (Lf.run_ixs (S.ev rfl) (S.ev rfl) Try.underlying69 ti80 e_23 e_24 e_25) fun _ S=>?_
          obtain⟨y115,y115_1,y115_2,c_16,c_17,c_18,H⟩:=H
          refine OL.zq S (Lf.run_ldA (cs:=[Value.int .i64 y115,Value.slice y115_1.a y115_1.n y115_1.c,Value.bool y115_2]) (S.ev rfl) ag80 ti80 (by rw[S.heap];exact RowL.toRow ⟨c_16,c_17,c_18,trivial⟩)) fun _ S=>?_
          refine ol_newS S H Try.underlying69 ti80 (by decide) (parts_map S rfl) (by kernel_rfl) (by decide) rfl trivial ?_
          clear S H;intro s116 aa ww h8 H S
          refine ol_appS S H Try.underlying69 ti80 rfl rfl rfl trivial ?_
          clear S H;intro s117 aa ww h9 H S
          refine OL.za S fun _ S=>?_
          refine OL.nil ?_
          exact⟨s117,h9,S.sub _ ⟨rfl,rfl,rfl,rfl,rfl,rfl,rfl,trivial⟩,H⟩
       ·
        clear H S
        rintro aa ww ⟨kept10_1,h10,S,HJ⟩
        have H:=HK_2 _ _ HJ
        clear HK_2 HJ
        refine W.region ?_
        refine OL.zm S fun _ S=>?_
        refine OL.zq S (Lf.run_add (S.ev rfl) (S.ev rfl)) fun _ S=>?_
        refine OL.za S fun _ S=>?_
        refine OL.nil ?_
        exact⟨(kept10_1,(IntKind.i64.wrap (i11+1)),h10),⟨S.sub _ ⟨rfl,rfl,rfl,rfl,rfl,rfl,rfl,trivial⟩,H.1⟩,H.2⟩
      ·
       replace H:=H.2 hb_12
       refine W.exit_ ?_
       refine xhit ?_
       refine W.seq ?_
       replace S:=S.sub [(0,Value.pointer vh0),(4,Value.pointer (some p4)),(10,Value.slice kept10.a kept10.n kept10.c)] ⟨rfl,rfl,rfl,trivial⟩
       refine W.regionD S (by kernel_rfl) ?_
       clear S;intro ww S
       refine AN.zq 0 S rfl (fun _=>Lf.run_move (S.ev rfl)) fun _ S=>?_
       obtain⟨p119,e_26,H⟩:=H
       refine AN.zq 1 S rfl (fun _=>Lf.run_nc' (S.ev rfl) e_26) fun _ S=>?_
       refine AN.zq 2 S rfl (fun _=>Lf.run_fa (S.ev rfl) fa56_0) fun _ S=>?_
       obtain⟨x121,c_19,H⟩:=H
       refine AN.zl 3 S rfl (fun _ hx=>Lf.run_ld (S.ev rfl) fl54 (hx.cell _ _ (S.cl c_19))) fun _ S=>?_
       refine AN.zq 4 S rfl (fun _=>Lf.run_fa (S.ev rfl) fa28_0) fun _ S=>?_
       obtain⟨x123,c_20,H⟩:=H
       refine AN.zl 5 S rfl (fun _ hx=>Lf.run_ld (S.ev rfl) fl3 (hx.cell _ _ (S.cl c_20))) fun _ S=>?_
       refine AN.zq 6 S rfl (fun _=>Lf.run_move (S.ev rfl)) fun _ S=>?_
       obtain⟨q125,e_27,e_28,e_29,H⟩:=H
       refine AN.zq 7 S rfl (fun _=>Lf.run_ixs (S.ev rfl) (S.ev rfl) Try.underlying54 ti89 e_27 e_28 e_29) fun _ S=>?_
       refine AN.zq 8 S rfl (fun _=>Lf.run_fa (S.ev rfl) fa89_2) fun _ S=>?_
       refine AN.eff 9 rfl (by kernel_rfl) ?_
       refine ol_sto S H rfl rfl rfl ti69 trivial ?_
       clear S H;intro aa ww h11 H S
       refine OL.nil ?_
       refine AN.done (by kernel_rfl) ?_
       refine W.seq ?_
       refine W.region ?_
       refine OL.za S fun _ S=>?_
       refine OL.nil ?_
       refine W.ret ?_
       exact Ret.one S rfl rfl H
end Go.Proofs.Ytggacajnmgligaa

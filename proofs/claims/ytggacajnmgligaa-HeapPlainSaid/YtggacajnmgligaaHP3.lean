/- HeapPlain: for every input that its row covers the law returns true, and its arguments read as they did; under no other conditions. This text is joined by a program of ours out of smaller ones. -/
import Derived.Test.YtggacajnmgligaaHP2
namespace Go.Proofs.Ytggacajnmgligaa
open Go Go.Lf
set_option linter.unusedVariables false
set_option maxRecDepth 100000
def L53 (v0:Int) (v0_1:Int) (v0_2:ByteArray) (v0_3:Sv) (v0_4:Int) (v0_5:Sv) (v0_6:Int) (path1:Sv) (h:Heap) (R:Value→Heap→Prop):Prop:=
 new 33 #[Value.int .i64 v0,Value.int .u64 v0_1,Value.string v0_2,Value.slice v0_3.a v0_3.n v0_3.c,Value.int .i64 v0_4,Value.slice v0_5.a v0_5.n v0_5.c,Value.int .i64 v0_6] h fun p2 h1=>
 new 33 #[Value.int .i64 0,Value.int .u64 0,Value.string (⟨#[]⟩:ByteArray),Value.slice (⟨none,0,0⟩:Sv).a (⟨none,0,0⟩:Sv).n (⟨none,0,0⟩:Sv).c,Value.int .i64 0,Value.slice (⟨none,0,0⟩:Sv).a (⟨none,0,0⟩:Sv).n (⟨none,0,0⟩:Sv).c,Value.int .i64 0] h1 fun p4 h2=>
 ifb (((path1.n:Nat):Int) == 0) (
  ∃(y9:Int) (y9_1:Int) (y9_2:ByteArray) (y9_3:Sv) (y9_4:Int) (y9_5:Sv) (y9_6:Int),cl h2 p2=some (Value.int .i64 y9)∧cl h2 (p2.add 1)=some (Value.int .u64 y9_1)∧cl h2 (p2.add 2)=some (Value.string y9_2)∧cl h2 (p2.add 3)=some (Value.slice y9_3.a y9_3.n y9_3.c)∧cl h2 (p2.add 4)=some (Value.int .i64 y9_4)∧cl h2 (p2.add 5)=some (Value.slice y9_5.a y9_5.n y9_5.c)∧cl h2 (p2.add 6)=some (Value.int .i64 y9_6) ∧
  stoA h2 p4 [Value.int .i64 y9,Value.int .u64 y9_1,Value.string y9_2,Value.slice y9_3.a y9_3.n y9_3.c,Value.int .i64 y9_4,Value.slice y9_5.a y9_5.n y9_5.c,Value.int .i64 y9_6] fun h3=>
  ∃(y:Int) (y_1:Int) (y_2:ByteArray) (y_3:Sv) (y_4:Int) (y_5:Sv) (y_6:Int),cl h3 p4=some (Value.int .i64 y)∧cl h3 (p4.add 1)=some (Value.int .u64 y_1)∧cl h3 (p4.add 2)=some (Value.string y_2)∧cl h3 (p4.add 3)=some (Value.slice y_3.a y_3.n y_3.c)∧cl h3 (p4.add 4)=some (Value.int .i64 y_4)∧cl h3 (p4.add 5)=some (Value.slice y_5.a y_5.n y_5.c)∧cl h3 (p4.add 6)=some (Value.int .i64 y_6) ∧
  R (.tuple #[Value.agg #[Value.int .i64 y,Value.int .u64 y_1,Value.string y_2,Value.slice y_3.a y_3.n y_3.c,Value.int .i64 y_4,Value.slice y_5.a y_5.n y_5.c,Value.int .i64 y_6],Value.int .i64 0]) h3) (
  ldI .i64 h2 p2 fun x11=>
  ifb (x11 == 0) (
   stoA h2 p4 [Value.int .i64 0,Value.int .u64 0,Value.string (⟨#[]⟩:ByteArray),Value.slice (⟨none,0,0⟩:Sv).a (⟨none,0,0⟩:Sv).n (⟨none,0,0⟩:Sv).c,Value.int .i64 0,Value.slice (⟨none,0,0⟩:Sv).a (⟨none,0,0⟩:Sv).n (⟨none,0,0⟩:Sv).c,Value.int .i64 0] fun h4=>
   ∃(y_7:Int) (y_8:Int) (y_9:ByteArray) (y_10:Sv) (y_11:Int) (y_12:Sv) (y_13:Int),cl h4 p4=some (Value.int .i64 y_7)∧cl h4 (p4.add 1)=some (Value.int .u64 y_8)∧cl h4 (p4.add 2)=some (Value.string y_9)∧cl h4 (p4.add 3)=some (Value.slice y_10.a y_10.n y_10.c)∧cl h4 (p4.add 4)=some (Value.int .i64 y_11)∧cl h4 (p4.add 5)=some (Value.slice y_12.a y_12.n y_12.c)∧cl h4 (p4.add 6)=some (Value.int .i64 y_13) ∧
   R (.tuple #[Value.agg #[Value.int .i64 y_7,Value.int .u64 y_8,Value.string y_9,Value.slice y_10.a y_10.n y_10.c,Value.int .i64 y_11,Value.slice y_12.a y_12.n y_12.c,Value.int .i64 y_13],Value.int .i64 3]) h4) (
   ∃J:Bool→Prop,(
    ldI .i64 h2 p2 fun x15=>
    ifb (x15 != 5) (
     J true) (
     ixS path1 0 fun q19=>
     ldI .i64 h2 q19 fun x20=>
     ifb (decide (x20<0)) (
      J true) (
      ixS path1 0 fun q25=>
      ldS h2 (p2.add 3) fun x28=>
      ldI .i64 h2 q25 fun x26=>
      J (decide (((x28.n:Nat):Int)≤x26)))))∧(∀x31,J x31 →
   ifb x31 (
    stoA h2 p4 [Value.int .i64 0,Value.int .u64 0,Value.string (⟨#[]⟩:ByteArray),Value.slice (⟨none,0,0⟩:Sv).a (⟨none,0,0⟩:Sv).n (⟨none,0,0⟩:Sv).c,Value.int .i64 0,Value.slice (⟨none,0,0⟩:Sv).a (⟨none,0,0⟩:Sv).n (⟨none,0,0⟩:Sv).c,Value.int .i64 0] fun h5=>
    ∃(y_14:Int) (y_15:Int) (y_16:ByteArray) (y_17:Sv) (y_18:Int) (y_19:Sv) (y_20:Int),cl h5 p4=some (Value.int .i64 y_14)∧cl h5 (p4.add 1)=some (Value.int .u64 y_15)∧cl h5 (p4.add 2)=some (Value.string y_16)∧cl h5 (p4.add 3)=some (Value.slice y_17.a y_17.n y_17.c)∧cl h5 (p4.add 4)=some (Value.int .i64 y_18)∧cl h5 (p4.add 5)=some (Value.slice y_19.a y_19.n y_19.c)∧cl h5 (p4.add 6)=some (Value.int .i64 y_20) ∧
    R (.tuple #[Value.agg #[Value.int .i64 y_14,Value.int .u64 y_15,Value.string y_16,Value.slice y_17.a y_17.n y_17.c,Value.int .i64 y_18,Value.slice y_19.a y_19.n y_19.c,Value.int .i64 y_20],Value.int .i64 4]) h5) (
    ∃Sq:Heap→Prop,Sq h2∧(
     ixS path1 0 fun q36=>
     hlS Sq (p2.add 3) fun x34=>
     hlI .i64 Sq q36 fun x37=>
     ixS x34 x37 fun q38=>
     ∃(y39:Int) (y39_1:Int) (y39_2:ByteArray) (y39_3:Sv) (y39_4:Int) (y39_5:Sv) (y39_6:Int),hld Sq (q38.add ((x37:Int).toNat*7)) (Value.int .i64 y39)∧hld Sq ((q38.add ((x37:Int).toNat*7)).add 1) (Value.int .u64 y39_1)∧hld Sq ((q38.add ((x37:Int).toNat*7)).add 2) (Value.string y39_2)∧hld Sq ((q38.add ((x37:Int).toNat*7)).add 3) (Value.slice y39_3.a y39_3.n y39_3.c)∧hld Sq ((q38.add ((x37:Int).toNat*7)).add 4) (Value.int .i64 y39_4)∧hld Sq ((q38.add ((x37:Int).toNat*7)).add 5) (Value.slice y39_5.a y39_5.n y39_5.c)∧hld Sq ((q38.add ((x37:Int).toNat*7)).add 6) (Value.int .i64 y39_6) ∧
     slS path1 1 1 ((path1.n:Nat):Int) fun s41=>
     Sq h2 ∧
     cal Try.prog 53 #[Value.agg #[Value.int .i64 y39,Value.int .u64 y39_1,Value.string y39_2,Value.slice y39_3.a y39_3.n y39_3.c,Value.int .i64 y39_4,Value.slice y39_5.a y39_5.n y39_5.c,Value.int .i64 y39_6],Value.slice s41.a s41.n s41.c] h2 fun u h6=>∃(y42:Int) (y42_1:Int) (y42_2:ByteArray) (y42_3:Sv) (y42_4:Int) (y42_5:Sv) (y42_6:Int) (x42:Int),u=Value.tuple #[Value.agg #[Value.int .i64 y42,Value.int .u64 y42_1,Value.string y42_2,Value.slice y42_3.a y42_3.n y42_3.c,Value.int .i64 y42_4,Value.slice y42_5.a y42_5.n y42_5.c,Value.int .i64 y42_6],Value.int .i64 x42] ∧
     stoA h6 p4 [Value.int .i64 y42,Value.int .u64 y42_1,Value.string y42_2,Value.slice y42_3.a y42_3.n y42_3.c,Value.int .i64 y42_4,Value.slice y42_5.a y42_5.n y42_5.c,Value.int .i64 y42_6] fun h7=>
     ∃(y_21:Int) (y_22:Int) (y_23:ByteArray) (y_24:Sv) (y_25:Int) (y_26:Sv) (y_27:Int),cl h7 p4=some (Value.int .i64 y_21)∧cl h7 (p4.add 1)=some (Value.int .u64 y_22)∧cl h7 (p4.add 2)=some (Value.string y_23)∧cl h7 (p4.add 3)=some (Value.slice y_24.a y_24.n y_24.c)∧cl h7 (p4.add 4)=some (Value.int .i64 y_25)∧cl h7 (p4.add 5)=some (Value.slice y_26.a y_26.n y_26.c)∧cl h7 (p4.add 6)=some (Value.int .i64 y_27) ∧
     R (.tuple #[Value.agg #[Value.int .i64 y_21,Value.int .u64 y_22,Value.string y_23,Value.slice y_24.a y_24.n y_24.c,Value.int .i64 y_25,Value.slice y_26.a y_26.n y_26.c,Value.int .i64 y_27],Value.int .i64 x42]) h7)))))
set_option maxRecDepth 100000 in
theorem F53 {v0 v0_1 v0_2 v0_3 v0_4 v0_5 v0_6 path1 h:_} {R:Value→Heap→Prop} (H:L53 v0 v0_1 v0_2 v0_3 v0_4 v0_5 v0_6 path1 h R):CallsH Try.prog 53 #[Value.agg #[Value.int .i64 v0,Value.int .u64 v0_1,Value.string v0_2,Value.slice v0_3.a v0_3.n v0_3.c,Value.int .i64 v0_4,Value.slice v0_5.a v0_5.n v0_5.c,Value.int .i64 v0_6],Value.slice path1.a path1.n path1.c] h R:=by
 refine CallsH.enter (n:=45) Try.func53 rfl rfl rfl rfl ?_
 intro w0 aa ww S
 unfold L53 at H
 refine W.seq ?_
 refine W.region ?_
 refine ol_box S H rfl rfl rfl trivial ?_
 clear S H;intro p2 aa ww h1 H S
 refine ol_alloc S H ti33 rfl rfl trivial ?_
 clear S H;intro p4 aa ww h2 H S
 refine OL.za S fun _ S=>?_
 refine OL.nil ?_
 refine W.seq ?_
 refine W.seq ?_
 refine W.region ?_
 refine OL.zm S fun _ S=>?_
 refine OL.zq S (Lf.run_lens (S.ev rfl) rfl Try.underlying26) fun _ S=>?_
 refine OL.zq S (Lf.run_eql (S.ev rfl) (S.ev rfl)) fun _ S=>?_
 refine OL.nil ?_
 refine W.cond S (b:=(((path1.n:Nat):Int) == 0)) rfl (fun hb=>?_) (fun hb=>?_)
 ·
  replace H:=H.1 hb
  refine W.seq ?_
  refine W.region ?_
  obtain⟨y9,y9_1,y9_2,y9_3,y9_4,y9_5,y9_6,c_8,c_9,c_10,c_11,c_12,c_13,c_14,H⟩:=H
  refine OL.zq S (Lf.run_ldA (cs:=[Value.int .i64 y9,Value.int .u64 y9_1,Value.string y9_2,Value.slice y9_3.a y9_3.n y9_3.c,Value.int .i64 y9_4,Value.slice y9_5.a y9_5.n y9_5.c,Value.int .i64 y9_6]) (S.ev rfl) ag33 ti33 (by rw[S.heap];exact RowL.toRow ⟨c_8,c_9,c_10,c_11,c_12,c_13,c_14,trivial⟩)) fun _ S=>?_
  refine ol_stoA S H rfl rfl ti33 trivial ?_
  clear S H;intro aa ww h3 H S
  refine OL.za S fun _ S=>?_
  refine OL.nil ?_
  refine W.ret ?_
  obtain⟨y,y_1,y_2,y_3,y_4,y_5,y_6,c_1,c_2,c_3,c_4,c_5,c_6,c_7,H⟩:=H
  exact Ret.gen S rfl (RV.cellA (cs:=[Value.int .i64 y,Value.int .u64 y_1,Value.string y_2,Value.slice y_3.a y_3.n y_3.c,Value.int .i64 y_4,Value.slice y_5.a y_5.n y_5.c,Value.int .i64 y_6]) rfl ag33 ti33 ⟨c_1,c_2,c_3,c_4,c_5,c_6,c_7,trivial⟩ (RV.tmp rfl RV.nil)) rfl H
 ·
  replace H:=H.2 hb
  refine W.skip ?_
  refine W.seq ?_
  refine W.seq ?_
  refine W.region ?_
  refine OL.zf S fa33_0 fun _ S=>?_
  obtain⟨x11,c_15,H⟩:=H
  refine OL.zl S fl3 c_15 fun _ S=>?_
  refine OL.zq S (Lf.run_eql (S.ev rfl) (S.ev rfl)) fun _ S=>?_
  refine OL.nil ?_
  refine W.cond S (b:=(x11 == 0)) rfl (fun hb_1=>?_) (fun hb_1=>?_)
  ·
   replace H:=H.1 hb_1
   refine W.seq ?_
   refine W.region ?_
   refine OL.zq S (Lf.run_build (cs:=#[Value.int .i64 0,Value.int .u64 0,Value.string (⟨#[]⟩:ByteArray),Value.slice (⟨none,0,0⟩:Sv).a (⟨none,0,0⟩:Sv).n (⟨none,0,0⟩:Sv).c,Value.int .i64 0,Value.slice (⟨none,0,0⟩:Sv).a (⟨none,0,0⟩:Sv).n (⟨none,0,0⟩:Sv).c,Value.int .i64 0]) pl33 ti33 (parts_map S rfl) (by kernel_rfl)) fun _ S=>?_
   refine ol_stoA S H rfl rfl ti33 trivial ?_
   clear S H;intro aa ww h4 H S
   refine OL.za S fun _ S=>?_
   refine OL.nil ?_
   refine W.ret ?_
   obtain⟨y_7,y_8,y_9,y_10,y_11,y_12,y_13,c_16,c_17,c_18,c_19,c_20,c_21,c_22,H⟩:=H
   exact Ret.gen S rfl (RV.cellA (cs:=[Value.int .i64 y_7,Value.int .u64 y_8,Value.string y_9,Value.slice y_10.a y_10.n y_10.c,Value.int .i64 y_11,Value.slice y_12.a y_12.n y_12.c,Value.int .i64 y_13]) rfl ag33 ti33 ⟨c_16,c_17,c_18,c_19,c_20,c_21,c_22,trivial⟩ (RV.tmp rfl RV.nil)) rfl H
  ·
   replace H:=H.2 hb_1
   refine W.skip ?_
   refine W.seq ?_
   refine W.seq ?_
   replace S:=S.sub [(1,Value.slice path1.a path1.n path1.c),(2,Value.pointer (some p2)),(4,Value.pointer (some p4))] ⟨rfl,rfl,rfl,trivial⟩
   obtain⟨J,H,HK⟩:=H
   refine W.mono (N':=fun aa ww=>∃x31,St 45 [(1,Value.slice path1.a path1.n path1.c),(2,Value.pointer (some p2)),(4,Value.pointer (some p4)),(31,Value.bool x31)] h2 w0 aa ww∧J x31) ?_ ?_
   ·
    refine W.regionD S (by kernel_rfl) ?_
    clear S;intro ww S
    refine AN.zq 0 S rfl (fun _=>Lf.run_fa (S.ev rfl) fa33_0) fun _ S=>?_
    obtain⟨x15,c_23,H⟩:=H
    refine AN.zl 1 S rfl (fun _ hx=>Lf.run_ld (S.ev rfl) fl3 (hx.cell _ _ (S.cl c_23))) fun _ S=>?_
    refine AN.zq 2 S rfl (fun _=>Lf.run_neq (S.ev rfl) (S.ev rfl)) fun _ S=>?_
    refine AN.zq 3 S rfl (fun _=>Lf.run_move (S.ev rfl)) fun _ S=>?_
    rcases Bool.eq_false_or_eq_true (x15 != 5) with hb_2|hb_2
    ·
     replace H:=H.1 hb_2
     refine AN.zn 4 S rfl (GNo.mk rfl rfl hb_2) fun _ S=>?_
     refine AN.zn 5 S rfl (GNo.mk rfl rfl hb_2) fun _ S=>?_
     refine AN.zn 6 S rfl (GNo.mk rfl rfl hb_2) fun _ S=>?_
     refine AN.zn 7 S rfl (GNo.mk rfl rfl hb_2) fun _ S=>?_
     refine AN.zq 8 S rfl (fun _=>run_pickT (S.ev rfl) hb_2 (S.ev rfl)) fun _ S=>?_
     refine AN.zq 9 S rfl (fun _=>Lf.run_move (S.ev rfl)) fun _ S=>?_
     have hb_4:(true:Bool)=true:=rfl
     refine AN.zn 10 S rfl (GNo.mk rfl rfl hb_4) fun _ S=>?_
     refine AN.zn 11 S rfl (GNo.mk rfl rfl hb_4) fun _ S=>?_
     refine AN.zn 13 S rfl (GNo.mk rfl rfl hb_4) fun _ S=>?_
     refine AN.zn 14 S rfl (GNo.mk rfl rfl hb_4) fun _ S=>?_
     refine AN.zn 15 S rfl (GNo.mk rfl rfl hb_4) fun _ S=>?_
     refine AN.zn 12 S rfl (GNo.mk rfl rfl hb_4) fun _ S=>?_
     refine AN.zn 16 S rfl (GNo.mk rfl rfl hb_4) fun _ S=>?_
     refine AN.zq 17 S rfl (fun _=>run_pickT (S.ev rfl) hb_4 (S.ev rfl)) fun _ S=>?_
     refine AN.done (by kernel_rfl) ?_
     exact⟨true,S.sub _ ⟨rfl,rfl,rfl,rfl,trivial⟩,H⟩
    ·
     replace H:=H.2 hb_2
     refine AN.zq (hg:=GOk.mk rfl rfl hb_2) 4 S rfl (fun _=>Lf.run_move (S.ev rfl)) fun _ S=>?_
     obtain⟨q19,e,e_1,e_2,H⟩:=H
     refine AN.zq (hg:=GOk.mk rfl rfl hb_2) 5 S rfl (fun _=>Lf.run_ixs (S.ev rfl) (S.ev rfl) Try.underlying26 ti3 e e_1 e_2) fun _ S=>?_
     obtain⟨x20,c_24,H⟩:=H
     refine AN.zl (hg:=GOk.mk rfl rfl hb_2) 6 S rfl (fun _ hx=>Lf.run_ld (S.ev rfl) fl3 (hx.cell _ _ (S.cl c_24))) fun _ S=>?_
     refine AN.zq (hg:=GOk.mk rfl rfl hb_2) 7 S rfl (fun _=>Lf.run_lss (S.ev rfl) (S.ev rfl)) fun _ S=>?_
     refine AN.zq 8 S rfl (fun _=>run_pickF (S.ev rfl) hb_2 (S.ev rfl)) fun _ S=>?_
     refine AN.zq 9 S rfl (fun _=>Lf.run_move (S.ev rfl)) fun _ S=>?_
     rcases Bool.eq_false_or_eq_true (decide (x20<0)) with hb_3|hb_3
     ·
      replace H:=H.1 hb_3
      refine AN.zn 10 S rfl (GNo.mk rfl rfl hb_3) fun _ S=>?_
      refine AN.zn 11 S rfl (GNo.mk rfl rfl hb_3) fun _ S=>?_
      refine AN.zn 13 S rfl (GNo.mk rfl rfl hb_3) fun _ S=>?_
      refine AN.zn 14 S rfl (GNo.mk rfl rfl hb_3) fun _ S=>?_
      refine AN.zn 15 S rfl (GNo.mk rfl rfl hb_3) fun _ S=>?_
      refine AN.zn 12 S rfl (GNo.mk rfl rfl hb_3) fun _ S=>?_
      refine AN.zn 16 S rfl (GNo.mk rfl rfl hb_3) fun _ S=>?_
      refine AN.zq 17 S rfl (fun _=>run_pickT (S.ev rfl) hb_3 (S.ev rfl)) fun _ S=>?_
      refine AN.done (by kernel_rfl) ?_
      exact⟨true,S.sub _ ⟨rfl,rfl,rfl,rfl,trivial⟩,H⟩
     ·
      replace H:=H.2 hb_3
      refine AN.zq (hg:=GOk.mk rfl rfl hb_3) 10 S rfl (fun _=>Lf.run_move (S.ev rfl)) fun _ S=>?_
      obtain⟨q25,e_3,e_4,e_5,H⟩:=H
      refine AN.zq (hg:=GOk.mk rfl rfl hb_3) 11 S rfl (fun _=>Lf.run_ixs (S.ev rfl) (S.ev rfl) Try.underlying26 ti3 e_3 e_4 e_5) fun _ S=>?_
      refine AN.zq (hg:=GOk.mk rfl rfl hb_3) 13 S rfl (fun _=>Lf.run_fa (S.ev rfl) fa33_3) fun _ S=>?_
      obtain⟨x28,c_25,H⟩:=H
      refine AN.zl (hg:=GOk.mk rfl rfl hb_3) 14 S rfl (fun _ hx=>Lf.run_ld (S.ev rfl) fl31 (hx.cell _ _ (S.cl c_25))) fun _ S=>?_
      refine AN.zq (hg:=GOk.mk rfl rfl hb_3) 15 S rfl (fun _=>Lf.run_lens (S.ev rfl) rfl Try.underlying31) fun _ S=>?_
      obtain⟨x26,c_26,H⟩:=H
      refine AN.zl (hg:=GOk.mk rfl rfl hb_3) 12 S rfl (fun _ hx=>Lf.run_ld (S.ev rfl) fl3 (hx.cell _ _ (S.cl c_26))) fun _ S=>?_
      refine AN.zq (hg:=GOk.mk rfl rfl hb_3) 16 S rfl (fun _=>Lf.run_geq (S.ev rfl) (S.ev rfl)) fun _ S=>?_
      refine AN.zq 17 S rfl (fun _=>run_pickF (S.ev rfl) hb_3 (S.ev rfl)) fun _ S=>?_
      refine AN.done (by kernel_rfl) ?_
      exact⟨(decide (((x28.n:Nat):Int)≤x26)),S.sub _ ⟨rfl,rfl,rfl,rfl,trivial⟩,H⟩
   ·
    clear H S
    rintro aa ww ⟨x31,S,HJ⟩
    have H:=HK _ HJ
    clear HK HJ
    refine W.cond S (b:=x31) rfl (fun hb_5=>?_) (fun hb_5=>?_)
    ·
     replace H:=H.1 hb_5
     refine W.seq ?_
     refine W.region ?_
     refine OL.zq S (Lf.run_build (cs:=#[Value.int .i64 0,Value.int .u64 0,Value.string (⟨#[]⟩:ByteArray),Value.slice (⟨none,0,0⟩:Sv).a (⟨none,0,0⟩:Sv).n (⟨none,0,0⟩:Sv).c,Value.int .i64 0,Value.slice (⟨none,0,0⟩:Sv).a (⟨none,0,0⟩:Sv).n (⟨none,0,0⟩:Sv).c,Value.int .i64 0]) pl33 ti33 (parts_map S rfl) (by kernel_rfl)) fun _ S=>?_
     refine ol_stoA S H rfl rfl ti33 trivial ?_
     clear S H;intro aa ww h5 H S
     refine OL.za S fun _ S=>?_
     refine OL.nil ?_
     refine W.ret ?_
     obtain⟨y_14,y_15,y_16,y_17,y_18,y_19,y_20,c_27,c_28,c_29,c_30,c_31,c_32,c_33,H⟩:=H
     exact Ret.gen S rfl (RV.cellA (cs:=[Value.int .i64 y_14,Value.int .u64 y_15,Value.string y_16,Value.slice y_17.a y_17.n y_17.c,Value.int .i64 y_18,Value.slice y_19.a y_19.n y_19.c,Value.int .i64 y_20]) rfl ag33 ti33 ⟨c_27,c_28,c_29,c_30,c_31,c_32,c_33,trivial⟩ (RV.tmp rfl RV.nil)) rfl H
    ·
     replace H:=H.2 hb_5
     refine W.skip ?_
     refine W.seq ?_
     replace S:=S.sub [(1,Value.slice path1.a path1.n path1.c),(2,Value.pointer (some p2)),(4,Value.pointer (some p4))] ⟨rfl,rfl,rfl,trivial⟩
     obtain⟨Sq,HS,H⟩:=H
     refine W.regionN [1,4,6] [8,9,12] Sq S (by kernel_rfl) ?_
     clear S;intro ww S
     refine BN.pure 0 S (fun _=>HS) rfl (by kernel_rfl) (by kernel_rfl) (fun _=>Lf.run_fa (S.ev rfl) fa33_3) rfl rfl trivial fun _ S=>?_
     refine BN.pure 2 S (fun _=>HS) rfl (by kernel_rfl) (by kernel_rfl) (fun _=>Lf.run_move (S.ev rfl)) rfl rfl trivial fun _ S=>?_
     obtain⟨q36,e_6,e_7,e_8,H⟩:=H
     refine BN.pure 3 S (fun _=>HS) rfl (by kernel_rfl) (by kernel_rfl) (fun _=>Lf.run_ixs (S.ev rfl) (S.ev rfl) Try.underlying26 ti3 e_6 e_7 e_8) rfl rfl trivial fun _ S=>?_
     refine BN.pure 7 S (fun _=>HS) rfl (by kernel_rfl) (by kernel_rfl) (fun _=>Lf.run_move (S.ev rfl)) rfl rfl trivial fun _ S=>?_
     obtain⟨x34,c_34,H⟩:=H
     refine BN.held 1 S HS rfl (by kernel_rfl) (fun _ hq=>Lf.run_ld (S.ev rfl) fl31 (c_34 _ hq)) rfl rfl trivial fun _ S=>?_
     obtain⟨x37,c_35,H⟩:=H
     refine BN.held 4 S HS rfl (by kernel_rfl) (fun _ hq=>Lf.run_ld (S.ev rfl) fl3 (c_35 _ hq)) rfl rfl trivial fun _ S=>?_
     obtain⟨q38,e_9,e_10,e_11,H⟩:=H
     refine BN.pure 5 S (fun _=>HS) rfl (by kernel_rfl) (by kernel_rfl) (fun _=>Lf.run_ixs (S.ev rfl) (S.ev rfl) Try.underlying31 ti33 e_9 e_10 e_11) rfl rfl trivial fun _ S=>?_
     obtain⟨y39,y39_1,y39_2,y39_3,y39_4,y39_5,y39_6,c_48,c_49,c_50,c_51,c_52,c_53,c_54,H⟩:=H
     refine BN.held 6 S HS rfl (by kernel_rfl) (fun _ hq=>Lf.run_ldA (cs:=[Value.int .i64 y39,Value.int .u64 y39_1,Value.string y39_2,Value.slice y39_3.a y39_3.n y39_3.c,Value.int .i64 y39_4,Value.slice y39_5.a y39_5.n y39_5.c,Value.int .i64 y39_6]) (S.ev rfl) ag33 ti33 (hlRow hq fun h_ hs_=>⟨c_48 h_ hs_,c_49 h_ hs_,c_50 h_ hs_,c_51 h_ hs_,c_52 h_ hs_,c_53 h_ hs_,c_54 h_ hs_,trivial⟩)) rfl rfl trivial fun _ S=>?_
     refine BN.eff 8 rfl (by kernel_rfl) ?_
     obtain⟨s41,c_37,c_38,c_39,c_40,H⟩:=slS_ex H
     refine OL.zq S (Lf.run_slSN Try.underlying26 ti3 (S.ev rfl) (S.ev rfl) c_37 c_38 c_39 c_40) fun _ S=>?_
     refine OL.nil ?_
     clear HS;obtain⟨HS,H⟩:=H
     refine⟨fun _=>by rw[S.heap];exact HS,?_⟩
     refine BN.eff 9 rfl (by kernel_rfl) ?_
     refine ol_cal S H isfn53 rfl rfl trivial ?_
     clear S H;intro u aa ww h6 H S
     obtain⟨y42,y42_1,y42_2,y42_3,y42_4,y42_5,y42_6,x42,rfl,H⟩:=H
     refine OL.nil ?_
     refine⟨noNeed (by kernel_rfl),?_⟩
     refine BN.pure 10 S (noNeed (by kernel_rfl)) rfl (by kernel_rfl) (by kernel_rfl) (fun _=>Lf.run_ex (S.ev rfl) rfl) rfl rfl trivial fun _ S=>?_
     refine BN.pure 11 S (noNeed (by kernel_rfl)) rfl (by kernel_rfl) (by kernel_rfl) (fun _=>Lf.run_ex (S.ev rfl) rfl) rfl rfl trivial fun _ S=>?_
     refine BN.eff 12 rfl (by kernel_rfl) ?_
     refine ol_stoA S H rfl rfl ti33 trivial ?_
     clear S H;intro aa ww h7 H S
     refine OL.nil ?_
     refine⟨noNeed (by kernel_rfl),?_⟩
     refine BN.pure 13 S (noNeed (by kernel_rfl)) rfl (by kernel_rfl) (by kernel_rfl) (fun _=>Lf.run_assign (S.ev rfl)) rfl rfl trivial fun _ S=>?_
     refine BN.done (by kernel_rfl) ?_
     refine W.ret ?_
     obtain⟨y_21,y_22,y_23,y_24,y_25,y_26,y_27,c_41,c_42,c_43,c_44,c_45,c_46,c_47,H⟩:=H
     exact Ret.gen S rfl (RV.cellA (cs:=[Value.int .i64 y_21,Value.int .u64 y_22,Value.string y_23,Value.slice y_24.a y_24.n y_24.c,Value.int .i64 y_25,Value.slice y_26.a y_26.n y_26.c,Value.int .i64 y_27]) rfl ag33 ti33 ⟨c_41,c_42,c_43,c_44,c_45,c_46,c_47,trivial⟩ (RV.tmp rfl RV.nil)) rfl H
def L54 (vh0:Option Addr) (v1:Int) (v1_1:Int) (v1_2:ByteArray) (v1_3:Sv) (v1_4:Int) (v1_5:Sv) (v1_6:Int) (h:Heap) (R:Value→Heap→Prop):Prop:=
 new 33 #[Value.int .i64 v1,Value.int .u64 v1_1,Value.string v1_2,Value.slice v1_3.a v1_3.n v1_3.c,Value.int .i64 v1_4,Value.slice v1_5.a v1_5.n v1_5.c,Value.int .i64 v1_6] h fun p3 h1=>
 ldI .i64 h1 p3 fun x8=>
 ifb (x8 == 6) (
  ldI .i64 h1 (p3.add 4) fun x13=>
  cal Try.prog 38 #[Value.pointer vh0,Value.int .i64 x13] h1 fun u h2=>asI .i64 u fun x14=>
  R (Value.int .i64 x14) h2) (
  ∃(I:Int→Heap→Prop) (m:Int→Heap→Nat),I 0 h1∧∀i5 h3,I i5 h3 →
  ldI .i64 h3 p3 fun x16=>
  ∃J:Bool→Prop,(andr (x16 == 5) (fun k=>
   ldS h3 (p3.add 3) fun x21=>
   k (decide (i5<((x21.n:Nat):Int)))) J)∧∀x24,J x24 →
  ifb x24 (
   ldS h3 (p3.add 3) fun x29=>
   ixS x29 i5 fun q31=>
   ∃(y32:Int) (y32_1:Int) (y32_2:ByteArray) (y32_3:Sv) (y32_4:Int) (y32_5:Sv) (y32_6:Int),cl h3 (q31.add ((i5:Int).toNat*7))=some (Value.int .i64 y32)∧cl h3 ((q31.add ((i5:Int).toNat*7)).add 1)=some (Value.int .u64 y32_1)∧cl h3 ((q31.add ((i5:Int).toNat*7)).add 2)=some (Value.string y32_2)∧cl h3 ((q31.add ((i5:Int).toNat*7)).add 3)=some (Value.slice y32_3.a y32_3.n y32_3.c)∧cl h3 ((q31.add ((i5:Int).toNat*7)).add 4)=some (Value.int .i64 y32_4)∧cl h3 ((q31.add ((i5:Int).toNat*7)).add 5)=some (Value.slice y32_5.a y32_5.n y32_5.c)∧cl h3 ((q31.add ((i5:Int).toNat*7)).add 6)=some (Value.int .i64 y32_6) ∧
   cal Try.prog 54 #[Value.pointer vh0,Value.agg #[Value.int .i64 y32,Value.int .u64 y32_1,Value.string y32_2,Value.slice y32_3.a y32_3.n y32_3.c,Value.int .i64 y32_4,Value.slice y32_5.a y32_5.n y32_5.c,Value.int .i64 y32_6]] h3 fun u_1 h4=>asI .i64 u_1 fun x33=>
   ifb (x33 != 0) (
    R (Value.int .i64 x33) h4) (
    I (IntKind.i64.wrap (i5+1)) h4∧m (IntKind.i64.wrap (i5+1)) h4<m i5 h3)) (
   R (Value.int .i64 0) h3))
set_option maxRecDepth 100000 in
theorem F54 {vh0 v1 v1_1 v1_2 v1_3 v1_4 v1_5 v1_6 h:_} {R:Value→Heap→Prop} (H:L54 vh0 v1 v1_1 v1_2 v1_3 v1_4 v1_5 v1_6 h R):CallsH Try.prog 54 #[Value.pointer vh0,Value.agg #[Value.int .i64 v1,Value.int .u64 v1_1,Value.string v1_2,Value.slice v1_3.a v1_3.n v1_3.c,Value.int .i64 v1_4,Value.slice v1_5.a v1_5.n v1_5.c,Value.int .i64 v1_6]] h R:=by
 refine CallsH.enter (n:=37) Try.func54 rfl rfl rfl rfl ?_
 intro w0 aa ww S
 unfold L54 at H
 refine W.seq ?_
 refine W.region ?_
 refine ol_box S H rfl rfl rfl trivial ?_
 clear S H;intro p3 aa ww h1 H S
 refine OL.za S fun _ S=>?_
 refine OL.nil ?_
 refine W.seq ?_
 refine W.seq ?_
 refine W.region ?_
 refine OL.zf S fa33_0 fun _ S=>?_
 obtain⟨x8,c,H⟩:=H
 refine OL.zl S fl3 c fun _ S=>?_
 refine OL.zq S (Lf.run_eql (S.ev rfl) (S.ev rfl)) fun _ S=>?_
 refine OL.nil ?_
 refine W.cond S (b:=(x8 == 6)) rfl (fun hb=>?_) (fun hb=>?_)
 ·
  replace H:=H.1 hb
  refine W.seq ?_
  refine W.region ?_
  refine OL.zm S fun _ S=>?_
  refine OL.zf S fa33_4 fun _ S=>?_
  refine OL.zf S fa28_0 fun _ S=>?_
  obtain⟨x13,c_1,H⟩:=H
  refine OL.zl S fl3 c_1 fun _ S=>?_
  refine ol_cal S H isfn38 rfl rfl trivial ?_
  clear S H;intro u aa ww h2 H S
  obtain⟨x14,rfl,H⟩:=H
  refine OL.za S fun _ S=>?_
  refine OL.nil ?_
  refine W.ret ?_
  exact Ret.one S rfl rfl H
 ·
  replace H:=H.2 hb
  refine W.skip ?_
  refine W.seq ?_
  refine W.seq ?_
  refine W.region ?_
  refine OL.za S fun _ S=>?_
  refine OL.nil ?_
  refine W.block ?_
  obtain⟨I,m,H,HB⟩:=H
  refine W.loopS (σ:=Int×Heap) (fun s aa ww=>St 37 [(0,Value.pointer vh0),(3,Value.pointer (some p3)),(5,Value.int .i64 s.1)] s.2 w0 aa ww∧I s.1 s.2) (fun s=>m s.1 s.2) (0,h1) ⟨S.sub _ ⟨rfl,rfl,rfl,trivial⟩,H⟩ ?_
  clear H S
  rintro ⟨i5,h3⟩ aa ww ⟨S,HI⟩
  replace S:St 37 [(0,Value.pointer vh0),(3,Value.pointer (some p3)),(5,Value.int .i64 i5)] h3 w0 aa ww:=S
  have H:=HB i5 h3 HI
  clear HI
  refine W.seq ?_
  refine W.seq ?_
  refine W.region ?_
  refine OL.zf S fa33_0 fun _ S=>?_
  obtain⟨x16,c_2,H⟩:=H
  refine OL.zl S fl3 c_2 fun _ S=>?_
  refine OL.zq S (Lf.run_eql (S.ev rfl) (S.ev rfl)) fun _ S=>?_
  refine OL.zm S fun _ S=>?_
  obtain⟨J,H,HK⟩:=H
  refine OL.cutN 6 (fun aa ww=>∃x24,St 37 ((24,Value.bool x24) :: [(0,Value.pointer vh0),(3,Value.pointer (some p3)),(5,Value.int .i64 i5),(15,Value.pointer (some p3)),(16,Value.int .i64 x16),(17,Value.bool (x16 == 5)),(18,Value.bool (x16 == 5))]) h3 w0 aa ww∧J x24) ?_ ?_
  ·
   rcases Bool.eq_false_or_eq_true (x16 == 5) with hb_1|hb_1
   ·
    replace H:=H.1 hb_1
    refine OL.zm (hg:=GOk.mk rfl rfl hb_1) S fun _ S=>?_
    refine OL.zf (hg:=GOk.mk rfl rfl hb_1) S fa33_3 fun _ S=>?_
    obtain⟨x21,c_3,H⟩:=H
    refine OL.zl (hg:=GOk.mk rfl rfl hb_1) S fl31 c_3 fun _ S=>?_
    refine OL.zq (hg:=GOk.mk rfl rfl hb_1) S (Lf.run_lens (S.ev rfl) rfl Try.underlying31) fun _ S=>?_
    refine OL.zq (hg:=GOk.mk rfl rfl hb_1) S (Lf.run_lss (S.ev rfl) (S.ev rfl)) fun _ S=>?_
    refine OL.zq S (Lf.run_pickT (S.ev rfl) hb_1 (S.ev rfl)) fun _ S=>?_
    refine OL.nil ?_
    exact⟨_,S.sub _ ⟨rfl,rfl,rfl,rfl,rfl,rfl,rfl,rfl,trivial⟩,H⟩
   ·
    replace H:=H.2 hb_1
    refine OL.zn S (GNo.mk rfl rfl hb_1) fun _ S=>?_
    refine OL.zn S (GNo.mk rfl rfl hb_1) fun _ S=>?_
    refine OL.zn S (GNo.mk rfl rfl hb_1) fun _ S=>?_
    refine OL.zn S (GNo.mk rfl rfl hb_1) fun _ S=>?_
    refine OL.zn S (GNo.mk rfl rfl hb_1) fun _ S=>?_
    refine OL.zq S (Lf.run_pickF (S.ev rfl) hb_1 (S.ev rfl)) fun _ S=>?_
    refine OL.nil ?_
    exact⟨_,S.sub _ ⟨rfl,rfl,rfl,rfl,rfl,rfl,rfl,rfl,trivial⟩,H⟩
  ·
   clear S
   rintro aa ww ⟨x24,S,HJ⟩
   replace H:=HK _ HJ
   clear HK HJ
   refine OL.nil ?_
   refine W.cond S (b:=x24) rfl (fun hb_2=>?_) (fun hb_2=>?_)
   ·
    replace H:=H.1 hb_2
    refine W.skip ?_
    refine W.seq ?_
    refine W.block ?_
    refine W.seq ?_
    refine W.region ?_
    refine OL.zm S fun _ S=>?_
    refine OL.zf S fa33_3 fun _ S=>?_
    obtain⟨x29,c_4,H⟩:=H
    refine OL.zl S fl31 c_4 fun _ S=>?_
    refine OL.zm S fun _ S=>?_
    obtain⟨q31,e,e_1,e_2,H⟩:=H
    refine OL.zq S (Lf.run_ixs (S.ev rfl) (S.ev rfl) Try.underlying31 ti33 e e_1 e_2) fun _ S=>?_
    obtain⟨y32,y32_1,y32_2,y32_3,y32_4,y32_5,y32_6,c_6,c_7,c_8,c_9,c_10,c_11,c_12,H⟩:=H
    refine OL.zq S (Lf.run_ldA (cs:=[Value.int .i64 y32,Value.int .u64 y32_1,Value.string y32_2,Value.slice y32_3.a y32_3.n y32_3.c,Value.int .i64 y32_4,Value.slice y32_5.a y32_5.n y32_5.c,Value.int .i64 y32_6]) (S.ev rfl) ag33 ti33 (by rw[S.heap];exact RowL.toRow ⟨c_6,c_7,c_8,c_9,c_10,c_11,c_12,trivial⟩)) fun _ S=>?_
    refine ol_cal S H isfn54 rfl rfl trivial ?_
    clear S H;intro u_1 aa ww h4 H S
    obtain⟨x33,rfl,H⟩:=H
    refine OL.za S fun _ S=>?_
    refine OL.nil ?_
    refine W.seq ?_
    refine W.region ?_
    refine OL.zm S fun _ S=>?_
    refine OL.zq S (Lf.run_neq (S.ev rfl) (S.ev rfl)) fun _ S=>?_
    refine OL.nil ?_
    refine W.cond S (b:=(x33 != 0)) rfl (fun hb_3=>?_) (fun hb_3=>?_)
    ·
     replace H:=H.1 hb_3
     refine W.seq ?_
     refine W.region ?_
     refine OL.zm S fun _ S=>?_
     refine OL.za S fun _ S=>?_
     refine OL.nil ?_
     refine W.ret ?_
     exact Ret.one S rfl rfl H
    ·
     replace H:=H.2 hb_3
     refine W.skip ?_
     refine W.region ?_
     refine OL.zm S fun _ S=>?_
     refine OL.zq S (Lf.run_add (S.ev rfl) (S.ev rfl)) fun _ S=>?_
     refine OL.za S fun _ S=>?_
     refine OL.nil ?_
     exact⟨((IntKind.i64.wrap (i5+1)),h4),⟨S.sub _ ⟨rfl,rfl,rfl,trivial⟩,H.1⟩,H.2⟩
   ·
    replace H:=H.2 hb_2
    refine W.exit_ ?_
    refine xhit ?_
    refine W.seq ?_
    refine W.region ?_
    refine OL.za S fun _ S=>?_
    refine OL.nil ?_
    refine W.ret ?_
    exact Ret.one S rfl rfl H
def L55 (vh0:Option Addr) (i1:Int) (h:Heap) (R:Value→Heap→Prop):Prop:=
 ∃J:Bool→Prop,(andr (decide (0≤i1)) (fun k=>
  nn vh0 fun p10=>
  ldS h p10 fun x12=>
  k (decide (i1<((x12.n:Nat):Int)))) J)∧∀x15,J x15 →
 ∃J_1:Bool→Prop,(andr x15 (fun k_1=>
  nn vh0 fun p18=>
  ldS h p18 fun x20=>
  ixS x20 i1 fun q22=>
  ldB h (q22.add ((i1:Int).toNat*9)) fun x24=>
  k_1 x24) J_1)∧∀x25,J_1 x25 →
 R (Value.bool x25) h
set_option maxRecDepth 100000 in
theorem F55 {vh0 i1 h:_} {R:Value→Heap→Prop} (H:L55 vh0 i1 h R):CallsH Try.prog 55 #[Value.pointer vh0,Value.int .i64 i1] h R:=by
 refine CallsH.enter (n:=26) Try.func55 rfl rfl rfl rfl ?_
 intro w0 aa ww S
 unfold L55 at H
 refine W.seq ?_
 refine W.region ?_
 refine OL.za S fun _ S=>?_
 refine OL.nil ?_
 refine W.seq ?_
 refine W.region ?_
 refine OL.zm S fun _ S=>?_
 refine OL.zq S (Lf.run_geq (S.ev rfl) (S.ev rfl)) fun _ S=>?_
 refine OL.zm S fun _ S=>?_
 obtain⟨J,H,HK⟩:=H
 refine OL.cutN 8 (fun aa ww=>∃x15,St 26 ((15,Value.bool x15) :: [(0,Value.pointer vh0),(1,Value.int .i64 i1),(5,Value.int .i64 i1),(6,Value.bool (decide (0≤i1))),(7,Value.bool (decide (0≤i1)))]) h w0 aa ww∧J x15) ?_ ?_
 ·
  rcases Bool.eq_false_or_eq_true (decide (0≤i1)) with hb|hb
  ·
   replace H:=H.1 hb
   refine OL.zm (hg:=GOk.mk rfl rfl hb) S fun _ S=>?_
   refine OL.zm (hg:=GOk.mk rfl rfl hb) S fun _ S=>?_
   obtain⟨p10,e,H⟩:=H
   refine OL.zq (hg:=GOk.mk rfl rfl hb) S (Lf.run_nc' (S.ev rfl) e) fun _ S=>?_
   refine OL.zf (hg:=GOk.mk rfl rfl hb) S fa56_0 fun _ S=>?_
   obtain⟨x12,c,H⟩:=H
   refine OL.zl (hg:=GOk.mk rfl rfl hb) S fl54 c fun _ S=>?_
   refine OL.zq (hg:=GOk.mk rfl rfl hb) S (Lf.run_lens (S.ev rfl) rfl Try.underlying54) fun _ S=>?_
   refine OL.zq (hg:=GOk.mk rfl rfl hb) S (Lf.run_lss (S.ev rfl) (S.ev rfl)) fun _ S=>?_
   refine OL.zq S (Lf.run_pickT (S.ev rfl) hb (S.ev rfl)) fun _ S=>?_
   refine OL.nil ?_
   exact⟨_,S.sub _ ⟨rfl,rfl,rfl,rfl,rfl,rfl,trivial⟩,H⟩
  ·
   replace H:=H.2 hb
   refine OL.zn S (GNo.mk rfl rfl hb) fun _ S=>?_
   refine OL.zn S (GNo.mk rfl rfl hb) fun _ S=>?_
   refine OL.zn S (GNo.mk rfl rfl hb) fun _ S=>?_
   refine OL.zn S (GNo.mk rfl rfl hb) fun _ S=>?_
   refine OL.zn S (GNo.mk rfl rfl hb) fun _ S=>?_
   refine OL.zn S (GNo.mk rfl rfl hb) fun _ S=>?_
   refine OL.zn S (GNo.mk rfl rfl hb) fun _ S=>?_
   refine OL.zq S (Lf.run_pickF (S.ev rfl) hb (S.ev rfl)) fun _ S=>?_
   refine OL.nil ?_
   exact⟨_,S.sub _ ⟨rfl,rfl,rfl,rfl,rfl,rfl,trivial⟩,H⟩
 ·
  clear S
  rintro aa ww ⟨x15,S,HJ⟩
  replace H:=HK _ HJ
  clear HK HJ
  refine OL.zm S fun _ S=>?_
  obtain⟨J_1,H,HK_1⟩:=H
  refine OL.cutN 9 (fun aa ww=>∃x25,St 26 ((25,Value.bool x25) :: [(0,Value.pointer vh0),(1,Value.int .i64 i1),(5,Value.int .i64 i1),(6,Value.bool (decide (0≤i1))),(7,Value.bool (decide (0≤i1))),(15,Value.bool x15),(16,Value.bool x15)]) h w0 aa ww∧J_1 x25) ?_ ?_
  ·
   rcases Bool.eq_false_or_eq_true x15 with hb_1|hb_1
   ·
    replace H:=H.1 hb_1
    refine OL.zm (hg:=GOk.mk rfl rfl hb_1) S fun _ S=>?_
    obtain⟨p18,e_1,H⟩:=H
    refine OL.zq (hg:=GOk.mk rfl rfl hb_1) S (Lf.run_nc' (S.ev rfl) e_1) fun _ S=>?_
    refine OL.zf (hg:=GOk.mk rfl rfl hb_1) S fa56_0 fun _ S=>?_
    obtain⟨x20,c_1,H⟩:=H
    refine OL.zl (hg:=GOk.mk rfl rfl hb_1) S fl54 c_1 fun _ S=>?_
    refine OL.zm (hg:=GOk.mk rfl rfl hb_1) S fun _ S=>?_
    obtain⟨q22,e_2,e_3,e_4,H⟩:=H
    refine OL.zq (hg:=GOk.mk rfl rfl hb_1) S (Lf.run_ixs (S.ev rfl) (S.ev rfl) Try.underlying54 ti89 e_2 e_3 e_4) fun _ S=>?_
    refine OL.zf (hg:=GOk.mk rfl rfl hb_1) S fa89_0 fun _ S=>?_
    obtain⟨x24,c_2,H⟩:=H
    refine OL.zl (hg:=GOk.mk rfl rfl hb_1) S fl4 c_2 fun _ S=>?_
    refine OL.zq S (Lf.run_pickT (S.ev rfl) hb_1 (S.ev rfl)) fun _ S=>?_
    refine OL.nil ?_
    exact⟨_,S.sub _ ⟨rfl,rfl,rfl,rfl,rfl,rfl,rfl,rfl,trivial⟩,H⟩
   ·
    replace H:=H.2 hb_1
    refine OL.zn S (GNo.mk rfl rfl hb_1) fun _ S=>?_
    refine OL.zn S (GNo.mk rfl rfl hb_1) fun _ S=>?_
    refine OL.zn S (GNo.mk rfl rfl hb_1) fun _ S=>?_
    refine OL.zn S (GNo.mk rfl rfl hb_1) fun _ S=>?_
    refine OL.zn S (GNo.mk rfl rfl hb_1) fun _ S=>?_
    refine OL.zn S (GNo.mk rfl rfl hb_1) fun _ S=>?_
    refine OL.zn S (GNo.mk rfl rfl hb_1) fun _ S=>?_
    refine OL.zn S (GNo.mk rfl rfl hb_1) fun _ S=>?_
    refine OL.zq S (Lf.run_pickF (S.ev rfl) hb_1 (S.ev rfl)) fun _ S=>?_
    refine OL.nil ?_
    exact⟨_,S.sub _ ⟨rfl,rfl,rfl,rfl,rfl,rfl,rfl,rfl,trivial⟩,H⟩
  ·
   clear S
   rintro aa ww ⟨x25,S,HJ⟩
   replace H:=HK_1 _ HJ
   clear HK_1 HJ
   refine OL.za S fun _ S=>?_
   refine OL.nil ?_
   refine W.ret ?_
   exact Ret.one S rfl rfl H
def L56 (vh0:Option Addr) (h:Heap) (R:Value→Heap→Prop):Prop:=
 ∃(I:Int→Int→Prop) (m:Int→Int→Nat),I 0 0∧∀n3 i4,I n3 i4 →
 nn vh0 fun p7=>
 ldS h p7 fun x9=>
 ifb (decide (i4<((x9.n:Nat):Int))) (
  ∃J:Int→Prop,(
   nn vh0 fun p15=>
   ldS h p15 fun x17=>
   ixS x17 i4 fun q19=>
   ldB h (q19.add ((i4:Int).toNat*9)) fun x21=>
   ifb x21 (
    J (IntKind.i64.wrap (n3+1))) (
    J n3))∧(∀n3_1,J n3_1 →
  I n3_1 (IntKind.i64.wrap (i4+1))∧m n3_1 (IntKind.i64.wrap (i4+1))<m n3 i4)) (
  R (Value.int .i64 n3) h)
set_option maxRecDepth 100000 in
theorem F56 {vh0 h:_} {R:Value→Heap→Prop} (H:L56 vh0 h R):CallsH Try.prog 56 #[Value.pointer vh0] h R:=by
 refine CallsH.enter (n:=25) Try.func56 rfl rfl rfl rfl ?_
 intro w0 aa ww S
 unfold L56 at H
 refine W.seq ?_
 refine W.region ?_
 refine OL.za S fun _ S=>?_
 refine OL.nil ?_
 refine W.seq ?_
 refine W.region ?_
 refine OL.za S fun _ S=>?_
 refine OL.nil ?_
 refine W.seq ?_
 refine W.seq ?_
 refine W.region ?_
 refine OL.za S fun _ S=>?_
 refine OL.nil ?_
 refine W.block ?_
 obtain⟨I,m,H,HB⟩:=H
 refine W.loopS (σ:=Int×Int) (fun s aa ww=>St 25 [(0,Value.pointer vh0),(3,Value.int .i64 s.1),(4,Value.int .i64 s.2)] h w0 aa ww∧I s.1 s.2) (fun s=>m s.1 s.2) (0,0) ⟨S.sub _ ⟨rfl,rfl,rfl,trivial⟩,H⟩ ?_
 clear H S
 rintro ⟨n3,i4⟩ aa ww ⟨S,HI⟩
 replace S:St 25 [(0,Value.pointer vh0),(3,Value.int .i64 n3),(4,Value.int .i64 i4)] h w0 aa ww:=S
 have H:=HB n3 i4 HI
 clear HI
 refine W.seq ?_
 refine W.seq ?_
 refine W.region ?_
 refine OL.zm S fun _ S=>?_
 refine OL.zm S fun _ S=>?_
 obtain⟨p7,e,H⟩:=H
 refine OL.zq S (Lf.run_nc' (S.ev rfl) e) fun _ S=>?_
 refine OL.zf S fa56_0 fun _ S=>?_
 obtain⟨x9,c,H⟩:=H
 refine OL.zl S fl54 c fun _ S=>?_
 refine OL.zq S (Lf.run_lens (S.ev rfl) rfl Try.underlying54) fun _ S=>?_
 refine OL.zq S (Lf.run_lss (S.ev rfl) (S.ev rfl)) fun _ S=>?_
 refine OL.nil ?_
 refine W.cond S (b:=(decide (i4<((x9.n:Nat):Int)))) rfl (fun hb=>?_) (fun hb=>?_)
 ·
  replace H:=H.1 hb
  refine W.skip ?_
  obtain⟨J,H,HK⟩:=H
  refine W.seqJ (fun aa ww=>∃n3_1,St 25 [(0,Value.pointer vh0),(3,Value.int .i64 n3_1),(4,Value.int .i64 i4)] h w0 aa ww∧J n3_1) ?_ ?_
  ·
   clear HK
   refine W.block ?_
   refine W.seq ?_
   refine W.region ?_
   refine OL.zm S fun _ S=>?_
   obtain⟨p15,e_1,H⟩:=H
   refine OL.zq S (Lf.run_nc' (S.ev rfl) e_1) fun _ S=>?_
   refine OL.zf S fa56_0 fun _ S=>?_
   obtain⟨x17,c_1,H⟩:=H
   refine OL.zl S fl54 c_1 fun _ S=>?_
   refine OL.zm S fun _ S=>?_
   obtain⟨q19,e_2,e_3,e_4,H⟩:=H
   refine OL.zq S (Lf.run_ixs (S.ev rfl) (S.ev rfl) Try.underlying54 ti89 e_2 e_3 e_4) fun _ S=>?_
   refine OL.zf S fa89_0 fun _ S=>?_
   obtain⟨x21,c_2,H⟩:=H
   refine OL.zl S fl4 c_2 fun _ S=>?_
   refine OL.nil ?_
   refine W.cond S (b:=x21) rfl (fun hb_1=>?_) (fun hb_1=>?_)
   ·
    replace H:=H.1 hb_1
    refine W.region ?_
    refine OL.zm S fun _ S=>?_
    refine OL.zq S (Lf.run_add (S.ev rfl) (S.ev rfl)) fun _ S=>?_
    refine OL.za S fun _ S=>?_
    refine OL.nil ?_
    exact⟨(IntKind.i64.wrap (n3+1)),S.sub _ ⟨rfl,rfl,rfl,trivial⟩,H⟩
   ·
    replace H:=H.2 hb_1
    refine W.skip ?_
    exact⟨n3,S.sub _ ⟨rfl,rfl,rfl,trivial⟩,H⟩
  ·
   clear H S
   rintro aa ww ⟨n3_1,S,HJ⟩
   have H:=HK _ HJ
   clear HK HJ
   refine W.region ?_
   refine OL.zm S fun _ S=>?_
   refine OL.zq S (Lf.run_add (S.ev rfl) (S.ev rfl)) fun _ S=>?_
   refine OL.za S fun _ S=>?_
   refine OL.nil ?_
   exact⟨(n3_1,(IntKind.i64.wrap (i4+1))),⟨S.sub _ ⟨rfl,rfl,rfl,trivial⟩,H.1⟩,H.2⟩
 ·
  replace H:=H.2 hb
  refine W.exit_ ?_
  refine xhit ?_
  refine W.seq ?_
  refine W.region ?_
  refine OL.zm S fun _ S=>?_
  refine OL.za S fun _ S=>?_
  refine OL.nil ?_
  refine W.ret ?_
  exact Ret.one S rfl rfl H
def L57 (a0:Sv) (b1:Sv) (h:Heap) (R:Value→Heap→Prop):Prop:=
 ifb (((a0.n:Nat):Int) != ((b1.n:Nat):Int)) (
  R (Value.bool false) h) (
  ∃(I:Int→Prop) (m:Int→Nat),I 0∧∀i5,I i5 →
  ifb (decide (i5<((a0.n:Nat):Int))) (
   ixS a0 i5 fun q19=>
   ldI .i64 h (q19.add ((i5:Int).toNat*1)) fun x20=>
   ixS b1 i5 fun q23=>
   ldI .i64 h (q23.add ((i5:Int).toNat*1)) fun x24=>
   ifb (x20 != x24) (
    R (Value.bool false) h) (
    I (IntKind.i64.wrap (i5+1))∧m (IntKind.i64.wrap (i5+1))<m i5)) (
   R (Value.bool true) h))
set_option maxRecDepth 100000 in
theorem F57 {a0 b1 h:_} {R:Value→Heap→Prop} (H:L57 a0 b1 h R):CallsH Try.prog 57 #[Value.slice a0.a a0.n a0.c,Value.slice b1.a b1.n b1.c] h R:=by
 refine CallsH.enter (n:=26) Try.func57 rfl rfl rfl rfl ?_
 intro w0 aa ww S
 unfold L57 at H
 refine W.seq ?_
 refine W.region ?_
 refine OL.za S fun _ S=>?_
 refine OL.nil ?_
 refine W.seq ?_
 refine W.seq ?_
 refine W.region ?_
 refine OL.zm S fun _ S=>?_
 refine OL.zq S (Lf.run_lens (S.ev rfl) rfl Try.underlying26) fun _ S=>?_
 refine OL.zm S fun _ S=>?_
 refine OL.zq S (Lf.run_lens (S.ev rfl) rfl Try.underlying26) fun _ S=>?_
 refine OL.zq S (Lf.run_neq (S.ev rfl) (S.ev rfl)) fun _ S=>?_
 refine OL.nil ?_
 refine W.cond S (b:=(((a0.n:Nat):Int) != ((b1.n:Nat):Int))) rfl (fun hb=>?_) (fun hb=>?_)
 ·
  replace H:=H.1 hb
  refine W.seq ?_
  refine W.region ?_
  refine OL.za S fun _ S=>?_
  refine OL.nil ?_
  refine W.ret ?_
  exact Ret.one S rfl rfl H
 ·
  replace H:=H.2 hb
  refine W.skip ?_
  refine W.seq ?_
  refine W.seq ?_
  refine W.region ?_
  refine OL.za S fun _ S=>?_
  refine OL.nil ?_
  refine W.block ?_
  obtain⟨I,m,H,HB⟩:=H
  refine W.loopS (σ:=Int) (fun s aa ww=>St 26 [(0,Value.slice a0.a a0.n a0.c),(1,Value.slice b1.a b1.n b1.c),(5,Value.int .i64 s)] h w0 aa ww∧I s) (fun s=>m s) (0) ⟨S.sub _ ⟨rfl,rfl,rfl,trivial⟩,H⟩ ?_
  clear H S
  rintro i5 aa ww ⟨S,HI⟩
  replace S:St 26 [(0,Value.slice a0.a a0.n a0.c),(1,Value.slice b1.a b1.n b1.c),(5,Value.int .i64 i5)] h w0 aa ww:=S
  have H:=HB i5 HI
  clear HI
  refine W.seq ?_
  refine W.seq ?_
  refine W.region ?_
  refine OL.zm S fun _ S=>?_
  refine OL.zm S fun _ S=>?_
  refine OL.zq S (Lf.run_lens (S.ev rfl) rfl Try.underlying26) fun _ S=>?_
  refine OL.zq S (Lf.run_lss (S.ev rfl) (S.ev rfl)) fun _ S=>?_
  refine OL.nil ?_
  refine W.cond S (b:=(decide (i5<((a0.n:Nat):Int)))) rfl (fun hb_1=>?_) (fun hb_1=>?_)
  ·
   replace H:=H.1 hb_1
   refine W.skip ?_
   refine W.seq ?_
   refine W.block ?_
   refine W.seq ?_
   replace S:=S.sub [(0,Value.slice a0.a a0.n a0.c),(1,Value.slice b1.a b1.n b1.c),(5,Value.int .i64 i5)] ⟨rfl,rfl,rfl,trivial⟩
   refine W.regionD S (by kernel_rfl) ?_
   clear S;intro ww S
   refine AN.zq 0 S rfl (fun _=>Lf.run_move (S.ev rfl)) fun _ S=>?_
   refine AN.zq 1 S rfl (fun _=>Lf.run_move (S.ev rfl)) fun _ S=>?_
   obtain⟨q19,e,e_1,e_2,H⟩:=H
   refine AN.zq 2 S rfl (fun _=>Lf.run_ixs (S.ev rfl) (S.ev rfl) Try.underlying26 ti3 e e_1 e_2) fun _ S=>?_
   obtain⟨x20,c,H⟩:=H
   refine AN.zl 3 S rfl (fun _ hx=>Lf.run_ld (S.ev rfl) fl3 (hx.cell _ _ (S.cl c))) fun _ S=>?_
   refine AN.zq 4 S rfl (fun _=>Lf.run_move (S.ev rfl)) fun _ S=>?_
   refine AN.zq 5 S rfl (fun _=>Lf.run_move (S.ev rfl)) fun _ S=>?_
   obtain⟨q23,e_3,e_4,e_5,H⟩:=H
   refine AN.zq 6 S rfl (fun _=>Lf.run_ixs (S.ev rfl) (S.ev rfl) Try.underlying26 ti3 e_3 e_4 e_5) fun _ S=>?_
   obtain⟨x24,c_1,H⟩:=H
   refine AN.zl 7 S rfl (fun _ hx=>Lf.run_ld (S.ev rfl) fl3 (hx.cell _ _ (S.cl c_1))) fun _ S=>?_
   refine AN.zq 8 S rfl (fun _=>Lf.run_neq (S.ev rfl) (S.ev rfl)) fun _ S=>?_
   refine AN.done (by kernel_rfl) ?_
   refine W.cond S (b:=(x20 != x24)) rfl (fun hb_2=>?_) (fun hb_2=>?_)
   ·
    replace H:=H.1 hb_2
    refine W.seq ?_
    refine W.region ?_
    refine OL.za S fun _ S=>?_
    refine OL.nil ?_
    refine W.ret ?_
    exact Ret.one S rfl rfl H
   ·
    replace H:=H.2 hb_2
    refine W.skip ?_
    refine W.region ?_
    refine OL.zm S fun _ S=>?_
    refine OL.zq S (Lf.run_add (S.ev rfl) (S.ev rfl)) fun _ S=>?_
    refine OL.za S fun _ S=>?_
    refine OL.nil ?_
    exact⟨((IntKind.i64.wrap (i5+1))),⟨S.sub _ ⟨rfl,rfl,rfl,trivial⟩,H.1⟩,H.2⟩
  ·
   replace H:=H.2 hb_1
   refine W.exit_ ?_
   refine xhit ?_
   refine W.seq ?_
   refine W.region ?_
   refine OL.za S fun _ S=>?_
   refine OL.nil ?_
   refine W.ret ?_
   exact Ret.one S rfl rfl H
def L61 (v0:Int) (v0_1:Int) (v0_2:ByteArray) (v0_3:Sv) (v0_4:Int) (v0_5:Sv) (v0_6:Int) (h:Heap) (R:Value→Heap→Prop):Prop:=
 new 33 #[Value.int .i64 v0,Value.int .u64 v0_1,Value.string v0_2,Value.slice v0_3.a v0_3.n v0_3.c,Value.int .i64 v0_4,Value.slice v0_5.a v0_5.n v0_5.c,Value.int .i64 v0_6] h fun p1 h1=>
 ldI .i64 h1 p1 fun x5=>
 ifb (x5 == 0) (
  R (Value.bool false) h1) (
  ∃(I:Int→Heap→Prop) (m:Int→Heap→Nat),I 0 h1∧∀i3 h2,I i3 h2 →
  ldS h2 (p1.add 3) fun x9=>
  ifb (decide (i3<((x9.n:Nat):Int))) (
   ldS h2 (p1.add 3) fun x15=>
   ixS x15 i3 fun q17=>
   ∃(y18:Int) (y18_1:Int) (y18_2:ByteArray) (y18_3:Sv) (y18_4:Int) (y18_5:Sv) (y18_6:Int),cl h2 (q17.add ((i3:Int).toNat*7))=some (Value.int .i64 y18)∧cl h2 ((q17.add ((i3:Int).toNat*7)).add 1)=some (Value.int .u64 y18_1)∧cl h2 ((q17.add ((i3:Int).toNat*7)).add 2)=some (Value.string y18_2)∧cl h2 ((q17.add ((i3:Int).toNat*7)).add 3)=some (Value.slice y18_3.a y18_3.n y18_3.c)∧cl h2 ((q17.add ((i3:Int).toNat*7)).add 4)=some (Value.int .i64 y18_4)∧cl h2 ((q17.add ((i3:Int).toNat*7)).add 5)=some (Value.slice y18_5.a y18_5.n y18_5.c)∧cl h2 ((q17.add ((i3:Int).toNat*7)).add 6)=some (Value.int .i64 y18_6) ∧
   cal Try.prog 61 #[Value.agg #[Value.int .i64 y18,Value.int .u64 y18_1,Value.string y18_2,Value.slice y18_3.a y18_3.n y18_3.c,Value.int .i64 y18_4,Value.slice y18_5.a y18_5.n y18_5.c,Value.int .i64 y18_6]] h2 fun u h3=>asB u fun x19=>
   ifb (!x19) (
    R (Value.bool false) h3) (
    I (IntKind.i64.wrap (i3+1)) h3∧m (IntKind.i64.wrap (i3+1)) h3<m i3 h2)) (
   R (Value.bool true) h2))
set_option maxRecDepth 100000 in
theorem F61 {v0 v0_1 v0_2 v0_3 v0_4 v0_5 v0_6 h:_} {R:Value→Heap→Prop} (H:L61 v0 v0_1 v0_2 v0_3 v0_4 v0_5 v0_6 h R):CallsH Try.prog 61 #[Value.agg #[Value.int .i64 v0,Value.int .u64 v0_1,Value.string v0_2,Value.slice v0_3.a v0_3.n v0_3.c,Value.int .i64 v0_4,Value.slice v0_5.a v0_5.n v0_5.c,Value.int .i64 v0_6]] h R:=by
 refine CallsH.enter (n:=21) Try.func61 rfl rfl rfl rfl ?_
 intro w0 aa ww S
 unfold L61 at H
 refine W.seq ?_
 refine W.region ?_
 refine ol_box S H rfl rfl rfl trivial ?_
 clear S H;intro p1 aa ww h1 H S
 refine OL.za S fun _ S=>?_
 refine OL.nil ?_
 refine W.seq ?_
 refine W.seq ?_
 refine W.region ?_
 refine OL.zf S fa33_0 fun _ S=>?_
 obtain⟨x5,c,H⟩:=H
 refine OL.zl S fl3 c fun _ S=>?_
 refine OL.zq S (Lf.run_eql (S.ev rfl) (S.ev rfl)) fun _ S=>?_
 refine OL.nil ?_
 refine W.cond S (b:=(x5 == 0)) rfl (fun hb=>?_) (fun hb=>?_)
 ·
  replace H:=H.1 hb
  refine W.seq ?_
  refine W.region ?_
  refine OL.za S fun _ S=>?_
  refine OL.nil ?_
  refine W.ret ?_
  exact Ret.one S rfl rfl H
 ·
  replace H:=H.2 hb
  refine W.skip ?_
  refine W.seq ?_
  refine W.seq ?_
  refine W.region ?_
  refine OL.za S fun _ S=>?_
  refine OL.nil ?_
  refine W.block ?_
  obtain⟨I,m,H,HB⟩:=H
  refine W.loopS (σ:=Int×Heap) (fun s aa ww=>St 21 [(1,Value.pointer (some p1)),(3,Value.int .i64 s.1)] s.2 w0 aa ww∧I s.1 s.2) (fun s=>m s.1 s.2) (0,h1) ⟨S.sub _ ⟨rfl,rfl,trivial⟩,H⟩ ?_
  clear H S
  rintro ⟨i3,h2⟩ aa ww ⟨S,HI⟩
  replace S:St 21 [(1,Value.pointer (some p1)),(3,Value.int .i64 i3)] h2 w0 aa ww:=S
  have H:=HB i3 h2 HI
  clear HI
  refine W.seq ?_
  refine W.seq ?_
  refine W.region ?_
  refine OL.zm S fun _ S=>?_
  refine OL.zf S fa33_3 fun _ S=>?_
  obtain⟨x9,c_1,H⟩:=H
  refine OL.zl S fl31 c_1 fun _ S=>?_
  refine OL.zq S (Lf.run_lens (S.ev rfl) rfl Try.underlying31) fun _ S=>?_
  refine OL.zq S (Lf.run_lss (S.ev rfl) (S.ev rfl)) fun _ S=>?_
  refine OL.nil ?_
  refine W.cond S (b:=(decide (i3<((x9.n:Nat):Int)))) rfl (fun hb_1=>?_) (fun hb_1=>?_)
  ·
   replace H:=H.1 hb_1
   refine W.skip ?_
   refine W.seq ?_
   refine W.block ?_
   refine W.seq ?_
   refine W.region ?_
   refine OL.zf S fa33_3 fun _ S=>?_
   obtain⟨x15,c_2,H⟩:=H
   refine OL.zl S fl31 c_2 fun _ S=>?_
   refine OL.zm S fun _ S=>?_
   obtain⟨q17,e,e_1,e_2,H⟩:=H
   refine OL.zq S (Lf.run_ixs (S.ev rfl) (S.ev rfl) Try.underlying31 ti33 e e_1 e_2) fun _ S=>?_
   obtain⟨y18,y18_1,y18_2,y18_3,y18_4,y18_5,y18_6,c_4,c_5,c_6,c_7,c_8,c_9,c_10,H⟩:=H
   refine OL.zq S (Lf.run_ldA (cs:=[Value.int .i64 y18,Value.int .u64 y18_1,Value.string y18_2,Value.slice y18_3.a y18_3.n y18_3.c,Value.int .i64 y18_4,Value.slice y18_5.a y18_5.n y18_5.c,Value.int .i64 y18_6]) (S.ev rfl) ag33 ti33 (by rw[S.heap];exact RowL.toRow ⟨c_4,c_5,c_6,c_7,c_8,c_9,c_10,trivial⟩)) fun _ S=>?_
   refine ol_cal S H isfn61 rfl rfl trivial ?_
   clear S H;intro u aa ww h3 H S
   obtain⟨x19,rfl,H⟩:=H
   refine OL.zq S (Lf.run_not (S.ev rfl)) fun _ S=>?_
   refine OL.nil ?_
   refine W.cond S (b:=(!x19)) rfl (fun hb_2=>?_) (fun hb_2=>?_)
   ·
    replace H:=H.1 hb_2
    refine W.seq ?_
    refine W.region ?_
    refine OL.za S fun _ S=>?_
    refine OL.nil ?_
    refine W.ret ?_
    exact Ret.one S rfl rfl H
   ·
    replace H:=H.2 hb_2
    refine W.skip ?_
    refine W.region ?_
    refine OL.zm S fun _ S=>?_
    refine OL.zq S (Lf.run_add (S.ev rfl) (S.ev rfl)) fun _ S=>?_
    refine OL.za S fun _ S=>?_
    refine OL.nil ?_
    exact⟨((IntKind.i64.wrap (i3+1)),h3),⟨S.sub _ ⟨rfl,rfl,trivial⟩,H.1⟩,H.2⟩
  ·
   replace H:=H.2 hb_1
   refine W.exit_ ?_
   refine xhit ?_
   refine W.seq ?_
   refine W.region ?_
   refine OL.za S fun _ S=>?_
   refine OL.nil ?_
   refine W.ret ?_
   exact Ret.one S rfl rfl H
def L62 (a0:Sv) (b1:Sv) (h:Heap) (R:Value→Heap→Prop):Prop:=
 ∃(I:Int→Prop) (m:Int→Nat),I 0∧∀i5,I i5 →
 ifb ((decide (i5<((a0.n:Nat):Int))) && (decide (i5<((b1.n:Nat):Int)))) (
  ixS a0 i5 fun q20=>
  ldI .i64 h (q20.add ((i5:Int).toNat*1)) fun x21=>
  ixS b1 i5 fun q24=>
  ldI .i64 h (q24.add ((i5:Int).toNat*1)) fun x25=>
  ifb (x21 != x25) (
   R (Value.bool false) h) (
   I (IntKind.i64.wrap (i5+1))∧m (IntKind.i64.wrap (i5+1))<m i5)) (
  R (Value.bool true) h)
set_option maxRecDepth 100000 in
theorem F62 {a0 b1 h:_} {R:Value→Heap→Prop} (H:L62 a0 b1 h R):CallsH Try.prog 62 #[Value.slice a0.a a0.n a0.c,Value.slice b1.a b1.n b1.c] h R:=by
 refine CallsH.enter (n:=27) Try.func62 rfl rfl rfl rfl ?_
 intro w0 aa ww S
 unfold L62 at H
 refine W.seq ?_
 refine W.region ?_
 refine OL.za S fun _ S=>?_
 refine OL.nil ?_
 refine W.seq ?_
 refine W.seq ?_
 refine W.region ?_
 refine OL.za S fun _ S=>?_
 refine OL.nil ?_
 refine W.block ?_
 obtain⟨I,m,H,HB⟩:=H
 refine W.loopS (σ:=Int) (fun s aa ww=>St 27 [(0,Value.slice a0.a a0.n a0.c),(1,Value.slice b1.a b1.n b1.c),(5,Value.int .i64 s)] h w0 aa ww∧I s) (fun s=>m s) (0) ⟨S.sub _ ⟨rfl,rfl,rfl,trivial⟩,H⟩ ?_
 clear H S
 rintro i5 aa ww ⟨S,HI⟩
 replace S:St 27 [(0,Value.slice a0.a a0.n a0.c),(1,Value.slice b1.a b1.n b1.c),(5,Value.int .i64 i5)] h w0 aa ww:=S
 have H:=HB i5 HI
 clear HI
 refine W.seq ?_
 refine W.seq ?_
 refine W.region ?_
 refine OL.zm S fun _ S=>?_
 refine OL.zm S fun _ S=>?_
 refine OL.zq S (Lf.run_lens (S.ev rfl) rfl Try.underlying26) fun _ S=>?_
 refine OL.zq S (Lf.run_lss (S.ev rfl) (S.ev rfl)) fun _ S=>?_
 refine OL.zm S fun _ S=>?_
 refine OL.cutN 5 (fun aa ww=>St 27 ((15,Value.bool ((decide (i5<((a0.n:Nat):Int))) && (decide (i5<((b1.n:Nat):Int))))) :: [(0,Value.slice a0.a a0.n a0.c),(1,Value.slice b1.a b1.n b1.c),(5,Value.int .i64 i5),(6,Value.int .i64 i5),(7,Value.slice a0.a a0.n a0.c),(8,Value.int .i64 ((a0.n:Nat):Int)),(9,Value.bool (decide (i5<((a0.n:Nat):Int)))),(10,Value.bool (decide (i5<((a0.n:Nat):Int))))]) h w0 aa ww) ?_ ?_
 ·
  rcases Bool.eq_false_or_eq_true (decide (i5<((a0.n:Nat):Int))) with hb|hb
  ·
   refine OL.zm (hg:=GOk.mk rfl rfl hb) S fun _ S=>?_
   refine OL.zm (hg:=GOk.mk rfl rfl hb) S fun _ S=>?_
   refine OL.zq (hg:=GOk.mk rfl rfl hb) S (Lf.run_lens (S.ev rfl) rfl Try.underlying26) fun _ S=>?_
   refine OL.zq (hg:=GOk.mk rfl rfl hb) S (Lf.run_lss (S.ev rfl) (S.ev rfl)) fun _ S=>?_
   refine OL.zq S (Lf.run_pickT (S.ev rfl) hb (S.ev rfl)) fun _ S=>?_
   refine OL.nil ?_
   exact (S.hd (by rw[hb,Bool.true_and])).sub _ ⟨rfl,rfl,rfl,rfl,rfl,rfl,rfl,rfl,rfl,trivial⟩
  ·
   refine OL.zn S (GNo.mk rfl rfl hb) fun _ S=>?_
   refine OL.zn S (GNo.mk rfl rfl hb) fun _ S=>?_
   refine OL.zn S (GNo.mk rfl rfl hb) fun _ S=>?_
   refine OL.zn S (GNo.mk rfl rfl hb) fun _ S=>?_
   refine OL.zq S (Lf.run_pickF (S.ev rfl) hb (S.ev rfl)) fun _ S=>?_
   refine OL.nil ?_
   exact (S.hd (by rw[hb,Bool.false_and])).sub _ ⟨rfl,rfl,rfl,rfl,rfl,rfl,rfl,rfl,rfl,trivial⟩
 ·
  clear S
  intro aa ww S
  refine OL.nil ?_
  refine W.cond S (b:=((decide (i5<((a0.n:Nat):Int))) && (decide (i5<((b1.n:Nat):Int))))) rfl (fun hb_1=>?_) (fun hb_1=>?_)
  ·
   replace H:=H.1 hb_1
   refine W.skip ?_
   refine W.seq ?_
   refine W.block ?_
   refine W.seq ?_
   replace S:=S.sub [(0,Value.slice a0.a a0.n a0.c),(1,Value.slice b1.a b1.n b1.c),(5,Value.int .i64 i5)] ⟨rfl,rfl,rfl,trivial⟩
   refine W.regionD S (by kernel_rfl) ?_
   clear S;intro ww S
   refine AN.zq 0 S rfl (fun _=>Lf.run_move (S.ev rfl)) fun _ S=>?_
   refine AN.zq 1 S rfl (fun _=>Lf.run_move (S.ev rfl)) fun _ S=>?_
   obtain⟨q20,e,e_1,e_2,H⟩:=H
   refine AN.zq 2 S rfl (fun _=>Lf.run_ixs (S.ev rfl) (S.ev rfl) Try.underlying26 ti3 e e_1 e_2) fun _ S=>?_
   obtain⟨x21,c,H⟩:=H
   refine AN.zl 3 S rfl (fun _ hx=>Lf.run_ld (S.ev rfl) fl3 (hx.cell _ _ (S.cl c))) fun _ S=>?_
   refine AN.zq 4 S rfl (fun _=>Lf.run_move (S.ev rfl)) fun _ S=>?_
   refine AN.zq 5 S rfl (fun _=>Lf.run_move (S.ev rfl)) fun _ S=>?_
   obtain⟨q24,e_3,e_4,e_5,H⟩:=H
   refine AN.zq 6 S rfl (fun _=>Lf.run_ixs (S.ev rfl) (S.ev rfl) Try.underlying26 ti3 e_3 e_4 e_5) fun _ S=>?_
   obtain⟨x25,c_1,H⟩:=H
   refine AN.zl 7 S rfl (fun _ hx=>Lf.run_ld (S.ev rfl) fl3 (hx.cell _ _ (S.cl c_1))) fun _ S=>?_
   refine AN.zq 8 S rfl (fun _=>Lf.run_neq (S.ev rfl) (S.ev rfl)) fun _ S=>?_
   refine AN.done (by kernel_rfl) ?_
   refine W.cond S (b:=(x21 != x25)) rfl (fun hb_2=>?_) (fun hb_2=>?_)
   ·
    replace H:=H.1 hb_2
    refine W.seq ?_
    refine W.region ?_
    refine OL.za S fun _ S=>?_
    refine OL.nil ?_
    refine W.ret ?_
    exact Ret.one S rfl rfl H
   ·
    replace H:=H.2 hb_2
    refine W.skip ?_
    refine W.region ?_
    refine OL.zm S fun _ S=>?_
    refine OL.zq S (Lf.run_add (S.ev rfl) (S.ev rfl)) fun _ S=>?_
    refine OL.za S fun _ S=>?_
    refine OL.nil ?_
    exact⟨((IntKind.i64.wrap (i5+1))),⟨S.sub _ ⟨rfl,rfl,rfl,trivial⟩,H.1⟩,H.2⟩
  ·
   replace H:=H.2 hb_1
   refine W.exit_ ?_
   refine xhit ?_
   refine W.seq ?_
   refine W.region ?_
   refine OL.za S fun _ S=>?_
   refine OL.nil ?_
   refine W.ret ?_
   exact Ret.one S rfl rfl H
def L6 (most0:Int) (l1:Sv) (h:Heap) (R:Value→Heap→Prop):Prop:=
 cal Try.prog 9 #[] h fun u h1=>asB u fun x14=>
 ∃J:Bool→Heap→Prop,(orj (!x14) (fun k=>
  cal Try.prog 19 #[Value.slice l1.a l1.n l1.c] h1 fun u_1 h3=>asB u_1 fun x18=>
  k (!x18) h3) h1 J)∧∀x20 h2,J x20 h2 →
 ifb x20 (
  cal Try.prog 9 #[] h2 fun u_2 h4=>asB u_2 fun x21=>
  R (Value.bool x21) h4) (
  cal Try.prog 8 #[Value.int .i64 (IntKind.i64.wrap (((IntKind.u64.wrap most0):Int).tmod 12)),Value.bool false] h2 fun u_3 h5=>asP u_3 fun x27=>
  new 56 #[Value.slice (⟨none,0,0⟩:Sv).a (⟨none,0,0⟩:Sv).n (⟨none,0,0⟩:Sv).c,Value.int .i64 0,Value.int .i64 (IntKind.i64.wrap (((IntKind.u64.wrap most0):Int).tmod 12)),Value.bool true] h5 fun p30 h6=>
  newS 58 #[Value.int .i64 0,Value.slice (⟨none,0,0⟩:Sv).a (⟨none,0,0⟩:Sv).n (⟨none,0,0⟩:Sv).c,Value.int .i64 0,Value.int .i64 0,Value.slice (⟨none,0,0⟩:Sv).a (⟨none,0,0⟩:Sv).n (⟨none,0,0⟩:Sv).c,Value.int .i64 0] 1 h6 fun s32 h7=>
  ∃(I:Sv→Int→Heap→Prop) (m:Sv→Int→Heap→Nat),I s32 0 h7∧∀all7 i8 h8,I all7 i8 h8 →
  ifb (decide (i8<((l1.n:Nat):Int))) (
   ixS l1 i8 fun q42=>
   ldI .i64 h8 ((q42.add ((i8:Int).toNat*12)).add 2) fun x44=>
   ((IntKind.u64.wrap ((all7.n:Nat):Int))≠0) ∧
   ixS all7 (IntKind.i64.wrap (((IntKind.u64.wrap x44):Int).tmod (IntKind.u64.wrap ((all7.n:Nat):Int)))) fun q51=>
   ∃(y52:Int) (y52_1:Sv) (y52_2:Int) (y52_3:Int) (y52_4:Sv) (y52_5:Int),cl h8 (q51.add (((IntKind.i64.wrap (((IntKind.u64.wrap x44):Int).tmod (IntKind.u64.wrap ((all7.n:Nat):Int)))):Int).toNat*6))=some (Value.int .i64 y52)∧cl h8 ((q51.add (((IntKind.i64.wrap (((IntKind.u64.wrap x44):Int).tmod (IntKind.u64.wrap ((all7.n:Nat):Int)))):Int).toNat*6)).add 1)=some (Value.slice y52_1.a y52_1.n y52_1.c)∧cl h8 ((q51.add (((IntKind.i64.wrap (((IntKind.u64.wrap x44):Int).tmod (IntKind.u64.wrap ((all7.n:Nat):Int)))):Int).toNat*6)).add 2)=some (Value.int .i64 y52_2)∧cl h8 ((q51.add (((IntKind.i64.wrap (((IntKind.u64.wrap x44):Int).tmod (IntKind.u64.wrap ((all7.n:Nat):Int)))):Int).toNat*6)).add 3)=some (Value.int .i64 y52_3)∧cl h8 ((q51.add (((IntKind.i64.wrap (((IntKind.u64.wrap x44):Int).tmod (IntKind.u64.wrap ((all7.n:Nat):Int)))):Int).toNat*6)).add 4)=some (Value.slice y52_4.a y52_4.n y52_4.c)∧cl h8 ((q51.add (((IntKind.i64.wrap (((IntKind.u64.wrap x44):Int).tmod (IntKind.u64.wrap ((all7.n:Nat):Int)))):Int).toNat*6)).add 5)=some (Value.int .i64 y52_5) ∧
   new 58 #[Value.int .i64 0,Value.slice (⟨none,0,0⟩:Sv).a (⟨none,0,0⟩:Sv).n (⟨none,0,0⟩:Sv).c,Value.int .i64 0,Value.int .i64 0,Value.slice (⟨none,0,0⟩:Sv).a (⟨none,0,0⟩:Sv).n (⟨none,0,0⟩:Sv).c,Value.int .i64 0] h8 fun p9 h9=>
   stoA h9 p9 [Value.int .i64 y52,Value.slice y52_1.a y52_1.n y52_1.c,Value.int .i64 y52_2,Value.int .i64 y52_3,Value.slice y52_4.a y52_4.n y52_4.c,Value.int .i64 y52_5] fun h10=>
   ∃Sq:Heap→Prop,Sq h10∧(
    ldS h10 p30 fun x57=>
    hlI .i64 Sq (p30.add 1) fun x62=>
    newS 89 #[] 0 h10 fun s53 h11=>
    Sq h11 ∧
    appS 89 (Value.agg #[Value.bool false,Value.int .i64 0,Value.int .u64 0,Value.string (⟨#[]⟩:ByteArray),Value.slice (⟨none,0,0⟩:Sv).a (⟨none,0,0⟩:Sv).n (⟨none,0,0⟩:Sv).c,Value.int .i64 0,Value.slice (⟨none,0,0⟩:Sv).a (⟨none,0,0⟩:Sv).n (⟨none,0,0⟩:Sv).c,Value.int .i64 0,Value.slice (⟨none,0,0⟩:Sv).a (⟨none,0,0⟩:Sv).n (⟨none,0,0⟩:Sv).c]).cells 9 128 h11 s53 x57 fun s58 h12=>
    Sq h12 ∧
    new 56 #[Value.slice s58.a s58.n s58.c,Value.int .i64 x62,Value.int .i64 (IntKind.i64.wrap (((IntKind.u64.wrap most0):Int).tmod 12)),Value.bool true] h12 fun p65 h13=>
    ixS l1 i8 fun q69=>
    ∃(y70:Int) (y70_1:Int) (y70_2:Int) (y70_3:Sv) (y70_4:Int) (y70_5:Int) (y70_6:ByteArray) (y70_7:Sv) (y70_8:Int) (y70_9:Sv) (y70_10:Int) (y70_11:Int),cl h13 (q69.add ((i8:Int).toNat*12))=some (Value.int .i64 y70)∧cl h13 ((q69.add ((i8:Int).toNat*12)).add 1)=some (Value.int .i64 y70_1)∧cl h13 ((q69.add ((i8:Int).toNat*12)).add 2)=some (Value.int .i64 y70_2)∧cl h13 ((q69.add ((i8:Int).toNat*12)).add 3)=some (Value.slice y70_3.a y70_3.n y70_3.c)∧cl h13 ((q69.add ((i8:Int).toNat*12)).add 4)=some (Value.int .i64 y70_4)∧cl h13 ((q69.add ((i8:Int).toNat*12)).add 5)=some (Value.int .u64 y70_5)∧cl h13 ((q69.add ((i8:Int).toNat*12)).add 6)=some (Value.string y70_6)∧cl h13 ((q69.add ((i8:Int).toNat*12)).add 7)=some (Value.slice y70_7.a y70_7.n y70_7.c)∧cl h13 ((q69.add ((i8:Int).toNat*12)).add 8)=some (Value.int .i64 y70_8)∧cl h13 ((q69.add ((i8:Int).toNat*12)).add 9)=some (Value.slice y70_9.a y70_9.n y70_9.c)∧cl h13 ((q69.add ((i8:Int).toNat*12)).add 10)=some (Value.int .i64 y70_10)∧cl h13 ((q69.add ((i8:Int).toNat*12)).add 11)=some (Value.int .i64 y70_11) ∧
    ∃(y72:Int) (y72_1:Sv) (y72_2:Int),cl h13 (p9.add 3)=some (Value.int .i64 y72)∧cl h13 ((p9.add 3).add 1)=some (Value.slice y72_1.a y72_1.n y72_1.c)∧cl h13 ((p9.add 3).add 2)=some (Value.int .i64 y72_2) ∧
    cal Try.prog 20 #[Value.pointer (some p65),Value.agg #[Value.int .i64 y70,Value.int .i64 y70_1,Value.int .i64 y70_2,Value.slice y70_3.a y70_3.n y70_3.c,Value.int .i64 y70_4,Value.int .u64 y70_5,Value.string y70_6,Value.slice y70_7.a y70_7.n y70_7.c,Value.int .i64 y70_8,Value.slice y70_9.a y70_9.n y70_9.c,Value.int .i64 y70_10,Value.int .i64 y70_11],Value.agg #[Value.int .i64 y72,Value.slice y72_1.a y72_1.n y72_1.c,Value.int .i64 y72_2]] h13 fun u_4 h14=>asB u_4 fun x73=>
    ifb x73 (
     R (Value.bool true) h14) (
     ∃J_1:Addr→Int→Bool→Heap→Prop,(
      ∃Sq_1:Heap→Prop,Sq_1 h14∧(
       ixS l1 i8 fun q79=>
       ∃(y80:Int) (y80_1:Int) (y80_2:Int) (y80_3:Sv) (y80_4:Int) (y80_5:Int) (y80_6:ByteArray) (y80_7:Sv) (y80_8:Int) (y80_9:Sv) (y80_10:Int) (y80_11:Int),hld Sq_1 (q79.add ((i8:Int).toNat*12)) (Value.int .i64 y80)∧hld Sq_1 ((q79.add ((i8:Int).toNat*12)).add 1) (Value.int .i64 y80_1)∧hld Sq_1 ((q79.add ((i8:Int).toNat*12)).add 2) (Value.int .i64 y80_2)∧hld Sq_1 ((q79.add ((i8:Int).toNat*12)).add 3) (Value.slice y80_3.a y80_3.n y80_3.c)∧hld Sq_1 ((q79.add ((i8:Int).toNat*12)).add 4) (Value.int .i64 y80_4)∧hld Sq_1 ((q79.add ((i8:Int).toNat*12)).add 5) (Value.int .u64 y80_5)∧hld Sq_1 ((q79.add ((i8:Int).toNat*12)).add 6) (Value.string y80_6)∧hld Sq_1 ((q79.add ((i8:Int).toNat*12)).add 7) (Value.slice y80_7.a y80_7.n y80_7.c)∧hld Sq_1 ((q79.add ((i8:Int).toNat*12)).add 8) (Value.int .i64 y80_8)∧hld Sq_1 ((q79.add ((i8:Int).toNat*12)).add 9) (Value.slice y80_9.a y80_9.n y80_9.c)∧hld Sq_1 ((q79.add ((i8:Int).toNat*12)).add 10) (Value.int .i64 y80_10)∧hld Sq_1 ((q79.add ((i8:Int).toNat*12)).add 11) (Value.int .i64 y80_11) ∧
       ∃(y81:Int) (y81_1:Sv) (y81_2:Int) (y81_3:Int) (y81_4:Sv) (y81_5:Int),hld Sq_1 p9 (Value.int .i64 y81)∧hld Sq_1 (p9.add 1) (Value.slice y81_1.a y81_1.n y81_1.c)∧hld Sq_1 (p9.add 2) (Value.int .i64 y81_2)∧hld Sq_1 (p9.add 3) (Value.int .i64 y81_3)∧hld Sq_1 (p9.add 4) (Value.slice y81_4.a y81_4.n y81_4.c)∧hld Sq_1 (p9.add 5) (Value.int .i64 y81_5) ∧
       (
        cal Try.prog 21 #[Value.pointer x27,Value.pointer (some p30),Value.agg #[Value.int .i64 y80,Value.int .i64 y80_1,Value.int .i64 y80_2,Value.slice y80_3.a y80_3.n y80_3.c,Value.int .i64 y80_4,Value.int .u64 y80_5,Value.string y80_6,Value.slice y80_7.a y80_7.n y80_7.c,Value.int .i64 y80_8,Value.slice y80_9.a y80_9.n y80_9.c,Value.int .i64 y80_10,Value.int .i64 y80_11],Value.agg #[Value.int .i64 y81,Value.slice y81_1.a y81_1.n y81_1.c,Value.int .i64 y81_2,Value.int .i64 y81_3,Value.slice y81_4.a y81_4.n y81_4.c,Value.int .i64 y81_5],Value.bool false] h14 fun u_5 h15=>∃(y82:Int) (y82_1:Sv) (y82_2:Int) (y82_3:Int) (y82_4:Sv) (y82_5:Int) (x82:Int) (x82_1:Bool),u_5=Value.tuple #[Value.agg #[Value.int .i64 y82,Value.slice y82_1.a y82_1.n y82_1.c,Value.int .i64 y82_2,Value.int .i64 y82_3,Value.slice y82_4.a y82_4.n y82_4.c,Value.int .i64 y82_5],Value.int .i64 x82,Value.bool x82_1] ∧
        new 58 #[Value.int .i64 0,Value.slice (⟨none,0,0⟩:Sv).a (⟨none,0,0⟩:Sv).n (⟨none,0,0⟩:Sv).c,Value.int .i64 0,Value.int .i64 0,Value.slice (⟨none,0,0⟩:Sv).a (⟨none,0,0⟩:Sv).n (⟨none,0,0⟩:Sv).c,Value.int .i64 0] h15 fun p11 h16=>
        stoA h16 p11 [Value.int .i64 y82,Value.slice y82_1.a y82_1.n y82_1.c,Value.int .i64 y82_2,Value.int .i64 y82_3,Value.slice y82_4.a y82_4.n y82_4.c,Value.int .i64 y82_5] fun h17=>
        J_1 p11 x82 x82_1 h17)∧(
        new 58 #[Value.int .i64 0,Value.slice (⟨none,0,0⟩:Sv).a (⟨none,0,0⟩:Sv).n (⟨none,0,0⟩:Sv).c,Value.int .i64 0,Value.int .i64 0,Value.slice (⟨none,0,0⟩:Sv).a (⟨none,0,0⟩:Sv).n (⟨none,0,0⟩:Sv).c,Value.int .i64 0] h14 fun p11_1 h18=>
        Sq_1 h18 ∧
        cal Try.prog 21 #[Value.pointer x27,Value.pointer (some p30),Value.agg #[Value.int .i64 y80,Value.int .i64 y80_1,Value.int .i64 y80_2,Value.slice y80_3.a y80_3.n y80_3.c,Value.int .i64 y80_4,Value.int .u64 y80_5,Value.string y80_6,Value.slice y80_7.a y80_7.n y80_7.c,Value.int .i64 y80_8,Value.slice y80_9.a y80_9.n y80_9.c,Value.int .i64 y80_10,Value.int .i64 y80_11],Value.agg #[Value.int .i64 y81,Value.slice y81_1.a y81_1.n y81_1.c,Value.int .i64 y81_2,Value.int .i64 y81_3,Value.slice y81_4.a y81_4.n y81_4.c,Value.int .i64 y81_5],Value.bool false] h18 fun u_6 h19=>∃(y82_6:Int) (y82_7:Sv) (y82_8:Int) (y82_9:Int) (y82_10:Sv) (y82_11:Int) (x82_2:Int) (x82_3:Bool),u_6=Value.tuple #[Value.agg #[Value.int .i64 y82_6,Value.slice y82_7.a y82_7.n y82_7.c,Value.int .i64 y82_8,Value.int .i64 y82_9,Value.slice y82_10.a y82_10.n y82_10.c,Value.int .i64 y82_11],Value.int .i64 x82_2,Value.bool x82_3] ∧
        stoA h19 p11_1 [Value.int .i64 y82_6,Value.slice y82_7.a y82_7.n y82_7.c,Value.int .i64 y82_8,Value.int .i64 y82_9,Value.slice y82_10.a y82_10.n y82_10.c,Value.int .i64 y82_11] fun h20=>
        J_1 p11_1 x82_2 x82_3 h20)))∧(∀q11 f12 ok13 h21,J_1 q11 f12 ok13 h21 →
     ∃J_2:Bool→Prop,(orr (!ok13) (fun k_1=>
      ∃J_3:Bool→Prop,(andr (f12 != 0) (fun k_2=>
       ixS l1 i8 fun q94=>
       ldI .i64 h21 (q94.add ((i8:Int).toNat*12)) fun x96=>
       k_2 (x96 != 8)) J_3)∧∀x98,J_3 x98 →
      k_1 x98) J_2)∧∀x99,J_2 x99 →
     ifb x99 (
      R (Value.bool false) h21) (
      ∃(y101:Int) (y101_1:Sv) (y101_2:Int) (y101_3:Int) (y101_4:Sv) (y101_5:Int),cl h21 q11=some (Value.int .i64 y101)∧cl h21 (q11.add 1)=some (Value.slice y101_1.a y101_1.n y101_1.c)∧cl h21 (q11.add 2)=some (Value.int .i64 y101_2)∧cl h21 (q11.add 3)=some (Value.int .i64 y101_3)∧cl h21 (q11.add 4)=some (Value.slice y101_4.a y101_4.n y101_4.c)∧cl h21 (q11.add 5)=some (Value.int .i64 y101_5) ∧
      newS 58 #[Value.int .i64 y101,Value.slice y101_1.a y101_1.n y101_1.c,Value.int .i64 y101_2,Value.int .i64 y101_3,Value.slice y101_4.a y101_4.n y101_4.c,Value.int .i64 y101_5] 1 h21 fun s102 h22=>
      appS 58 (Value.agg #[Value.int .i64 0,Value.slice (⟨none,0,0⟩:Sv).a (⟨none,0,0⟩:Sv).n (⟨none,0,0⟩:Sv).c,Value.int .i64 0,Value.int .i64 0,Value.slice (⟨none,0,0⟩:Sv).a (⟨none,0,0⟩:Sv).n (⟨none,0,0⟩:Sv).c,Value.int .i64 0]).cells 6 80 h22 all7 s102 fun s103 h23=>
      I s103 (IntKind.i64.wrap (i8+1)) h23∧m s103 (IntKind.i64.wrap (i8+1)) h23<m all7 i8 h8))))) (
   R (Value.bool true) h8))
set_option maxRecDepth 100000 in
theorem F6 {most0 l1 h:_} {R:Value→Heap→Prop} (H:L6 most0 l1 h R):CallsH Try.prog 6 #[Value.int .i64 most0,Value.slice l1.a l1.n l1.c] h R:=by
 refine CallsH.enter (n:=104) Try.func6 rfl rfl rfl rfl ?_
 intro w0 aa ww S
 unfold L6 at H
 refine W.seq ?_
 refine W.region ?_
 refine OL.za S fun _ S=>?_
 refine OL.nil ?_
 refine W.seq ?_
 refine W.seq ?_
 refine W.region ?_
 refine ol_cal S H isfn9 rfl rfl trivial ?_
 clear S H;intro u aa ww h1 H S
 obtain⟨x14,rfl,H⟩:=H
 refine OL.zq S (Lf.run_not (S.ev rfl)) fun _ S=>?_
 refine OL.zm S fun _ S=>?_
 obtain⟨J,H,HK⟩:=H
 refine OL.cutN 4 (fun aa ww=>∃x20 h2,St 104 ((20,Value.bool x20) :: [(0,Value.int .i64 most0),(1,Value.slice l1.a l1.n l1.c),(14,Value.bool x14),(15,Value.bool (!x14)),(16,Value.bool (!x14))]) h2 w0 aa ww∧J x20 h2) ?_ ?_
 ·
  rcases Bool.eq_false_or_eq_true (!x14) with hb|hb
  ·
   replace H:=H.1 hb
   refine OL.zn S (GNo.mk rfl rfl hb) fun _ S=>?_
   refine OL.zn S (GNo.mk rfl rfl hb) fun _ S=>?_
   refine OL.zn S (GNo.mk rfl rfl hb) fun _ S=>?_
   refine OL.zq S (Lf.run_pickT (S.ev rfl) hb (S.ev rfl)) fun _ S=>?_
   refine OL.nil ?_
   exact⟨_,_,S.sub _ ⟨rfl,rfl,rfl,rfl,rfl,rfl,trivial⟩,H⟩
  ·
   replace H:=H.2 hb
   refine OL.zm (hg:=GOk.mk rfl rfl hb) S fun _ S=>?_
   refine ol_cal S H isfn19 rfl rfl (GOk.mk rfl rfl hb) ?_
   clear S H;intro u_1 aa ww h3 H S
   obtain⟨x18,rfl,H⟩:=H
   refine OL.zq (hg:=GOk.mk rfl rfl hb) S (Lf.run_not (S.ev rfl)) fun _ S=>?_
   refine OL.zq S (Lf.run_pickF (S.ev rfl) hb (S.ev rfl)) fun _ S=>?_
   refine OL.nil ?_
   exact⟨_,_,S.sub _ ⟨rfl,rfl,rfl,rfl,rfl,rfl,trivial⟩,H⟩
 ·
  clear S
  rintro aa ww ⟨x20,h2,S,HJ⟩
  replace H:=HK _ _ HJ
  clear HK HJ
  refine OL.nil ?_
  refine W.cond S (b:=x20) rfl (fun hb_1=>?_) (fun hb_1=>?_)
  ·
   replace H:=H.1 hb_1
   refine W.seq ?_
   refine W.region ?_
   refine ol_cal S H isfn9 rfl rfl trivial ?_
   clear S H;intro u_2 aa ww h4 H S
   obtain⟨x21,rfl,H⟩:=H
   refine OL.za S fun _ S=>?_
   refine OL.nil ?_
   refine W.ret ?_
   exact Ret.one S rfl rfl H
  ·
   replace H:=H.2 hb_1
   refine W.skip ?_
   refine W.seq ?_
   refine W.region ?_
   refine OL.zm S fun _ S=>?_
   refine OL.zq S (Lf.run_cvi Try.underlying3 Try.underlying22 (S.ev rfl)) fun _ S=>?_
   refine OL.zq S (Lf.run_rem (S.ev rfl) (S.ev rfl) (by decide)) fun _ S=>?_
   refine OL.zq S (Lf.run_cvi Try.underlying22 Try.underlying3 (S.ev rfl)) fun _ S=>?_
   refine OL.za S fun _ S=>?_
   refine OL.nil ?_
   refine W.seq ?_
   refine W.region ?_
   refine OL.zm S fun _ S=>?_
   refine ol_cal S H isfn8 rfl rfl trivial ?_
   clear S H;intro u_3 aa ww h5 H S
   obtain⟨x27,rfl,H⟩:=H
   refine OL.zm S fun _ S=>?_
   refine OL.zq S (Lf.run_build (cs:=#[Value.slice (⟨none,0,0⟩:Sv).a (⟨none,0,0⟩:Sv).n (⟨none,0,0⟩:Sv).c,Value.int .i64 0,Value.int .i64 (IntKind.i64.wrap (((IntKind.u64.wrap most0):Int).tmod 12)),Value.bool true]) pl56 ti56 (parts_map S rfl) (by kernel_rfl)) fun _ S=>?_
   refine ol_box S H rfl rfl rfl trivial ?_
   clear S H;intro p30 aa ww h6 H S
   refine OL.za S fun _ S=>?_
   refine OL.za S fun _ S=>?_
   refine OL.nil ?_
   refine W.seq ?_
   refine W.region ?_
   refine OL.zq S (Lf.run_build (cs:=#[Value.int .i64 0,Value.slice (⟨none,0,0⟩:Sv).a (⟨none,0,0⟩:Sv).n (⟨none,0,0⟩:Sv).c,Value.int .i64 0,Value.int .i64 0,Value.slice (⟨none,0,0⟩:Sv).a (⟨none,0,0⟩:Sv).n (⟨none,0,0⟩:Sv).c,Value.int .i64 0]) pl58 ti58 (parts_map S rfl) (by kernel_rfl)) fun _ S=>?_
   refine ol_newS S H Try.underlying59 ti58 (by decide) (parts_map S rfl) (by kernel_rfl) (by decide) rfl trivial ?_
   clear S H;intro s32 aa ww h7 H S
   refine OL.za S fun _ S=>?_
   refine OL.nil ?_
   refine W.seq ?_
   refine W.seq ?_
   refine W.region ?_
   refine OL.za S fun _ S=>?_
   refine OL.nil ?_
   refine W.block ?_
   obtain⟨I,m,H,HB⟩:=H
   refine W.loopS (σ:=Sv×Int×Heap) (fun s aa ww=>St 104 [(0,Value.int .i64 (IntKind.i64.wrap (((IntKind.u64.wrap most0):Int).tmod 12))),(1,Value.slice l1.a l1.n l1.c),(5,Value.pointer x27),(6,Value.pointer (some p30)),(7,Value.slice s.1.a s.1.n s.1.c),(8,Value.int .i64 s.2.1)] s.2.2 w0 aa ww∧I s.1 s.2.1 s.2.2) (fun s=>m s.1 s.2.1 s.2.2) (s32,0,h7) ⟨S.sub _ ⟨rfl,rfl,rfl,rfl,rfl,rfl,trivial⟩,H⟩ ?_
   clear H S
   rintro ⟨all7,i8,h8⟩ aa ww ⟨S,HI⟩
   replace S:St 104 [(0,Value.int .i64 (IntKind.i64.wrap (((IntKind.u64.wrap most0):Int).tmod 12))),(1,Value.slice l1.a l1.n l1.c),(5,Value.pointer x27),(6,Value.pointer (some p30)),(7,Value.slice all7.a all7.n all7.c),(8,Value.int .i64 i8)] h8 w0 aa ww:=S
   have H:=HB all7 i8 h8 HI
   clear HI
   refine W.seq ?_
   refine W.seq ?_
   refine W.region ?_
   refine OL.zm S fun _ S=>?_
   refine OL.zm S fun _ S=>?_
   refine OL.zq S (Lf.run_lens (S.ev rfl) rfl Try.underlying51) fun _ S=>?_
   refine OL.zq S (Lf.run_lss (S.ev rfl) (S.ev rfl)) fun _ S=>?_
   refine OL.nil ?_
   refine W.cond S (b:=(decide (i8<((l1.n:Nat):Int)))) rfl (fun hb_2=>?_) (fun hb_2=>?_)
   ·
    replace H:=H.1 hb_2
    refine W.skip ?_
    refine W.seq ?_
    refine W.block ?_
    refine W.seq ?_
    refine W.region ?_
    refine OL.zm S fun _ S=>?_
    refine OL.zm S fun _ S=>?_
    refine OL.zm S fun _ S=>?_
    obtain⟨q42,e,e_1,e_2,H⟩:=H
    refine OL.zq S (Lf.run_ixs (S.ev rfl) (S.ev rfl) Try.underlying51 ti61 e e_1 e_2) fun _ S=>?_
    refine OL.zf S fa61_2 fun _ S=>?_
    obtain⟨x44,c,H⟩:=H
    refine OL.zl S fl3 c fun _ S=>?_
    refine OL.zq S (Lf.run_cvi Try.underlying3 Try.underlying22 (S.ev rfl)) fun _ S=>?_
    refine OL.zm S fun _ S=>?_
    refine OL.zq S (Lf.run_lens (S.ev rfl) rfl Try.underlying59) fun _ S=>?_
    refine OL.zq S (Lf.run_cvi Try.underlying3 Try.underlying22 (S.ev rfl)) fun _ S=>?_
    obtain⟨c_55,H⟩:=H
    refine OL.zq S (Lf.run_rem (S.ev rfl) (S.ev rfl) c_55) fun _ S=>?_
    refine OL.zq S (Lf.run_cvi Try.underlying22 Try.underlying3 (S.ev rfl)) fun _ S=>?_
    obtain⟨q51,e_3,e_4,e_5,H⟩:=H
    refine OL.zq S (Lf.run_ixs (S.ev rfl) (S.ev rfl) Try.underlying59 ti58 e_3 e_4 e_5) fun _ S=>?_
    obtain⟨y52,y52_1,y52_2,y52_3,y52_4,y52_5,c_49,c_50,c_51,c_52,c_53,c_54,H⟩:=H
    refine OL.zq S (Lf.run_ldA (cs:=[Value.int .i64 y52,Value.slice y52_1.a y52_1.n y52_1.c,Value.int .i64 y52_2,Value.int .i64 y52_3,Value.slice y52_4.a y52_4.n y52_4.c,Value.int .i64 y52_5]) (S.ev rfl) ag58 ti58 (by rw[S.heap];exact RowL.toRow ⟨c_49,c_50,c_51,c_52,c_53,c_54,trivial⟩)) fun _ S=>?_
    refine ol_alloc S H ti58 rfl rfl trivial ?_
    clear S H;intro p9 aa ww h9 H S
    refine ol_stoA S H rfl rfl ti58 trivial ?_
    clear S H;intro aa ww h10 H S
    refine OL.nil ?_
    refine W.seq ?_
    replace S:=S.sub [(0,Value.int .i64 (IntKind.i64.wrap (((IntKind.u64.wrap most0):Int).tmod 12))),(1,Value.slice l1.a l1.n l1.c),(5,Value.pointer x27),(6,Value.pointer (some p30)),(7,Value.slice all7.a all7.n all7.c),(8,Value.int .i64 i8),(9,Value.pointer (some p9))] ⟨rfl,rfl,rfl,rfl,rfl,rfl,rfl,trivial⟩
    obtain⟨Sq,HS,H⟩:=H
    refine W.regionN [9] [0,5,12] Sq S (by kernel_rfl) ?_
    clear S;intro ww S
    refine BN.pure 1 S (fun _=>HS) rfl (by kernel_rfl) (by kernel_rfl) (fun _=>Lf.run_move (S.ev rfl)) rfl rfl trivial fun _ S=>?_
    refine BN.pure 2 S (fun _=>HS) rfl (by kernel_rfl) (by kernel_rfl) (fun _=>Lf.run_nc (S.ev rfl)) rfl rfl trivial fun _ S=>?_
    refine BN.pure 3 S (fun _=>HS) rfl (by kernel_rfl) (by kernel_rfl) (fun _=>Lf.run_fa (S.ev rfl) fa56_0) rfl rfl trivial fun _ S=>?_
    obtain⟨x57,c_2,H⟩:=H
    refine BN.load 4 S (fun _=>HS) rfl (by kernel_rfl) (by kernel_rfl) (fun _ hx=>Lf.run_ld (S.ev rfl) fl54 (hx.cell _ _ (S.cl c_2))) rfl rfl trivial fun _ S=>?_
    refine BN.pure 6 S (fun _=>HS) rfl (by kernel_rfl) (by kernel_rfl) (fun _=>Lf.run_move (S.ev rfl)) rfl rfl trivial fun _ S=>?_
    refine BN.pure 7 S (fun _=>HS) rfl (by kernel_rfl) (by kernel_rfl) (fun _=>Lf.run_nc (S.ev rfl)) rfl rfl trivial fun _ S=>?_
    refine BN.pure 8 S (fun _=>HS) rfl (by kernel_rfl) (by kernel_rfl) (fun _=>Lf.run_fa (S.ev rfl) fa56_1) rfl rfl trivial fun _ S=>?_
    refine BN.pure 10 S (fun _=>HS) rfl (by kernel_rfl) (by kernel_rfl) (fun _=>Lf.run_move (S.ev rfl)) rfl rfl trivial fun _ S=>?_
    obtain⟨x62,c_3,H⟩:=H
    refine BN.held 9 S HS rfl (by kernel_rfl) (fun _ hq=>Lf.run_ld (S.ev rfl) fl3 (c_3 _ hq)) rfl rfl trivial fun _ S=>?_
    refine BN.eff 0 rfl (by kernel_rfl) ?_
    refine ol_newS0 S H Try.underlying54 ti89 rfl rfl trivial ?_
    clear S H;intro s53 aa ww h11 H S
    refine OL.nil ?_
    clear HS;obtain⟨HS,H⟩:=H
    refine⟨fun _=>by rw[S.heap];exact HS,?_⟩
    refine BN.eff 5 rfl (by kernel_rfl) ?_
    refine ol_appS S H Try.underlying54 ti89 rfl rfl rfl trivial ?_
    clear S H;intro s58 aa ww h12 H S
    refine OL.nil ?_
    clear HS;obtain⟨HS,H⟩:=H
    refine⟨fun _=>by rw[S.heap];exact HS,?_⟩
    refine BN.pure 11 S (fun _=>HS) rfl (by kernel_rfl) (by kernel_rfl) (fun _=>Lf.run_build (cs:=#[Value.slice s58.a s58.n s58.c,Value.int .i64 x62,Value.int .i64 (IntKind.i64.wrap (((IntKind.u64.wrap most0):Int).tmod 12)),Value.bool true]) pl56 ti56 (parts_map S rfl) (by kernel_rfl)) rfl rfl trivial fun _ S=>?_
    refine BN.eff 12 rfl (by kernel_rfl) ?_
    refine ol_box S H rfl rfl rfl trivial ?_
    clear S H;intro p65 aa ww h13 H S
    refine OL.nil ?_
    refine⟨noNeed (by kernel_rfl),?_⟩
    refine BN.pure 13 S (noNeed (by kernel_rfl)) rfl (by kernel_rfl) (by kernel_rfl) (fun _=>Lf.run_assign (S.ev rfl)) rfl rfl trivial fun _ S=>?_
    refine BN.done (by kernel_rfl) ?_
    refine W.seq ?_
    refine W.seq ?_
    replace S:=S.sub [(0,Value.int .i64 (IntKind.i64.wrap (((IntKind.u64.wrap most0):Int).tmod 12))),(1,Value.slice l1.a l1.n l1.c),(5,Value.pointer x27),(6,Value.pointer (some p30)),(7,Value.slice all7.a all7.n all7.c),(8,Value.int .i64 i8),(9,Value.pointer (some p9)),(10,Value.pointer (some p65))] ⟨rfl,rfl,rfl,rfl,rfl,rfl,rfl,rfl,trivial⟩
    refine W.regionD S (by kernel_rfl) ?_
    clear S;intro ww S
    refine AN.zq 0 S rfl (fun _=>Lf.run_move (S.ev rfl)) fun _ S=>?_
    refine AN.zq 1 S rfl (fun _=>Lf.run_move (S.ev rfl)) fun _ S=>?_
    refine AN.zq 2 S rfl (fun _=>Lf.run_move (S.ev rfl)) fun _ S=>?_
    obtain⟨q69,e_6,e_7,e_8,H⟩:=H
    refine AN.zq 3 S rfl (fun _=>Lf.run_ixs (S.ev rfl) (S.ev rfl) Try.underlying51 ti61 e_6 e_7 e_8) fun _ S=>?_
    obtain⟨y70,y70_1,y70_2,y70_3,y70_4,y70_5,y70_6,y70_7,y70_8,y70_9,y70_10,y70_11,c_37,c_38,c_39,c_40,c_41,c_42,c_43,c_44,c_45,c_46,c_47,c_48,H⟩:=H
    refine AN.zl 4 S rfl (fun _ hx=>Lf.run_ldA (cs:=[Value.int .i64 y70,Value.int .i64 y70_1,Value.int .i64 y70_2,Value.slice y70_3.a y70_3.n y70_3.c,Value.int .i64 y70_4,Value.int .u64 y70_5,Value.string y70_6,Value.slice y70_7.a y70_7.n y70_7.c,Value.int .i64 y70_8,Value.slice y70_9.a y70_9.n y70_9.c,Value.int .i64 y70_10,Value.int .i64 y70_11]) (S.ev rfl) ag61 ti61 (hx.row (S.row ⟨c_37,c_38,c_39,c_40,c_41,c_42,c_43,c_44,c_45,c_46,c_47,c_48,trivial⟩))) fun _ S=>?_
    refine AN.zq 5 S rfl (fun _=>Lf.run_fa (S.ev rfl) fa58_1) fun _ S=>?_
    obtain⟨y72,y72_1,y72_2,c_34,c_35,c_36,H⟩:=H
    refine AN.zl 6 S rfl (fun _ hx=>Lf.run_ldA (cs:=[Value.int .i64 y72,Value.slice y72_1.a y72_1.n y72_1.c,Value.int .i64 y72_2]) (S.ev rfl) ag28 ti28 (hx.row (S.row ⟨c_34,c_35,c_36,trivial⟩))) fun _ S=>?_
    refine AN.eff 7 rfl (by kernel_rfl) ?_
    refine ol_cal S H isfn20 rfl rfl trivial ?_
    clear S H;intro u_4 aa ww h14 H S
    obtain⟨x73,rfl,H⟩:=H
    refine OL.nil ?_
    refine AN.done (by kernel_rfl) ?_
    refine W.cond S (b:=x73) rfl (fun hb_3=>?_) (fun hb_3=>?_)
    ·
     replace H:=H.1 hb_3
     refine W.seq ?_
     refine W.region ?_
     refine OL.za S fun _ S=>?_
     refine OL.nil ?_
     refine W.ret ?_
     exact Ret.one S rfl rfl H
    ·
     replace H:=H.2 hb_3
     refine W.skip ?_
     refine W.seq ?_
     replace S:=S.sub [(0,Value.int .i64 (IntKind.i64.wrap (((IntKind.u64.wrap most0):Int).tmod 12))),(1,Value.slice l1.a l1.n l1.c),(5,Value.pointer x27),(6,Value.pointer (some p30)),(7,Value.slice all7.a all7.n all7.c),(8,Value.int .i64 i8),(9,Value.pointer (some p9))] ⟨rfl,rfl,rfl,rfl,rfl,rfl,rfl,trivial⟩
     obtain⟨J_1,H,HK_1⟩:=H
     refine W.mono (N':=fun aa ww=>∃q11 f12 ok13 h21,St 104 [(0,Value.int .i64 (IntKind.i64.wrap (((IntKind.u64.wrap most0):Int).tmod 12))),(1,Value.slice l1.a l1.n l1.c),(5,Value.pointer x27),(6,Value.pointer (some p30)),(7,Value.slice all7.a all7.n all7.c),(8,Value.int .i64 i8),(11,Value.pointer (some q11)),(12,Value.int .i64 f12),(13,Value.bool ok13)] h21 w0 aa ww∧J_1 q11 f12 ok13 h21) ?_ ?_
     ·
      obtain⟨Sq_1,HS_1,H⟩:=H
      refine W.regionN [5,6] [7,12,13] Sq_1 S (by kernel_rfl) ?_
      clear S;intro ww S
      refine BN.pure 0 S (fun _=>HS_1) rfl (by kernel_rfl) (by kernel_rfl) (fun _=>Lf.run_move (S.ev rfl)) rfl rfl trivial fun _ S=>?_
      refine BN.pure 1 S (fun _=>HS_1) rfl (by kernel_rfl) (by kernel_rfl) (fun _=>Lf.run_move (S.ev rfl)) rfl rfl trivial fun _ S=>?_
      refine BN.pure 2 S (fun _=>HS_1) rfl (by kernel_rfl) (by kernel_rfl) (fun _=>Lf.run_move (S.ev rfl)) rfl rfl trivial fun _ S=>?_
      refine BN.pure 3 S (fun _=>HS_1) rfl (by kernel_rfl) (by kernel_rfl) (fun _=>Lf.run_move (S.ev rfl)) rfl rfl trivial fun _ S=>?_
      obtain⟨q79,e_9,e_10,e_11,H⟩:=H
      refine BN.pure 4 S (fun _=>HS_1) rfl (by kernel_rfl) (by kernel_rfl) (fun _=>Lf.run_ixs (S.ev rfl) (S.ev rfl) Try.underlying51 ti61 e_9 e_10 e_11) rfl rfl trivial fun _ S=>?_
      obtain⟨y80,y80_1,y80_2,y80_3,y80_4,y80_5,y80_6,y80_7,y80_8,y80_9,y80_10,y80_11,c_14,c_15,c_16,c_17,c_18,c_19,c_20,c_21,c_22,c_23,c_24,c_25,H⟩:=H
      refine BN.held 5 S HS_1 rfl (by kernel_rfl) (fun _ hq=>Lf.run_ldA (cs:=[Value.int .i64 y80,Value.int .i64 y80_1,Value.int .i64 y80_2,Value.slice y80_3.a y80_3.n y80_3.c,Value.int .i64 y80_4,Value.int .u64 y80_5,Value.string y80_6,Value.slice y80_7.a y80_7.n y80_7.c,Value.int .i64 y80_8,Value.slice y80_9.a y80_9.n y80_9.c,Value.int .i64 y80_10,Value.int .i64 y80_11]) (S.ev rfl) ag61 ti61 (hlRow hq fun h_ hs_=>⟨c_14 h_ hs_,c_15 h_ hs_,c_16 h_ hs_,c_17 h_ hs_,c_18 h_ hs_,c_19 h_ hs_,c_20 h_ hs_,c_21 h_ hs_,c_22 h_ hs_,c_23 h_ hs_,c_24 h_ hs_,c_25 h_ hs_,trivial⟩)) rfl rfl trivial fun _ S=>?_
      obtain⟨y81,y81_1,y81_2,y81_3,y81_4,y81_5,c_8,c_9,c_10,c_11,c_12,c_13,H⟩:=H
      refine BN.held 6 S HS_1 rfl (by kernel_rfl) (fun _ hq=>Lf.run_ldA (cs:=[Value.int .i64 y81,Value.slice y81_1.a y81_1.n y81_1.c,Value.int .i64 y81_2,Value.int .i64 y81_3,Value.slice y81_4.a y81_4.n y81_4.c,Value.int .i64 y81_5]) (S.ev rfl) ag58 ti58 (hlRow hq fun h_ hs_=>⟨c_8 h_ hs_,c_9 h_ hs_,c_10 h_ hs_,c_11 h_ hs_,c_12 h_ hs_,c_13 h_ hs_,trivial⟩)) rfl rfl trivial fun _ S=>?_
      refine BN.effs [7,12] (by kernel_rfl) rfl ⟨⟨_,rfl,?_⟩,⟨_,rfl,?_⟩,trivial⟩
      ·
       replace H:=H.1
       refine ol_cal S H isfn21 rfl rfl trivial ?_
       clear S H;intro u_5 aa ww h15 H S
       obtain⟨y82,y82_1,y82_2,y82_3,y82_4,y82_5,x82,x82_1,rfl,H⟩:=H
       refine OL.nil ?_
       refine⟨noNeed (by kernel_rfl),?_⟩
       refine BN.pure 8 S (noNeed (by kernel_rfl)) rfl (by kernel_rfl) (by kernel_rfl) (fun _=>Lf.run_move (S.ev rfl)) rfl rfl trivial fun _ S=>?_
       refine BN.pure 9 S (noNeed (by kernel_rfl)) rfl (by kernel_rfl) (by kernel_rfl) (fun _=>Lf.run_ex (S.ev rfl) rfl) rfl rfl trivial fun _ S=>?_
       refine BN.pure 10 S (noNeed (by kernel_rfl)) rfl (by kernel_rfl) (by kernel_rfl) (fun _=>Lf.run_ex (S.ev rfl) rfl) rfl rfl trivial fun _ S=>?_
       refine BN.pure 11 S (noNeed (by kernel_rfl)) rfl (by kernel_rfl) (by kernel_rfl) (fun _=>Lf.run_ex (S.ev rfl) rfl) rfl rfl trivial fun _ S=>?_
       refine BN.eff 12 rfl (by kernel_rfl) ?_
       refine ol_alloc S H ti58 rfl rfl trivial ?_
       clear S H;intro p11 aa ww h16 H S
       refine OL.nil ?_
       refine⟨noNeed (by kernel_rfl),?_⟩
       refine BN.eff 13 rfl (by kernel_rfl) ?_
       refine ol_stoA S H rfl rfl ti58 trivial ?_
       clear S H;intro aa ww h17 H S
       refine OL.nil ?_
       refine⟨noNeed (by kernel_rfl),?_⟩
       refine BN.pure 14 S (noNeed (by kernel_rfl)) rfl (by kernel_rfl) (by kernel_rfl) (fun _=>Lf.run_assign (S.ev rfl)) rfl rfl trivial fun _ S=>?_
       refine BN.pure 15 S (noNeed (by kernel_rfl)) rfl (by kernel_rfl) (by kernel_rfl) (fun _=>Lf.run_assign (S.ev rfl)) rfl rfl trivial fun _ S=>?_
       refine BN.done (by kernel_rfl) ?_
       exact⟨p11,x82,x82_1,h17,S.sub _ ⟨rfl,rfl,rfl,rfl,rfl,rfl,rfl,rfl,rfl,trivial⟩,H⟩
      ·
       replace H:=H.2
       refine ol_alloc S H ti58 rfl rfl trivial ?_
       clear S H;intro p11_1 aa ww h18 H S
       refine OL.nil ?_
       clear HS_1;obtain⟨HS_1,H⟩:=H
       refine⟨fun _=>by rw[S.heap];exact HS_1,?_⟩
       refine BN.eff 7 rfl (by kernel_rfl) ?_
       refine ol_cal S H isfn21 rfl rfl trivial ?_
       clear S H;intro u_6 aa ww h19 H S
       obtain⟨y82_6,y82_7,y82_8,y82_9,y82_10,y82_11,x82_2,x82_3,rfl,H⟩:=H
       refine OL.nil ?_
       refine⟨noNeed (by kernel_rfl),?_⟩
       refine BN.pure 8 S (noNeed (by kernel_rfl)) rfl (by kernel_rfl) (by kernel_rfl) (fun _=>Lf.run_move (S.ev rfl)) rfl rfl trivial fun _ S=>?_
       refine BN.pure 9 S (noNeed (by kernel_rfl)) rfl (by kernel_rfl) (by kernel_rfl) (fun _=>Lf.run_ex (S.ev rfl) rfl) rfl rfl trivial fun _ S=>?_
       refine BN.pure 10 S (noNeed (by kernel_rfl)) rfl (by kernel_rfl) (by kernel_rfl) (fun _=>Lf.run_ex (S.ev rfl) rfl) rfl rfl trivial fun _ S=>?_
       refine BN.pure 11 S (noNeed (by kernel_rfl)) rfl (by kernel_rfl) (by kernel_rfl) (fun _=>Lf.run_ex (S.ev rfl) rfl) rfl rfl trivial fun _ S=>?_
       refine BN.eff 13 rfl (by kernel_rfl) ?_
       refine ol_stoA S H rfl rfl ti58 trivial ?_
       clear S H;intro aa ww h20 H S
       refine OL.nil ?_
       refine⟨noNeed (by kernel_rfl),?_⟩
       refine BN.pure 14 S (noNeed (by kernel_rfl)) rfl (by kernel_rfl) (by kernel_rfl) (fun _=>Lf.run_assign (S.ev rfl)) rfl rfl trivial fun _ S=>?_
       refine BN.pure 15 S (noNeed (by kernel_rfl)) rfl (by kernel_rfl) (by kernel_rfl) (fun _=>Lf.run_assign (S.ev rfl)) rfl rfl trivial fun _ S=>?_
       refine BN.done (by kernel_rfl) ?_
       exact⟨p11_1,x82_2,x82_3,h20,S.sub _ ⟨rfl,rfl,rfl,rfl,rfl,rfl,rfl,rfl,rfl,trivial⟩,H⟩
     ·
      clear H S
      rintro aa ww ⟨q11,f12,ok13,h21,S,HJ⟩
      have H:=HK_1 _ _ _ _ HJ
      clear HK_1 HJ
      refine W.seq ?_
      refine W.seq ?_
      refine W.region ?_
      refine OL.zm S fun _ S=>?_
      refine OL.zq S (Lf.run_not (S.ev rfl)) fun _ S=>?_
      refine OL.zm S fun _ S=>?_
      obtain⟨J_2,H,HK_2⟩:=H
      refine OL.cutN 11 (fun aa ww=>∃x99,St 104 ((99,Value.bool x99) :: [(0,Value.int .i64 (IntKind.i64.wrap (((IntKind.u64.wrap most0):Int).tmod 12))),(1,Value.slice l1.a l1.n l1.c),(5,Value.pointer x27),(6,Value.pointer (some p30)),(7,Value.slice all7.a all7.n all7.c),(8,Value.int .i64 i8),(11,Value.pointer (some q11)),(12,Value.int .i64 f12),(13,Value.bool ok13),(86,Value.bool ok13),(87,Value.bool (!ok13)),(88,Value.bool (!ok13))]) h21 w0 aa ww∧J_2 x99) ?_ ?_
      ·
       rcases Bool.eq_false_or_eq_true (!ok13) with hb_4|hb_4
       ·
        replace H:=H.1 hb_4
        refine OL.zn S (GNo.mk rfl rfl hb_4) fun _ S=>?_
        refine OL.zn S (GNo.mk rfl rfl hb_4) fun _ S=>?_
        refine OL.zn S (GNo.mk rfl rfl hb_4) fun _ S=>?_
        refine OL.zn S (GNo.un rfl rfl) fun _ S=>?_
        refine OL.zn S (GNo.un rfl rfl) fun _ S=>?_
        refine OL.zn S (GNo.un rfl rfl) fun _ S=>?_
        refine OL.zn S (GNo.un rfl rfl) fun _ S=>?_
        refine OL.zn S (GNo.un rfl rfl) fun _ S=>?_
        refine OL.zn S (GNo.un rfl rfl) fun _ S=>?_
        refine OL.zn S (GNo.mk rfl rfl hb_4) fun _ S=>?_
        refine OL.zq S (Lf.run_pickT (S.ev rfl) hb_4 (S.ev rfl)) fun _ S=>?_
        refine OL.nil ?_
        exact⟨_,S.sub _ ⟨rfl,rfl,rfl,rfl,rfl,rfl,rfl,rfl,rfl,rfl,rfl,rfl,rfl,trivial⟩,H⟩
       ·
        replace H:=H.2 hb_4
        refine OL.zm (hg:=GOk.mk rfl rfl hb_4) S fun _ S=>?_
        refine OL.zq (hg:=GOk.mk rfl rfl hb_4) S (Lf.run_neq (S.ev rfl) (S.ev rfl)) fun _ S=>?_
        refine OL.zm (hg:=GOk.mk rfl rfl hb_4) S fun _ S=>?_
        obtain⟨J_3,H,HK_3⟩:=H
        refine OL.cutN 7 (fun aa ww=>∃x98,St 104 ((98,Value.bool x98) :: [(0,Value.int .i64 (IntKind.i64.wrap (((IntKind.u64.wrap most0):Int).tmod 12))),(1,Value.slice l1.a l1.n l1.c),(5,Value.pointer x27),(6,Value.pointer (some p30)),(7,Value.slice all7.a all7.n all7.c),(8,Value.int .i64 i8),(11,Value.pointer (some q11)),(12,Value.int .i64 f12),(13,Value.bool ok13),(86,Value.bool ok13),(87,Value.bool (!ok13)),(88,Value.bool (!ok13)),(89,Value.int .i64 f12),(90,Value.bool (f12 != 0)),(91,Value.bool (f12 != 0))]) h21 w0 aa ww∧J_3 x98) ?_ ?_
        ·
         rcases Bool.eq_false_or_eq_true (f12 != 0) with hb_5|hb_5
         ·
          replace H:=H.1 hb_5
          refine OL.zm (hg:=GOk.mk rfl rfl hb_5) S fun _ S=>?_
          refine OL.zm (hg:=GOk.mk rfl rfl hb_5) S fun _ S=>?_
          obtain⟨q94,e_12,e_13,e_14,H⟩:=H
          refine OL.zq (hg:=GOk.mk rfl rfl hb_5) S (Lf.run_ixs (S.ev rfl) (S.ev rfl) Try.underlying51 ti61 e_12 e_13 e_14) fun _ S=>?_
          refine OL.zf (hg:=GOk.mk rfl rfl hb_5) S fa61_0 fun _ S=>?_
          obtain⟨x96,c_26,H⟩:=H
          refine OL.zl (hg:=GOk.mk rfl rfl hb_5) S fl3 c_26 fun _ S=>?_
          refine OL.zq (hg:=GOk.mk rfl rfl hb_5) S (Lf.run_neq (S.ev rfl) (S.ev rfl)) fun _ S=>?_
          refine OL.zq (hg:=GOk.mk rfl rfl hb_4) S (Lf.run_pickT (S.ev rfl) hb_5 (S.ev rfl)) fun _ S=>?_
          refine OL.nil ?_
          exact⟨_,S.sub _ ⟨rfl,rfl,rfl,rfl,rfl,rfl,rfl,rfl,rfl,rfl,rfl,rfl,rfl,rfl,rfl,rfl,trivial⟩,H⟩
         ·
          replace H:=H.2 hb_5
          refine OL.zn S (GNo.mk rfl rfl hb_5) fun _ S=>?_
          refine OL.zn S (GNo.mk rfl rfl hb_5) fun _ S=>?_
          refine OL.zn S (GNo.mk rfl rfl hb_5) fun _ S=>?_
          refine OL.zn S (GNo.mk rfl rfl hb_5) fun _ S=>?_
          refine OL.zn S (GNo.mk rfl rfl hb_5) fun _ S=>?_
          refine OL.zn S (GNo.mk rfl rfl hb_5) fun _ S=>?_
          refine OL.zq (hg:=GOk.mk rfl rfl hb_4) S (Lf.run_pickF (S.ev rfl) hb_5 (S.ev rfl)) fun _ S=>?_
          refine OL.nil ?_
          exact⟨_,S.sub _ ⟨rfl,rfl,rfl,rfl,rfl,rfl,rfl,rfl,rfl,rfl,rfl,rfl,rfl,rfl,rfl,rfl,trivial⟩,H⟩
        ·
         clear S
         rintro aa ww ⟨x98,S,HJ⟩
         replace H:=HK_3 _ HJ
         clear HK_3 HJ
         refine OL.zq S (Lf.run_pickF (S.ev rfl) hb_4 (S.ev rfl)) fun _ S=>?_
         refine OL.nil ?_
         exact⟨_,S.sub _ ⟨rfl,rfl,rfl,rfl,rfl,rfl,rfl,rfl,rfl,rfl,rfl,rfl,rfl,trivial⟩,H⟩
      ·
       clear S
       rintro aa ww ⟨x99,S,HJ⟩
       replace H:=HK_2 _ HJ
       clear HK_2 HJ
       refine OL.nil ?_
       refine W.cond S (b:=x99) rfl (fun hb_6=>?_) (fun hb_6=>?_)
       ·
        replace H:=H.1 hb_6
        refine W.seq ?_
        refine W.region ?_
        refine OL.za S fun _ S=>?_
        refine OL.nil ?_
        refine W.ret ?_
        exact Ret.one S rfl rfl H
       ·
        replace H:=H.2 hb_6
        refine W.skip ?_
        refine W.region ?_
        refine OL.zm S fun _ S=>?_
        obtain⟨y101,y101_1,y101_2,y101_3,y101_4,y101_5,c_28,c_29,c_30,c_31,c_32,c_33,H⟩:=H
        refine OL.zq S (Lf.run_ldA (cs:=[Value.int .i64 y101,Value.slice y101_1.a y101_1.n y101_1.c,Value.int .i64 y101_2,Value.int .i64 y101_3,Value.slice y101_4.a y101_4.n y101_4.c,Value.int .i64 y101_5]) (S.ev rfl) ag58 ti58 (by rw[S.heap];exact RowL.toRow ⟨c_28,c_29,c_30,c_31,c_32,c_33,trivial⟩)) fun _ S=>?_
        refine ol_newS S H Try.underlying59 ti58 (by decide) (parts_map S rfl) (by kernel_rfl) (by decide) rfl trivial ?_
        clear S H;intro s102 aa ww h22 H S
        refine ol_appS S H Try.underlying59 ti58 rfl rfl rfl trivial ?_
        clear S H;intro s103 aa ww h23 H S
        refine OL.za S fun _ S=>?_
        refine OL.nil ?_
        refine W.region ?_
        refine OL.zm S fun _ S=>?_
        refine OL.zq S (Lf.run_add (S.ev rfl) (S.ev rfl)) fun _ S=>?_
        refine OL.za S fun _ S=>?_
        refine OL.nil ?_
        exact⟨(s103,(IntKind.i64.wrap (i8+1)),h23),⟨S.sub _ ⟨rfl,rfl,rfl,rfl,rfl,rfl,trivial⟩,H.1⟩,H.2⟩
   ·
    replace H:=H.2 hb_2
    refine W.exit_ ?_
    refine xhit ?_
    refine W.seq ?_
    refine W.region ?_
    refine OL.za S fun _ S=>?_
    refine OL.nil ?_
    refine W.ret ?_
    exact Ret.one S rfl rfl H
def L19 (l0:Sv) (h:Heap) (R:Value→Heap→Prop):Prop:=
 ifb (decide (60<((l0.n:Nat):Int))) (
  R (Value.bool false) h) (
  ∃(I:Int→Heap→Prop) (m:Int→Heap→Nat),I 0 h∧∀i3 h1,I i3 h1 →
  ifb (decide (i3<((l0.n:Nat):Int))) (
   ixS l0 i3 fun q15=>
   ldS h1 ((q15.add ((i3:Int).toNat*12)).add 3) fun x17=>
   ∃J:Bool→Heap→Prop,(orj (decide (4<((x17.n:Nat):Int))) (fun k=>
    ixS l0 i3 fun q23=>
    ∃(y25:Int) (y25_1:Int) (y25_2:ByteArray) (y25_3:Sv) (y25_4:Int) (y25_5:Sv) (y25_6:Int),cl h1 ((q23.add ((i3:Int).toNat*12)).add 4)=some (Value.int .i64 y25)∧cl h1 (((q23.add ((i3:Int).toNat*12)).add 4).add 1)=some (Value.int .u64 y25_1)∧cl h1 (((q23.add ((i3:Int).toNat*12)).add 4).add 2)=some (Value.string y25_2)∧cl h1 (((q23.add ((i3:Int).toNat*12)).add 4).add 3)=some (Value.slice y25_3.a y25_3.n y25_3.c)∧cl h1 (((q23.add ((i3:Int).toNat*12)).add 4).add 4)=some (Value.int .i64 y25_4)∧cl h1 (((q23.add ((i3:Int).toNat*12)).add 4).add 5)=some (Value.slice y25_5.a y25_5.n y25_5.c)∧cl h1 (((q23.add ((i3:Int).toNat*12)).add 4).add 6)=some (Value.int .i64 y25_6) ∧
    cal Try.prog 22 #[Value.agg #[Value.int .i64 y25,Value.int .u64 y25_1,Value.string y25_2,Value.slice y25_3.a y25_3.n y25_3.c,Value.int .i64 y25_4,Value.slice y25_5.a y25_5.n y25_5.c,Value.int .i64 y25_6],Value.int .i64 5] h1 fun u h3=>asB u fun x26=>
    k (!x26) h3) h1 J)∧∀x28 h2,J x28 h2 →
   ifb x28 (
    R (Value.bool false) h2) (
    I (IntKind.i64.wrap (i3+1)) h2∧m (IntKind.i64.wrap (i3+1)) h2<m i3 h1)) (
   R (Value.bool true) h1))
set_option maxRecDepth 100000 in
theorem F19 {l0 h:_} {R:Value→Heap→Prop} (H:L19 l0 h R):CallsH Try.prog 19 #[Value.slice l0.a l0.n l0.c] h R:=by
 refine CallsH.enter (n:=29) Try.func19 rfl rfl rfl rfl ?_
 intro w0 aa ww S
 unfold L19 at H
 refine W.seq ?_
 refine W.region ?_
 refine OL.za S fun _ S=>?_
 refine OL.nil ?_
 refine W.seq ?_
 refine W.seq ?_
 refine W.region ?_
 refine OL.zm S fun _ S=>?_
 refine OL.zq S (Lf.run_lens (S.ev rfl) rfl Try.underlying51) fun _ S=>?_
 refine OL.zq S (Lf.run_gtr (S.ev rfl) (S.ev rfl)) fun _ S=>?_
 refine OL.nil ?_
 refine W.cond S (b:=(decide (60<((l0.n:Nat):Int)))) rfl (fun hb=>?_) (fun hb=>?_)
 ·
  replace H:=H.1 hb
  refine W.seq ?_
  refine W.region ?_
  refine OL.za S fun _ S=>?_
  refine OL.nil ?_
  refine W.ret ?_
  exact Ret.one S rfl rfl H
 ·
  replace H:=H.2 hb
  refine W.skip ?_
  refine W.seq ?_
  refine W.seq ?_
  refine W.region ?_
  refine OL.za S fun _ S=>?_
  refine OL.nil ?_
  refine W.block ?_
  obtain⟨I,m,H,HB⟩:=H
  refine W.loopS (σ:=Int×Heap) (fun s aa ww=>St 29 [(0,Value.slice l0.a l0.n l0.c),(3,Value.int .i64 s.1)] s.2 w0 aa ww∧I s.1 s.2) (fun s=>m s.1 s.2) (0,h) ⟨S.sub _ ⟨rfl,rfl,trivial⟩,H⟩ ?_
  clear H S
  rintro ⟨i3,h1⟩ aa ww ⟨S,HI⟩
  replace S:St 29 [(0,Value.slice l0.a l0.n l0.c),(3,Value.int .i64 i3)] h1 w0 aa ww:=S
  have H:=HB i3 h1 HI
  clear HI
  refine W.seq ?_
  refine W.seq ?_
  refine W.region ?_
  refine OL.zm S fun _ S=>?_
  refine OL.zm S fun _ S=>?_
  refine OL.zq S (Lf.run_lens (S.ev rfl) rfl Try.underlying51) fun _ S=>?_
  refine OL.zq S (Lf.run_lss (S.ev rfl) (S.ev rfl)) fun _ S=>?_
  refine OL.nil ?_
  refine W.cond S (b:=(decide (i3<((l0.n:Nat):Int)))) rfl (fun hb_1=>?_) (fun hb_1=>?_)
  ·
   replace H:=H.1 hb_1
   refine W.skip ?_
   refine W.seq ?_
   refine W.block ?_
   refine W.seq ?_
   refine W.region ?_
   refine OL.zm S fun _ S=>?_
   refine OL.zm S fun _ S=>?_
   obtain⟨q15,e,e_1,e_2,H⟩:=H
   refine OL.zq S (Lf.run_ixs (S.ev rfl) (S.ev rfl) Try.underlying51 ti61 e e_1 e_2) fun _ S=>?_
   refine OL.zf S fa61_3 fun _ S=>?_
   obtain⟨x17,c,H⟩:=H
   refine OL.zl S fl26 c fun _ S=>?_
   refine OL.zq S (Lf.run_lens (S.ev rfl) rfl Try.underlying26) fun _ S=>?_
   refine OL.zq S (Lf.run_gtr (S.ev rfl) (S.ev rfl)) fun _ S=>?_
   refine OL.zm S fun _ S=>?_
   obtain⟨J,H,HK⟩:=H
   refine OL.cutN 8 (fun aa ww=>∃x28 h2,St 29 ((28,Value.bool x28) :: [(0,Value.slice l0.a l0.n l0.c),(3,Value.int .i64 i3),(13,Value.slice l0.a l0.n l0.c),(14,Value.int .i64 i3),(15,Value.pointer (some (q15.add ((i3:Int).toNat*12)))),(16,Value.pointer (some ((q15.add ((i3:Int).toNat*12)).add 3))),(17,Value.slice x17.a x17.n x17.c),(18,Value.int .i64 ((x17.n:Nat):Int)),(19,Value.bool (decide (4<((x17.n:Nat):Int)))),(20,Value.bool (decide (4<((x17.n:Nat):Int))))]) h2 w0 aa ww∧J x28 h2) ?_ ?_
   ·
    rcases Bool.eq_false_or_eq_true (decide (4<((x17.n:Nat):Int))) with hb_2|hb_2
    ·
     replace H:=H.1 hb_2
     refine OL.zn S (GNo.mk rfl rfl hb_2) fun _ S=>?_
     refine OL.zn S (GNo.mk rfl rfl hb_2) fun _ S=>?_
     refine OL.zn S (GNo.mk rfl rfl hb_2) fun _ S=>?_
     refine OL.zn S (GNo.mk rfl rfl hb_2) fun _ S=>?_
     refine OL.zn S (GNo.mk rfl rfl hb_2) fun _ S=>?_
     refine OL.zn S (GNo.mk rfl rfl hb_2) fun _ S=>?_
     refine OL.zn S (GNo.mk rfl rfl hb_2) fun _ S=>?_
     refine OL.zq S (Lf.run_pickT (S.ev rfl) hb_2 (S.ev rfl)) fun _ S=>?_
     refine OL.nil ?_
     exact⟨_,_,S.sub _ ⟨rfl,rfl,rfl,rfl,rfl,rfl,rfl,rfl,rfl,rfl,rfl,trivial⟩,H⟩
    ·
     replace H:=H.2 hb_2
     refine OL.zm (hg:=GOk.mk rfl rfl hb_2) S fun _ S=>?_
     refine OL.zm (hg:=GOk.mk rfl rfl hb_2) S fun _ S=>?_
     obtain⟨q23,e_3,e_4,e_5,H⟩:=H
     refine OL.zq (hg:=GOk.mk rfl rfl hb_2) S (Lf.run_ixs (S.ev rfl) (S.ev rfl) Try.underlying51 ti61 e_3 e_4 e_5) fun _ S=>?_
     refine OL.zf (hg:=GOk.mk rfl rfl hb_2) S fa61_4 fun _ S=>?_
     obtain⟨y25,y25_1,y25_2,y25_3,y25_4,y25_5,y25_6,c_2,c_3,c_4,c_5,c_6,c_7,c_8,H⟩:=H
     refine OL.zq (hg:=GOk.mk rfl rfl hb_2) S (Lf.run_ldA (cs:=[Value.int .i64 y25,Value.int .u64 y25_1,Value.string y25_2,Value.slice y25_3.a y25_3.n y25_3.c,Value.int .i64 y25_4,Value.slice y25_5.a y25_5.n y25_5.c,Value.int .i64 y25_6]) (S.ev rfl) ag33 ti33 (by rw[S.heap];exact RowL.toRow ⟨c_2,c_3,c_4,c_5,c_6,c_7,c_8,trivial⟩)) fun _ S=>?_
     refine ol_cal S H isfn22 rfl rfl (GOk.mk rfl rfl hb_2) ?_
     clear S H;intro u aa ww h3 H S
     obtain⟨x26,rfl,H⟩:=H
     refine OL.zq (hg:=GOk.mk rfl rfl hb_2) S (Lf.run_not (S.ev rfl)) fun _ S=>?_
     refine OL.zq S (Lf.run_pickF (S.ev rfl) hb_2 (S.ev rfl)) fun _ S=>?_
     refine OL.nil ?_
     exact⟨_,_,S.sub _ ⟨rfl,rfl,rfl,rfl,rfl,rfl,rfl,rfl,rfl,rfl,rfl,trivial⟩,H⟩
   ·
    clear S
    rintro aa ww ⟨x28,h2,S,HJ⟩
    replace H:=HK _ _ HJ
    clear HK HJ
    refine OL.nil ?_
    refine W.cond S (b:=x28) rfl (fun hb_3=>?_) (fun hb_3=>?_)
    ·
     replace H:=H.1 hb_3
     refine W.seq ?_
     refine W.region ?_
     refine OL.za S fun _ S=>?_
     refine OL.nil ?_
     refine W.ret ?_
     exact Ret.one S rfl rfl H
    ·
     replace H:=H.2 hb_3
     refine W.skip ?_
     refine W.region ?_
     refine OL.zm S fun _ S=>?_
     refine OL.zq S (Lf.run_add (S.ev rfl) (S.ev rfl)) fun _ S=>?_
     refine OL.za S fun _ S=>?_
     refine OL.nil ?_
     exact⟨((IntKind.i64.wrap (i3+1)),h2),⟨S.sub _ ⟨rfl,rfl,trivial⟩,H.1⟩,H.2⟩
  ·
   replace H:=H.2 hb_1
   refine W.exit_ ?_
   refine xhit ?_
   refine W.seq ?_
   refine W.region ?_
   refine OL.za S fun _ S=>?_
   refine OL.nil ?_
   refine W.ret ?_
   exact Ret.one S rfl rfl H
def L20 (x0:Option Addr) (o1:Int) (o1_1:Int) (o1_2:Int) (o1_3:Sv) (o1_4:Int) (o1_5:Int) (o1_6:ByteArray) (o1_7:Sv) (o1_8:Int) (o1_9:Sv) (o1_10:Int) (o1_11:Int) (p2:Int) (p2_1:Sv) (p2_2:Int) (h:Heap) (R:Value→Heap→Prop):Prop:=
 new 61 #[Value.int .i64 o1,Value.int .i64 o1_1,Value.int .i64 o1_2,Value.slice o1_3.a o1_3.n o1_3.c,Value.int .i64 o1_4,Value.int .u64 o1_5,Value.string o1_6,Value.slice o1_7.a o1_7.n o1_7.c,Value.int .i64 o1_8,Value.slice o1_9.a o1_9.n o1_9.c,Value.int .i64 o1_10,Value.int .i64 o1_11] h fun p4 h1=>
 new 28 #[Value.int .i64 p2,Value.slice p2_1.a p2_1.n p2_1.c,Value.int .i64 p2_2] h1 fun p5 h2=>
 ∃(y9:Int) (y9_1:Sv) (y9_2:Int),cl h2 p5=some (Value.int .i64 y9)∧cl h2 (p5.add 1)=some (Value.slice y9_1.a y9_1.n y9_1.c)∧cl h2 (p5.add 2)=some (Value.int .i64 y9_2) ∧
 new 28 #[Value.int .i64 0,Value.slice (⟨none,0,0⟩:Sv).a (⟨none,0,0⟩:Sv).n (⟨none,0,0⟩:Sv).c,Value.int .i64 0] h2 fun p7 h3=>
 stoA h3 p7 [Value.int .i64 y9,Value.slice y9_1.a y9_1.n y9_1.c,Value.int .i64 y9_2] fun h4=>
 ∃Sq:Heap→Prop,Sq h4∧(
  ldS h4 (p5.add 1) fun x12=>
  hlS Sq (p4.add 3) fun x15=>
  newS 3 #[] 0 h4 fun s10 h5=>
  Sq h5 ∧
  appS 3 (Value.int .i64 0).cells 1 8 h5 s10 x12 fun s13 h6=>
  Sq h6 ∧
  appS 3 (Value.int .i64 0).cells 1 8 h6 s13 x15 fun s16 h7=>
  sto h7 (p7.add 1) (Value.slice s16.a s16.n s16.c) fun h8=>
  ∃J:Int→Heap→Prop,(
   ldI .i64 h8 p4 fun x19=>
   ifb (x19 == 1) (
    ∃J_1:Bool→Prop,(
     ldI .i64 h8 (p4.add 1) fun x23=>
     ifb (decide (x23<0)) (
      J_1 true) (
      nn x0 fun p29=>
      ldS h8 p29 fun x31=>
      ldI .i64 h8 (p4.add 1) fun x27=>
      ifb (decide (((x31.n:Nat):Int)≤x27)) (
       J_1 true) (
       nn x0 fun p37=>
       ldS h8 p37 fun x39=>
       ldI .i64 h8 (p4.add 1) fun x41=>
       ixS x39 x41 fun q42=>
       ldB h8 (q42.add ((x41:Int).toNat*9)) fun x44=>
       J_1 (!x44))))∧(∀x46,J_1 x46 →
    ifb x46 (
     R (Value.bool true) h8) (
     J 0 h8))) (
    ifb (x19 == 2) (
     ∃(y51:Int) (y51_1:Sv) (y51_2:Int),cl h8 p7=some (Value.int .i64 y51)∧cl h8 (p7.add 1)=some (Value.slice y51_1.a y51_1.n y51_1.c)∧cl h8 (p7.add 2)=some (Value.int .i64 y51_2) ∧
     cal Try.prog 33 #[Value.pointer x0,Value.agg #[Value.int .i64 y51,Value.slice y51_1.a y51_1.n y51_1.c,Value.int .i64 y51_2]] h8 fun u h9=>∃(y52:Int) (y52_1:Int) (y52_2:ByteArray) (y52_3:Sv) (y52_4:Int) (y52_5:Sv) (y52_6:Int) (x52:Int),u=Value.tuple #[Value.agg #[Value.int .i64 y52,Value.int .u64 y52_1,Value.string y52_2,Value.slice y52_3.a y52_3.n y52_3.c,Value.int .i64 y52_4,Value.slice y52_5.a y52_5.n y52_5.c,Value.int .i64 y52_6],Value.int .i64 x52] ∧
     J x52 h9) (
     ifb (x19 == 3) (
      ∃(y59:Int) (y59_1:Sv) (y59_2:Int),cl h8 p7=some (Value.int .i64 y59)∧cl h8 (p7.add 1)=some (Value.slice y59_1.a y59_1.n y59_1.c)∧cl h8 (p7.add 2)=some (Value.int .i64 y59_2) ∧
      cal Try.prog 34 #[Value.pointer x0,Value.agg #[Value.int .i64 y59,Value.slice y59_1.a y59_1.n y59_1.c,Value.int .i64 y59_2]] h8 fun u_1 h10=>∃(y60:Int) (y60_1:Int) (y60_2:ByteArray) (y60_3:Sv) (y60_4:Int) (y60_5:Sv) (y60_6:Int) (x60:Int),u_1=Value.tuple #[Value.agg #[Value.int .i64 y60,Value.int .u64 y60_1,Value.string y60_2,Value.slice y60_3.a y60_3.n y60_3.c,Value.int .i64 y60_4,Value.slice y60_5.a y60_5.n y60_5.c,Value.int .i64 y60_6],Value.int .i64 x60] ∧
      J x60 h10) (
      ifb (x19 == 4) (
       ∃Sq_1:Heap→Prop,Sq_1 h8∧(
        ∃(y67:Int) (y67_1:Int) (y67_2:Int) (y67_3:Sv) (y67_4:Int) (y67_5:Int) (y67_6:ByteArray) (y67_7:Sv) (y67_8:Int) (y67_9:Sv) (y67_10:Int) (y67_11:Int),cl h8 p4=some (Value.int .i64 y67)∧cl h8 (p4.add 1)=some (Value.int .i64 y67_1)∧cl h8 (p4.add 2)=some (Value.int .i64 y67_2)∧cl h8 (p4.add 3)=some (Value.slice y67_3.a y67_3.n y67_3.c)∧cl h8 (p4.add 4)=some (Value.int .i64 y67_4)∧cl h8 (p4.add 5)=some (Value.int .u64 y67_5)∧cl h8 (p4.add 6)=some (Value.string y67_6)∧cl h8 (p4.add 7)=some (Value.slice y67_7.a y67_7.n y67_7.c)∧cl h8 (p4.add 8)=some (Value.int .i64 y67_8)∧cl h8 (p4.add 9)=some (Value.slice y67_9.a y67_9.n y67_9.c)∧cl h8 (p4.add 10)=some (Value.int .i64 y67_10)∧cl h8 (p4.add 11)=some (Value.int .i64 y67_11) ∧
        ∃(y68:Int) (y68_1:Sv) (y68_2:Int),cl h8 p5=some (Value.int .i64 y68)∧cl h8 (p5.add 1)=some (Value.slice y68_1.a y68_1.n y68_1.c)∧cl h8 (p5.add 2)=some (Value.int .i64 y68_2) ∧
        ∃(y66:Int) (y66_1:Sv) (y66_2:Int),hld Sq_1 p7 (Value.int .i64 y66)∧hld Sq_1 (p7.add 1) (Value.slice y66_1.a y66_1.n y66_1.c)∧hld Sq_1 (p7.add 2) (Value.int .i64 y66_2) ∧
        cal Try.prog 36 #[Value.agg #[Value.int .i64 y67,Value.int .i64 y67_1,Value.int .i64 y67_2,Value.slice y67_3.a y67_3.n y67_3.c,Value.int .i64 y67_4,Value.int .u64 y67_5,Value.string y67_6,Value.slice y67_7.a y67_7.n y67_7.c,Value.int .i64 y67_8,Value.slice y67_9.a y67_9.n y67_9.c,Value.int .i64 y67_10,Value.int .i64 y67_11],Value.agg #[Value.int .i64 y68,Value.slice y68_1.a y68_1.n y68_1.c,Value.int .i64 y68_2]] h8 fun u_2 h11=>∃(y69:Int) (y69_1:Int) (y69_2:ByteArray) (y69_3:Sv) (y69_4:Int) (y69_5:Sv) (y69_6:Int),u_2=Value.agg #[Value.int .i64 y69,Value.int .u64 y69_1,Value.string y69_2,Value.slice y69_3.a y69_3.n y69_3.c,Value.int .i64 y69_4,Value.slice y69_5.a y69_5.n y69_5.c,Value.int .i64 y69_6] ∧
        Sq_1 h11 ∧
        cal Try.prog 35 #[Value.pointer x0,Value.agg #[Value.int .i64 y66,Value.slice y66_1.a y66_1.n y66_1.c,Value.int .i64 y66_2],Value.agg #[Value.int .i64 y69,Value.int .u64 y69_1,Value.string y69_2,Value.slice y69_3.a y69_3.n y69_3.c,Value.int .i64 y69_4,Value.slice y69_5.a y69_5.n y69_5.c,Value.int .i64 y69_6]] h11 fun u_3 h12=>asI .i64 u_3 fun x70=>
        J x70 h12)) (
       ∃J_2:Bool→Prop,(
        ifb (x19 == 5) (
         J_2 (x19 == 5)) (
         J_2 (x19 == 6)))∧(∀x71,J_2 x71 →
       ifb x71 (
        ∃(y76:Int) (y76_1:Sv) (y76_2:Int),cl h8 p7=some (Value.int .i64 y76)∧cl h8 (p7.add 1)=some (Value.slice y76_1.a y76_1.n y76_1.c)∧cl h8 (p7.add 2)=some (Value.int .i64 y76_2) ∧
        ldI .i64 h8 p4 fun x78=>
        cal Try.prog 37 #[Value.pointer x0,Value.agg #[Value.int .i64 y76,Value.slice y76_1.a y76_1.n y76_1.c,Value.int .i64 y76_2],Value.bool (x78 == 6)] h8 fun u_4 h13=>∃(y80:Int) (y80_1:Sv) (y80_2:Int) (x80:Int),u_4=Value.tuple #[Value.agg #[Value.int .i64 y80,Value.slice y80_1.a y80_1.n y80_1.c,Value.int .i64 y80_2],Value.int .i64 x80] ∧
        J x80 h13) (
        ifb (x19 == 7) (
         ldI .i64 h8 (p4.add 1) fun x87=>
         cal Try.prog 38 #[Value.pointer x0,Value.int .i64 x87] h8 fun u_5 h14=>asI .i64 u_5 fun x88=>
         J x88 h14) (
         ifb (x19 == 8) (
          ∃(y93:Int) (y93_1:Sv) (y93_2:Int),cl h8 p7=some (Value.int .i64 y93)∧cl h8 (p7.add 1)=some (Value.slice y93_1.a y93_1.n y93_1.c)∧cl h8 (p7.add 2)=some (Value.int .i64 y93_2) ∧
          cal Try.prog 39 #[Value.pointer x0,Value.agg #[Value.int .i64 y93,Value.slice y93_1.a y93_1.n y93_1.c,Value.int .i64 y93_2]] h8 fun u_6 h15=>∃(y94:Int) (y94_1:Int) (y94_2:ByteArray) (y94_3:Sv) (y94_4:Int) (y94_5:Sv) (y94_6:Int) (x94:Int),u_6=Value.tuple #[Value.agg #[Value.int .i64 y94,Value.int .u64 y94_1,Value.string y94_2,Value.slice y94_3.a y94_3.n y94_3.c,Value.int .i64 y94_4,Value.slice y94_5.a y94_5.n y94_5.c,Value.int .i64 y94_6],Value.int .i64 x94] ∧
          J x94 h15) (
          J 0 h8)))))))))∧(∀f8 h16,J f8 h16 →
  R (Value.bool (f8 != 0)) h16))
set_option maxRecDepth 100000 in
theorem F20 {x0 o1 o1_1 o1_2 o1_3 o1_4 o1_5 o1_6 o1_7 o1_8 o1_9 o1_10 o1_11 p2 p2_1 p2_2 h:_} {R:Value→Heap→Prop} (H:L20 x0 o1 o1_1 o1_2 o1_3 o1_4 o1_5 o1_6 o1_7 o1_8 o1_9 o1_10 o1_11 p2 p2_1 p2_2 h R):CallsH Try.prog 20 #[Value.pointer x0,Value.agg #[Value.int .i64 o1,Value.int .i64 o1_1,Value.int .i64 o1_2,Value.slice o1_3.a o1_3.n o1_3.c,Value.int .i64 o1_4,Value.int .u64 o1_5,Value.string o1_6,Value.slice o1_7.a o1_7.n o1_7.c,Value.int .i64 o1_8,Value.slice o1_9.a o1_9.n o1_9.c,Value.int .i64 o1_10,Value.int .i64 o1_11],Value.agg #[Value.int .i64 p2,Value.slice p2_1.a p2_1.n p2_1.c,Value.int .i64 p2_2]] h R:=by
 refine CallsH.enter (n:=99) Try.func20 rfl rfl rfl rfl ?_
 intro w0 aa ww S
 unfold L20 at H
 refine W.seq ?_
 refine W.region ?_
 refine ol_box S H rfl rfl rfl trivial ?_
 clear S H;intro p4 aa ww h1 H S
 refine ol_box S H rfl rfl rfl trivial ?_
 clear S H;intro p5 aa ww h2 H S
 refine OL.za S fun _ S=>?_
 refine OL.nil ?_
 refine W.seq ?_
 refine W.region ?_
 obtain⟨y9,y9_1,y9_2,c_49,c_50,c_51,H⟩:=H
 refine OL.zq S (Lf.run_ldA (cs:=[Value.int .i64 y9,Value.slice y9_1.a y9_1.n y9_1.c,Value.int .i64 y9_2]) (S.ev rfl) ag28 ti28 (by rw[S.heap];exact RowL.toRow ⟨c_49,c_50,c_51,trivial⟩)) fun _ S=>?_
 refine ol_alloc S H ti28 rfl rfl trivial ?_
 clear S H;intro p7 aa ww h3 H S
 refine ol_stoA S H rfl rfl ti28 trivial ?_
 clear S H;intro aa ww h4 H S
 refine OL.nil ?_
 refine W.seq ?_
 replace S:=S.sub [(0,Value.pointer x0),(4,Value.pointer (some p4)),(5,Value.pointer (some p5)),(7,Value.pointer (some p7))] ⟨rfl,rfl,rfl,rfl,trivial⟩
 obtain⟨Sq,HS,H⟩:=H
 refine W.regionN [5] [0,3,6,8] Sq S (by kernel_rfl) ?_
 clear S;intro ww S
 refine BN.pure 1 S (fun _=>HS) rfl (by kernel_rfl) (by kernel_rfl) (fun _=>Lf.run_fa (S.ev rfl) fa28_1) rfl rfl trivial fun _ S=>?_
 obtain⟨x12,c_1,H⟩:=H
 refine BN.load 2 S (fun _=>HS) rfl (by kernel_rfl) (by kernel_rfl) (fun _ hx=>Lf.run_ld (S.ev rfl) fl26 (hx.cell _ _ (S.cl c_1))) rfl rfl trivial fun _ S=>?_
 refine BN.pure 4 S (fun _=>HS) rfl (by kernel_rfl) (by kernel_rfl) (fun _=>Lf.run_fa (S.ev rfl) fa61_3) rfl rfl trivial fun _ S=>?_
 obtain⟨x15,c_2,H⟩:=H
 refine BN.held 5 S HS rfl (by kernel_rfl) (fun _ hq=>Lf.run_ld (S.ev rfl) fl26 (c_2 _ hq)) rfl rfl trivial fun _ S=>?_
 refine BN.eff 0 rfl (by kernel_rfl) ?_
 refine ol_newS0 S H Try.underlying26 ti3 rfl rfl trivial ?_
 clear S H;intro s10 aa ww h5 H S
 refine OL.nil ?_
 clear HS;obtain⟨HS,H⟩:=H
 refine⟨fun _=>by rw[S.heap];exact HS,?_⟩
 refine BN.eff 3 rfl (by kernel_rfl) ?_
 refine ol_appS S H Try.underlying26 ti3 rfl rfl rfl trivial ?_
 clear S H;intro s13 aa ww h6 H S
 refine OL.nil ?_
 clear HS;obtain⟨HS,H⟩:=H
 refine⟨fun _=>by rw[S.heap];exact HS,?_⟩
 refine BN.eff 6 rfl (by kernel_rfl) ?_
 refine ol_appS S H Try.underlying26 ti3 rfl rfl rfl trivial ?_
 clear S H;intro s16 aa ww h7 H S
 refine OL.nil ?_
 refine⟨noNeed (by kernel_rfl),?_⟩
 refine BN.pure 7 S (noNeed (by kernel_rfl)) rfl (by kernel_rfl) (by kernel_rfl) (fun _=>Lf.run_fa (S.ev rfl) fa28_1) rfl rfl trivial fun _ S=>?_
 refine BN.eff 8 rfl (by kernel_rfl) ?_
 refine ol_sto S H rfl rfl rfl ti26 trivial ?_
 clear S H;intro aa ww h8 H S
 refine OL.nil ?_
 refine⟨noNeed (by kernel_rfl),?_⟩
 refine BN.done (by kernel_rfl) ?_
 refine W.seq ?_
 refine W.region ?_
 refine OL.za S fun _ S=>?_
 refine OL.nil ?_
 obtain⟨J,H,HK⟩:=H
 refine W.seqJ (fun aa ww=>∃f8 h16,St 99 [(8,Value.int .i64 f8)] h16 w0 aa ww∧J f8 h16) ?_ ?_
 ·
  clear HK
  refine W.seq ?_
  refine W.region ?_
  refine OL.zf S fa61_0 fun _ S=>?_
  obtain⟨x19,c_3,H⟩:=H
  refine OL.zl S fl3 c_3 fun _ S=>?_
  refine OL.nil ?_
  refine W.block ?_
  refine W.seq ?_
  refine W.region ?_
  refine OL.zq S (Lf.run_eql (S.ev rfl) (S.ev rfl)) fun _ S=>?_
  refine OL.za S fun _ S=>?_
  refine OL.nil ?_
  refine W.cond S (b:=(x19 == 1)) rfl (fun hb=>?_) (fun hb=>?_)
  ·
   replace H:=H.1 hb
   refine W.seq ?_
   replace S:=S.sub [(0,Value.pointer x0),(4,Value.pointer (some p4)),(8,Value.int .i64 0)] ⟨rfl,rfl,rfl,trivial⟩
   obtain⟨J_1,H,HK_1⟩:=H
   refine W.mono (N':=fun aa ww=>∃x46,St 99 [(8,Value.int .i64 0),(46,Value.bool x46)] h8 w0 aa ww∧J_1 x46) ?_ ?_
   ·
    refine W.regionD S (by kernel_rfl) ?_
    clear S;intro ww S
    refine AN.zq 0 S rfl (fun _=>Lf.run_fa (S.ev rfl) fa61_1) fun _ S=>?_
    obtain⟨x23,c_4,H⟩:=H
    refine AN.zl 1 S rfl (fun _ hx=>Lf.run_ld (S.ev rfl) fl3 (hx.cell _ _ (S.cl c_4))) fun _ S=>?_
    refine AN.zq 2 S rfl (fun _=>Lf.run_lss (S.ev rfl) (S.ev rfl)) fun _ S=>?_
    refine AN.zq 3 S rfl (fun _=>Lf.run_move (S.ev rfl)) fun _ S=>?_
    rcases Bool.eq_false_or_eq_true (decide (x23<0)) with hb_1|hb_1
    ·
     replace H:=H.1 hb_1
     refine AN.zn 4 S rfl (GNo.mk rfl rfl hb_1) fun _ S=>?_
     refine AN.zn 6 S rfl (GNo.mk rfl rfl hb_1) fun _ S=>?_
     refine AN.zn 7 S rfl (GNo.mk rfl rfl hb_1) fun _ S=>?_
     refine AN.zn 8 S rfl (GNo.mk rfl rfl hb_1) fun _ S=>?_
     refine AN.zn 9 S rfl (GNo.mk rfl rfl hb_1) fun _ S=>?_
     refine AN.zn 10 S rfl (GNo.mk rfl rfl hb_1) fun _ S=>?_
     refine AN.zn 5 S rfl (GNo.mk rfl rfl hb_1) fun _ S=>?_
     refine AN.zn 11 S rfl (GNo.mk rfl rfl hb_1) fun _ S=>?_
     refine AN.zq 12 S rfl (fun _=>run_pickT (S.ev rfl) hb_1 (S.ev rfl)) fun _ S=>?_
     refine AN.zq 13 S rfl (fun _=>Lf.run_move (S.ev rfl)) fun _ S=>?_
     have hb_3:(true:Bool)=true:=rfl
     refine AN.zn 14 S rfl (GNo.mk rfl rfl hb_3) fun _ S=>?_
     refine AN.zn 15 S rfl (GNo.mk rfl rfl hb_3) fun _ S=>?_
     refine AN.zn 16 S rfl (GNo.mk rfl rfl hb_3) fun _ S=>?_
     refine AN.zn 17 S rfl (GNo.mk rfl rfl hb_3) fun _ S=>?_
     refine AN.zn 18 S rfl (GNo.mk rfl rfl hb_3) fun _ S=>?_
     refine AN.zn 19 S rfl (GNo.mk rfl rfl hb_3) fun _ S=>?_
     refine AN.zn 20 S rfl (GNo.mk rfl rfl hb_3) fun _ S=>?_
     refine AN.zn 21 S rfl (GNo.mk rfl rfl hb_3) fun _ S=>?_
     refine AN.zn 22 S rfl (GNo.mk rfl rfl hb_3) fun _ S=>?_
     refine AN.zn 23 S rfl (GNo.mk rfl rfl hb_3) fun _ S=>?_
     refine AN.zq 24 S rfl (fun _=>run_pickT (S.ev rfl) hb_3 (S.ev rfl)) fun _ S=>?_
     refine AN.done (by kernel_rfl) ?_
     exact⟨true,S.sub _ ⟨rfl,rfl,trivial⟩,H⟩
    ·
     replace H:=H.2 hb_1
     refine AN.zq (hg:=GOk.mk rfl rfl hb_1) 4 S rfl (fun _=>Lf.run_fa (S.ev rfl) fa61_1) fun _ S=>?_
     refine AN.zq (hg:=GOk.mk rfl rfl hb_1) 6 S rfl (fun _=>Lf.run_move (S.ev rfl)) fun _ S=>?_
     obtain⟨p29,e,H⟩:=H
     refine AN.zq (hg:=GOk.mk rfl rfl hb_1) 7 S rfl (fun _=>Lf.run_nc' (S.ev rfl) e) fun _ S=>?_
     refine AN.zq (hg:=GOk.mk rfl rfl hb_1) 8 S rfl (fun _=>Lf.run_fa (S.ev rfl) fa56_0) fun _ S=>?_
     obtain⟨x31,c_5,H⟩:=H
     refine AN.zl (hg:=GOk.mk rfl rfl hb_1) 9 S rfl (fun _ hx=>Lf.run_ld (S.ev rfl) fl54 (hx.cell _ _ (S.cl c_5))) fun _ S=>?_
     refine AN.zq (hg:=GOk.mk rfl rfl hb_1) 10 S rfl (fun _=>Lf.run_lens (S.ev rfl) rfl Try.underlying54) fun _ S=>?_
     obtain⟨x27,c_6,H⟩:=H
     refine AN.zl (hg:=GOk.mk rfl rfl hb_1) 5 S rfl (fun _ hx=>Lf.run_ld (S.ev rfl) fl3 (hx.cell _ _ (S.cl c_6))) fun _ S=>?_
     refine AN.zq (hg:=GOk.mk rfl rfl hb_1) 11 S rfl (fun _=>Lf.run_geq (S.ev rfl) (S.ev rfl)) fun _ S=>?_
     refine AN.zq 12 S rfl (fun _=>run_pickF (S.ev rfl) hb_1 (S.ev rfl)) fun _ S=>?_
     refine AN.zq 13 S rfl (fun _=>Lf.run_move (S.ev rfl)) fun _ S=>?_
     rcases Bool.eq_false_or_eq_true (decide (((x31.n:Nat):Int)≤x27)) with hb_2|hb_2
     ·
      replace H:=H.1 hb_2
      refine AN.zn 14 S rfl (GNo.mk rfl rfl hb_2) fun _ S=>?_
      refine AN.zn 15 S rfl (GNo.mk rfl rfl hb_2) fun _ S=>?_
      refine AN.zn 16 S rfl (GNo.mk rfl rfl hb_2) fun _ S=>?_
      refine AN.zn 17 S rfl (GNo.mk rfl rfl hb_2) fun _ S=>?_
      refine AN.zn 18 S rfl (GNo.mk rfl rfl hb_2) fun _ S=>?_
      refine AN.zn 19 S rfl (GNo.mk rfl rfl hb_2) fun _ S=>?_
      refine AN.zn 20 S rfl (GNo.mk rfl rfl hb_2) fun _ S=>?_
      refine AN.zn 21 S rfl (GNo.mk rfl rfl hb_2) fun _ S=>?_
      refine AN.zn 22 S rfl (GNo.mk rfl rfl hb_2) fun _ S=>?_
      refine AN.zn 23 S rfl (GNo.mk rfl rfl hb_2) fun _ S=>?_
      refine AN.zq 24 S rfl (fun _=>run_pickT (S.ev rfl) hb_2 (S.ev rfl)) fun _ S=>?_
      refine AN.done (by kernel_rfl) ?_
      exact⟨true,S.sub _ ⟨rfl,rfl,trivial⟩,H⟩
     ·
      replace H:=H.2 hb_2
      refine AN.zq (hg:=GOk.mk rfl rfl hb_2) 14 S rfl (fun _=>Lf.run_move (S.ev rfl)) fun _ S=>?_
      obtain⟨p37,e_1,H⟩:=H
      refine AN.zq (hg:=GOk.mk rfl rfl hb_2) 15 S rfl (fun _=>Lf.run_nc' (S.ev rfl) e_1) fun _ S=>?_
      refine AN.zq (hg:=GOk.mk rfl rfl hb_2) 16 S rfl (fun _=>Lf.run_fa (S.ev rfl) fa56_0) fun _ S=>?_
      obtain⟨x39,c_7,H⟩:=H
      refine AN.zl (hg:=GOk.mk rfl rfl hb_2) 17 S rfl (fun _ hx=>Lf.run_ld (S.ev rfl) fl54 (hx.cell _ _ (S.cl c_7))) fun _ S=>?_
      refine AN.zq (hg:=GOk.mk rfl rfl hb_2) 18 S rfl (fun _=>Lf.run_fa (S.ev rfl) fa61_1) fun _ S=>?_
      obtain⟨x41,c_8,H⟩:=H
      refine AN.zl (hg:=GOk.mk rfl rfl hb_2) 19 S rfl (fun _ hx=>Lf.run_ld (S.ev rfl) fl3 (hx.cell _ _ (S.cl c_8))) fun _ S=>?_
      obtain⟨q42,e_2,e_3,e_4,H⟩:=H
      refine AN.zq (hg:=GOk.mk rfl rfl hb_2) 20 S rfl (fun _=>Lf.run_ixs (S.ev rfl) (S.ev rfl) Try.underlying54 ti89 e_2 e_3 e_4) fun _ S=>?_
      refine AN.zq (hg:=GOk.mk rfl rfl hb_2) 21 S rfl (fun _=>Lf.run_fa (S.ev rfl) fa89_0) fun _ S=>?_
      obtain⟨x44,c_9,H⟩:=H
      refine AN.zl (hg:=GOk.mk rfl rfl hb_2) 22 S rfl (fun _ hx=>Lf.run_ld (S.ev rfl) fl4 (hx.cell _ _ (S.cl c_9))) fun _ S=>?_
      refine AN.zq (hg:=GOk.mk rfl rfl hb_2) 23 S rfl (fun _=>Lf.run_not (S.ev rfl)) fun _ S=>?_
      refine AN.zq 24 S rfl (fun _=>run_pickF (S.ev rfl) hb_2 (S.ev rfl)) fun _ S=>?_
      refine AN.done (by kernel_rfl) ?_
      exact⟨(!x44),S.sub _ ⟨rfl,rfl,trivial⟩,H⟩
   ·
    clear H S
    rintro aa ww ⟨x46,S,HJ⟩
    have H:=HK_1 _ HJ
    clear HK_1 HJ
    refine W.cond S (b:=x46) rfl (fun hb_4=>?_) (fun hb_4=>?_)
    ·
     replace H:=H.1 hb_4
     refine W.seq ?_
     refine W.region ?_
     refine OL.za S fun _ S=>?_
     refine OL.nil ?_
     refine W.ret ?_
     exact Ret.one S rfl rfl H
    ·
     replace H:=H.2 hb_4
     refine W.skip ?_
     exact⟨0,h8,S.sub _ ⟨rfl,trivial⟩,H⟩
  ·
   replace H:=H.2 hb
   refine W.seq ?_
   refine W.region ?_
   refine OL.zq S (Lf.run_eql (S.ev rfl) (S.ev rfl)) fun _ S=>?_
   refine OL.za S fun _ S=>?_
   refine OL.nil ?_
   refine W.cond S (b:=(x19 == 2)) rfl (fun hb_5=>?_) (fun hb_5=>?_)
   ·
    replace H:=H.1 hb_5
    refine W.region ?_
    refine OL.zm S fun _ S=>?_
    obtain⟨y51,y51_1,y51_2,c_11,c_12,c_13,H⟩:=H
    refine OL.zq S (Lf.run_ldA (cs:=[Value.int .i64 y51,Value.slice y51_1.a y51_1.n y51_1.c,Value.int .i64 y51_2]) (S.ev rfl) ag28 ti28 (by rw[S.heap];exact RowL.toRow ⟨c_11,c_12,c_13,trivial⟩)) fun _ S=>?_
    refine ol_cal S H isfn33 rfl rfl trivial ?_
    clear S H;intro u aa ww h9 H S
    obtain⟨y52,y52_1,y52_2,y52_3,y52_4,y52_5,y52_6,x52,rfl,H⟩:=H
    refine OL.zm S fun _ S=>?_
    refine OL.zq S (Lf.run_ex (S.ev rfl) rfl) fun _ S=>?_
    refine OL.zq S (Lf.run_ex (S.ev rfl) rfl) fun _ S=>?_
    refine OL.za S fun _ S=>?_
    refine OL.nil ?_
    exact⟨x52,h9,S.sub _ ⟨rfl,trivial⟩,H⟩
   ·
    replace H:=H.2 hb_5
    refine W.seq ?_
    refine W.region ?_
    refine OL.zq S (Lf.run_eql (S.ev rfl) (S.ev rfl)) fun _ S=>?_
    refine OL.za S fun _ S=>?_
    refine OL.nil ?_
    refine W.cond S (b:=(x19 == 3)) rfl (fun hb_6=>?_) (fun hb_6=>?_)
    ·
     replace H:=H.1 hb_6
     refine W.region ?_
     refine OL.zm S fun _ S=>?_
     obtain⟨y59,y59_1,y59_2,c_15,c_16,c_17,H⟩:=H
     refine OL.zq S (Lf.run_ldA (cs:=[Value.int .i64 y59,Value.slice y59_1.a y59_1.n y59_1.c,Value.int .i64 y59_2]) (S.ev rfl) ag28 ti28 (by rw[S.heap];exact RowL.toRow ⟨c_15,c_16,c_17,trivial⟩)) fun _ S=>?_
     refine ol_cal S H isfn34 rfl rfl trivial ?_
     clear S H;intro u_1 aa ww h10 H S
     obtain⟨y60,y60_1,y60_2,y60_3,y60_4,y60_5,y60_6,x60,rfl,H⟩:=H
     refine OL.zm S fun _ S=>?_
     refine OL.zq S (Lf.run_ex (S.ev rfl) rfl) fun _ S=>?_
     refine OL.zq S (Lf.run_ex (S.ev rfl) rfl) fun _ S=>?_
     refine OL.za S fun _ S=>?_
     refine OL.nil ?_
     exact⟨x60,h10,S.sub _ ⟨rfl,trivial⟩,H⟩
    ·
     replace H:=H.2 hb_6
     refine W.seq ?_
     refine W.region ?_
     refine OL.zq S (Lf.run_eql (S.ev rfl) (S.ev rfl)) fun _ S=>?_
     refine OL.za S fun _ S=>?_
     refine OL.nil ?_
     refine W.cond S (b:=(x19 == 4)) rfl (fun hb_7=>?_) (fun hb_7=>?_)
     ·
      replace H:=H.1 hb_7
      replace S:=S.sub [(0,Value.pointer x0),(4,Value.pointer (some p4)),(5,Value.pointer (some p5)),(7,Value.pointer (some p7))] ⟨rfl,rfl,rfl,rfl,trivial⟩
      obtain⟨Sq_1,HS_1,H⟩:=H
      refine W.regionN [1] [4,5] Sq_1 S (by kernel_rfl) ?_
      clear S;intro ww S
      refine BN.pure 0 S (fun _=>HS_1) rfl (by kernel_rfl) (by kernel_rfl) (fun _=>Lf.run_move (S.ev rfl)) rfl rfl trivial fun _ S=>?_
      obtain⟨y67,y67_1,y67_2,y67_3,y67_4,y67_5,y67_6,y67_7,y67_8,y67_9,y67_10,y67_11,c_27,c_28,c_29,c_30,c_31,c_32,c_33,c_34,c_35,c_36,c_37,c_38,H⟩:=H
      refine BN.load 2 S (fun _=>HS_1) rfl (by kernel_rfl) (by kernel_rfl) (fun _ hx=>Lf.run_ldA (cs:=[Value.int .i64 y67,Value.int .i64 y67_1,Value.int .i64 y67_2,Value.slice y67_3.a y67_3.n y67_3.c,Value.int .i64 y67_4,Value.int .u64 y67_5,Value.string y67_6,Value.slice y67_7.a y67_7.n y67_7.c,Value.int .i64 y67_8,Value.slice y67_9.a y67_9.n y67_9.c,Value.int .i64 y67_10,Value.int .i64 y67_11]) (S.ev rfl) ag61 ti61 (hx.row (S.row ⟨c_27,c_28,c_29,c_30,c_31,c_32,c_33,c_34,c_35,c_36,c_37,c_38,trivial⟩))) rfl rfl trivial fun _ S=>?_
      obtain⟨y68,y68_1,y68_2,c_24,c_25,c_26,H⟩:=H
      refine BN.load 3 S (fun _=>HS_1) rfl (by kernel_rfl) (by kernel_rfl) (fun _ hx=>Lf.run_ldA (cs:=[Value.int .i64 y68,Value.slice y68_1.a y68_1.n y68_1.c,Value.int .i64 y68_2]) (S.ev rfl) ag28 ti28 (hx.row (S.row ⟨c_24,c_25,c_26,trivial⟩))) rfl rfl trivial fun _ S=>?_
      obtain⟨y66,y66_1,y66_2,c_21,c_22,c_23,H⟩:=H
      refine BN.held 1 S HS_1 rfl (by kernel_rfl) (fun _ hq=>Lf.run_ldA (cs:=[Value.int .i64 y66,Value.slice y66_1.a y66_1.n y66_1.c,Value.int .i64 y66_2]) (S.ev rfl) ag28 ti28 (hlRow hq fun h_ hs_=>⟨c_21 h_ hs_,c_22 h_ hs_,c_23 h_ hs_,trivial⟩)) rfl rfl trivial fun _ S=>?_
      refine BN.eff 4 rfl (by kernel_rfl) ?_
      refine ol_cal S H isfn36 rfl rfl trivial ?_
      clear S H;intro u_2 aa ww h11 H S
      obtain⟨y69,y69_1,y69_2,y69_3,y69_4,y69_5,y69_6,rfl,H⟩:=H
      refine OL.nil ?_
      clear HS_1;obtain⟨HS_1,H⟩:=H
      refine⟨fun _=>by rw[S.heap];exact HS_1,?_⟩
      refine BN.eff 5 rfl (by kernel_rfl) ?_
      refine ol_cal S H isfn35 rfl rfl trivial ?_
      clear S H;intro u_3 aa ww h12 H S
      obtain⟨x70,rfl,H⟩:=H
      refine OL.nil ?_
      refine⟨noNeed (by kernel_rfl),?_⟩
      refine BN.pure 6 S (noNeed (by kernel_rfl)) rfl (by kernel_rfl) (by kernel_rfl) (fun _=>Lf.run_assign (S.ev rfl)) rfl rfl trivial fun _ S=>?_
      refine BN.done (by kernel_rfl) ?_
      exact⟨x70,h12,S.sub _ ⟨rfl,trivial⟩,H⟩
     ·
      replace H:=H.2 hb_7
      obtain⟨J_2,H,HK_2⟩:=H
      refine W.seqJ (fun aa ww=>∃x71,St 99 [(0,Value.pointer x0),(4,Value.pointer (some p4)),(7,Value.pointer (some p7)),(8,Value.int .i64 0),(19,Value.int .i64 x19),(71,Value.bool x71)] h8 w0 aa ww∧J_2 x71) ?_ ?_
      ·
       clear HK_2
       refine W.seq ?_
       refine W.region ?_
       refine OL.zq S (Lf.run_eql (S.ev rfl) (S.ev rfl)) fun _ S=>?_
       refine OL.za S fun _ S=>?_
       refine OL.nil ?_
       refine W.cond S (b:=(x19 == 5)) rfl (fun hb_8=>?_) (fun hb_8=>?_)
       ·
        replace H:=H.1 hb_8
        refine W.skip ?_
        exact⟨(x19 == 5),S.sub _ ⟨rfl,rfl,rfl,rfl,rfl,rfl,trivial⟩,H⟩
       ·
        replace H:=H.2 hb_8
        refine W.region ?_
        refine OL.zq S (Lf.run_eql (S.ev rfl) (S.ev rfl)) fun _ S=>?_
        refine OL.za S fun _ S=>?_
        refine OL.nil ?_
        exact⟨(x19 == 6),S.sub _ ⟨rfl,rfl,rfl,rfl,rfl,rfl,trivial⟩,H⟩
      ·
       clear H S
       rintro aa ww ⟨x71,S,HJ⟩
       have H:=HK_2 _ HJ
       clear HK_2 HJ
       refine W.cond S (b:=x71) rfl (fun hb_9=>?_) (fun hb_9=>?_)
       ·
        replace H:=H.1 hb_9
        refine W.region ?_
        refine OL.zm S fun _ S=>?_
        obtain⟨y76,y76_1,y76_2,c_41,c_42,c_43,H⟩:=H
        refine OL.zq S (Lf.run_ldA (cs:=[Value.int .i64 y76,Value.slice y76_1.a y76_1.n y76_1.c,Value.int .i64 y76_2]) (S.ev rfl) ag28 ti28 (by rw[S.heap];exact RowL.toRow ⟨c_41,c_42,c_43,trivial⟩)) fun _ S=>?_
        refine OL.zf S fa61_0 fun _ S=>?_
        obtain⟨x78,c_40,H⟩:=H
        refine OL.zl S fl3 c_40 fun _ S=>?_
        refine OL.zq S (Lf.run_eql (S.ev rfl) (S.ev rfl)) fun _ S=>?_
        refine ol_cal S H isfn37 rfl rfl trivial ?_
        clear S H;intro u_4 aa ww h13 H S
        obtain⟨y80,y80_1,y80_2,x80,rfl,H⟩:=H
        refine OL.zm S fun _ S=>?_
        refine OL.zq S (Lf.run_ex (S.ev rfl) rfl) fun _ S=>?_
        refine OL.zq S (Lf.run_ex (S.ev rfl) rfl) fun _ S=>?_
        refine OL.za S fun _ S=>?_
        refine OL.nil ?_
        exact⟨x80,h13,S.sub _ ⟨rfl,trivial⟩,H⟩
       ·
        replace H:=H.2 hb_9
        refine W.seq ?_
        refine W.region ?_
        refine OL.zq S (Lf.run_eql (S.ev rfl) (S.ev rfl)) fun _ S=>?_
        refine OL.za S fun _ S=>?_
        refine OL.nil ?_
        refine W.cond S (b:=(x19 == 7)) rfl (fun hb_10=>?_) (fun hb_10=>?_)
        ·
         replace H:=H.1 hb_10
         refine W.region ?_
         refine OL.zm S fun _ S=>?_
         refine OL.zf S fa61_1 fun _ S=>?_
         obtain⟨x87,c_44,H⟩:=H
         refine OL.zl S fl3 c_44 fun _ S=>?_
         refine ol_cal S H isfn38 rfl rfl trivial ?_
         clear S H;intro u_5 aa ww h14 H S
         obtain⟨x88,rfl,H⟩:=H
         refine OL.za S fun _ S=>?_
         refine OL.nil ?_
         exact⟨x88,h14,S.sub _ ⟨rfl,trivial⟩,H⟩
        ·
         replace H:=H.2 hb_10
         refine W.seq ?_
         refine W.region ?_
         refine OL.zq S (Lf.run_eql (S.ev rfl) (S.ev rfl)) fun _ S=>?_
         refine OL.za S fun _ S=>?_
         refine OL.nil ?_
         refine W.cond S (b:=(x19 == 8)) rfl (fun hb_11=>?_) (fun hb_11=>?_)
         ·
          replace H:=H.1 hb_11
          refine W.region ?_
          refine OL.zm S fun _ S=>?_
          obtain⟨y93,y93_1,y93_2,c_46,c_47,c_48,H⟩:=H
          refine OL.zq S (Lf.run_ldA (cs:=[Value.int .i64 y93,Value.slice y93_1.a y93_1.n y93_1.c,Value.int .i64 y93_2]) (S.ev rfl) ag28 ti28 (by rw[S.heap];exact RowL.toRow ⟨c_46,c_47,c_48,trivial⟩)) fun _ S=>?_
          refine ol_cal S H isfn39 rfl rfl trivial ?_
          clear S H;intro u_6 aa ww h15 H S
          obtain⟨y94,y94_1,y94_2,y94_3,y94_4,y94_5,y94_6,x94,rfl,H⟩:=H
          refine OL.zm S fun _ S=>?_
          refine OL.zq S (Lf.run_ex (S.ev rfl) rfl) fun _ S=>?_
          refine OL.zq S (Lf.run_ex (S.ev rfl) rfl) fun _ S=>?_
          refine OL.za S fun _ S=>?_
          refine OL.nil ?_
          exact⟨x94,h15,S.sub _ ⟨rfl,trivial⟩,H⟩
         ·
          replace H:=H.2 hb_11
          refine W.skip ?_
          exact⟨0,h8,S.sub _ ⟨rfl,trivial⟩,H⟩
 ·
  clear H S
  rintro aa ww ⟨f8,h16,S,HJ⟩
  have H:=HK _ _ HJ
  clear HK HJ
  refine W.seq ?_
  refine W.region ?_
  refine OL.zm S fun _ S=>?_
  refine OL.zq S (Lf.run_neq (S.ev rfl) (S.ev rfl)) fun _ S=>?_
  refine OL.za S fun _ S=>?_
  refine OL.nil ?_
  refine W.ret ?_
  exact Ret.one S rfl rfl H
end Go.Proofs.Ytggacajnmgligaa
namespace Go.Proofs.Ytggacajnmgligaa
open Go Go.Lf
set_option linter.unusedVariables false
set_option maxRecDepth 100000
def L21 (vh0:Option Addr) (x1:Option Addr) (o2:Int) (o2_1:Int) (o2_2:Int) (o2_3:Sv) (o2_4:Int) (o2_5:Int) (o2_6:ByteArray) (o2_7:Sv) (o2_8:Int) (o2_9:Sv) (o2_10:Int) (o2_11:Int) (p3:Int) (p3_1:Sv) (p3_2:Int) (p3_3:Int) (p3_4:Sv) (p3_5:Int) (tags4:Bool) (h:Heap) (R:Value→Heap→Prop):Prop:=
 new 61 #[Value.int .i64 o2,Value.int .i64 o2_1,Value.int .i64 o2_2,Value.slice o2_3.a o2_3.n o2_3.c,Value.int .i64 o2_4,Value.int .u64 o2_5,Value.string o2_6,Value.slice o2_7.a o2_7.n o2_7.c,Value.int .i64 o2_8,Value.slice o2_9.a o2_9.n o2_9.c,Value.int .i64 o2_10,Value.int .i64 o2_11] h fun p7 h1=>
 new 58 #[Value.int .i64 p3,Value.slice p3_1.a p3_1.n p3_1.c,Value.int .i64 p3_2,Value.int .i64 p3_3,Value.slice p3_4.a p3_4.n p3_4.c,Value.int .i64 p3_5] h1 fun p8 h2=>
 new 58 #[Value.int .i64 0,Value.slice (⟨none,0,0⟩:Sv).a (⟨none,0,0⟩:Sv).n (⟨none,0,0⟩:Sv).c,Value.int .i64 0,Value.int .i64 0,Value.slice (⟨none,0,0⟩:Sv).a (⟨none,0,0⟩:Sv).n (⟨none,0,0⟩:Sv).c,Value.int .i64 0] h2 fun p10 h3=>
 ∃J:Addr→Addr→Heap→Prop,(
  ∃Sq:Heap→Prop,Sq h3∧(
   ∃(y43:Int) (y43_1:Sv) (y43_2:Int),hld Sq p8 (Value.int .i64 y43)∧hld Sq (p8.add 1) (Value.slice y43_1.a y43_1.n y43_1.c)∧hld Sq (p8.add 2) (Value.int .i64 y43_2) ∧
   ∃(y45:Int) (y45_1:Sv) (y45_2:Int),hld Sq (p8.add 3) (Value.int .i64 y45)∧hld Sq ((p8.add 3).add 1) (Value.slice y45_1.a y45_1.n y45_1.c)∧hld Sq ((p8.add 3).add 2) (Value.int .i64 y45_2) ∧
   (
    new 28 #[Value.int .i64 0,Value.slice (⟨none,0,0⟩:Sv).a (⟨none,0,0⟩:Sv).n (⟨none,0,0⟩:Sv).c,Value.int .i64 0] h3 fun p13 h4=>
    Sq h4 ∧
    new 28 #[Value.int .i64 0,Value.slice (⟨none,0,0⟩:Sv).a (⟨none,0,0⟩:Sv).n (⟨none,0,0⟩:Sv).c,Value.int .i64 0] h4 fun p14 h5=>
    Sq h5 ∧
    stoA h5 p13 [Value.int .i64 y43,Value.slice y43_1.a y43_1.n y43_1.c,Value.int .i64 y43_2] fun h6=>
    Sq h6 ∧
    stoA h6 p14 [Value.int .i64 y45,Value.slice y45_1.a y45_1.n y45_1.c,Value.int .i64 y45_2] fun h7=>
    J p13 p14 h7)∧(
    new 28 #[Value.int .i64 0,Value.slice (⟨none,0,0⟩:Sv).a (⟨none,0,0⟩:Sv).n (⟨none,0,0⟩:Sv).c,Value.int .i64 0] h3 fun p14_1 h8=>
    Sq h8 ∧
    new 28 #[Value.int .i64 0,Value.slice (⟨none,0,0⟩:Sv).a (⟨none,0,0⟩:Sv).n (⟨none,0,0⟩:Sv).c,Value.int .i64 0] h8 fun p13_1 h9=>
    Sq h9 ∧
    stoA h9 p13_1 [Value.int .i64 y43,Value.slice y43_1.a y43_1.n y43_1.c,Value.int .i64 y43_2] fun h10=>
    Sq h10 ∧
    stoA h10 p14_1 [Value.int .i64 y45,Value.slice y45_1.a y45_1.n y45_1.c,Value.int .i64 y45_2] fun h11=>
    J p13_1 p14_1 h11)))∧(∀a13 b14 h12,J a13 b14 h12 →
 ∃Sq_1:Heap→Prop,Sq_1 h12∧(
  ldS h12 (a13.add 1) fun x48=>
  hlS Sq_1 (p7.add 3) fun x51=>
  newS 3 #[] 0 h12 fun s46 h13=>
  Sq_1 h13 ∧
  appS 3 (Value.int .i64 0).cells 1 8 h13 s46 x48 fun s49 h14=>
  Sq_1 h14 ∧
  appS 3 (Value.int .i64 0).cells 1 8 h14 s49 x51 fun s52 h15=>
  sto h15 (a13.add 1) (Value.slice s52.a s52.n s52.c) fun h16=>
  ∃Sq_2:Heap→Prop,Sq_2 h16∧(
   ldS h16 (b14.add 1) fun x56=>
   hlS Sq_2 (p7.add 3) fun x59=>
   newS 3 #[] 0 h16 fun s54 h17=>
   Sq_2 h17 ∧
   appS 3 (Value.int .i64 0).cells 1 8 h17 s54 x56 fun s57 h18=>
   Sq_2 h18 ∧
   appS 3 (Value.int .i64 0).cells 1 8 h18 s57 x59 fun s60 h19=>
   sto h19 (b14.add 1) (Value.slice s60.a s60.n s60.c) fun h20=>
   ldI .i64 h20 p7 fun x63=>
   ifb (x63 == 0) (
    ∃(y68:Int) (y68_1:Int) (y68_2:Int) (y68_3:Sv) (y68_4:Int) (y68_5:Int) (y68_6:ByteArray) (y68_7:Sv) (y68_8:Int) (y68_9:Sv) (y68_10:Int) (y68_11:Int),cl h20 p7=some (Value.int .i64 y68)∧cl h20 (p7.add 1)=some (Value.int .i64 y68_1)∧cl h20 (p7.add 2)=some (Value.int .i64 y68_2)∧cl h20 (p7.add 3)=some (Value.slice y68_3.a y68_3.n y68_3.c)∧cl h20 (p7.add 4)=some (Value.int .i64 y68_4)∧cl h20 (p7.add 5)=some (Value.int .u64 y68_5)∧cl h20 (p7.add 6)=some (Value.string y68_6)∧cl h20 (p7.add 7)=some (Value.slice y68_7.a y68_7.n y68_7.c)∧cl h20 (p7.add 8)=some (Value.int .i64 y68_8)∧cl h20 (p7.add 9)=some (Value.slice y68_9.a y68_9.n y68_9.c)∧cl h20 (p7.add 10)=some (Value.int .i64 y68_10)∧cl h20 (p7.add 11)=some (Value.int .i64 y68_11) ∧
    ∃(y70:Int) (y70_1:Sv) (y70_2:Int),cl h20 p8=some (Value.int .i64 y70)∧cl h20 (p8.add 1)=some (Value.slice y70_1.a y70_1.n y70_1.c)∧cl h20 (p8.add 2)=some (Value.int .i64 y70_2) ∧
    cal Try.prog 36 #[Value.agg #[Value.int .i64 y68,Value.int .i64 y68_1,Value.int .i64 y68_2,Value.slice y68_3.a y68_3.n y68_3.c,Value.int .i64 y68_4,Value.int .u64 y68_5,Value.string y68_6,Value.slice y68_7.a y68_7.n y68_7.c,Value.int .i64 y68_8,Value.slice y68_9.a y68_9.n y68_9.c,Value.int .i64 y68_10,Value.int .i64 y68_11],Value.agg #[Value.int .i64 y70,Value.slice y70_1.a y70_1.n y70_1.c,Value.int .i64 y70_2]] h20 fun u h21=>∃(y71:Int) (y71_1:Int) (y71_2:ByteArray) (y71_3:Sv) (y71_4:Int) (y71_5:Sv) (y71_6:Int),u=Value.agg #[Value.int .i64 y71,Value.int .u64 y71_1,Value.string y71_2,Value.slice y71_3.a y71_3.n y71_3.c,Value.int .i64 y71_4,Value.slice y71_5.a y71_5.n y71_5.c,Value.int .i64 y71_6] ∧
    cal Try.prog 10 #[Value.pointer vh0,Value.agg #[Value.int .i64 y71,Value.int .u64 y71_1,Value.string y71_2,Value.slice y71_3.a y71_3.n y71_3.c,Value.int .i64 y71_4,Value.slice y71_5.a y71_5.n y71_5.c,Value.int .i64 y71_6]] h21 fun u_1 h22=>∃(y72:Int) (y72_1:Sv) (y72_2:Int) (x72:Bool),u_1=Value.tuple #[Value.agg #[Value.int .i64 y72,Value.slice y72_1.a y72_1.n y72_1.c,Value.int .i64 y72_2],Value.bool x72] ∧
    new 28 #[Value.int .i64 0,Value.slice (⟨none,0,0⟩:Sv).a (⟨none,0,0⟩:Sv).n (⟨none,0,0⟩:Sv).c,Value.int .i64 0] h22 fun p15 h23=>
    stoA h23 p15 [Value.int .i64 y72,Value.slice y72_1.a y72_1.n y72_1.c,Value.int .i64 y72_2] fun h24=>
    ∃(y77:Int) (y77_1:Int) (y77_2:Int) (y77_3:Sv) (y77_4:Int) (y77_5:Int) (y77_6:ByteArray) (y77_7:Sv) (y77_8:Int) (y77_9:Sv) (y77_10:Int) (y77_11:Int),cl h24 p7=some (Value.int .i64 y77)∧cl h24 (p7.add 1)=some (Value.int .i64 y77_1)∧cl h24 (p7.add 2)=some (Value.int .i64 y77_2)∧cl h24 (p7.add 3)=some (Value.slice y77_3.a y77_3.n y77_3.c)∧cl h24 (p7.add 4)=some (Value.int .i64 y77_4)∧cl h24 (p7.add 5)=some (Value.int .u64 y77_5)∧cl h24 (p7.add 6)=some (Value.string y77_6)∧cl h24 (p7.add 7)=some (Value.slice y77_7.a y77_7.n y77_7.c)∧cl h24 (p7.add 8)=some (Value.int .i64 y77_8)∧cl h24 (p7.add 9)=some (Value.slice y77_9.a y77_9.n y77_9.c)∧cl h24 (p7.add 10)=some (Value.int .i64 y77_10)∧cl h24 (p7.add 11)=some (Value.int .i64 y77_11) ∧
    ∃(y79:Int) (y79_1:Sv) (y79_2:Int),cl h24 (p8.add 3)=some (Value.int .i64 y79)∧cl h24 ((p8.add 3).add 1)=some (Value.slice y79_1.a y79_1.n y79_1.c)∧cl h24 ((p8.add 3).add 2)=some (Value.int .i64 y79_2) ∧
    cal Try.prog 36 #[Value.agg #[Value.int .i64 y77,Value.int .i64 y77_1,Value.int .i64 y77_2,Value.slice y77_3.a y77_3.n y77_3.c,Value.int .i64 y77_4,Value.int .u64 y77_5,Value.string y77_6,Value.slice y77_7.a y77_7.n y77_7.c,Value.int .i64 y77_8,Value.slice y77_9.a y77_9.n y77_9.c,Value.int .i64 y77_10,Value.int .i64 y77_11],Value.agg #[Value.int .i64 y79,Value.slice y79_1.a y79_1.n y79_1.c,Value.int .i64 y79_2]] h24 fun u_2 h25=>∃(y80:Int) (y80_1:Int) (y80_2:ByteArray) (y80_3:Sv) (y80_4:Int) (y80_5:Sv) (y80_6:Int),u_2=Value.agg #[Value.int .i64 y80,Value.int .u64 y80_1,Value.string y80_2,Value.slice y80_3.a y80_3.n y80_3.c,Value.int .i64 y80_4,Value.slice y80_5.a y80_5.n y80_5.c,Value.int .i64 y80_6] ∧
    cal Try.prog 40 #[Value.pointer x1,Value.agg #[Value.int .i64 y80,Value.int .u64 y80_1,Value.string y80_2,Value.slice y80_3.a y80_3.n y80_3.c,Value.int .i64 y80_4,Value.slice y80_5.a y80_5.n y80_5.c,Value.int .i64 y80_6]] h25 fun u_3 h26=>∃(y81:Int) (y81_1:Sv) (y81_2:Int) (x81:Bool),u_3=Value.tuple #[Value.agg #[Value.int .i64 y81,Value.slice y81_1.a y81_1.n y81_1.c,Value.int .i64 y81_2],Value.bool x81] ∧
    new 28 #[Value.int .i64 0,Value.slice (⟨none,0,0⟩:Sv).a (⟨none,0,0⟩:Sv).n (⟨none,0,0⟩:Sv).c,Value.int .i64 0] h26 fun p17 h27=>
    stoA h27 p17 [Value.int .i64 y81,Value.slice y81_1.a y81_1.n y81_1.c,Value.int .i64 y81_2] fun h28=>
    ∃J_1:Int→Bool→Heap→Prop,(
     ∃Sq_3:Heap→Prop,Sq_3 h28∧(
      ifb (x72 == x81) (
       ∃(y84:Int) (y84_1:Sv) (y84_2:Int),hld Sq_3 p15 (Value.int .i64 y84)∧hld Sq_3 (p15.add 1) (Value.slice y84_1.a y84_1.n y84_1.c)∧hld Sq_3 (p15.add 2) (Value.int .i64 y84_2) ∧
       ∃(y85:Int) (y85_1:Sv) (y85_2:Int),hld Sq_3 p17 (Value.int .i64 y85)∧hld Sq_3 (p17.add 1) (Value.slice y85_1.a y85_1.n y85_1.c)∧hld Sq_3 (p17.add 2) (Value.int .i64 y85_2) ∧
       ∃(y91:Int) (y91_1:Sv) (y91_2:Int),cl h28 p15=some (Value.int .i64 y91)∧cl h28 (p15.add 1)=some (Value.slice y91_1.a y91_1.n y91_1.c)∧cl h28 (p15.add 2)=some (Value.int .i64 y91_2) ∧
       ∃(y92:Int) (y92_1:Sv) (y92_2:Int),cl h28 p17=some (Value.int .i64 y92)∧cl h28 (p17.add 1)=some (Value.slice y92_1.a y92_1.n y92_1.c)∧cl h28 (p17.add 2)=some (Value.int .i64 y92_2) ∧
       cal Try.prog 41 #[Value.agg #[Value.int .i64 y91,Value.slice y91_1.a y91_1.n y91_1.c,Value.int .i64 y91_2],Value.agg #[Value.int .i64 y92,Value.slice y92_1.a y92_1.n y92_1.c,Value.int .i64 y92_2],Value.bool tags4] h28 fun u_4 h29=>asB u_4 fun x94=>
       Sq_3 h29 ∧
       stoA h29 p10 [Value.int .i64 y84,Value.slice y84_1.a y84_1.n y84_1.c,Value.int .i64 y84_2,Value.int .i64 y85,Value.slice y85_1.a y85_1.n y85_1.c,Value.int .i64 y85_2] fun h30=>
       J_1 0 x94 h30) (
       ∃(y84_3:Int) (y84_4:Sv) (y84_5:Int),hld Sq_3 p15 (Value.int .i64 y84_3)∧hld Sq_3 (p15.add 1) (Value.slice y84_4.a y84_4.n y84_4.c)∧hld Sq_3 (p15.add 2) (Value.int .i64 y84_5) ∧
       ∃(y85_3:Int) (y85_4:Sv) (y85_5:Int),hld Sq_3 p17 (Value.int .i64 y85_3)∧hld Sq_3 (p17.add 1) (Value.slice y85_4.a y85_4.n y85_4.c)∧hld Sq_3 (p17.add 2) (Value.int .i64 y85_5) ∧
       stoA h28 p10 [Value.int .i64 y84_3,Value.slice y84_4.a y84_4.n y84_4.c,Value.int .i64 y84_5,Value.int .i64 y85_3,Value.slice y85_4.a y85_4.n y85_4.c,Value.int .i64 y85_5] fun h31=>
       J_1 0 false h31)))∧(∀x11 x12 h32,J_1 x11 x12 h32 →
    ∃(y:Int) (y_1:Sv) (y_2:Int) (y_3:Int) (y_4:Sv) (y_5:Int),cl h32 p10=some (Value.int .i64 y)∧cl h32 (p10.add 1)=some (Value.slice y_1.a y_1.n y_1.c)∧cl h32 (p10.add 2)=some (Value.int .i64 y_2)∧cl h32 (p10.add 3)=some (Value.int .i64 y_3)∧cl h32 (p10.add 4)=some (Value.slice y_4.a y_4.n y_4.c)∧cl h32 (p10.add 5)=some (Value.int .i64 y_5) ∧
    R (.tuple #[Value.agg #[Value.int .i64 y,Value.slice y_1.a y_1.n y_1.c,Value.int .i64 y_2,Value.int .i64 y_3,Value.slice y_4.a y_4.n y_4.c,Value.int .i64 y_5],Value.int .i64 x11,Value.bool x12]) h32)) (
    ifb (x63 == 1) (
     ldI .i64 h20 (p7.add 1) fun x101=>
     cal Try.prog 23 #[Value.pointer vh0,Value.int .i64 x101] h20 fun u_5 h33=>∃(y102:Int) (y102_1:Sv) (y102_2:Int) (x102:Int),u_5=Value.tuple #[Value.agg #[Value.int .i64 y102,Value.slice y102_1.a y102_1.n y102_1.c,Value.int .i64 y102_2],Value.int .i64 x102] ∧
     new 28 #[Value.int .i64 0,Value.slice (⟨none,0,0⟩:Sv).a (⟨none,0,0⟩:Sv).n (⟨none,0,0⟩:Sv).c,Value.int .i64 0] h33 fun p19 h34=>
     stoA h34 p19 [Value.int .i64 y102,Value.slice y102_1.a y102_1.n y102_1.c,Value.int .i64 y102_2] fun h35=>
     ∃J_2:Bool→Prop,(
      ldI .i64 h35 (p7.add 1) fun x106=>
      ifb (decide (x106<0)) (
       J_2 true) (
       nn x1 fun p112=>
       ldS h35 p112 fun x114=>
       ldI .i64 h35 (p7.add 1) fun x110=>
       ifb (decide (((x114.n:Nat):Int)≤x110)) (
        J_2 true) (
        nn x1 fun p120=>
        ldS h35 p120 fun x122=>
        ldI .i64 h35 (p7.add 1) fun x124=>
        ixS x122 x124 fun q125=>
        ldB h35 (q125.add ((x124:Int).toNat*9)) fun x127=>
        J_2 (!x127))))∧(∀x129,J_2 x129 →
     ifb x129 (
      ∃J_3:Int→Bool→Heap→Prop,(
       ∃Sq_4:Heap→Prop,Sq_4 h35∧(
        ifb (x102 == 1) (
         ∃(y130:Int) (y130_1:Sv) (y130_2:Int),hld Sq_4 p19 (Value.int .i64 y130)∧hld Sq_4 (p19.add 1) (Value.slice y130_1.a y130_1.n y130_1.c)∧hld Sq_4 (p19.add 2) (Value.int .i64 y130_2) ∧
         ∃(y137:Int) (y137_1:Sv) (y137_2:Int),cl h35 p19=some (Value.int .i64 y137)∧cl h35 (p19.add 1)=some (Value.slice y137_1.a y137_1.n y137_1.c)∧cl h35 (p19.add 2)=some (Value.int .i64 y137_2) ∧
         cal Try.prog 41 #[Value.agg #[Value.int .i64 y137,Value.slice y137_1.a y137_1.n y137_1.c,Value.int .i64 y137_2],Value.agg #[Value.int .i64 0,Value.slice (⟨none,0,0⟩:Sv).a (⟨none,0,0⟩:Sv).n (⟨none,0,0⟩:Sv).c,Value.int .i64 0],Value.bool true] h35 fun u_6 h36=>asB u_6 fun x139=>
         Sq_4 h36 ∧
         stoA h36 p10 [Value.int .i64 y130,Value.slice y130_1.a y130_1.n y130_1.c,Value.int .i64 y130_2,Value.int .i64 0,Value.slice (⟨none,0,0⟩:Sv).a (⟨none,0,0⟩:Sv).n (⟨none,0,0⟩:Sv).c,Value.int .i64 0] fun h37=>
         J_3 x102 x139 h37) (
         ∃(y130_3:Int) (y130_4:Sv) (y130_5:Int),hld Sq_4 p19 (Value.int .i64 y130_3)∧hld Sq_4 (p19.add 1) (Value.slice y130_4.a y130_4.n y130_4.c)∧hld Sq_4 (p19.add 2) (Value.int .i64 y130_5) ∧
         stoA h35 p10 [Value.int .i64 y130_3,Value.slice y130_4.a y130_4.n y130_4.c,Value.int .i64 y130_5,Value.int .i64 0,Value.slice (⟨none,0,0⟩:Sv).a (⟨none,0,0⟩:Sv).n (⟨none,0,0⟩:Sv).c,Value.int .i64 0] fun h38=>
         J_3 x102 false h38)))∧(∀x11_1 x12_1 h39,J_3 x11_1 x12_1 h39 →
      ∃(y_6:Int) (y_7:Sv) (y_8:Int) (y_9:Int) (y_10:Sv) (y_11:Int),cl h39 p10=some (Value.int .i64 y_6)∧cl h39 (p10.add 1)=some (Value.slice y_7.a y_7.n y_7.c)∧cl h39 (p10.add 2)=some (Value.int .i64 y_8)∧cl h39 (p10.add 3)=some (Value.int .i64 y_9)∧cl h39 (p10.add 4)=some (Value.slice y_10.a y_10.n y_10.c)∧cl h39 (p10.add 5)=some (Value.int .i64 y_11) ∧
      R (.tuple #[Value.agg #[Value.int .i64 y_6,Value.slice y_7.a y_7.n y_7.c,Value.int .i64 y_8,Value.int .i64 y_9,Value.slice y_10.a y_10.n y_10.c,Value.int .i64 y_11],Value.int .i64 x11_1,Value.bool x12_1]) h39)) (
      ldI .i64 h35 (p7.add 1) fun x142=>
      new 28 #[Value.int .i64 0,Value.slice (⟨none,0,0⟩:Sv).a (⟨none,0,0⟩:Sv).n (⟨none,0,0⟩:Sv).c,Value.int .i64 0] h35 fun p21 h40=>
      stoA h40 p21 [Value.int .i64 x142,Value.slice (⟨none,0,0⟩:Sv).a (⟨none,0,0⟩:Sv).n (⟨none,0,0⟩:Sv).c,Value.int .i64 0] fun h41=>
      ∃J_4:Heap→Prop,(
       nn x1 fun p145=>
       ldB h41 (p145.add 3) fun x147=>
       ifb x147 (
        nn x1 fun p149=>
        ldS h41 p149 fun x151=>
        ldI .i64 h41 (p7.add 1) fun x153=>
        ixS x151 x153 fun q154=>
        ldS h41 ((q154.add ((x153:Int).toNat*9)).add 8) fun x156=>
        ixS x156 0 fun q157=>
        ldI .i64 h41 q157 fun x159=>
        sto h41 (p21.add 2) (Value.int .i64 x159) fun h42=>
        J_4 h42) (
        J_4 h41))∧(∀h43,J_4 h43 →
      ∃J_5:Int→Bool→Heap→Prop,(
       ∃Sq_5:Heap→Prop,Sq_5 h43∧(
        ifb (x102 == 0) (
         ∃(y161:Int) (y161_1:Sv) (y161_2:Int),hld Sq_5 p19 (Value.int .i64 y161)∧hld Sq_5 (p19.add 1) (Value.slice y161_1.a y161_1.n y161_1.c)∧hld Sq_5 (p19.add 2) (Value.int .i64 y161_2) ∧
         ∃(y162:Int) (y162_1:Sv) (y162_2:Int),hld Sq_5 p21 (Value.int .i64 y162)∧hld Sq_5 (p21.add 1) (Value.slice y162_1.a y162_1.n y162_1.c)∧hld Sq_5 (p21.add 2) (Value.int .i64 y162_2) ∧
         ∃(y168:Int) (y168_1:Sv) (y168_2:Int),cl h43 p19=some (Value.int .i64 y168)∧cl h43 (p19.add 1)=some (Value.slice y168_1.a y168_1.n y168_1.c)∧cl h43 (p19.add 2)=some (Value.int .i64 y168_2) ∧
         ∃(y169:Int) (y169_1:Sv) (y169_2:Int),cl h43 p21=some (Value.int .i64 y169)∧cl h43 (p21.add 1)=some (Value.slice y169_1.a y169_1.n y169_1.c)∧cl h43 (p21.add 2)=some (Value.int .i64 y169_2) ∧
         cal Try.prog 41 #[Value.agg #[Value.int .i64 y168,Value.slice y168_1.a y168_1.n y168_1.c,Value.int .i64 y168_2],Value.agg #[Value.int .i64 y169,Value.slice y169_1.a y169_1.n y169_1.c,Value.int .i64 y169_2],Value.bool tags4] h43 fun u_7 h44=>asB u_7 fun x171=>
         Sq_5 h44 ∧
         stoA h44 p10 [Value.int .i64 y161,Value.slice y161_1.a y161_1.n y161_1.c,Value.int .i64 y161_2,Value.int .i64 y162,Value.slice y162_1.a y162_1.n y162_1.c,Value.int .i64 y162_2] fun h45=>
         J_5 x102 x171 h45) (
         ∃(y161_3:Int) (y161_4:Sv) (y161_5:Int),hld Sq_5 p19 (Value.int .i64 y161_3)∧hld Sq_5 (p19.add 1) (Value.slice y161_4.a y161_4.n y161_4.c)∧hld Sq_5 (p19.add 2) (Value.int .i64 y161_5) ∧
         ∃(y162_3:Int) (y162_4:Sv) (y162_5:Int),hld Sq_5 p21 (Value.int .i64 y162_3)∧hld Sq_5 (p21.add 1) (Value.slice y162_4.a y162_4.n y162_4.c)∧hld Sq_5 (p21.add 2) (Value.int .i64 y162_5) ∧
         stoA h43 p10 [Value.int .i64 y161_3,Value.slice y161_4.a y161_4.n y161_4.c,Value.int .i64 y161_5,Value.int .i64 y162_3,Value.slice y162_4.a y162_4.n y162_4.c,Value.int .i64 y162_5] fun h46=>
         J_5 x102 false h46)))∧(∀x11_2 x12_2 h47,J_5 x11_2 x12_2 h47 →
      ∃(y_12:Int) (y_13:Sv) (y_14:Int) (y_15:Int) (y_16:Sv) (y_17:Int),cl h47 p10=some (Value.int .i64 y_12)∧cl h47 (p10.add 1)=some (Value.slice y_13.a y_13.n y_13.c)∧cl h47 (p10.add 2)=some (Value.int .i64 y_14)∧cl h47 (p10.add 3)=some (Value.int .i64 y_15)∧cl h47 (p10.add 4)=some (Value.slice y_16.a y_16.n y_16.c)∧cl h47 (p10.add 5)=some (Value.int .i64 y_17) ∧
      R (.tuple #[Value.agg #[Value.int .i64 y_12,Value.slice y_13.a y_13.n y_13.c,Value.int .i64 y_14,Value.int .i64 y_15,Value.slice y_16.a y_16.n y_16.c,Value.int .i64 y_17],Value.int .i64 x11_2,Value.bool x12_2]) h47))))) (
     ifb (x63 == 2) (
      ∃(y177:Int) (y177_1:Sv) (y177_2:Int),cl h20 a13=some (Value.int .i64 y177)∧cl h20 (a13.add 1)=some (Value.slice y177_1.a y177_1.n y177_1.c)∧cl h20 (a13.add 2)=some (Value.int .i64 y177_2) ∧
      cal Try.prog 15 #[Value.pointer vh0,Value.agg #[Value.int .i64 y177,Value.slice y177_1.a y177_1.n y177_1.c,Value.int .i64 y177_2]] h20 fun u_8 h48=>∃(y178:Int) (y178_1:Int) (y178_2:ByteArray) (y178_3:Sv) (y178_4:Int) (y178_5:Sv) (y178_6:Int) (x178:Int),u_8=Value.tuple #[Value.agg #[Value.int .i64 y178,Value.int .u64 y178_1,Value.string y178_2,Value.slice y178_3.a y178_3.n y178_3.c,Value.int .i64 y178_4,Value.slice y178_5.a y178_5.n y178_5.c,Value.int .i64 y178_6],Value.int .i64 x178] ∧
      new 33 #[Value.int .i64 0,Value.int .u64 0,Value.string (⟨#[]⟩:ByteArray),Value.slice (⟨none,0,0⟩:Sv).a (⟨none,0,0⟩:Sv).n (⟨none,0,0⟩:Sv).c,Value.int .i64 0,Value.slice (⟨none,0,0⟩:Sv).a (⟨none,0,0⟩:Sv).n (⟨none,0,0⟩:Sv).c,Value.int .i64 0] h48 fun p22 h49=>
      stoA h49 p22 [Value.int .i64 y178,Value.int .u64 y178_1,Value.string y178_2,Value.slice y178_3.a y178_3.n y178_3.c,Value.int .i64 y178_4,Value.slice y178_5.a y178_5.n y178_5.c,Value.int .i64 y178_6] fun h50=>
      ∃(y183:Int) (y183_1:Sv) (y183_2:Int),cl h50 b14=some (Value.int .i64 y183)∧cl h50 (b14.add 1)=some (Value.slice y183_1.a y183_1.n y183_1.c)∧cl h50 (b14.add 2)=some (Value.int .i64 y183_2) ∧
      cal Try.prog 33 #[Value.pointer x1,Value.agg #[Value.int .i64 y183,Value.slice y183_1.a y183_1.n y183_1.c,Value.int .i64 y183_2]] h50 fun u_9 h51=>∃(y184:Int) (y184_1:Int) (y184_2:ByteArray) (y184_3:Sv) (y184_4:Int) (y184_5:Sv) (y184_6:Int) (x184:Int),u_9=Value.tuple #[Value.agg #[Value.int .i64 y184,Value.int .u64 y184_1,Value.string y184_2,Value.slice y184_3.a y184_3.n y184_3.c,Value.int .i64 y184_4,Value.slice y184_5.a y184_5.n y184_5.c,Value.int .i64 y184_6],Value.int .i64 x184] ∧
      new 33 #[Value.int .i64 0,Value.int .u64 0,Value.string (⟨#[]⟩:ByteArray),Value.slice (⟨none,0,0⟩:Sv).a (⟨none,0,0⟩:Sv).n (⟨none,0,0⟩:Sv).c,Value.int .i64 0,Value.slice (⟨none,0,0⟩:Sv).a (⟨none,0,0⟩:Sv).n (⟨none,0,0⟩:Sv).c,Value.int .i64 0] h51 fun p24 h52=>
      stoA h52 p24 [Value.int .i64 y184,Value.int .u64 y184_1,Value.string y184_2,Value.slice y184_3.a y184_3.n y184_3.c,Value.int .i64 y184_4,Value.slice y184_5.a y184_5.n y184_5.c,Value.int .i64 y184_6] fun h53=>
      ∃J_6:Int→Bool→Heap→Prop,(
       ∃Sq_6:Heap→Prop,Sq_6 h53∧(
        ifb (x178 == x184) (
         ∃(y193:Int) (y193_1:Int) (y193_2:ByteArray) (y193_3:Sv) (y193_4:Int) (y193_5:Sv) (y193_6:Int),cl h53 p22=some (Value.int .i64 y193)∧cl h53 (p22.add 1)=some (Value.int .u64 y193_1)∧cl h53 (p22.add 2)=some (Value.string y193_2)∧cl h53 (p22.add 3)=some (Value.slice y193_3.a y193_3.n y193_3.c)∧cl h53 (p22.add 4)=some (Value.int .i64 y193_4)∧cl h53 (p22.add 5)=some (Value.slice y193_5.a y193_5.n y193_5.c)∧cl h53 (p22.add 6)=some (Value.int .i64 y193_6) ∧
         ∃(y194:Int) (y194_1:Int) (y194_2:ByteArray) (y194_3:Sv) (y194_4:Int) (y194_5:Sv) (y194_6:Int),cl h53 p24=some (Value.int .i64 y194)∧cl h53 (p24.add 1)=some (Value.int .u64 y194_1)∧cl h53 (p24.add 2)=some (Value.string y194_2)∧cl h53 (p24.add 3)=some (Value.slice y194_3.a y194_3.n y194_3.c)∧cl h53 (p24.add 4)=some (Value.int .i64 y194_4)∧cl h53 (p24.add 5)=some (Value.slice y194_5.a y194_5.n y194_5.c)∧cl h53 (p24.add 6)=some (Value.int .i64 y194_6) ∧
         ∃(y187:Int) (y187_1:Sv) (y187_2:Int) (y187_3:Int) (y187_4:Sv) (y187_5:Int),hld Sq_6 p8 (Value.int .i64 y187)∧hld Sq_6 (p8.add 1) (Value.slice y187_1.a y187_1.n y187_1.c)∧hld Sq_6 (p8.add 2) (Value.int .i64 y187_2)∧hld Sq_6 (p8.add 3) (Value.int .i64 y187_3)∧hld Sq_6 (p8.add 4) (Value.slice y187_4.a y187_4.n y187_4.c)∧hld Sq_6 (p8.add 5) (Value.int .i64 y187_5) ∧
         cal Try.prog 42 #[Value.agg #[Value.int .i64 y193,Value.int .u64 y193_1,Value.string y193_2,Value.slice y193_3.a y193_3.n y193_3.c,Value.int .i64 y193_4,Value.slice y193_5.a y193_5.n y193_5.c,Value.int .i64 y193_6],Value.agg #[Value.int .i64 y194,Value.int .u64 y194_1,Value.string y194_2,Value.slice y194_3.a y194_3.n y194_3.c,Value.int .i64 y194_4,Value.slice y194_5.a y194_5.n y194_5.c,Value.int .i64 y194_6],Value.bool tags4] h53 fun u_10 h54=>asB u_10 fun x196=>
         Sq_6 h54 ∧
         stoA h54 p10 [Value.int .i64 y187,Value.slice y187_1.a y187_1.n y187_1.c,Value.int .i64 y187_2,Value.int .i64 y187_3,Value.slice y187_4.a y187_4.n y187_4.c,Value.int .i64 y187_5] fun h55=>
         J_6 x178 x196 h55) (
         ∃(y187_6:Int) (y187_7:Sv) (y187_8:Int) (y187_9:Int) (y187_10:Sv) (y187_11:Int),hld Sq_6 p8 (Value.int .i64 y187_6)∧hld Sq_6 (p8.add 1) (Value.slice y187_7.a y187_7.n y187_7.c)∧hld Sq_6 (p8.add 2) (Value.int .i64 y187_8)∧hld Sq_6 (p8.add 3) (Value.int .i64 y187_9)∧hld Sq_6 (p8.add 4) (Value.slice y187_10.a y187_10.n y187_10.c)∧hld Sq_6 (p8.add 5) (Value.int .i64 y187_11) ∧
         stoA h53 p10 [Value.int .i64 y187_6,Value.slice y187_7.a y187_7.n y187_7.c,Value.int .i64 y187_8,Value.int .i64 y187_9,Value.slice y187_10.a y187_10.n y187_10.c,Value.int .i64 y187_11] fun h56=>
         J_6 x178 false h56)))∧(∀x11_3 x12_3 h57,J_6 x11_3 x12_3 h57 →
      ∃(y_18:Int) (y_19:Sv) (y_20:Int) (y_21:Int) (y_22:Sv) (y_23:Int),cl h57 p10=some (Value.int .i64 y_18)∧cl h57 (p10.add 1)=some (Value.slice y_19.a y_19.n y_19.c)∧cl h57 (p10.add 2)=some (Value.int .i64 y_20)∧cl h57 (p10.add 3)=some (Value.int .i64 y_21)∧cl h57 (p10.add 4)=some (Value.slice y_22.a y_22.n y_22.c)∧cl h57 (p10.add 5)=some (Value.int .i64 y_23) ∧
      R (.tuple #[Value.agg #[Value.int .i64 y_18,Value.slice y_19.a y_19.n y_19.c,Value.int .i64 y_20,Value.int .i64 y_21,Value.slice y_22.a y_22.n y_22.c,Value.int .i64 y_23],Value.int .i64 x11_3,Value.bool x12_3]) h57)) (
      ifb (x63 == 3) (
       ∃(y202:Int) (y202_1:Sv) (y202_2:Int),cl h20 a13=some (Value.int .i64 y202)∧cl h20 (a13.add 1)=some (Value.slice y202_1.a y202_1.n y202_1.c)∧cl h20 (a13.add 2)=some (Value.int .i64 y202_2) ∧
       cal Try.prog 18 #[Value.pointer vh0,Value.agg #[Value.int .i64 y202,Value.slice y202_1.a y202_1.n y202_1.c,Value.int .i64 y202_2]] h20 fun u_11 h58=>∃(y203:Int) (y203_1:Int) (y203_2:ByteArray) (y203_3:Sv) (y203_4:Int) (y203_5:Sv) (y203_6:Int) (x203:Int),u_11=Value.tuple #[Value.agg #[Value.int .i64 y203,Value.int .u64 y203_1,Value.string y203_2,Value.slice y203_3.a y203_3.n y203_3.c,Value.int .i64 y203_4,Value.slice y203_5.a y203_5.n y203_5.c,Value.int .i64 y203_6],Value.int .i64 x203] ∧
       new 33 #[Value.int .i64 0,Value.int .u64 0,Value.string (⟨#[]⟩:ByteArray),Value.slice (⟨none,0,0⟩:Sv).a (⟨none,0,0⟩:Sv).n (⟨none,0,0⟩:Sv).c,Value.int .i64 0,Value.slice (⟨none,0,0⟩:Sv).a (⟨none,0,0⟩:Sv).n (⟨none,0,0⟩:Sv).c,Value.int .i64 0] h58 fun p26 h59=>
       stoA h59 p26 [Value.int .i64 y203,Value.int .u64 y203_1,Value.string y203_2,Value.slice y203_3.a y203_3.n y203_3.c,Value.int .i64 y203_4,Value.slice y203_5.a y203_5.n y203_5.c,Value.int .i64 y203_6] fun h60=>
       ∃(y208:Int) (y208_1:Sv) (y208_2:Int),cl h60 b14=some (Value.int .i64 y208)∧cl h60 (b14.add 1)=some (Value.slice y208_1.a y208_1.n y208_1.c)∧cl h60 (b14.add 2)=some (Value.int .i64 y208_2) ∧
       cal Try.prog 34 #[Value.pointer x1,Value.agg #[Value.int .i64 y208,Value.slice y208_1.a y208_1.n y208_1.c,Value.int .i64 y208_2]] h60 fun u_12 h61=>∃(y209:Int) (y209_1:Int) (y209_2:ByteArray) (y209_3:Sv) (y209_4:Int) (y209_5:Sv) (y209_6:Int) (x209:Int),u_12=Value.tuple #[Value.agg #[Value.int .i64 y209,Value.int .u64 y209_1,Value.string y209_2,Value.slice y209_3.a y209_3.n y209_3.c,Value.int .i64 y209_4,Value.slice y209_5.a y209_5.n y209_5.c,Value.int .i64 y209_6],Value.int .i64 x209] ∧
       new 33 #[Value.int .i64 0,Value.int .u64 0,Value.string (⟨#[]⟩:ByteArray),Value.slice (⟨none,0,0⟩:Sv).a (⟨none,0,0⟩:Sv).n (⟨none,0,0⟩:Sv).c,Value.int .i64 0,Value.slice (⟨none,0,0⟩:Sv).a (⟨none,0,0⟩:Sv).n (⟨none,0,0⟩:Sv).c,Value.int .i64 0] h61 fun p28 h62=>
       stoA h62 p28 [Value.int .i64 y209,Value.int .u64 y209_1,Value.string y209_2,Value.slice y209_3.a y209_3.n y209_3.c,Value.int .i64 y209_4,Value.slice y209_5.a y209_5.n y209_5.c,Value.int .i64 y209_6] fun h63=>
       ∃J_7:Int→Bool→Heap→Prop,(
        ∃Sq_7:Heap→Prop,Sq_7 h63∧(
         ifb (x203 == x209) (
          ∃(y218:Int) (y218_1:Int) (y218_2:ByteArray) (y218_3:Sv) (y218_4:Int) (y218_5:Sv) (y218_6:Int),cl h63 p26=some (Value.int .i64 y218)∧cl h63 (p26.add 1)=some (Value.int .u64 y218_1)∧cl h63 (p26.add 2)=some (Value.string y218_2)∧cl h63 (p26.add 3)=some (Value.slice y218_3.a y218_3.n y218_3.c)∧cl h63 (p26.add 4)=some (Value.int .i64 y218_4)∧cl h63 (p26.add 5)=some (Value.slice y218_5.a y218_5.n y218_5.c)∧cl h63 (p26.add 6)=some (Value.int .i64 y218_6) ∧
          ∃(y219:Int) (y219_1:Int) (y219_2:ByteArray) (y219_3:Sv) (y219_4:Int) (y219_5:Sv) (y219_6:Int),cl h63 p28=some (Value.int .i64 y219)∧cl h63 (p28.add 1)=some (Value.int .u64 y219_1)∧cl h63 (p28.add 2)=some (Value.string y219_2)∧cl h63 (p28.add 3)=some (Value.slice y219_3.a y219_3.n y219_3.c)∧cl h63 (p28.add 4)=some (Value.int .i64 y219_4)∧cl h63 (p28.add 5)=some (Value.slice y219_5.a y219_5.n y219_5.c)∧cl h63 (p28.add 6)=some (Value.int .i64 y219_6) ∧
          ∃(y212:Int) (y212_1:Sv) (y212_2:Int) (y212_3:Int) (y212_4:Sv) (y212_5:Int),hld Sq_7 p8 (Value.int .i64 y212)∧hld Sq_7 (p8.add 1) (Value.slice y212_1.a y212_1.n y212_1.c)∧hld Sq_7 (p8.add 2) (Value.int .i64 y212_2)∧hld Sq_7 (p8.add 3) (Value.int .i64 y212_3)∧hld Sq_7 (p8.add 4) (Value.slice y212_4.a y212_4.n y212_4.c)∧hld Sq_7 (p8.add 5) (Value.int .i64 y212_5) ∧
          cal Try.prog 42 #[Value.agg #[Value.int .i64 y218,Value.int .u64 y218_1,Value.string y218_2,Value.slice y218_3.a y218_3.n y218_3.c,Value.int .i64 y218_4,Value.slice y218_5.a y218_5.n y218_5.c,Value.int .i64 y218_6],Value.agg #[Value.int .i64 y219,Value.int .u64 y219_1,Value.string y219_2,Value.slice y219_3.a y219_3.n y219_3.c,Value.int .i64 y219_4,Value.slice y219_5.a y219_5.n y219_5.c,Value.int .i64 y219_6],Value.bool tags4] h63 fun u_13 h64=>asB u_13 fun x221=>
          Sq_7 h64 ∧
          stoA h64 p10 [Value.int .i64 y212,Value.slice y212_1.a y212_1.n y212_1.c,Value.int .i64 y212_2,Value.int .i64 y212_3,Value.slice y212_4.a y212_4.n y212_4.c,Value.int .i64 y212_5] fun h65=>
          J_7 x203 x221 h65) (
          ∃(y212_6:Int) (y212_7:Sv) (y212_8:Int) (y212_9:Int) (y212_10:Sv) (y212_11:Int),hld Sq_7 p8 (Value.int .i64 y212_6)∧hld Sq_7 (p8.add 1) (Value.slice y212_7.a y212_7.n y212_7.c)∧hld Sq_7 (p8.add 2) (Value.int .i64 y212_8)∧hld Sq_7 (p8.add 3) (Value.int .i64 y212_9)∧hld Sq_7 (p8.add 4) (Value.slice y212_10.a y212_10.n y212_10.c)∧hld Sq_7 (p8.add 5) (Value.int .i64 y212_11) ∧
          stoA h63 p10 [Value.int .i64 y212_6,Value.slice y212_7.a y212_7.n y212_7.c,Value.int .i64 y212_8,Value.int .i64 y212_9,Value.slice y212_10.a y212_10.n y212_10.c,Value.int .i64 y212_11] fun h66=>
          J_7 x203 false h66)))∧(∀x11_4 x12_4 h67,J_7 x11_4 x12_4 h67 →
       ∃(y_24:Int) (y_25:Sv) (y_26:Int) (y_27:Int) (y_28:Sv) (y_29:Int),cl h67 p10=some (Value.int .i64 y_24)∧cl h67 (p10.add 1)=some (Value.slice y_25.a y_25.n y_25.c)∧cl h67 (p10.add 2)=some (Value.int .i64 y_26)∧cl h67 (p10.add 3)=some (Value.int .i64 y_27)∧cl h67 (p10.add 4)=some (Value.slice y_28.a y_28.n y_28.c)∧cl h67 (p10.add 5)=some (Value.int .i64 y_29) ∧
       R (.tuple #[Value.agg #[Value.int .i64 y_24,Value.slice y_25.a y_25.n y_25.c,Value.int .i64 y_26,Value.int .i64 y_27,Value.slice y_28.a y_28.n y_28.c,Value.int .i64 y_29],Value.int .i64 x11_4,Value.bool x12_4]) h67)) (
       ifb (x63 == 4) (
        ∃Sq_8:Heap→Prop,Sq_8 h20∧(
         ∃(y227:Int) (y227_1:Int) (y227_2:Int) (y227_3:Sv) (y227_4:Int) (y227_5:Int) (y227_6:ByteArray) (y227_7:Sv) (y227_8:Int) (y227_9:Sv) (y227_10:Int) (y227_11:Int),cl h20 p7=some (Value.int .i64 y227)∧cl h20 (p7.add 1)=some (Value.int .i64 y227_1)∧cl h20 (p7.add 2)=some (Value.int .i64 y227_2)∧cl h20 (p7.add 3)=some (Value.slice y227_3.a y227_3.n y227_3.c)∧cl h20 (p7.add 4)=some (Value.int .i64 y227_4)∧cl h20 (p7.add 5)=some (Value.int .u64 y227_5)∧cl h20 (p7.add 6)=some (Value.string y227_6)∧cl h20 (p7.add 7)=some (Value.slice y227_7.a y227_7.n y227_7.c)∧cl h20 (p7.add 8)=some (Value.int .i64 y227_8)∧cl h20 (p7.add 9)=some (Value.slice y227_9.a y227_9.n y227_9.c)∧cl h20 (p7.add 10)=some (Value.int .i64 y227_10)∧cl h20 (p7.add 11)=some (Value.int .i64 y227_11) ∧
         ∃(y229:Int) (y229_1:Sv) (y229_2:Int),cl h20 p8=some (Value.int .i64 y229)∧cl h20 (p8.add 1)=some (Value.slice y229_1.a y229_1.n y229_1.c)∧cl h20 (p8.add 2)=some (Value.int .i64 y229_2) ∧
         ∃(y226:Int) (y226_1:Sv) (y226_2:Int),hld Sq_8 a13 (Value.int .i64 y226)∧hld Sq_8 (a13.add 1) (Value.slice y226_1.a y226_1.n y226_1.c)∧hld Sq_8 (a13.add 2) (Value.int .i64 y226_2) ∧
         ∃(y233:Int) (y233_1:Sv) (y233_2:Int),hld Sq_8 b14 (Value.int .i64 y233)∧hld Sq_8 (b14.add 1) (Value.slice y233_1.a y233_1.n y233_1.c)∧hld Sq_8 (b14.add 2) (Value.int .i64 y233_2) ∧
         ∃(y234:Int) (y234_1:Int) (y234_2:Int) (y234_3:Sv) (y234_4:Int) (y234_5:Int) (y234_6:ByteArray) (y234_7:Sv) (y234_8:Int) (y234_9:Sv) (y234_10:Int) (y234_11:Int),hld Sq_8 p7 (Value.int .i64 y234)∧hld Sq_8 (p7.add 1) (Value.int .i64 y234_1)∧hld Sq_8 (p7.add 2) (Value.int .i64 y234_2)∧hld Sq_8 (p7.add 3) (Value.slice y234_3.a y234_3.n y234_3.c)∧hld Sq_8 (p7.add 4) (Value.int .i64 y234_4)∧hld Sq_8 (p7.add 5) (Value.int .u64 y234_5)∧hld Sq_8 (p7.add 6) (Value.string y234_6)∧hld Sq_8 (p7.add 7) (Value.slice y234_7.a y234_7.n y234_7.c)∧hld Sq_8 (p7.add 8) (Value.int .i64 y234_8)∧hld Sq_8 (p7.add 9) (Value.slice y234_9.a y234_9.n y234_9.c)∧hld Sq_8 (p7.add 10) (Value.int .i64 y234_10)∧hld Sq_8 (p7.add 11) (Value.int .i64 y234_11) ∧
         ∃(y236:Int) (y236_1:Sv) (y236_2:Int),hld Sq_8 (p8.add 3) (Value.int .i64 y236)∧hld Sq_8 ((p8.add 3).add 1) (Value.slice y236_1.a y236_1.n y236_1.c)∧hld Sq_8 ((p8.add 3).add 2) (Value.int .i64 y236_2) ∧
         cal Try.prog 36 #[Value.agg #[Value.int .i64 y227,Value.int .i64 y227_1,Value.int .i64 y227_2,Value.slice y227_3.a y227_3.n y227_3.c,Value.int .i64 y227_4,Value.int .u64 y227_5,Value.string y227_6,Value.slice y227_7.a y227_7.n y227_7.c,Value.int .i64 y227_8,Value.slice y227_9.a y227_9.n y227_9.c,Value.int .i64 y227_10,Value.int .i64 y227_11],Value.agg #[Value.int .i64 y229,Value.slice y229_1.a y229_1.n y229_1.c,Value.int .i64 y229_2]] h20 fun u_14 h68=>∃(y230:Int) (y230_1:Int) (y230_2:ByteArray) (y230_3:Sv) (y230_4:Int) (y230_5:Sv) (y230_6:Int),u_14=Value.agg #[Value.int .i64 y230,Value.int .u64 y230_1,Value.string y230_2,Value.slice y230_3.a y230_3.n y230_3.c,Value.int .i64 y230_4,Value.slice y230_5.a y230_5.n y230_5.c,Value.int .i64 y230_6] ∧
         Sq_8 h68 ∧
         cal Try.prog 17 #[Value.pointer vh0,Value.agg #[Value.int .i64 y226,Value.slice y226_1.a y226_1.n y226_1.c,Value.int .i64 y226_2],Value.agg #[Value.int .i64 y230,Value.int .u64 y230_1,Value.string y230_2,Value.slice y230_3.a y230_3.n y230_3.c,Value.int .i64 y230_4,Value.slice y230_5.a y230_5.n y230_5.c,Value.int .i64 y230_6]] h68 fun u_15 h69=>asI .i64 u_15 fun x231=>
         Sq_8 h69 ∧
         cal Try.prog 36 #[Value.agg #[Value.int .i64 y234,Value.int .i64 y234_1,Value.int .i64 y234_2,Value.slice y234_3.a y234_3.n y234_3.c,Value.int .i64 y234_4,Value.int .u64 y234_5,Value.string y234_6,Value.slice y234_7.a y234_7.n y234_7.c,Value.int .i64 y234_8,Value.slice y234_9.a y234_9.n y234_9.c,Value.int .i64 y234_10,Value.int .i64 y234_11],Value.agg #[Value.int .i64 y236,Value.slice y236_1.a y236_1.n y236_1.c,Value.int .i64 y236_2]] h69 fun u_16 h70=>∃(y237:Int) (y237_1:Int) (y237_2:ByteArray) (y237_3:Sv) (y237_4:Int) (y237_5:Sv) (y237_6:Int),u_16=Value.agg #[Value.int .i64 y237,Value.int .u64 y237_1,Value.string y237_2,Value.slice y237_3.a y237_3.n y237_3.c,Value.int .i64 y237_4,Value.slice y237_5.a y237_5.n y237_5.c,Value.int .i64 y237_6] ∧
         Sq_8 h70 ∧
         cal Try.prog 35 #[Value.pointer x1,Value.agg #[Value.int .i64 y233,Value.slice y233_1.a y233_1.n y233_1.c,Value.int .i64 y233_2],Value.agg #[Value.int .i64 y237,Value.int .u64 y237_1,Value.string y237_2,Value.slice y237_3.a y237_3.n y237_3.c,Value.int .i64 y237_4,Value.slice y237_5.a y237_5.n y237_5.c,Value.int .i64 y237_6]] h70 fun u_17 h71=>asI .i64 u_17 fun x238=>
         ∃(y239:Int) (y239_1:Sv) (y239_2:Int) (y239_3:Int) (y239_4:Sv) (y239_5:Int),cl h71 p8=some (Value.int .i64 y239)∧cl h71 (p8.add 1)=some (Value.slice y239_1.a y239_1.n y239_1.c)∧cl h71 (p8.add 2)=some (Value.int .i64 y239_2)∧cl h71 (p8.add 3)=some (Value.int .i64 y239_3)∧cl h71 (p8.add 4)=some (Value.slice y239_4.a y239_4.n y239_4.c)∧cl h71 (p8.add 5)=some (Value.int .i64 y239_5) ∧
         stoA h71 p10 [Value.int .i64 y239,Value.slice y239_1.a y239_1.n y239_1.c,Value.int .i64 y239_2,Value.int .i64 y239_3,Value.slice y239_4.a y239_4.n y239_4.c,Value.int .i64 y239_5] fun h72=>
         ∃(y_30:Int) (y_31:Sv) (y_32:Int) (y_33:Int) (y_34:Sv) (y_35:Int),cl h72 p10=some (Value.int .i64 y_30)∧cl h72 (p10.add 1)=some (Value.slice y_31.a y_31.n y_31.c)∧cl h72 (p10.add 2)=some (Value.int .i64 y_32)∧cl h72 (p10.add 3)=some (Value.int .i64 y_33)∧cl h72 (p10.add 4)=some (Value.slice y_34.a y_34.n y_34.c)∧cl h72 (p10.add 5)=some (Value.int .i64 y_35) ∧
         R (.tuple #[Value.agg #[Value.int .i64 y_30,Value.slice y_31.a y_31.n y_31.c,Value.int .i64 y_32,Value.int .i64 y_33,Value.slice y_34.a y_34.n y_34.c,Value.int .i64 y_35],Value.int .i64 x231,Value.bool (x231 == x238)]) h72)) (
        ∃J_8:Bool→Prop,(
         ifb (x63 == 5) (
          J_8 (x63 == 5)) (
          J_8 (x63 == 6)))∧(∀x244,J_8 x244 →
        ifb x244 (
         ∃(y249:Int) (y249_1:Sv) (y249_2:Int),cl h20 a13=some (Value.int .i64 y249)∧cl h20 (a13.add 1)=some (Value.slice y249_1.a y249_1.n y249_1.c)∧cl h20 (a13.add 2)=some (Value.int .i64 y249_2) ∧
         ldI .i64 h20 p7 fun x251=>
         cal Try.prog 12 #[Value.pointer vh0,Value.agg #[Value.int .i64 y249,Value.slice y249_1.a y249_1.n y249_1.c,Value.int .i64 y249_2],Value.bool (x251 == 6)] h20 fun u_18 h73=>∃(y253:Int) (y253_1:Sv) (y253_2:Int) (x253:Int),u_18=Value.tuple #[Value.agg #[Value.int .i64 y253,Value.slice y253_1.a y253_1.n y253_1.c,Value.int .i64 y253_2],Value.int .i64 x253] ∧
         new 28 #[Value.int .i64 0,Value.slice (⟨none,0,0⟩:Sv).a (⟨none,0,0⟩:Sv).n (⟨none,0,0⟩:Sv).c,Value.int .i64 0] h73 fun p32 h74=>
         stoA h74 p32 [Value.int .i64 y253,Value.slice y253_1.a y253_1.n y253_1.c,Value.int .i64 y253_2] fun h75=>
         ∃(y258:Int) (y258_1:Sv) (y258_2:Int),cl h75 b14=some (Value.int .i64 y258)∧cl h75 (b14.add 1)=some (Value.slice y258_1.a y258_1.n y258_1.c)∧cl h75 (b14.add 2)=some (Value.int .i64 y258_2) ∧
         ldI .i64 h75 p7 fun x260=>
         cal Try.prog 37 #[Value.pointer x1,Value.agg #[Value.int .i64 y258,Value.slice y258_1.a y258_1.n y258_1.c,Value.int .i64 y258_2],Value.bool (x260 == 6)] h75 fun u_19 h76=>∃(y262:Int) (y262_1:Sv) (y262_2:Int) (x262:Int),u_19=Value.tuple #[Value.agg #[Value.int .i64 y262,Value.slice y262_1.a y262_1.n y262_1.c,Value.int .i64 y262_2],Value.int .i64 x262] ∧
         new 28 #[Value.int .i64 0,Value.slice (⟨none,0,0⟩:Sv).a (⟨none,0,0⟩:Sv).n (⟨none,0,0⟩:Sv).c,Value.int .i64 0] h76 fun p34 h77=>
         stoA h77 p34 [Value.int .i64 y262,Value.slice y262_1.a y262_1.n y262_1.c,Value.int .i64 y262_2] fun h78=>
         ∃J_9:Int→Bool→Heap→Prop,(
          ∃Sq_9:Heap→Prop,Sq_9 h78∧(
           ifb (x253 == x262) (
            ∃(y265:Int) (y265_1:Sv) (y265_2:Int),hld Sq_9 p32 (Value.int .i64 y265)∧hld Sq_9 (p32.add 1) (Value.slice y265_1.a y265_1.n y265_1.c)∧hld Sq_9 (p32.add 2) (Value.int .i64 y265_2) ∧
            ∃(y266:Int) (y266_1:Sv) (y266_2:Int),hld Sq_9 p34 (Value.int .i64 y266)∧hld Sq_9 (p34.add 1) (Value.slice y266_1.a y266_1.n y266_1.c)∧hld Sq_9 (p34.add 2) (Value.int .i64 y266_2) ∧
            ∃(y273:Int) (y273_1:Sv) (y273_2:Int),cl h78 p32=some (Value.int .i64 y273)∧cl h78 (p32.add 1)=some (Value.slice y273_1.a y273_1.n y273_1.c)∧cl h78 (p32.add 2)=some (Value.int .i64 y273_2) ∧
            ∃(y274:Int) (y274_1:Sv) (y274_2:Int),cl h78 p34=some (Value.int .i64 y274)∧cl h78 (p34.add 1)=some (Value.slice y274_1.a y274_1.n y274_1.c)∧cl h78 (p34.add 2)=some (Value.int .i64 y274_2) ∧
            cal Try.prog 41 #[Value.agg #[Value.int .i64 y273,Value.slice y273_1.a y273_1.n y273_1.c,Value.int .i64 y273_2],Value.agg #[Value.int .i64 y274,Value.slice y274_1.a y274_1.n y274_1.c,Value.int .i64 y274_2],Value.bool tags4] h78 fun u_20 h79=>asB u_20 fun x276=>
            Sq_9 h79 ∧
            stoA h79 p10 [Value.int .i64 y265,Value.slice y265_1.a y265_1.n y265_1.c,Value.int .i64 y265_2,Value.int .i64 y266,Value.slice y266_1.a y266_1.n y266_1.c,Value.int .i64 y266_2] fun h80=>
            J_9 x253 x276 h80) (
            ∃(y265_3:Int) (y265_4:Sv) (y265_5:Int),hld Sq_9 p32 (Value.int .i64 y265_3)∧hld Sq_9 (p32.add 1) (Value.slice y265_4.a y265_4.n y265_4.c)∧hld Sq_9 (p32.add 2) (Value.int .i64 y265_5) ∧
            ∃(y266_3:Int) (y266_4:Sv) (y266_5:Int),hld Sq_9 p34 (Value.int .i64 y266_3)∧hld Sq_9 (p34.add 1) (Value.slice y266_4.a y266_4.n y266_4.c)∧hld Sq_9 (p34.add 2) (Value.int .i64 y266_5) ∧
            stoA h78 p10 [Value.int .i64 y265_3,Value.slice y265_4.a y265_4.n y265_4.c,Value.int .i64 y265_5,Value.int .i64 y266_3,Value.slice y266_4.a y266_4.n y266_4.c,Value.int .i64 y266_5] fun h81=>
            J_9 x253 false h81)))∧(∀x11_5 x12_5 h82,J_9 x11_5 x12_5 h82 →
         ∃(y_36:Int) (y_37:Sv) (y_38:Int) (y_39:Int) (y_40:Sv) (y_41:Int),cl h82 p10=some (Value.int .i64 y_36)∧cl h82 (p10.add 1)=some (Value.slice y_37.a y_37.n y_37.c)∧cl h82 (p10.add 2)=some (Value.int .i64 y_38)∧cl h82 (p10.add 3)=some (Value.int .i64 y_39)∧cl h82 (p10.add 4)=some (Value.slice y_40.a y_40.n y_40.c)∧cl h82 (p10.add 5)=some (Value.int .i64 y_41) ∧
         R (.tuple #[Value.agg #[Value.int .i64 y_36,Value.slice y_37.a y_37.n y_37.c,Value.int .i64 y_38,Value.int .i64 y_39,Value.slice y_40.a y_40.n y_40.c,Value.int .i64 y_41],Value.int .i64 x11_5,Value.bool x12_5]) h82)) (
         ifb (x63 == 7) (
          ∃Sq_10:Heap→Prop,Sq_10 h20∧(
           ldI .i64 h20 (p7.add 1) fun x282=>
           hlI .i64 Sq_10 (p7.add 1) fun x286=>
           cal Try.prog 14 #[Value.pointer vh0,Value.int .i64 x282] h20 fun u_21 h83=>asI .i64 u_21 fun x283=>
           Sq_10 h83 ∧
           cal Try.prog 38 #[Value.pointer x1,Value.int .i64 x286] h83 fun u_22 h84=>asI .i64 u_22 fun x287=>
           ∃(y288:Int) (y288_1:Sv) (y288_2:Int) (y288_3:Int) (y288_4:Sv) (y288_5:Int),cl h84 p8=some (Value.int .i64 y288)∧cl h84 (p8.add 1)=some (Value.slice y288_1.a y288_1.n y288_1.c)∧cl h84 (p8.add 2)=some (Value.int .i64 y288_2)∧cl h84 (p8.add 3)=some (Value.int .i64 y288_3)∧cl h84 (p8.add 4)=some (Value.slice y288_4.a y288_4.n y288_4.c)∧cl h84 (p8.add 5)=some (Value.int .i64 y288_5) ∧
           stoA h84 p10 [Value.int .i64 y288,Value.slice y288_1.a y288_1.n y288_1.c,Value.int .i64 y288_2,Value.int .i64 y288_3,Value.slice y288_4.a y288_4.n y288_4.c,Value.int .i64 y288_5] fun h85=>
           ∃(y_42:Int) (y_43:Sv) (y_44:Int) (y_45:Int) (y_46:Sv) (y_47:Int),cl h85 p10=some (Value.int .i64 y_42)∧cl h85 (p10.add 1)=some (Value.slice y_43.a y_43.n y_43.c)∧cl h85 (p10.add 2)=some (Value.int .i64 y_44)∧cl h85 (p10.add 3)=some (Value.int .i64 y_45)∧cl h85 (p10.add 4)=some (Value.slice y_46.a y_46.n y_46.c)∧cl h85 (p10.add 5)=some (Value.int .i64 y_47) ∧
           R (.tuple #[Value.agg #[Value.int .i64 y_42,Value.slice y_43.a y_43.n y_43.c,Value.int .i64 y_44,Value.int .i64 y_45,Value.slice y_46.a y_46.n y_46.c,Value.int .i64 y_47],Value.int .i64 x283,Value.bool (x283 == x287)]) h85)) (
          ifb (x63 == 8) (
           ∃(y297:Int) (y297_1:Sv) (y297_2:Int),cl h20 a13=some (Value.int .i64 y297)∧cl h20 (a13.add 1)=some (Value.slice y297_1.a y297_1.n y297_1.c)∧cl h20 (a13.add 2)=some (Value.int .i64 y297_2) ∧
           cal Try.prog 24 #[Value.pointer vh0,Value.agg #[Value.int .i64 y297,Value.slice y297_1.a y297_1.n y297_1.c,Value.int .i64 y297_2]] h20 fun u_23 h86=>∃(y298:Int) (y298_1:Int) (y298_2:ByteArray) (y298_3:Sv) (y298_4:Int) (y298_5:Sv) (y298_6:Int) (x298:Int),u_23=Value.tuple #[Value.agg #[Value.int .i64 y298,Value.int .u64 y298_1,Value.string y298_2,Value.slice y298_3.a y298_3.n y298_3.c,Value.int .i64 y298_4,Value.slice y298_5.a y298_5.n y298_5.c,Value.int .i64 y298_6],Value.int .i64 x298] ∧
           new 33 #[Value.int .i64 0,Value.int .u64 0,Value.string (⟨#[]⟩:ByteArray),Value.slice (⟨none,0,0⟩:Sv).a (⟨none,0,0⟩:Sv).n (⟨none,0,0⟩:Sv).c,Value.int .i64 0,Value.slice (⟨none,0,0⟩:Sv).a (⟨none,0,0⟩:Sv).n (⟨none,0,0⟩:Sv).c,Value.int .i64 0] h86 fun p38 h87=>
           stoA h87 p38 [Value.int .i64 y298,Value.int .u64 y298_1,Value.string y298_2,Value.slice y298_3.a y298_3.n y298_3.c,Value.int .i64 y298_4,Value.slice y298_5.a y298_5.n y298_5.c,Value.int .i64 y298_6] fun h88=>
           ∃(y303:Int) (y303_1:Sv) (y303_2:Int),cl h88 b14=some (Value.int .i64 y303)∧cl h88 (b14.add 1)=some (Value.slice y303_1.a y303_1.n y303_1.c)∧cl h88 (b14.add 2)=some (Value.int .i64 y303_2) ∧
           cal Try.prog 39 #[Value.pointer x1,Value.agg #[Value.int .i64 y303,Value.slice y303_1.a y303_1.n y303_1.c,Value.int .i64 y303_2]] h88 fun u_24 h89=>∃(y304:Int) (y304_1:Int) (y304_2:ByteArray) (y304_3:Sv) (y304_4:Int) (y304_5:Sv) (y304_6:Int) (x304:Int),u_24=Value.tuple #[Value.agg #[Value.int .i64 y304,Value.int .u64 y304_1,Value.string y304_2,Value.slice y304_3.a y304_3.n y304_3.c,Value.int .i64 y304_4,Value.slice y304_5.a y304_5.n y304_5.c,Value.int .i64 y304_6],Value.int .i64 x304] ∧
           new 33 #[Value.int .i64 0,Value.int .u64 0,Value.string (⟨#[]⟩:ByteArray),Value.slice (⟨none,0,0⟩:Sv).a (⟨none,0,0⟩:Sv).n (⟨none,0,0⟩:Sv).c,Value.int .i64 0,Value.slice (⟨none,0,0⟩:Sv).a (⟨none,0,0⟩:Sv).n (⟨none,0,0⟩:Sv).c,Value.int .i64 0] h89 fun p40 h90=>
           stoA h90 p40 [Value.int .i64 y304,Value.int .u64 y304_1,Value.string y304_2,Value.slice y304_3.a y304_3.n y304_3.c,Value.int .i64 y304_4,Value.slice y304_5.a y304_5.n y304_5.c,Value.int .i64 y304_6] fun h91=>
           ∃J_10:Int→Bool→Heap→Prop,(
            ∃Sq_11:Heap→Prop,Sq_11 h91∧(
             ifb (x298 == x304) (
              ∃(y312:Int) (y312_1:Int) (y312_2:ByteArray) (y312_3:Sv) (y312_4:Int) (y312_5:Sv) (y312_6:Int),cl h91 p38=some (Value.int .i64 y312)∧cl h91 (p38.add 1)=some (Value.int .u64 y312_1)∧cl h91 (p38.add 2)=some (Value.string y312_2)∧cl h91 (p38.add 3)=some (Value.slice y312_3.a y312_3.n y312_3.c)∧cl h91 (p38.add 4)=some (Value.int .i64 y312_4)∧cl h91 (p38.add 5)=some (Value.slice y312_5.a y312_5.n y312_5.c)∧cl h91 (p38.add 6)=some (Value.int .i64 y312_6) ∧
              ∃(y313:Int) (y313_1:Int) (y313_2:ByteArray) (y313_3:Sv) (y313_4:Int) (y313_5:Sv) (y313_6:Int),cl h91 p40=some (Value.int .i64 y313)∧cl h91 (p40.add 1)=some (Value.int .u64 y313_1)∧cl h91 (p40.add 2)=some (Value.string y313_2)∧cl h91 (p40.add 3)=some (Value.slice y313_3.a y313_3.n y313_3.c)∧cl h91 (p40.add 4)=some (Value.int .i64 y313_4)∧cl h91 (p40.add 5)=some (Value.slice y313_5.a y313_5.n y313_5.c)∧cl h91 (p40.add 6)=some (Value.int .i64 y313_6) ∧
              ∃(y307:Int) (y307_1:Sv) (y307_2:Int) (y307_3:Int) (y307_4:Sv) (y307_5:Int),hld Sq_11 p8 (Value.int .i64 y307)∧hld Sq_11 (p8.add 1) (Value.slice y307_1.a y307_1.n y307_1.c)∧hld Sq_11 (p8.add 2) (Value.int .i64 y307_2)∧hld Sq_11 (p8.add 3) (Value.int .i64 y307_3)∧hld Sq_11 (p8.add 4) (Value.slice y307_4.a y307_4.n y307_4.c)∧hld Sq_11 (p8.add 5) (Value.int .i64 y307_5) ∧
              cal Try.prog 42 #[Value.agg #[Value.int .i64 y312,Value.int .u64 y312_1,Value.string y312_2,Value.slice y312_3.a y312_3.n y312_3.c,Value.int .i64 y312_4,Value.slice y312_5.a y312_5.n y312_5.c,Value.int .i64 y312_6],Value.agg #[Value.int .i64 y313,Value.int .u64 y313_1,Value.string y313_2,Value.slice y313_3.a y313_3.n y313_3.c,Value.int .i64 y313_4,Value.slice y313_5.a y313_5.n y313_5.c,Value.int .i64 y313_6],Value.bool tags4] h91 fun u_25 h92=>asB u_25 fun x315=>
              Sq_11 h92 ∧
              stoA h92 p10 [Value.int .i64 y307,Value.slice y307_1.a y307_1.n y307_1.c,Value.int .i64 y307_2,Value.int .i64 y307_3,Value.slice y307_4.a y307_4.n y307_4.c,Value.int .i64 y307_5] fun h93=>
              J_10 0 x315 h93) (
              ∃(y307_6:Int) (y307_7:Sv) (y307_8:Int) (y307_9:Int) (y307_10:Sv) (y307_11:Int),hld Sq_11 p8 (Value.int .i64 y307_6)∧hld Sq_11 (p8.add 1) (Value.slice y307_7.a y307_7.n y307_7.c)∧hld Sq_11 (p8.add 2) (Value.int .i64 y307_8)∧hld Sq_11 (p8.add 3) (Value.int .i64 y307_9)∧hld Sq_11 (p8.add 4) (Value.slice y307_10.a y307_10.n y307_10.c)∧hld Sq_11 (p8.add 5) (Value.int .i64 y307_11) ∧
              stoA h91 p10 [Value.int .i64 y307_6,Value.slice y307_7.a y307_7.n y307_7.c,Value.int .i64 y307_8,Value.int .i64 y307_9,Value.slice y307_10.a y307_10.n y307_10.c,Value.int .i64 y307_11] fun h94=>
              J_10 0 false h94)))∧(∀x11_6 x12_6 h95,J_10 x11_6 x12_6 h95 →
           ∃(y_48:Int) (y_49:Sv) (y_50:Int) (y_51:Int) (y_52:Sv) (y_53:Int),cl h95 p10=some (Value.int .i64 y_48)∧cl h95 (p10.add 1)=some (Value.slice y_49.a y_49.n y_49.c)∧cl h95 (p10.add 2)=some (Value.int .i64 y_50)∧cl h95 (p10.add 3)=some (Value.int .i64 y_51)∧cl h95 (p10.add 4)=some (Value.slice y_52.a y_52.n y_52.c)∧cl h95 (p10.add 5)=some (Value.int .i64 y_53) ∧
           R (.tuple #[Value.agg #[Value.int .i64 y_48,Value.slice y_49.a y_49.n y_49.c,Value.int .i64 y_50,Value.int .i64 y_51,Value.slice y_52.a y_52.n y_52.c,Value.int .i64 y_53],Value.int .i64 x11_6,Value.bool x12_6]) h95)) (
           ∃(y317:Int) (y317_1:Sv) (y317_2:Int) (y317_3:Int) (y317_4:Sv) (y317_5:Int),cl h20 p8=some (Value.int .i64 y317)∧cl h20 (p8.add 1)=some (Value.slice y317_1.a y317_1.n y317_1.c)∧cl h20 (p8.add 2)=some (Value.int .i64 y317_2)∧cl h20 (p8.add 3)=some (Value.int .i64 y317_3)∧cl h20 (p8.add 4)=some (Value.slice y317_4.a y317_4.n y317_4.c)∧cl h20 (p8.add 5)=some (Value.int .i64 y317_5) ∧
           stoA h20 p10 [Value.int .i64 y317,Value.slice y317_1.a y317_1.n y317_1.c,Value.int .i64 y317_2,Value.int .i64 y317_3,Value.slice y317_4.a y317_4.n y317_4.c,Value.int .i64 y317_5] fun h96=>
           ∃(y_54:Int) (y_55:Sv) (y_56:Int) (y_57:Int) (y_58:Sv) (y_59:Int),cl h96 p10=some (Value.int .i64 y_54)∧cl h96 (p10.add 1)=some (Value.slice y_55.a y_55.n y_55.c)∧cl h96 (p10.add 2)=some (Value.int .i64 y_56)∧cl h96 (p10.add 3)=some (Value.int .i64 y_57)∧cl h96 (p10.add 4)=some (Value.slice y_58.a y_58.n y_58.c)∧cl h96 (p10.add 5)=some (Value.int .i64 y_59) ∧
           R (.tuple #[Value.agg #[Value.int .i64 y_54,Value.slice y_55.a y_55.n y_55.c,Value.int .i64 y_56,Value.int .i64 y_57,Value.slice y_58.a y_58.n y_58.c,Value.int .i64 y_59],Value.int .i64 0,Value.bool true]) h96))))))))))))
set_option maxRecDepth 100000 in
theorem F21 {vh0 x1 o2 o2_1 o2_2 o2_3 o2_4 o2_5 o2_6 o2_7 o2_8 o2_9 o2_10 o2_11 p3 p3_1 p3_2 p3_3 p3_4 p3_5 tags4 h:_} {R:Value→Heap→Prop} (H:L21 vh0 x1 o2 o2_1 o2_2 o2_3 o2_4 o2_5 o2_6 o2_7 o2_8 o2_9 o2_10 o2_11 p3 p3_1 p3_2 p3_3 p3_4 p3_5 tags4 h R):CallsH Try.prog 21 #[Value.pointer vh0,Value.pointer x1,Value.agg #[Value.int .i64 o2,Value.int .i64 o2_1,Value.int .i64 o2_2,Value.slice o2_3.a o2_3.n o2_3.c,Value.int .i64 o2_4,Value.int .u64 o2_5,Value.string o2_6,Value.slice o2_7.a o2_7.n o2_7.c,Value.int .i64 o2_8,Value.slice o2_9.a o2_9.n o2_9.c,Value.int .i64 o2_10,Value.int .i64 o2_11],Value.agg #[Value.int .i64 p3,Value.slice p3_1.a p3_1.n p3_1.c,Value.int .i64 p3_2,Value.int .i64 p3_3,Value.slice p3_4.a p3_4.n p3_4.c,Value.int .i64 p3_5],Value.bool tags4] h R:=by
 refine CallsH.enter (n:=318) Try.func21 rfl rfl rfl rfl ?_
 intro w0 aa ww S
 unfold L21 at H
 refine W.seq ?_
 refine W.region ?_
 refine ol_box S H rfl rfl rfl trivial ?_
 clear S H;intro p7 aa ww h1 H S
 refine ol_box S H rfl rfl rfl trivial ?_
 clear S H;intro p8 aa ww h2 H S
 refine ol_alloc S H ti58 rfl rfl trivial ?_
 clear S H;intro p10 aa ww h3 H S
 refine OL.za S fun _ S=>?_
 refine OL.za S fun _ S=>?_
 refine OL.nil ?_
 refine W.seq ?_
 replace S:=S.sub [(0,Value.pointer vh0),(1,Value.pointer x1),(4,Value.bool tags4),(7,Value.pointer (some p7)),(8,Value.pointer (some p8)),(10,Value.pointer (some p10))] ⟨rfl,rfl,rfl,rfl,rfl,rfl,trivial⟩
 obtain⟨J,H,HK⟩:=H
 refine W.mono (N':=fun aa ww=>∃a13 b14 h12,St 318 [(0,Value.pointer vh0),(1,Value.pointer x1),(4,Value.bool tags4),(7,Value.pointer (some p7)),(8,Value.pointer (some p8)),(10,Value.pointer (some p10)),(13,Value.pointer (some a13)),(14,Value.pointer (some b14))] h12 w0 aa ww∧J a13 b14 h12) ?_ ?_
 ·
  obtain⟨Sq,HS,H⟩:=H
  refine W.regionN [1,3] [4,5,6,7] Sq S (by kernel_rfl) ?_
  clear S;intro ww S
  refine BN.pure 0 S (fun _=>HS) rfl (by kernel_rfl) (by kernel_rfl) (fun _=>Lf.run_fa (S.ev rfl) fa58_0) rfl rfl trivial fun _ S=>?_
  refine BN.pure 2 S (fun _=>HS) rfl (by kernel_rfl) (by kernel_rfl) (fun _=>Lf.run_fa (S.ev rfl) fa58_1) rfl rfl trivial fun _ S=>?_
  obtain⟨y43,y43_1,y43_2,c_5,c_6,c_7,H⟩:=H
  refine BN.held 1 S HS rfl (by kernel_rfl) (fun _ hq=>Lf.run_ldA (cs:=[Value.int .i64 y43,Value.slice y43_1.a y43_1.n y43_1.c,Value.int .i64 y43_2]) (S.ev rfl) ag28 ti28 (hlRow hq fun h_ hs_=>⟨c_5 h_ hs_,c_6 h_ hs_,c_7 h_ hs_,trivial⟩)) rfl rfl trivial fun _ S=>?_
  obtain⟨y45,y45_1,y45_2,c_2,c_3,c_4,H⟩:=H
  refine BN.held 3 S HS rfl (by kernel_rfl) (fun _ hq=>Lf.run_ldA (cs:=[Value.int .i64 y45,Value.slice y45_1.a y45_1.n y45_1.c,Value.int .i64 y45_2]) (S.ev rfl) ag28 ti28 (hlRow hq fun h_ hs_=>⟨c_2 h_ hs_,c_3 h_ hs_,c_4 h_ hs_,trivial⟩)) rfl rfl trivial fun _ S=>?_
  refine BN.effs [4,5] (by kernel_rfl) rfl ⟨⟨_,rfl,?_⟩,⟨_,rfl,?_⟩,trivial⟩
  ·
   replace H:=H.1
   refine ol_alloc S H ti28 rfl rfl trivial ?_
   clear S H;intro p13 aa ww h4 H S
   refine OL.nil ?_
   clear HS;obtain⟨HS,H⟩:=H
   refine⟨fun _=>by rw[S.heap];exact HS,?_⟩
   refine BN.eff 5 rfl (by kernel_rfl) ?_
   refine ol_alloc S H ti28 rfl rfl trivial ?_
   clear S H;intro p14 aa ww h5 H S
   refine OL.nil ?_
   clear HS;obtain⟨HS,H⟩:=H
   refine⟨fun _=>by rw[S.heap];exact HS,?_⟩
   refine BN.eff 6 rfl (by kernel_rfl) ?_
   refine ol_stoA S H rfl rfl ti28 trivial ?_
   clear S H;intro aa ww h6 H S
   refine OL.nil ?_
   clear HS;obtain⟨HS,H⟩:=H
   refine⟨fun _=>by rw[S.heap];exact HS,?_⟩
   refine BN.eff 7 rfl (by kernel_rfl) ?_
   refine ol_stoA S H rfl rfl ti28 trivial ?_
   clear S H;intro aa ww h7 H S
   refine OL.nil ?_
   refine⟨noNeed (by kernel_rfl),?_⟩
   refine BN.done (by kernel_rfl) ?_
   exact⟨p13,p14,h7,S.sub _ ⟨rfl,rfl,rfl,rfl,rfl,rfl,rfl,rfl,trivial⟩,H⟩
  ·
   replace H:=H.2
   refine ol_alloc S H ti28 rfl rfl trivial ?_
   clear S H;intro p14_1 aa ww h8 H S
   refine OL.nil ?_
   clear HS;obtain⟨HS,H⟩:=H
   refine⟨fun _=>by rw[S.heap];exact HS,?_⟩
   refine BN.eff 4 rfl (by kernel_rfl) ?_
   refine ol_alloc S H ti28 rfl rfl trivial ?_
   clear S H;intro p13_1 aa ww h9 H S
   refine OL.nil ?_
   clear HS;obtain⟨HS,H⟩:=H
   refine⟨fun _=>by rw[S.heap];exact HS,?_⟩
   refine BN.eff 6 rfl (by kernel_rfl) ?_
   refine ol_stoA S H rfl rfl ti28 trivial ?_
   clear S H;intro aa ww h10 H S
   refine OL.nil ?_
   clear HS;obtain⟨HS,H⟩:=H
   refine⟨fun _=>by rw[S.heap];exact HS,?_⟩
   refine BN.eff 7 rfl (by kernel_rfl) ?_
   refine ol_stoA S H rfl rfl ti28 trivial ?_
   clear S H;intro aa ww h11 H S
   refine OL.nil ?_
   refine⟨noNeed (by kernel_rfl),?_⟩
   refine BN.done (by kernel_rfl) ?_
   exact⟨p13_1,p14_1,h11,S.sub _ ⟨rfl,rfl,rfl,rfl,rfl,rfl,rfl,rfl,trivial⟩,H⟩
 ·
  clear H S
  rintro aa ww ⟨a13,b14,h12,S,HJ⟩
  have H:=HK _ _ _ HJ
  clear HK HJ
  refine W.seq ?_
  replace S:=S.sub [(0,Value.pointer vh0),(1,Value.pointer x1),(4,Value.bool tags4),(7,Value.pointer (some p7)),(8,Value.pointer (some p8)),(10,Value.pointer (some p10)),(13,Value.pointer (some a13)),(14,Value.pointer (some b14))] ⟨rfl,rfl,rfl,rfl,rfl,rfl,rfl,rfl,trivial⟩
  obtain⟨Sq_1,HS_1,H⟩:=H
  refine W.regionN [5] [0,3,6,8] Sq_1 S (by kernel_rfl) ?_
  clear S;intro ww S
  refine BN.pure 1 S (fun _=>HS_1) rfl (by kernel_rfl) (by kernel_rfl) (fun _=>Lf.run_fa (S.ev rfl) fa28_1) rfl rfl trivial fun _ S=>?_
  obtain⟨x48,c_8,H⟩:=H
  refine BN.load 2 S (fun _=>HS_1) rfl (by kernel_rfl) (by kernel_rfl) (fun _ hx=>Lf.run_ld (S.ev rfl) fl26 (hx.cell _ _ (S.cl c_8))) rfl rfl trivial fun _ S=>?_
  refine BN.pure 4 S (fun _=>HS_1) rfl (by kernel_rfl) (by kernel_rfl) (fun _=>Lf.run_fa (S.ev rfl) fa61_3) rfl rfl trivial fun _ S=>?_
  obtain⟨x51,c_9,H⟩:=H
  refine BN.held 5 S HS_1 rfl (by kernel_rfl) (fun _ hq=>Lf.run_ld (S.ev rfl) fl26 (c_9 _ hq)) rfl rfl trivial fun _ S=>?_
  refine BN.eff 0 rfl (by kernel_rfl) ?_
  refine ol_newS0 S H Try.underlying26 ti3 rfl rfl trivial ?_
  clear S H;intro s46 aa ww h13 H S
  refine OL.nil ?_
  clear HS_1;obtain⟨HS_1,H⟩:=H
  refine⟨fun _=>by rw[S.heap];exact HS_1,?_⟩
  refine BN.eff 3 rfl (by kernel_rfl) ?_
  refine ol_appS S H Try.underlying26 ti3 rfl rfl rfl trivial ?_
  clear S H;intro s49 aa ww h14 H S
  refine OL.nil ?_
  clear HS_1;obtain⟨HS_1,H⟩:=H
  refine⟨fun _=>by rw[S.heap];exact HS_1,?_⟩
  refine BN.eff 6 rfl (by kernel_rfl) ?_
  refine ol_appS S H Try.underlying26 ti3 rfl rfl rfl trivial ?_
  clear S H;intro s52 aa ww h15 H S
  refine OL.nil ?_
  refine⟨noNeed (by kernel_rfl),?_⟩
  refine BN.pure 7 S (noNeed (by kernel_rfl)) rfl (by kernel_rfl) (by kernel_rfl) (fun _=>Lf.run_fa (S.ev rfl) fa28_1) rfl rfl trivial fun _ S=>?_
  refine BN.eff 8 rfl (by kernel_rfl) ?_
  refine ol_sto S H rfl rfl rfl ti26 trivial ?_
  clear S H;intro aa ww h16 H S
  refine OL.nil ?_
  refine⟨noNeed (by kernel_rfl),?_⟩
  refine BN.done (by kernel_rfl) ?_
  refine W.seq ?_
  replace S:=S.sub [(0,Value.pointer vh0),(1,Value.pointer x1),(4,Value.bool tags4),(7,Value.pointer (some p7)),(8,Value.pointer (some p8)),(10,Value.pointer (some p10)),(13,Value.pointer (some a13)),(14,Value.pointer (some b14))] ⟨rfl,rfl,rfl,rfl,rfl,rfl,rfl,rfl,trivial⟩
  obtain⟨Sq_2,HS_2,H⟩:=H
  refine W.regionN [5] [0,3,6,8] Sq_2 S (by kernel_rfl) ?_
  clear S;intro ww S
  refine BN.pure 1 S (fun _=>HS_2) rfl (by kernel_rfl) (by kernel_rfl) (fun _=>Lf.run_fa (S.ev rfl) fa28_1) rfl rfl trivial fun _ S=>?_
  obtain⟨x56,c_10,H⟩:=H
  refine BN.load 2 S (fun _=>HS_2) rfl (by kernel_rfl) (by kernel_rfl) (fun _ hx=>Lf.run_ld (S.ev rfl) fl26 (hx.cell _ _ (S.cl c_10))) rfl rfl trivial fun _ S=>?_
  refine BN.pure 4 S (fun _=>HS_2) rfl (by kernel_rfl) (by kernel_rfl) (fun _=>Lf.run_fa (S.ev rfl) fa61_3) rfl rfl trivial fun _ S=>?_
  obtain⟨x59,c_11,H⟩:=H
  refine BN.held 5 S HS_2 rfl (by kernel_rfl) (fun _ hq=>Lf.run_ld (S.ev rfl) fl26 (c_11 _ hq)) rfl rfl trivial fun _ S=>?_
  refine BN.eff 0 rfl (by kernel_rfl) ?_
  refine ol_newS0 S H Try.underlying26 ti3 rfl rfl trivial ?_
  clear S H;intro s54 aa ww h17 H S
  refine OL.nil ?_
  clear HS_2;obtain⟨HS_2,H⟩:=H
  refine⟨fun _=>by rw[S.heap];exact HS_2,?_⟩
  refine BN.eff 3 rfl (by kernel_rfl) ?_
  refine ol_appS S H Try.underlying26 ti3 rfl rfl rfl trivial ?_
  clear S H;intro s57 aa ww h18 H S
  refine OL.nil ?_
  clear HS_2;obtain⟨HS_2,H⟩:=H
  refine⟨fun _=>by rw[S.heap];exact HS_2,?_⟩
  refine BN.eff 6 rfl (by kernel_rfl) ?_
  refine ol_appS S H Try.underlying26 ti3 rfl rfl rfl trivial ?_
  clear S H;intro s60 aa ww h19 H S
  refine OL.nil ?_
  refine⟨noNeed (by kernel_rfl),?_⟩
  refine BN.pure 7 S (noNeed (by kernel_rfl)) rfl (by kernel_rfl) (by kernel_rfl) (fun _=>Lf.run_fa (S.ev rfl) fa28_1) rfl rfl trivial fun _ S=>?_
  refine BN.eff 8 rfl (by kernel_rfl) ?_
  refine ol_sto S H rfl rfl rfl ti26 trivial ?_
  clear S H;intro aa ww h20 H S
  refine OL.nil ?_
  refine⟨noNeed (by kernel_rfl),?_⟩
  refine BN.done (by kernel_rfl) ?_
  refine W.seq ?_
  refine W.seq ?_
  refine W.region ?_
  refine OL.zf S fa61_0 fun _ S=>?_
  obtain⟨x63,c_12,H⟩:=H
  refine OL.zl S fl3 c_12 fun _ S=>?_
  refine OL.nil ?_
  refine W.block ?_
  refine W.seq ?_
  refine W.region ?_
  refine OL.zq S (Lf.run_eql (S.ev rfl) (S.ev rfl)) fun _ S=>?_
  refine OL.za S fun _ S=>?_
  refine OL.nil ?_
  refine W.cond S (b:=(x63 == 0)) rfl (fun hb=>?_) (fun hb=>?_)
  ·
   replace H:=H.1 hb
   refine W.seq ?_
   refine W.region ?_
   refine OL.zm S fun _ S=>?_
   obtain⟨y68,y68_1,y68_2,y68_3,y68_4,y68_5,y68_6,y68_7,y68_8,y68_9,y68_10,y68_11,c_65,c_66,c_67,c_68,c_69,c_70,c_71,c_72,c_73,c_74,c_75,c_76,H⟩:=H
   refine OL.zq S (Lf.run_ldA (cs:=[Value.int .i64 y68,Value.int .i64 y68_1,Value.int .i64 y68_2,Value.slice y68_3.a y68_3.n y68_3.c,Value.int .i64 y68_4,Value.int .u64 y68_5,Value.string y68_6,Value.slice y68_7.a y68_7.n y68_7.c,Value.int .i64 y68_8,Value.slice y68_9.a y68_9.n y68_9.c,Value.int .i64 y68_10,Value.int .i64 y68_11]) (S.ev rfl) ag61 ti61 (by rw[S.heap];exact RowL.toRow ⟨c_65,c_66,c_67,c_68,c_69,c_70,c_71,c_72,c_73,c_74,c_75,c_76,trivial⟩)) fun _ S=>?_
   refine OL.zf S fa58_0 fun _ S=>?_
   obtain⟨y70,y70_1,y70_2,c_62,c_63,c_64,H⟩:=H
   refine OL.zq S (Lf.run_ldA (cs:=[Value.int .i64 y70,Value.slice y70_1.a y70_1.n y70_1.c,Value.int .i64 y70_2]) (S.ev rfl) ag28 ti28 (by rw[S.heap];exact RowL.toRow ⟨c_62,c_63,c_64,trivial⟩)) fun _ S=>?_
   refine ol_cal S H isfn36 rfl rfl trivial ?_
   clear S H;intro u aa ww h21 H S
   obtain⟨y71,y71_1,y71_2,y71_3,y71_4,y71_5,y71_6,rfl,H⟩:=H
   refine ol_cal S H isfn10 rfl rfl trivial ?_
   clear S H;intro u_1 aa ww h22 H S
   obtain⟨y72,y72_1,y72_2,x72,rfl,H⟩:=H
   refine OL.zm S fun _ S=>?_
   refine OL.zq S (Lf.run_ex (S.ev rfl) rfl) fun _ S=>?_
   refine OL.zq S (Lf.run_ex (S.ev rfl) rfl) fun _ S=>?_
   refine ol_alloc S H ti28 rfl rfl trivial ?_
   clear S H;intro p15 aa ww h23 H S
   refine ol_stoA S H rfl rfl ti28 trivial ?_
   clear S H;intro aa ww h24 H S
   refine OL.za S fun _ S=>?_
   refine OL.nil ?_
   refine W.seq ?_
   refine W.region ?_
   refine OL.zm S fun _ S=>?_
   obtain⟨y77,y77_1,y77_2,y77_3,y77_4,y77_5,y77_6,y77_7,y77_8,y77_9,y77_10,y77_11,c_50,c_51,c_52,c_53,c_54,c_55,c_56,c_57,c_58,c_59,c_60,c_61,H⟩:=H
   refine OL.zq S (Lf.run_ldA (cs:=[Value.int .i64 y77,Value.int .i64 y77_1,Value.int .i64 y77_2,Value.slice y77_3.a y77_3.n y77_3.c,Value.int .i64 y77_4,Value.int .u64 y77_5,Value.string y77_6,Value.slice y77_7.a y77_7.n y77_7.c,Value.int .i64 y77_8,Value.slice y77_9.a y77_9.n y77_9.c,Value.int .i64 y77_10,Value.int .i64 y77_11]) (S.ev rfl) ag61 ti61 (by rw[S.heap];exact RowL.toRow ⟨c_50,c_51,c_52,c_53,c_54,c_55,c_56,c_57,c_58,c_59,c_60,c_61,trivial⟩)) fun _ S=>?_
   refine OL.zf S fa58_1 fun _ S=>?_
   obtain⟨y79,y79_1,y79_2,c_47,c_48,c_49,H⟩:=H
   refine OL.zq S (Lf.run_ldA (cs:=[Value.int .i64 y79,Value.slice y79_1.a y79_1.n y79_1.c,Value.int .i64 y79_2]) (S.ev rfl) ag28 ti28 (by rw[S.heap];exact RowL.toRow ⟨c_47,c_48,c_49,trivial⟩)) fun _ S=>?_
   refine ol_cal S H isfn36 rfl rfl trivial ?_
   clear S H;intro u_2 aa ww h25 H S
   obtain⟨y80,y80_1,y80_2,y80_3,y80_4,y80_5,y80_6,rfl,H⟩:=H
   refine ol_cal S H isfn40 rfl rfl trivial ?_
   clear S H;intro u_3 aa ww h26 H S
   obtain⟨y81,y81_1,y81_2,x81,rfl,H⟩:=H
   refine OL.zm S fun _ S=>?_
   refine OL.zq S (Lf.run_ex (S.ev rfl) rfl) fun _ S=>?_
   refine OL.zq S (Lf.run_ex (S.ev rfl) rfl) fun _ S=>?_
   refine ol_alloc S H ti28 rfl rfl trivial ?_
   clear S H;intro p17 aa ww h27 H S
   refine ol_stoA S H rfl rfl ti28 trivial ?_
   clear S H;intro aa ww h28 H S
   refine OL.za S fun _ S=>?_
   refine OL.nil ?_
   refine W.seq ?_
   replace S:=S.sub [(4,Value.bool tags4),(10,Value.pointer (some p10)),(15,Value.pointer (some p15)),(16,Value.bool x72),(17,Value.pointer (some p17)),(18,Value.bool x81)] ⟨rfl,rfl,rfl,rfl,rfl,rfl,trivial⟩
   obtain⟨J_1,H,HK_1⟩:=H
   refine W.mono (N':=fun aa ww=>∃x11 x12 h32,St 318 [(10,Value.pointer (some p10)),(11,Value.int .i64 x11),(12,Value.bool x12)] h32 w0 aa ww∧J_1 x11 x12 h32) ?_ ?_
   ·
    obtain⟨Sq_3,HS_3,H⟩:=H
    refine W.regionN [0,1] [10,12] Sq_3 S (by kernel_rfl) ?_
    clear S;intro ww S
    refine BN.pure 3 S (fun _=>HS_3) rfl (by kernel_rfl) (by kernel_rfl) (fun _=>Lf.run_move (S.ev rfl)) rfl rfl trivial fun _ S=>?_
    refine BN.pure 4 S (fun _=>HS_3) rfl (by kernel_rfl) (by kernel_rfl) (fun _=>Lf.run_move (S.ev rfl)) rfl rfl trivial fun _ S=>?_
    refine BN.pure 5 S (fun _=>HS_3) rfl (by kernel_rfl) (by kernel_rfl) (fun _=>Lf.run_eqlb Try.underlying4 (S.ev rfl) (S.ev rfl)) rfl rfl trivial fun _ S=>?_
    refine BN.pure 6 S (fun _=>HS_3) rfl (by kernel_rfl) (by kernel_rfl) (fun _=>Lf.run_move (S.ev rfl)) rfl rfl trivial fun _ S=>?_
    rcases Bool.eq_false_or_eq_true (x72 == x81) with hb_1|hb_1
    ·
     replace H:=H.1 hb_1
     refine BN.pure 9 S (fun _=>HS_3) rfl (by kernel_rfl) (by kernel_rfl) (fun _=>Lf.run_move (S.ev rfl)) rfl rfl (GOk.mk rfl rfl hb_1) fun _ S=>?_
     obtain⟨y84,y84_1,y84_2,c_30,c_31,c_32,H⟩:=H
     refine BN.held 0 S HS_3 rfl (by kernel_rfl) (fun _ hq=>Lf.run_ldA (cs:=[Value.int .i64 y84,Value.slice y84_1.a y84_1.n y84_1.c,Value.int .i64 y84_2]) (S.ev rfl) ag28 ti28 (hlRow hq fun h_ hs_=>⟨c_30 h_ hs_,c_31 h_ hs_,c_32 h_ hs_,trivial⟩)) rfl rfl trivial fun _ S=>?_
     obtain⟨y85,y85_1,y85_2,c_27,c_28,c_29,H⟩:=H
     refine BN.held 1 S HS_3 rfl (by kernel_rfl) (fun _ hq=>Lf.run_ldA (cs:=[Value.int .i64 y85,Value.slice y85_1.a y85_1.n y85_1.c,Value.int .i64 y85_2]) (S.ev rfl) ag28 ti28 (hlRow hq fun h_ hs_=>⟨c_27 h_ hs_,c_28 h_ hs_,c_29 h_ hs_,trivial⟩)) rfl rfl trivial fun _ S=>?_
     refine BN.pure 2 S (fun _=>HS_3) rfl (by kernel_rfl) (by kernel_rfl) (fun _=>Lf.run_build (cs:=#[Value.int .i64 y84,Value.slice y84_1.a y84_1.n y84_1.c,Value.int .i64 y84_2,Value.int .i64 y85,Value.slice y85_1.a y85_1.n y85_1.c,Value.int .i64 y85_2]) pl58 ti58 (parts_map S rfl) (by kernel_rfl)) rfl rfl trivial fun _ S=>?_
     obtain⟨y91,y91_1,y91_2,c_24,c_25,c_26,H⟩:=H
     refine BN.load 7 S (fun _=>HS_3) rfl (by kernel_rfl) (by kernel_rfl) (fun _ hx=>Lf.run_ldA (cs:=[Value.int .i64 y91,Value.slice y91_1.a y91_1.n y91_1.c,Value.int .i64 y91_2]) (S.ev rfl) ag28 ti28 (hx.row (S.row ⟨c_24,c_25,c_26,trivial⟩))) rfl rfl (GOk.mk rfl rfl hb_1) fun _ S=>?_
     obtain⟨y92,y92_1,y92_2,c_21,c_22,c_23,H⟩:=H
     refine BN.load 8 S (fun _=>HS_3) rfl (by kernel_rfl) (by kernel_rfl) (fun _ hx=>Lf.run_ldA (cs:=[Value.int .i64 y92,Value.slice y92_1.a y92_1.n y92_1.c,Value.int .i64 y92_2]) (S.ev rfl) ag28 ti28 (hx.row (S.row ⟨c_21,c_22,c_23,trivial⟩))) rfl rfl (GOk.mk rfl rfl hb_1) fun _ S=>?_
     refine BN.eff 10 rfl (by kernel_rfl) ?_
     refine ol_cal S H isfn41 rfl rfl (GOk.mk rfl rfl hb_1) ?_
     clear S H;intro u_4 aa ww h29 H S
     obtain⟨x94,rfl,H⟩:=H
     refine OL.nil ?_
     clear HS_3;obtain⟨HS_3,H⟩:=H
     refine⟨fun _=>by rw[S.heap];exact HS_3,?_⟩
     refine BN.pure 11 S (fun _=>HS_3) rfl (by kernel_rfl) (by kernel_rfl) (fun _=>run_pickT (S.ev rfl) hb_1 (S.ev rfl)) rfl rfl trivial fun _ S=>?_
     refine BN.eff 12 rfl (by kernel_rfl) ?_
     refine ol_stoA S H rfl rfl ti58 trivial ?_
     clear S H;intro aa ww h30 H S
     refine OL.nil ?_
     refine⟨noNeed (by kernel_rfl),?_⟩
     refine BN.pure 13 S (noNeed (by kernel_rfl)) rfl (by kernel_rfl) (by kernel_rfl) (fun _=>Lf.run_assign (S.ev rfl)) rfl rfl trivial fun _ S=>?_
     refine BN.pure 14 S (noNeed (by kernel_rfl)) rfl (by kernel_rfl) (by kernel_rfl) (fun _=>Lf.run_assign (S.ev rfl)) rfl rfl trivial fun _ S=>?_
     refine BN.done (by kernel_rfl) ?_
     exact⟨0,x94,h30,S.sub _ ⟨rfl,rfl,rfl,trivial⟩,H⟩
    ·
     replace H:=H.2 hb_1
     refine BN.not 7 S (fun _=>HS_3) rfl (by kernel_rfl) (by kernel_rfl) rfl rfl (GNo.mk rfl rfl hb_1) fun _ S=>?_
     refine BN.not 8 S (fun _=>HS_3) rfl (by kernel_rfl) (by kernel_rfl) rfl rfl (GNo.mk rfl rfl hb_1) fun _ S=>?_
     refine BN.not 9 S (fun _=>HS_3) rfl (by kernel_rfl) (by kernel_rfl) rfl rfl (GNo.mk rfl rfl hb_1) fun _ S=>?_
     obtain⟨y84_3,y84_4,y84_5,c_38,c_39,c_40,H⟩:=H
     refine BN.held 0 S HS_3 rfl (by kernel_rfl) (fun _ hq=>Lf.run_ldA (cs:=[Value.int .i64 y84_3,Value.slice y84_4.a y84_4.n y84_4.c,Value.int .i64 y84_5]) (S.ev rfl) ag28 ti28 (hlRow hq fun h_ hs_=>⟨c_38 h_ hs_,c_39 h_ hs_,c_40 h_ hs_,trivial⟩)) rfl rfl trivial fun _ S=>?_
     obtain⟨y85_3,y85_4,y85_5,c_35,c_36,c_37,H⟩:=H
     refine BN.held 1 S HS_3 rfl (by kernel_rfl) (fun _ hq=>Lf.run_ldA (cs:=[Value.int .i64 y85_3,Value.slice y85_4.a y85_4.n y85_4.c,Value.int .i64 y85_5]) (S.ev rfl) ag28 ti28 (hlRow hq fun h_ hs_=>⟨c_35 h_ hs_,c_36 h_ hs_,c_37 h_ hs_,trivial⟩)) rfl rfl trivial fun _ S=>?_
     refine BN.pure 2 S (fun _=>HS_3) rfl (by kernel_rfl) (by kernel_rfl) (fun _=>Lf.run_build (cs:=#[Value.int .i64 y84_3,Value.slice y84_4.a y84_4.n y84_4.c,Value.int .i64 y84_5,Value.int .i64 y85_3,Value.slice y85_4.a y85_4.n y85_4.c,Value.int .i64 y85_5]) pl58 ti58 (parts_map S rfl) (by kernel_rfl)) rfl rfl trivial fun _ S=>?_
     refine BN.eff 10 rfl (by kernel_rfl) ?_
     refine OL.zn S (GNo.mk rfl rfl hb_1) fun _ S=>?_
     refine OL.nil ?_
     refine⟨fun _=>by rw[S.heap];exact HS_3,?_⟩
     refine BN.pure 11 S (fun _=>HS_3) rfl (by kernel_rfl) (by kernel_rfl) (fun _=>run_pickF (S.ev rfl) hb_1 (S.ev rfl)) rfl rfl trivial fun _ S=>?_
     refine BN.eff 12 rfl (by kernel_rfl) ?_
     refine ol_stoA S H rfl rfl ti58 trivial ?_
     clear S H;intro aa ww h31 H S
     refine OL.nil ?_
     refine⟨noNeed (by kernel_rfl),?_⟩
     refine BN.pure 13 S (noNeed (by kernel_rfl)) rfl (by kernel_rfl) (by kernel_rfl) (fun _=>Lf.run_assign (S.ev rfl)) rfl rfl trivial fun _ S=>?_
     refine BN.pure 14 S (noNeed (by kernel_rfl)) rfl (by kernel_rfl) (by kernel_rfl) (fun _=>Lf.run_assign (S.ev rfl)) rfl rfl trivial fun _ S=>?_
     refine BN.done (by kernel_rfl) ?_
     exact⟨0,false,h31,S.sub _ ⟨rfl,rfl,rfl,trivial⟩,H⟩
   ·
    clear H S
    rintro aa ww ⟨x11,x12,h32,S,HJ⟩
    have H:=HK_1 _ _ _ HJ
    clear HK_1 HJ
    refine W.ret ?_
    obtain⟨y,y_1,y_2,y_3,y_4,y_5,c_41,c_42,c_43,c_44,c_45,c_46,H⟩:=H
    exact Ret.gen S rfl (RV.cellA (cs:=[Value.int .i64 y,Value.slice y_1.a y_1.n y_1.c,Value.int .i64 y_2,Value.int .i64 y_3,Value.slice y_4.a y_4.n y_4.c,Value.int .i64 y_5]) rfl ag58 ti58 ⟨c_41,c_42,c_43,c_44,c_45,c_46,trivial⟩ (RV.tmp rfl (RV.tmp rfl RV.nil))) rfl H
  ·
   replace H:=H.2 hb
   refine W.seq ?_
   refine W.region ?_
   refine OL.zq S (Lf.run_eql (S.ev rfl) (S.ev rfl)) fun _ S=>?_
   refine OL.za S fun _ S=>?_
   refine OL.nil ?_
   refine W.cond S (b:=(x63 == 1)) rfl (fun hb_2=>?_) (fun hb_2=>?_)
   ·
    replace H:=H.1 hb_2
    refine W.seq ?_
    refine W.region ?_
    refine OL.zm S fun _ S=>?_
    refine OL.zf S fa61_1 fun _ S=>?_
    obtain⟨x101,c_77,H⟩:=H
    refine OL.zl S fl3 c_77 fun _ S=>?_
    refine ol_cal S H isfn23 rfl rfl trivial ?_
    clear S H;intro u_5 aa ww h33 H S
    obtain⟨y102,y102_1,y102_2,x102,rfl,H⟩:=H
    refine OL.zm S fun _ S=>?_
    refine OL.zq S (Lf.run_ex (S.ev rfl) rfl) fun _ S=>?_
    refine OL.zq S (Lf.run_ex (S.ev rfl) rfl) fun _ S=>?_
    refine ol_alloc S H ti28 rfl rfl trivial ?_
    clear S H;intro p19 aa ww h34 H S
    refine ol_stoA S H rfl rfl ti28 trivial ?_
    clear S H;intro aa ww h35 H S
    refine OL.za S fun _ S=>?_
    refine OL.nil ?_
    refine W.seq ?_
    refine W.seq ?_
    replace S:=S.sub [(1,Value.pointer x1),(4,Value.bool tags4),(7,Value.pointer (some p7)),(10,Value.pointer (some p10)),(19,Value.pointer (some p19)),(20,Value.int .i64 x102)] ⟨rfl,rfl,rfl,rfl,rfl,rfl,trivial⟩
    obtain⟨J_2,H,HK_2⟩:=H
    refine W.mono (N':=fun aa ww=>∃x129,St 318 [(1,Value.pointer x1),(4,Value.bool tags4),(7,Value.pointer (some p7)),(10,Value.pointer (some p10)),(19,Value.pointer (some p19)),(20,Value.int .i64 x102),(129,Value.bool x129)] h35 w0 aa ww∧J_2 x129) ?_ ?_
    ·
     refine W.regionD S (by kernel_rfl) ?_
     clear S;intro ww S
     refine AN.zq 0 S rfl (fun _=>Lf.run_fa (S.ev rfl) fa61_1) fun _ S=>?_
     obtain⟨x106,c_78,H⟩:=H
     refine AN.zl 1 S rfl (fun _ hx=>Lf.run_ld (S.ev rfl) fl3 (hx.cell _ _ (S.cl c_78))) fun _ S=>?_
     refine AN.zq 2 S rfl (fun _=>Lf.run_lss (S.ev rfl) (S.ev rfl)) fun _ S=>?_
     refine AN.zq 3 S rfl (fun _=>Lf.run_move (S.ev rfl)) fun _ S=>?_
     rcases Bool.eq_false_or_eq_true (decide (x106<0)) with hb_3|hb_3
     ·
      replace H:=H.1 hb_3
      refine AN.zn 4 S rfl (GNo.mk rfl rfl hb_3) fun _ S=>?_
      refine AN.zn 6 S rfl (GNo.mk rfl rfl hb_3) fun _ S=>?_
      refine AN.zn 7 S rfl (GNo.mk rfl rfl hb_3) fun _ S=>?_
      refine AN.zn 8 S rfl (GNo.mk rfl rfl hb_3) fun _ S=>?_
      refine AN.zn 9 S rfl (GNo.mk rfl rfl hb_3) fun _ S=>?_
      refine AN.zn 10 S rfl (GNo.mk rfl rfl hb_3) fun _ S=>?_
      refine AN.zn 5 S rfl (GNo.mk rfl rfl hb_3) fun _ S=>?_
      refine AN.zn 11 S rfl (GNo.mk rfl rfl hb_3) fun _ S=>?_
      refine AN.zq 12 S rfl (fun _=>run_pickT (S.ev rfl) hb_3 (S.ev rfl)) fun _ S=>?_
      refine AN.zq 13 S rfl (fun _=>Lf.run_move (S.ev rfl)) fun _ S=>?_
      have hb_5:(true:Bool)=true:=rfl
      refine AN.zn 14 S rfl (GNo.mk rfl rfl hb_5) fun _ S=>?_
      refine AN.zn 15 S rfl (GNo.mk rfl rfl hb_5) fun _ S=>?_
      refine AN.zn 16 S rfl (GNo.mk rfl rfl hb_5) fun _ S=>?_
      refine AN.zn 17 S rfl (GNo.mk rfl rfl hb_5) fun _ S=>?_
      refine AN.zn 18 S rfl (GNo.mk rfl rfl hb_5) fun _ S=>?_
      refine AN.zn 19 S rfl (GNo.mk rfl rfl hb_5) fun _ S=>?_
      refine AN.zn 20 S rfl (GNo.mk rfl rfl hb_5) fun _ S=>?_
      refine AN.zn 21 S rfl (GNo.mk rfl rfl hb_5) fun _ S=>?_
      refine AN.zn 22 S rfl (GNo.mk rfl rfl hb_5) fun _ S=>?_
      refine AN.zn 23 S rfl (GNo.mk rfl rfl hb_5) fun _ S=>?_
      refine AN.zq 24 S rfl (fun _=>run_pickT (S.ev rfl) hb_5 (S.ev rfl)) fun _ S=>?_
      refine AN.done (by kernel_rfl) ?_
      exact⟨true,S.sub _ ⟨rfl,rfl,rfl,rfl,rfl,rfl,rfl,trivial⟩,H⟩
     ·
      replace H:=H.2 hb_3
      refine AN.zq (hg:=GOk.mk rfl rfl hb_3) 4 S rfl (fun _=>Lf.run_fa (S.ev rfl) fa61_1) fun _ S=>?_
      refine AN.zq (hg:=GOk.mk rfl rfl hb_3) 6 S rfl (fun _=>Lf.run_move (S.ev rfl)) fun _ S=>?_
      obtain⟨p112,e,H⟩:=H
      refine AN.zq (hg:=GOk.mk rfl rfl hb_3) 7 S rfl (fun _=>Lf.run_nc' (S.ev rfl) e) fun _ S=>?_
      refine AN.zq (hg:=GOk.mk rfl rfl hb_3) 8 S rfl (fun _=>Lf.run_fa (S.ev rfl) fa56_0) fun _ S=>?_
      obtain⟨x114,c_79,H⟩:=H
      refine AN.zl (hg:=GOk.mk rfl rfl hb_3) 9 S rfl (fun _ hx=>Lf.run_ld (S.ev rfl) fl54 (hx.cell _ _ (S.cl c_79))) fun _ S=>?_
      refine AN.zq (hg:=GOk.mk rfl rfl hb_3) 10 S rfl (fun _=>Lf.run_lens (S.ev rfl) rfl Try.underlying54) fun _ S=>?_
      obtain⟨x110,c_80,H⟩:=H
      refine AN.zl (hg:=GOk.mk rfl rfl hb_3) 5 S rfl (fun _ hx=>Lf.run_ld (S.ev rfl) fl3 (hx.cell _ _ (S.cl c_80))) fun _ S=>?_
      refine AN.zq (hg:=GOk.mk rfl rfl hb_3) 11 S rfl (fun _=>Lf.run_geq (S.ev rfl) (S.ev rfl)) fun _ S=>?_
      refine AN.zq 12 S rfl (fun _=>run_pickF (S.ev rfl) hb_3 (S.ev rfl)) fun _ S=>?_
      refine AN.zq 13 S rfl (fun _=>Lf.run_move (S.ev rfl)) fun _ S=>?_
      rcases Bool.eq_false_or_eq_true (decide (((x114.n:Nat):Int)≤x110)) with hb_4|hb_4
      ·
       replace H:=H.1 hb_4
       refine AN.zn 14 S rfl (GNo.mk rfl rfl hb_4) fun _ S=>?_
       refine AN.zn 15 S rfl (GNo.mk rfl rfl hb_4) fun _ S=>?_
       refine AN.zn 16 S rfl (GNo.mk rfl rfl hb_4) fun _ S=>?_
       refine AN.zn 17 S rfl (GNo.mk rfl rfl hb_4) fun _ S=>?_
       refine AN.zn 18 S rfl (GNo.mk rfl rfl hb_4) fun _ S=>?_
       refine AN.zn 19 S rfl (GNo.mk rfl rfl hb_4) fun _ S=>?_
       refine AN.zn 20 S rfl (GNo.mk rfl rfl hb_4) fun _ S=>?_
       refine AN.zn 21 S rfl (GNo.mk rfl rfl hb_4) fun _ S=>?_
       refine AN.zn 22 S rfl (GNo.mk rfl rfl hb_4) fun _ S=>?_
       refine AN.zn 23 S rfl (GNo.mk rfl rfl hb_4) fun _ S=>?_
       refine AN.zq 24 S rfl (fun _=>run_pickT (S.ev rfl) hb_4 (S.ev rfl)) fun _ S=>?_
       refine AN.done (by kernel_rfl) ?_
       exact⟨true,S.sub _ ⟨rfl,rfl,rfl,rfl,rfl,rfl,rfl,trivial⟩,H⟩
      ·
       replace H:=H.2 hb_4
       refine AN.zq (hg:=GOk.mk rfl rfl hb_4) 14 S rfl (fun _=>Lf.run_move (S.ev rfl)) fun _ S=>?_
       obtain⟨p120,e_1,H⟩:=H
       refine AN.zq (hg:=GOk.mk rfl rfl hb_4) 15 S rfl (fun _=>Lf.run_nc' (S.ev rfl) e_1) fun _ S=>?_
       refine AN.zq (hg:=GOk.mk rfl rfl hb_4) 16 S rfl (fun _=>Lf.run_fa (S.ev rfl) fa56_0) fun _ S=>?_
       obtain⟨x122,c_81,H⟩:=H
       refine AN.zl (hg:=GOk.mk rfl rfl hb_4) 17 S rfl (fun _ hx=>Lf.run_ld (S.ev rfl) fl54 (hx.cell _ _ (S.cl c_81))) fun _ S=>?_
       refine AN.zq (hg:=GOk.mk rfl rfl hb_4) 18 S rfl (fun _=>Lf.run_fa (S.ev rfl) fa61_1) fun _ S=>?_
       obtain⟨x124,c_82,H⟩:=H
       refine AN.zl (hg:=GOk.mk rfl rfl hb_4) 19 S rfl (fun _ hx=>Lf.run_ld (S.ev rfl) fl3 (hx.cell _ _ (S.cl c_82))) fun _ S=>?_
       obtain⟨q125,e_2,e_3,e_4,H⟩:=H
       refine AN.zq (hg:=GOk.mk rfl rfl hb_4) 20 S rfl (fun _=>Lf.run_ixs (S.ev rfl) (S.ev rfl) Try.underlying54 ti89 e_2 e_3 e_4) fun _ S=>?_
       refine AN.zq (hg:=GOk.mk rfl rfl hb_4) 21 S rfl (fun _=>Lf.run_fa (S.ev rfl) fa89_0) fun _ S=>?_
       obtain⟨x127,c_83,H⟩:=H
       refine AN.zl (hg:=GOk.mk rfl rfl hb_4) 22 S rfl (fun _ hx=>Lf.run_ld (S.ev rfl) fl4 (hx.cell _ _ (S.cl c_83))) fun _ S=>?_
       refine AN.zq (hg:=GOk.mk rfl rfl hb_4) 23 S rfl (fun _=>Lf.run_not (S.ev rfl)) fun _ S=>?_
       refine AN.zq 24 S rfl (fun _=>run_pickF (S.ev rfl) hb_4 (S.ev rfl)) fun _ S=>?_
       refine AN.done (by kernel_rfl) ?_
       exact⟨(!x127),S.sub _ ⟨rfl,rfl,rfl,rfl,rfl,rfl,rfl,trivial⟩,H⟩
    ·
     clear H S
     rintro aa ww ⟨x129,S,HJ⟩
     have H:=HK_2 _ HJ
     clear HK_2 HJ
     refine W.cond S (b:=x129) rfl (fun hb_6=>?_) (fun hb_6=>?_)
     ·
      replace H:=H.1 hb_6
      refine W.seq ?_
      replace S:=S.sub [(10,Value.pointer (some p10)),(19,Value.pointer (some p19)),(20,Value.int .i64 x102)] ⟨rfl,rfl,rfl,trivial⟩
      obtain⟨J_3,H,HK_3⟩:=H
      refine W.mono (N':=fun aa ww=>∃x11_1 x12_1 h39,St 318 [(10,Value.pointer (some p10)),(11,Value.int .i64 x11_1),(12,Value.bool x12_1)] h39 w0 aa ww∧J_3 x11_1 x12_1 h39) ?_ ?_
      ·
       obtain⟨Sq_4,HS_4,H⟩:=H
       refine W.regionN [0] [9,11] Sq_4 S (by kernel_rfl) ?_
       clear S;intro ww S
       refine BN.pure 1 S (fun _=>HS_4) rfl (by kernel_rfl) (by kernel_rfl) (fun _=>Lf.run_build (cs:=#[Value.int .i64 0,Value.slice (⟨none,0,0⟩:Sv).a (⟨none,0,0⟩:Sv).n (⟨none,0,0⟩:Sv).c,Value.int .i64 0]) pl28 ti28 (parts_map S rfl) (by kernel_rfl)) rfl rfl trivial fun _ S=>?_
       refine BN.pure 3 S (fun _=>HS_4) rfl (by kernel_rfl) (by kernel_rfl) (fun _=>Lf.run_move (S.ev rfl)) rfl rfl trivial fun _ S=>?_
       refine BN.pure 4 S (fun _=>HS_4) rfl (by kernel_rfl) (by kernel_rfl) (fun _=>Lf.run_move (S.ev rfl)) rfl rfl trivial fun _ S=>?_
       refine BN.pure 5 S (fun _=>HS_4) rfl (by kernel_rfl) (by kernel_rfl) (fun _=>Lf.run_eql (S.ev rfl) (S.ev rfl)) rfl rfl trivial fun _ S=>?_
       refine BN.pure 6 S (fun _=>HS_4) rfl (by kernel_rfl) (by kernel_rfl) (fun _=>Lf.run_move (S.ev rfl)) rfl rfl trivial fun _ S=>?_
       rcases Bool.eq_false_or_eq_true (x102 == 1) with hb_7|hb_7
       ·
        replace H:=H.1 hb_7
        refine BN.pure 8 S (fun _=>HS_4) rfl (by kernel_rfl) (by kernel_rfl) (fun _=>Lf.run_build (cs:=#[Value.int .i64 0,Value.slice (⟨none,0,0⟩:Sv).a (⟨none,0,0⟩:Sv).n (⟨none,0,0⟩:Sv).c,Value.int .i64 0]) pl28 ti28 (parts_map S rfl) (by kernel_rfl)) rfl rfl (GOk.mk rfl rfl hb_7) fun _ S=>?_
        obtain⟨y130,y130_1,y130_2,c_89,c_90,c_91,H⟩:=H
        refine BN.held 0 S HS_4 rfl (by kernel_rfl) (fun _ hq=>Lf.run_ldA (cs:=[Value.int .i64 y130,Value.slice y130_1.a y130_1.n y130_1.c,Value.int .i64 y130_2]) (S.ev rfl) ag28 ti28 (hlRow hq fun h_ hs_=>⟨c_89 h_ hs_,c_90 h_ hs_,c_91 h_ hs_,trivial⟩)) rfl rfl trivial fun _ S=>?_
        refine BN.pure 2 S (fun _=>HS_4) rfl (by kernel_rfl) (by kernel_rfl) (fun _=>Lf.run_build (cs:=#[Value.int .i64 y130,Value.slice y130_1.a y130_1.n y130_1.c,Value.int .i64 y130_2,Value.int .i64 0,Value.slice (⟨none,0,0⟩:Sv).a (⟨none,0,0⟩:Sv).n (⟨none,0,0⟩:Sv).c,Value.int .i64 0]) pl58 ti58 (parts_map S rfl) (by kernel_rfl)) rfl rfl trivial fun _ S=>?_
        obtain⟨y137,y137_1,y137_2,c_86,c_87,c_88,H⟩:=H
        refine BN.load 7 S (fun _=>HS_4) rfl (by kernel_rfl) (by kernel_rfl) (fun _ hx=>Lf.run_ldA (cs:=[Value.int .i64 y137,Value.slice y137_1.a y137_1.n y137_1.c,Value.int .i64 y137_2]) (S.ev rfl) ag28 ti28 (hx.row (S.row ⟨c_86,c_87,c_88,trivial⟩))) rfl rfl (GOk.mk rfl rfl hb_7) fun _ S=>?_
        refine BN.eff 9 rfl (by kernel_rfl) ?_
        refine ol_cal S H isfn41 rfl rfl (GOk.mk rfl rfl hb_7) ?_
        clear S H;intro u_6 aa ww h36 H S
        obtain⟨x139,rfl,H⟩:=H
        refine OL.nil ?_
        clear HS_4;obtain⟨HS_4,H⟩:=H
        refine⟨fun _=>by rw[S.heap];exact HS_4,?_⟩
        refine BN.pure 10 S (fun _=>HS_4) rfl (by kernel_rfl) (by kernel_rfl) (fun _=>run_pickT (S.ev rfl) hb_7 (S.ev rfl)) rfl rfl trivial fun _ S=>?_
        refine BN.eff 11 rfl (by kernel_rfl) ?_
        refine ol_stoA S H rfl rfl ti58 trivial ?_
        clear S H;intro aa ww h37 H S
        refine OL.nil ?_
        refine⟨noNeed (by kernel_rfl),?_⟩
        refine BN.pure 12 S (noNeed (by kernel_rfl)) rfl (by kernel_rfl) (by kernel_rfl) (fun _=>Lf.run_assign (S.ev rfl)) rfl rfl trivial fun _ S=>?_
        refine BN.pure 13 S (noNeed (by kernel_rfl)) rfl (by kernel_rfl) (by kernel_rfl) (fun _=>Lf.run_assign (S.ev rfl)) rfl rfl trivial fun _ S=>?_
        refine BN.done (by kernel_rfl) ?_
        exact⟨x102,x139,h37,S.sub _ ⟨rfl,rfl,rfl,trivial⟩,H⟩
       ·
        replace H:=H.2 hb_7
        refine BN.not 7 S (fun _=>HS_4) rfl (by kernel_rfl) (by kernel_rfl) rfl rfl (GNo.mk rfl rfl hb_7) fun _ S=>?_
        refine BN.not 8 S (fun _=>HS_4) rfl (by kernel_rfl) (by kernel_rfl) rfl rfl (GNo.mk rfl rfl hb_7) fun _ S=>?_
        obtain⟨y130_3,y130_4,y130_5,c_93,c_94,c_95,H⟩:=H
        refine BN.held 0 S HS_4 rfl (by kernel_rfl) (fun _ hq=>Lf.run_ldA (cs:=[Value.int .i64 y130_3,Value.slice y130_4.a y130_4.n y130_4.c,Value.int .i64 y130_5]) (S.ev rfl) ag28 ti28 (hlRow hq fun h_ hs_=>⟨c_93 h_ hs_,c_94 h_ hs_,c_95 h_ hs_,trivial⟩)) rfl rfl trivial fun _ S=>?_
        refine BN.pure 2 S (fun _=>HS_4) rfl (by kernel_rfl) (by kernel_rfl) (fun _=>Lf.run_build (cs:=#[Value.int .i64 y130_3,Value.slice y130_4.a y130_4.n y130_4.c,Value.int .i64 y130_5,Value.int .i64 0,Value.slice (⟨none,0,0⟩:Sv).a (⟨none,0,0⟩:Sv).n (⟨none,0,0⟩:Sv).c,Value.int .i64 0]) pl58 ti58 (parts_map S rfl) (by kernel_rfl)) rfl rfl trivial fun _ S=>?_
        refine BN.eff 9 rfl (by kernel_rfl) ?_
        refine OL.zn S (GNo.mk rfl rfl hb_7) fun _ S=>?_
        refine OL.nil ?_
        refine⟨fun _=>by rw[S.heap];exact HS_4,?_⟩
        refine BN.pure 10 S (fun _=>HS_4) rfl (by kernel_rfl) (by kernel_rfl) (fun _=>run_pickF (S.ev rfl) hb_7 (S.ev rfl)) rfl rfl trivial fun _ S=>?_
        refine BN.eff 11 rfl (by kernel_rfl) ?_
        refine ol_stoA S H rfl rfl ti58 trivial ?_
        clear S H;intro aa ww h38 H S
        refine OL.nil ?_
        refine⟨noNeed (by kernel_rfl),?_⟩
        refine BN.pure 12 S (noNeed (by kernel_rfl)) rfl (by kernel_rfl) (by kernel_rfl) (fun _=>Lf.run_assign (S.ev rfl)) rfl rfl trivial fun _ S=>?_
        refine BN.pure 13 S (noNeed (by kernel_rfl)) rfl (by kernel_rfl) (by kernel_rfl) (fun _=>Lf.run_assign (S.ev rfl)) rfl rfl trivial fun _ S=>?_
        refine BN.done (by kernel_rfl) ?_
        exact⟨x102,false,h38,S.sub _ ⟨rfl,rfl,rfl,trivial⟩,H⟩
      ·
       clear H S
       rintro aa ww ⟨x11_1,x12_1,h39,S,HJ⟩
       have H:=HK_3 _ _ _ HJ
       clear HK_3 HJ
       refine W.ret ?_
       obtain⟨y_6,y_7,y_8,y_9,y_10,y_11,c_96,c_97,c_98,c_99,c_100,c_101,H⟩:=H
       exact Ret.gen S rfl (RV.cellA (cs:=[Value.int .i64 y_6,Value.slice y_7.a y_7.n y_7.c,Value.int .i64 y_8,Value.int .i64 y_9,Value.slice y_10.a y_10.n y_10.c,Value.int .i64 y_11]) rfl ag58 ti58 ⟨c_96,c_97,c_98,c_99,c_100,c_101,trivial⟩ (RV.tmp rfl (RV.tmp rfl RV.nil))) rfl H
     ·
      replace H:=H.2 hb_6
      refine W.skip ?_
      refine W.seq ?_
      refine W.region ?_
      refine OL.zf S fa61_1 fun _ S=>?_
      obtain⟨x142,c_102,H⟩:=H
      refine OL.zl S fl3 c_102 fun _ S=>?_
      refine OL.zq S (Lf.run_build (cs:=#[Value.int .i64 x142,Value.slice (⟨none,0,0⟩:Sv).a (⟨none,0,0⟩:Sv).n (⟨none,0,0⟩:Sv).c,Value.int .i64 0]) pl28 ti28 (parts_map S rfl) (by kernel_rfl)) fun _ S=>?_
      refine ol_alloc S H ti28 rfl rfl trivial ?_
      clear S H;intro p21 aa ww h40 H S
      refine ol_stoA S H rfl rfl ti28 trivial ?_
      clear S H;intro aa ww h41 H S
      refine OL.nil ?_
      obtain⟨J_4,H,HK_4⟩:=H
      refine W.seqJ (fun aa ww=>∃h43,St 318 [(4,Value.bool tags4),(10,Value.pointer (some p10)),(19,Value.pointer (some p19)),(20,Value.int .i64 x102),(21,Value.pointer (some p21))] h43 w0 aa ww∧J_4 h43) ?_ ?_
      ·
       clear HK_4
       refine W.seq ?_
       refine W.region ?_
       refine OL.zm S fun _ S=>?_
       obtain⟨p145,e_5,H⟩:=H
       refine OL.zq S (Lf.run_nc' (S.ev rfl) e_5) fun _ S=>?_
       refine OL.zf S fa56_3 fun _ S=>?_
       obtain⟨x147,c_103,H⟩:=H
       refine OL.zl S fl4 c_103 fun _ S=>?_
       refine OL.nil ?_
       refine W.cond S (b:=x147) rfl (fun hb_8=>?_) (fun hb_8=>?_)
       ·
        replace H:=H.1 hb_8
        replace S:=S.sub [(1,Value.pointer x1),(4,Value.bool tags4),(7,Value.pointer (some p7)),(10,Value.pointer (some p10)),(19,Value.pointer (some p19)),(20,Value.int .i64 x102),(21,Value.pointer (some p21))] ⟨rfl,rfl,rfl,rfl,rfl,rfl,rfl,trivial⟩
        refine W.regionD S (by kernel_rfl) ?_
        clear S;intro ww S
        refine AN.zq 0 S rfl (fun _=>Lf.run_move (S.ev rfl)) fun _ S=>?_
        obtain⟨p149,e_6,H⟩:=H
        refine AN.zq 1 S rfl (fun _=>Lf.run_nc' (S.ev rfl) e_6) fun _ S=>?_
        refine AN.zq 2 S rfl (fun _=>Lf.run_fa (S.ev rfl) fa56_0) fun _ S=>?_
        obtain⟨x151,c_104,H⟩:=H
        refine AN.zl 3 S rfl (fun _ hx=>Lf.run_ld (S.ev rfl) fl54 (hx.cell _ _ (S.cl c_104))) fun _ S=>?_
        refine AN.zq 4 S rfl (fun _=>Lf.run_fa (S.ev rfl) fa61_1) fun _ S=>?_
        obtain⟨x153,c_105,H⟩:=H
        refine AN.zl 5 S rfl (fun _ hx=>Lf.run_ld (S.ev rfl) fl3 (hx.cell _ _ (S.cl c_105))) fun _ S=>?_
        obtain⟨q154,e_7,e_8,e_9,H⟩:=H
        refine AN.zq 6 S rfl (fun _=>Lf.run_ixs (S.ev rfl) (S.ev rfl) Try.underlying54 ti89 e_7 e_8 e_9) fun _ S=>?_
        refine AN.zq 7 S rfl (fun _=>Lf.run_fa (S.ev rfl) fa89_2) fun _ S=>?_
        obtain⟨x156,c_106,H⟩:=H
        refine AN.zl 8 S rfl (fun _ hx=>Lf.run_ld (S.ev rfl) fl69 (hx.cell _ _ (S.cl c_106))) fun _ S=>?_
        obtain⟨q157,e_10,e_11,e_12,H⟩:=H
        refine AN.zq 9 S rfl (fun _=>Lf.run_ixs (S.ev rfl) (S.ev rfl) Try.underlying69 ti80 e_10 e_11 e_12) fun _ S=>?_
        refine AN.zq 10 S rfl (fun _=>Lf.run_fa (S.ev rfl) fa80_0) fun _ S=>?_
        obtain⟨x159,c_107,H⟩:=H
        refine AN.zl 11 S rfl (fun _ hx=>Lf.run_ld (S.ev rfl) fl3 (hx.cell _ _ (S.cl c_107))) fun _ S=>?_
        refine AN.zq 12 S rfl (fun _=>Lf.run_fa (S.ev rfl) fa28_2) fun _ S=>?_
        refine AN.eff 13 rfl (by kernel_rfl) ?_
        refine ol_sto S H rfl rfl rfl ti3 trivial ?_
        clear S H;intro aa ww h42 H S
        refine OL.nil ?_
        refine AN.done (by kernel_rfl) ?_
        exact⟨h42,S.sub _ ⟨rfl,rfl,rfl,rfl,rfl,trivial⟩,H⟩
       ·
        replace H:=H.2 hb_8
        refine W.skip ?_
        exact⟨h41,S.sub _ ⟨rfl,rfl,rfl,rfl,rfl,trivial⟩,H⟩
      ·
       clear H S
       rintro aa ww ⟨h43,S,HJ⟩
       have H:=HK_4 _ HJ
       clear HK_4 HJ
       refine W.seq ?_
       replace S:=S.sub [(4,Value.bool tags4),(10,Value.pointer (some p10)),(19,Value.pointer (some p19)),(20,Value.int .i64 x102),(21,Value.pointer (some p21))] ⟨rfl,rfl,rfl,rfl,rfl,trivial⟩
       obtain⟨J_5,H,HK_5⟩:=H
       refine W.mono (N':=fun aa ww=>∃x11_2 x12_2 h47,St 318 [(10,Value.pointer (some p10)),(11,Value.int .i64 x11_2),(12,Value.bool x12_2)] h47 w0 aa ww∧J_5 x11_2 x12_2 h47) ?_ ?_
       ·
        obtain⟨Sq_5,HS_5,H⟩:=H
        refine W.regionN [0,1] [10,12] Sq_5 S (by kernel_rfl) ?_
        clear S;intro ww S
        refine BN.pure 3 S (fun _=>HS_5) rfl (by kernel_rfl) (by kernel_rfl) (fun _=>Lf.run_move (S.ev rfl)) rfl rfl trivial fun _ S=>?_
        refine BN.pure 4 S (fun _=>HS_5) rfl (by kernel_rfl) (by kernel_rfl) (fun _=>Lf.run_move (S.ev rfl)) rfl rfl trivial fun _ S=>?_
        refine BN.pure 5 S (fun _=>HS_5) rfl (by kernel_rfl) (by kernel_rfl) (fun _=>Lf.run_eql (S.ev rfl) (S.ev rfl)) rfl rfl trivial fun _ S=>?_
        refine BN.pure 6 S (fun _=>HS_5) rfl (by kernel_rfl) (by kernel_rfl) (fun _=>Lf.run_move (S.ev rfl)) rfl rfl trivial fun _ S=>?_
        rcases Bool.eq_false_or_eq_true (x102 == 0) with hb_9|hb_9
        ·
         replace H:=H.1 hb_9
         refine BN.pure 9 S (fun _=>HS_5) rfl (by kernel_rfl) (by kernel_rfl) (fun _=>Lf.run_move (S.ev rfl)) rfl rfl (GOk.mk rfl rfl hb_9) fun _ S=>?_
         obtain⟨y161,y161_1,y161_2,c_121,c_122,c_123,H⟩:=H
         refine BN.held 0 S HS_5 rfl (by kernel_rfl) (fun _ hq=>Lf.run_ldA (cs:=[Value.int .i64 y161,Value.slice y161_1.a y161_1.n y161_1.c,Value.int .i64 y161_2]) (S.ev rfl) ag28 ti28 (hlRow hq fun h_ hs_=>⟨c_121 h_ hs_,c_122 h_ hs_,c_123 h_ hs_,trivial⟩)) rfl rfl trivial fun _ S=>?_
         obtain⟨y162,y162_1,y162_2,c_118,c_119,c_120,H⟩:=H
         refine BN.held 1 S HS_5 rfl (by kernel_rfl) (fun _ hq=>Lf.run_ldA (cs:=[Value.int .i64 y162,Value.slice y162_1.a y162_1.n y162_1.c,Value.int .i64 y162_2]) (S.ev rfl) ag28 ti28 (hlRow hq fun h_ hs_=>⟨c_118 h_ hs_,c_119 h_ hs_,c_120 h_ hs_,trivial⟩)) rfl rfl trivial fun _ S=>?_
         refine BN.pure 2 S (fun _=>HS_5) rfl (by kernel_rfl) (by kernel_rfl) (fun _=>Lf.run_build (cs:=#[Value.int .i64 y161,Value.slice y161_1.a y161_1.n y161_1.c,Value.int .i64 y161_2,Value.int .i64 y162,Value.slice y162_1.a y162_1.n y162_1.c,Value.int .i64 y162_2]) pl58 ti58 (parts_map S rfl) (by kernel_rfl)) rfl rfl trivial fun _ S=>?_
         obtain⟨y168,y168_1,y168_2,c_115,c_116,c_117,H⟩:=H
         refine BN.load 7 S (fun _=>HS_5) rfl (by kernel_rfl) (by kernel_rfl) (fun _ hx=>Lf.run_ldA (cs:=[Value.int .i64 y168,Value.slice y168_1.a y168_1.n y168_1.c,Value.int .i64 y168_2]) (S.ev rfl) ag28 ti28 (hx.row (S.row ⟨c_115,c_116,c_117,trivial⟩))) rfl rfl (GOk.mk rfl rfl hb_9) fun _ S=>?_
         obtain⟨y169,y169_1,y169_2,c_112,c_113,c_114,H⟩:=H
         refine BN.load 8 S (fun _=>HS_5) rfl (by kernel_rfl) (by kernel_rfl) (fun _ hx=>Lf.run_ldA (cs:=[Value.int .i64 y169,Value.slice y169_1.a y169_1.n y169_1.c,Value.int .i64 y169_2]) (S.ev rfl) ag28 ti28 (hx.row (S.row ⟨c_112,c_113,c_114,trivial⟩))) rfl rfl (GOk.mk rfl rfl hb_9) fun _ S=>?_
         refine BN.eff 10 rfl (by kernel_rfl) ?_
         refine ol_cal S H isfn41 rfl rfl (GOk.mk rfl rfl hb_9) ?_
         clear S H;intro u_7 aa ww h44 H S
         obtain⟨x171,rfl,H⟩:=H
         refine OL.nil ?_
         clear HS_5;obtain⟨HS_5,H⟩:=H
         refine⟨fun _=>by rw[S.heap];exact HS_5,?_⟩
         refine BN.pure 11 S (fun _=>HS_5) rfl (by kernel_rfl) (by kernel_rfl) (fun _=>run_pickT (S.ev rfl) hb_9 (S.ev rfl)) rfl rfl trivial fun _ S=>?_
         refine BN.eff 12 rfl (by kernel_rfl) ?_
         refine ol_stoA S H rfl rfl ti58 trivial ?_
         clear S H;intro aa ww h45 H S
         refine OL.nil ?_
         refine⟨noNeed (by kernel_rfl),?_⟩
         refine BN.pure 13 S (noNeed (by kernel_rfl)) rfl (by kernel_rfl) (by kernel_rfl) (fun _=>Lf.run_assign (S.ev rfl)) rfl rfl trivial fun _ S=>?_
         refine BN.pure 14 S (noNeed (by kernel_rfl)) rfl (by kernel_rfl) (by kernel_rfl) (fun _=>Lf.run_assign (S.ev rfl)) rfl rfl trivial fun _ S=>?_
         refine BN.done (by kernel_rfl) ?_
         exact⟨x102,x171,h45,S.sub _ ⟨rfl,rfl,rfl,trivial⟩,H⟩
        ·
         replace H:=H.2 hb_9
         refine BN.not 7 S (fun _=>HS_5) rfl (by kernel_rfl) (by kernel_rfl) rfl rfl (GNo.mk rfl rfl hb_9) fun _ S=>?_
         refine BN.not 8 S (fun _=>HS_5) rfl (by kernel_rfl) (by kernel_rfl) rfl rfl (GNo.mk rfl rfl hb_9) fun _ S=>?_
         refine BN.not 9 S (fun _=>HS_5) rfl (by kernel_rfl) (by kernel_rfl) rfl rfl (GNo.mk rfl rfl hb_9) fun _ S=>?_
         obtain⟨y161_3,y161_4,y161_5,c_129,c_130,c_131,H⟩:=H
         refine BN.held 0 S HS_5 rfl (by kernel_rfl) (fun _ hq=>Lf.run_ldA (cs:=[Value.int .i64 y161_3,Value.slice y161_4.a y161_4.n y161_4.c,Value.int .i64 y161_5]) (S.ev rfl) ag28 ti28 (hlRow hq fun h_ hs_=>⟨c_129 h_ hs_,c_130 h_ hs_,c_131 h_ hs_,trivial⟩)) rfl rfl trivial fun _ S=>?_
         obtain⟨y162_3,y162_4,y162_5,c_126,c_127,c_128,H⟩:=H
         refine BN.held 1 S HS_5 rfl (by kernel_rfl) (fun _ hq=>Lf.run_ldA (cs:=[Value.int .i64 y162_3,Value.slice y162_4.a y162_4.n y162_4.c,Value.int .i64 y162_5]) (S.ev rfl) ag28 ti28 (hlRow hq fun h_ hs_=>⟨c_126 h_ hs_,c_127 h_ hs_,c_128 h_ hs_,trivial⟩)) rfl rfl trivial fun _ S=>?_
         refine BN.pure 2 S (fun _=>HS_5) rfl (by kernel_rfl) (by kernel_rfl) (fun _=>Lf.run_build (cs:=#[Value.int .i64 y161_3,Value.slice y161_4.a y161_4.n y161_4.c,Value.int .i64 y161_5,Value.int .i64 y162_3,Value.slice y162_4.a y162_4.n y162_4.c,Value.int .i64 y162_5]) pl58 ti58 (parts_map S rfl) (by kernel_rfl)) rfl rfl trivial fun _ S=>?_
         refine BN.eff 10 rfl (by kernel_rfl) ?_
         refine OL.zn S (GNo.mk rfl rfl hb_9) fun _ S=>?_
         refine OL.nil ?_
         refine⟨fun _=>by rw[S.heap];exact HS_5,?_⟩
         refine BN.pure 11 S (fun _=>HS_5) rfl (by kernel_rfl) (by kernel_rfl) (fun _=>run_pickF (S.ev rfl) hb_9 (S.ev rfl)) rfl rfl trivial fun _ S=>?_
         refine BN.eff 12 rfl (by kernel_rfl) ?_
         refine ol_stoA S H rfl rfl ti58 trivial ?_
         clear S H;intro aa ww h46 H S
         refine OL.nil ?_
         refine⟨noNeed (by kernel_rfl),?_⟩
         refine BN.pure 13 S (noNeed (by kernel_rfl)) rfl (by kernel_rfl) (by kernel_rfl) (fun _=>Lf.run_assign (S.ev rfl)) rfl rfl trivial fun _ S=>?_
         refine BN.pure 14 S (noNeed (by kernel_rfl)) rfl (by kernel_rfl) (by kernel_rfl) (fun _=>Lf.run_assign (S.ev rfl)) rfl rfl trivial fun _ S=>?_
         refine BN.done (by kernel_rfl) ?_
         exact⟨x102,false,h46,S.sub _ ⟨rfl,rfl,rfl,trivial⟩,H⟩
       ·
        clear H S
        rintro aa ww ⟨x11_2,x12_2,h47,S,HJ⟩
        have H:=HK_5 _ _ _ HJ
        clear HK_5 HJ
        refine W.ret ?_
        obtain⟨y_12,y_13,y_14,y_15,y_16,y_17,c_132,c_133,c_134,c_135,c_136,c_137,H⟩:=H
        exact Ret.gen S rfl (RV.cellA (cs:=[Value.int .i64 y_12,Value.slice y_13.a y_13.n y_13.c,Value.int .i64 y_14,Value.int .i64 y_15,Value.slice y_16.a y_16.n y_16.c,Value.int .i64 y_17]) rfl ag58 ti58 ⟨c_132,c_133,c_134,c_135,c_136,c_137,trivial⟩ (RV.tmp rfl (RV.tmp rfl RV.nil))) rfl H
   ·
    replace H:=H.2 hb_2
    refine W.seq ?_
    refine W.region ?_
    refine OL.zq S (Lf.run_eql (S.ev rfl) (S.ev rfl)) fun _ S=>?_
    refine OL.za S fun _ S=>?_
    refine OL.nil ?_
    refine W.cond S (b:=(x63 == 2)) rfl (fun hb_10=>?_) (fun hb_10=>?_)
    ·
     replace H:=H.1 hb_10
     refine W.seq ?_
     refine W.region ?_
     refine OL.zm S fun _ S=>?_
     obtain⟨y177,y177_1,y177_2,c_179,c_180,c_181,H⟩:=H
     refine OL.zq S (Lf.run_ldA (cs:=[Value.int .i64 y177,Value.slice y177_1.a y177_1.n y177_1.c,Value.int .i64 y177_2]) (S.ev rfl) ag28 ti28 (by rw[S.heap];exact RowL.toRow ⟨c_179,c_180,c_181,trivial⟩)) fun _ S=>?_
     refine ol_cal S H isfn15 rfl rfl trivial ?_
     clear S H;intro u_8 aa ww h48 H S
     obtain⟨y178,y178_1,y178_2,y178_3,y178_4,y178_5,y178_6,x178,rfl,H⟩:=H
     refine OL.zm S fun _ S=>?_
     refine OL.zq S (Lf.run_ex (S.ev rfl) rfl) fun _ S=>?_
     refine OL.zq S (Lf.run_ex (S.ev rfl) rfl) fun _ S=>?_
     refine ol_alloc S H ti33 rfl rfl trivial ?_
     clear S H;intro p22 aa ww h49 H S
     refine ol_stoA S H rfl rfl ti33 trivial ?_
     clear S H;intro aa ww h50 H S
     refine OL.za S fun _ S=>?_
     refine OL.nil ?_
     refine W.seq ?_
     refine W.region ?_
     refine OL.zm S fun _ S=>?_
     obtain⟨y183,y183_1,y183_2,c_176,c_177,c_178,H⟩:=H
     refine OL.zq S (Lf.run_ldA (cs:=[Value.int .i64 y183,Value.slice y183_1.a y183_1.n y183_1.c,Value.int .i64 y183_2]) (S.ev rfl) ag28 ti28 (by rw[S.heap];exact RowL.toRow ⟨c_176,c_177,c_178,trivial⟩)) fun _ S=>?_
     refine ol_cal S H isfn33 rfl rfl trivial ?_
     clear S H;intro u_9 aa ww h51 H S
     obtain⟨y184,y184_1,y184_2,y184_3,y184_4,y184_5,y184_6,x184,rfl,H⟩:=H
     refine OL.zm S fun _ S=>?_
     refine OL.zq S (Lf.run_ex (S.ev rfl) rfl) fun _ S=>?_
     refine OL.zq S (Lf.run_ex (S.ev rfl) rfl) fun _ S=>?_
     refine ol_alloc S H ti33 rfl rfl trivial ?_
     clear S H;intro p24 aa ww h52 H S
     refine ol_stoA S H rfl rfl ti33 trivial ?_
     clear S H;intro aa ww h53 H S
     refine OL.za S fun _ S=>?_
     refine OL.nil ?_
     refine W.seq ?_
     replace S:=S.sub [(4,Value.bool tags4),(8,Value.pointer (some p8)),(10,Value.pointer (some p10)),(22,Value.pointer (some p22)),(23,Value.int .i64 x178),(24,Value.pointer (some p24)),(25,Value.int .i64 x184)] ⟨rfl,rfl,rfl,rfl,rfl,rfl,rfl,trivial⟩
     obtain⟨J_6,H,HK_6⟩:=H
     refine W.mono (N':=fun aa ww=>∃x11_3 x12_3 h57,St 318 [(10,Value.pointer (some p10)),(11,Value.int .i64 x11_3),(12,Value.bool x12_3)] h57 w0 aa ww∧J_6 x11_3 x12_3 h57) ?_ ?_
     ·
      obtain⟨Sq_6,HS_6,H⟩:=H
      refine W.regionN [0] [9,11] Sq_6 S (by kernel_rfl) ?_
      clear S;intro ww S
      refine BN.pure 1 S (fun _=>HS_6) rfl (by kernel_rfl) (by kernel_rfl) (fun _=>Lf.run_move (S.ev rfl)) rfl rfl trivial fun _ S=>?_
      refine BN.pure 2 S (fun _=>HS_6) rfl (by kernel_rfl) (by kernel_rfl) (fun _=>Lf.run_move (S.ev rfl)) rfl rfl trivial fun _ S=>?_
      refine BN.pure 3 S (fun _=>HS_6) rfl (by kernel_rfl) (by kernel_rfl) (fun _=>Lf.run_move (S.ev rfl)) rfl rfl trivial fun _ S=>?_
      refine BN.pure 4 S (fun _=>HS_6) rfl (by kernel_rfl) (by kernel_rfl) (fun _=>Lf.run_eql (S.ev rfl) (S.ev rfl)) rfl rfl trivial fun _ S=>?_
      refine BN.pure 5 S (fun _=>HS_6) rfl (by kernel_rfl) (by kernel_rfl) (fun _=>Lf.run_move (S.ev rfl)) rfl rfl trivial fun _ S=>?_
      rcases Bool.eq_false_or_eq_true (x178 == x184) with hb_11|hb_11
      ·
       replace H:=H.1 hb_11
       obtain⟨y193,y193_1,y193_2,y193_3,y193_4,y193_5,y193_6,c_156,c_157,c_158,c_159,c_160,c_161,c_162,H⟩:=H
       refine BN.load 6 S (fun _=>HS_6) rfl (by kernel_rfl) (by kernel_rfl) (fun _ hx=>Lf.run_ldA (cs:=[Value.int .i64 y193,Value.int .u64 y193_1,Value.string y193_2,Value.slice y193_3.a y193_3.n y193_3.c,Value.int .i64 y193_4,Value.slice y193_5.a y193_5.n y193_5.c,Value.int .i64 y193_6]) (S.ev rfl) ag33 ti33 (hx.row (S.row ⟨c_156,c_157,c_158,c_159,c_160,c_161,c_162,trivial⟩))) rfl rfl (GOk.mk rfl rfl hb_11) fun _ S=>?_
       obtain⟨y194,y194_1,y194_2,y194_3,y194_4,y194_5,y194_6,c_149,c_150,c_151,c_152,c_153,c_154,c_155,H⟩:=H
       refine BN.load 7 S (fun _=>HS_6) rfl (by kernel_rfl) (by kernel_rfl) (fun _ hx=>Lf.run_ldA (cs:=[Value.int .i64 y194,Value.int .u64 y194_1,Value.string y194_2,Value.slice y194_3.a y194_3.n y194_3.c,Value.int .i64 y194_4,Value.slice y194_5.a y194_5.n y194_5.c,Value.int .i64 y194_6]) (S.ev rfl) ag33 ti33 (hx.row (S.row ⟨c_149,c_150,c_151,c_152,c_153,c_154,c_155,trivial⟩))) rfl rfl (GOk.mk rfl rfl hb_11) fun _ S=>?_
       refine BN.pure 8 S (fun _=>HS_6) rfl (by kernel_rfl) (by kernel_rfl) (fun _=>Lf.run_move (S.ev rfl)) rfl rfl (GOk.mk rfl rfl hb_11) fun _ S=>?_
       obtain⟨y187,y187_1,y187_2,y187_3,y187_4,y187_5,c_143,c_144,c_145,c_146,c_147,c_148,H⟩:=H
       refine BN.held 0 S HS_6 rfl (by kernel_rfl) (fun _ hq=>Lf.run_ldA (cs:=[Value.int .i64 y187,Value.slice y187_1.a y187_1.n y187_1.c,Value.int .i64 y187_2,Value.int .i64 y187_3,Value.slice y187_4.a y187_4.n y187_4.c,Value.int .i64 y187_5]) (S.ev rfl) ag58 ti58 (hlRow hq fun h_ hs_=>⟨c_143 h_ hs_,c_144 h_ hs_,c_145 h_ hs_,c_146 h_ hs_,c_147 h_ hs_,c_148 h_ hs_,trivial⟩)) rfl rfl trivial fun _ S=>?_
       refine BN.eff 9 rfl (by kernel_rfl) ?_
       refine ol_cal S H isfn42 rfl rfl (GOk.mk rfl rfl hb_11) ?_
       clear S H;intro u_10 aa ww h54 H S
       obtain⟨x196,rfl,H⟩:=H
       refine OL.nil ?_
       clear HS_6;obtain⟨HS_6,H⟩:=H
       refine⟨fun _=>by rw[S.heap];exact HS_6,?_⟩
       refine BN.pure 10 S (fun _=>HS_6) rfl (by kernel_rfl) (by kernel_rfl) (fun _=>run_pickT (S.ev rfl) hb_11 (S.ev rfl)) rfl rfl trivial fun _ S=>?_
       refine BN.eff 11 rfl (by kernel_rfl) ?_
       refine ol_stoA S H rfl rfl ti58 trivial ?_
       clear S H;intro aa ww h55 H S
       refine OL.nil ?_
       refine⟨noNeed (by kernel_rfl),?_⟩
       refine BN.pure 12 S (noNeed (by kernel_rfl)) rfl (by kernel_rfl) (by kernel_rfl) (fun _=>Lf.run_assign (S.ev rfl)) rfl rfl trivial fun _ S=>?_
       refine BN.pure 13 S (noNeed (by kernel_rfl)) rfl (by kernel_rfl) (by kernel_rfl) (fun _=>Lf.run_assign (S.ev rfl)) rfl rfl trivial fun _ S=>?_
       refine BN.done (by kernel_rfl) ?_
       exact⟨x178,x196,h55,S.sub _ ⟨rfl,rfl,rfl,trivial⟩,H⟩
      ·
       replace H:=H.2 hb_11
       refine BN.not 6 S (fun _=>HS_6) rfl (by kernel_rfl) (by kernel_rfl) rfl rfl (GNo.mk rfl rfl hb_11) fun _ S=>?_
       refine BN.not 7 S (fun _=>HS_6) rfl (by kernel_rfl) (by kernel_rfl) rfl rfl (GNo.mk rfl rfl hb_11) fun _ S=>?_
       refine BN.not 8 S (fun _=>HS_6) rfl (by kernel_rfl) (by kernel_rfl) rfl rfl (GNo.mk rfl rfl hb_11) fun _ S=>?_
       obtain⟨y187_6,y187_7,y187_8,y187_9,y187_10,y187_11,c_164,c_165,c_166,c_167,c_168,c_169,H⟩:=H
       refine BN.held 0 S HS_6 rfl (by kernel_rfl) (fun _ hq=>Lf.run_ldA (cs:=[Value.int .i64 y187_6,Value.slice y187_7.a y187_7.n y187_7.c,Value.int .i64 y187_8,Value.int .i64 y187_9,Value.slice y187_10.a y187_10.n y187_10.c,Value.int .i64 y187_11]) (S.ev rfl) ag58 ti58 (hlRow hq fun h_ hs_=>⟨c_164 h_ hs_,c_165 h_ hs_,c_166 h_ hs_,c_167 h_ hs_,c_168 h_ hs_,c_169 h_ hs_,trivial⟩)) rfl rfl trivial fun _ S=>?_
       refine BN.eff 9 rfl (by kernel_rfl) ?_
       refine OL.zn S (GNo.mk rfl rfl hb_11) fun _ S=>?_
       refine OL.nil ?_
       refine⟨fun _=>by rw[S.heap];exact HS_6,?_⟩
       refine BN.pure 10 S (fun _=>HS_6) rfl (by kernel_rfl) (by kernel_rfl) (fun _=>run_pickF (S.ev rfl) hb_11 (S.ev rfl)) rfl rfl trivial fun _ S=>?_
       refine BN.eff 11 rfl (by kernel_rfl) ?_
       refine ol_stoA S H rfl rfl ti58 trivial ?_
       clear S H;intro aa ww h56 H S
       refine OL.nil ?_
       refine⟨noNeed (by kernel_rfl),?_⟩
       refine BN.pure 12 S (noNeed (by kernel_rfl)) rfl (by kernel_rfl) (by kernel_rfl) (fun _=>Lf.run_assign (S.ev rfl)) rfl rfl trivial fun _ S=>?_
       refine BN.pure 13 S (noNeed (by kernel_rfl)) rfl (by kernel_rfl) (by kernel_rfl) (fun _=>Lf.run_assign (S.ev rfl)) rfl rfl trivial fun _ S=>?_
       refine BN.done (by kernel_rfl) ?_
       exact⟨x178,false,h56,S.sub _ ⟨rfl,rfl,rfl,trivial⟩,H⟩
     ·
      clear H S
      rintro aa ww ⟨x11_3,x12_3,h57,S,HJ⟩
      have H:=HK_6 _ _ _ HJ
      clear HK_6 HJ
      refine W.ret ?_
      obtain⟨y_18,y_19,y_20,y_21,y_22,y_23,c_170,c_171,c_172,c_173,c_174,c_175,H⟩:=H
      exact Ret.gen S rfl (RV.cellA (cs:=[Value.int .i64 y_18,Value.slice y_19.a y_19.n y_19.c,Value.int .i64 y_20,Value.int .i64 y_21,Value.slice y_22.a y_22.n y_22.c,Value.int .i64 y_23]) rfl ag58 ti58 ⟨c_170,c_171,c_172,c_173,c_174,c_175,trivial⟩ (RV.tmp rfl (RV.tmp rfl RV.nil))) rfl H
    ·
     replace H:=H.2 hb_10
     refine W.seq ?_
     refine W.region ?_
     refine OL.zq S (Lf.run_eql (S.ev rfl) (S.ev rfl)) fun _ S=>?_
     refine OL.za S fun _ S=>?_
     refine OL.nil ?_
     refine W.cond S (b:=(x63 == 3)) rfl (fun hb_12=>?_) (fun hb_12=>?_)
     ·
      replace H:=H.1 hb_12
      refine W.seq ?_
      refine W.region ?_
      refine OL.zm S fun _ S=>?_
      obtain⟨y202,y202_1,y202_2,c_223,c_224,c_225,H⟩:=H
      refine OL.zq S (Lf.run_ldA (cs:=[Value.int .i64 y202,Value.slice y202_1.a y202_1.n y202_1.c,Value.int .i64 y202_2]) (S.ev rfl) ag28 ti28 (by rw[S.heap];exact RowL.toRow ⟨c_223,c_224,c_225,trivial⟩)) fun _ S=>?_
      refine ol_cal S H isfn18 rfl rfl trivial ?_
      clear S H;intro u_11 aa ww h58 H S
      obtain⟨y203,y203_1,y203_2,y203_3,y203_4,y203_5,y203_6,x203,rfl,H⟩:=H
      refine OL.zm S fun _ S=>?_
      refine OL.zq S (Lf.run_ex (S.ev rfl) rfl) fun _ S=>?_
      refine OL.zq S (Lf.run_ex (S.ev rfl) rfl) fun _ S=>?_
      refine ol_alloc S H ti33 rfl rfl trivial ?_
      clear S H;intro p26 aa ww h59 H S
      refine ol_stoA S H rfl rfl ti33 trivial ?_
      clear S H;intro aa ww h60 H S
      refine OL.za S fun _ S=>?_
      refine OL.nil ?_
      refine W.seq ?_
      refine W.region ?_
      refine OL.zm S fun _ S=>?_
      obtain⟨y208,y208_1,y208_2,c_220,c_221,c_222,H⟩:=H
      refine OL.zq S (Lf.run_ldA (cs:=[Value.int .i64 y208,Value.slice y208_1.a y208_1.n y208_1.c,Value.int .i64 y208_2]) (S.ev rfl) ag28 ti28 (by rw[S.heap];exact RowL.toRow ⟨c_220,c_221,c_222,trivial⟩)) fun _ S=>?_
      refine ol_cal S H isfn34 rfl rfl trivial ?_
      clear S H;intro u_12 aa ww h61 H S
      obtain⟨y209,y209_1,y209_2,y209_3,y209_4,y209_5,y209_6,x209,rfl,H⟩:=H
      refine OL.zm S fun _ S=>?_
      refine OL.zq S (Lf.run_ex (S.ev rfl) rfl) fun _ S=>?_
      refine OL.zq S (Lf.run_ex (S.ev rfl) rfl) fun _ S=>?_
      refine ol_alloc S H ti33 rfl rfl trivial ?_
      clear S H;intro p28 aa ww h62 H S
      refine ol_stoA S H rfl rfl ti33 trivial ?_
      clear S H;intro aa ww h63 H S
      refine OL.za S fun _ S=>?_
      refine OL.nil ?_
      refine W.seq ?_
      replace S:=S.sub [(4,Value.bool tags4),(8,Value.pointer (some p8)),(10,Value.pointer (some p10)),(26,Value.pointer (some p26)),(27,Value.int .i64 x203),(28,Value.pointer (some p28)),(29,Value.int .i64 x209)] ⟨rfl,rfl,rfl,rfl,rfl,rfl,rfl,trivial⟩
      obtain⟨J_7,H,HK_7⟩:=H
      refine W.mono (N':=fun aa ww=>∃x11_4 x12_4 h67,St 318 [(10,Value.pointer (some p10)),(11,Value.int .i64 x11_4),(12,Value.bool x12_4)] h67 w0 aa ww∧J_7 x11_4 x12_4 h67) ?_ ?_
      ·
       obtain⟨Sq_7,HS_7,H⟩:=H
       refine W.regionN [0] [9,11] Sq_7 S (by kernel_rfl) ?_
       clear S;intro ww S
       refine BN.pure 1 S (fun _=>HS_7) rfl (by kernel_rfl) (by kernel_rfl) (fun _=>Lf.run_move (S.ev rfl)) rfl rfl trivial fun _ S=>?_
       refine BN.pure 2 S (fun _=>HS_7) rfl (by kernel_rfl) (by kernel_rfl) (fun _=>Lf.run_move (S.ev rfl)) rfl rfl trivial fun _ S=>?_
       refine BN.pure 3 S (fun _=>HS_7) rfl (by kernel_rfl) (by kernel_rfl) (fun _=>Lf.run_move (S.ev rfl)) rfl rfl trivial fun _ S=>?_
       refine BN.pure 4 S (fun _=>HS_7) rfl (by kernel_rfl) (by kernel_rfl) (fun _=>Lf.run_eql (S.ev rfl) (S.ev rfl)) rfl rfl trivial fun _ S=>?_
       refine BN.pure 5 S (fun _=>HS_7) rfl (by kernel_rfl) (by kernel_rfl) (fun _=>Lf.run_move (S.ev rfl)) rfl rfl trivial fun _ S=>?_
       rcases Bool.eq_false_or_eq_true (x203 == x209) with hb_13|hb_13
       ·
        replace H:=H.1 hb_13
        obtain⟨y218,y218_1,y218_2,y218_3,y218_4,y218_5,y218_6,c_200,c_201,c_202,c_203,c_204,c_205,c_206,H⟩:=H
        refine BN.load 6 S (fun _=>HS_7) rfl (by kernel_rfl) (by kernel_rfl) (fun _ hx=>Lf.run_ldA (cs:=[Value.int .i64 y218,Value.int .u64 y218_1,Value.string y218_2,Value.slice y218_3.a y218_3.n y218_3.c,Value.int .i64 y218_4,Value.slice y218_5.a y218_5.n y218_5.c,Value.int .i64 y218_6]) (S.ev rfl) ag33 ti33 (hx.row (S.row ⟨c_200,c_201,c_202,c_203,c_204,c_205,c_206,trivial⟩))) rfl rfl (GOk.mk rfl rfl hb_13) fun _ S=>?_
        obtain⟨y219,y219_1,y219_2,y219_3,y219_4,y219_5,y219_6,c_193,c_194,c_195,c_196,c_197,c_198,c_199,H⟩:=H
        refine BN.load 7 S (fun _=>HS_7) rfl (by kernel_rfl) (by kernel_rfl) (fun _ hx=>Lf.run_ldA (cs:=[Value.int .i64 y219,Value.int .u64 y219_1,Value.string y219_2,Value.slice y219_3.a y219_3.n y219_3.c,Value.int .i64 y219_4,Value.slice y219_5.a y219_5.n y219_5.c,Value.int .i64 y219_6]) (S.ev rfl) ag33 ti33 (hx.row (S.row ⟨c_193,c_194,c_195,c_196,c_197,c_198,c_199,trivial⟩))) rfl rfl (GOk.mk rfl rfl hb_13) fun _ S=>?_
        refine BN.pure 8 S (fun _=>HS_7) rfl (by kernel_rfl) (by kernel_rfl) (fun _=>Lf.run_move (S.ev rfl)) rfl rfl (GOk.mk rfl rfl hb_13) fun _ S=>?_
        obtain⟨y212,y212_1,y212_2,y212_3,y212_4,y212_5,c_187,c_188,c_189,c_190,c_191,c_192,H⟩:=H
        refine BN.held 0 S HS_7 rfl (by kernel_rfl) (fun _ hq=>Lf.run_ldA (cs:=[Value.int .i64 y212,Value.slice y212_1.a y212_1.n y212_1.c,Value.int .i64 y212_2,Value.int .i64 y212_3,Value.slice y212_4.a y212_4.n y212_4.c,Value.int .i64 y212_5]) (S.ev rfl) ag58 ti58 (hlRow hq fun h_ hs_=>⟨c_187 h_ hs_,c_188 h_ hs_,c_189 h_ hs_,c_190 h_ hs_,c_191 h_ hs_,c_192 h_ hs_,trivial⟩)) rfl rfl trivial fun _ S=>?_
        refine BN.eff 9 rfl (by kernel_rfl) ?_
        refine ol_cal S H isfn42 rfl rfl (GOk.mk rfl rfl hb_13) ?_
        clear S H;intro u_13 aa ww h64 H S
        obtain⟨x221,rfl,H⟩:=H
        refine OL.nil ?_
        clear HS_7;obtain⟨HS_7,H⟩:=H
        refine⟨fun _=>by rw[S.heap];exact HS_7,?_⟩
        refine BN.pure 10 S (fun _=>HS_7) rfl (by kernel_rfl) (by kernel_rfl) (fun _=>run_pickT (S.ev rfl) hb_13 (S.ev rfl)) rfl rfl trivial fun _ S=>?_
        refine BN.eff 11 rfl (by kernel_rfl) ?_
        refine ol_stoA S H rfl rfl ti58 trivial ?_
        clear S H;intro aa ww h65 H S
        refine OL.nil ?_
        refine⟨noNeed (by kernel_rfl),?_⟩
        refine BN.pure 12 S (noNeed (by kernel_rfl)) rfl (by kernel_rfl) (by kernel_rfl) (fun _=>Lf.run_assign (S.ev rfl)) rfl rfl trivial fun _ S=>?_
        refine BN.pure 13 S (noNeed (by kernel_rfl)) rfl (by kernel_rfl) (by kernel_rfl) (fun _=>Lf.run_assign (S.ev rfl)) rfl rfl trivial fun _ S=>?_
        refine BN.done (by kernel_rfl) ?_
        exact⟨x203,x221,h65,S.sub _ ⟨rfl,rfl,rfl,trivial⟩,H⟩
       ·
        replace H:=H.2 hb_13
        refine BN.not 6 S (fun _=>HS_7) rfl (by kernel_rfl) (by kernel_rfl) rfl rfl (GNo.mk rfl rfl hb_13) fun _ S=>?_
        refine BN.not 7 S (fun _=>HS_7) rfl (by kernel_rfl) (by kernel_rfl) rfl rfl (GNo.mk rfl rfl hb_13) fun _ S=>?_
        refine BN.not 8 S (fun _=>HS_7) rfl (by kernel_rfl) (by kernel_rfl) rfl rfl (GNo.mk rfl rfl hb_13) fun _ S=>?_
        obtain⟨y212_6,y212_7,y212_8,y212_9,y212_10,y212_11,c_208,c_209,c_210,c_211,c_212,c_213,H⟩:=H
        refine BN.held 0 S HS_7 rfl (by kernel_rfl) (fun _ hq=>Lf.run_ldA (cs:=[Value.int .i64 y212_6,Value.slice y212_7.a y212_7.n y212_7.c,Value.int .i64 y212_8,Value.int .i64 y212_9,Value.slice y212_10.a y212_10.n y212_10.c,Value.int .i64 y212_11]) (S.ev rfl) ag58 ti58 (hlRow hq fun h_ hs_=>⟨c_208 h_ hs_,c_209 h_ hs_,c_210 h_ hs_,c_211 h_ hs_,c_212 h_ hs_,c_213 h_ hs_,trivial⟩)) rfl rfl trivial fun _ S=>?_
        refine BN.eff 9 rfl (by kernel_rfl) ?_
        refine OL.zn S (GNo.mk rfl rfl hb_13) fun _ S=>?_
        refine OL.nil ?_
        refine⟨fun _=>by rw[S.heap];exact HS_7,?_⟩
        refine BN.pure 10 S (fun _=>HS_7) rfl (by kernel_rfl) (by kernel_rfl) (fun _=>run_pickF (S.ev rfl) hb_13 (S.ev rfl)) rfl rfl trivial fun _ S=>?_
        refine BN.eff 11 rfl (by kernel_rfl) ?_
        refine ol_stoA S H rfl rfl ti58 trivial ?_
        clear S H;intro aa ww h66 H S
        refine OL.nil ?_
        refine⟨noNeed (by kernel_rfl),?_⟩
        refine BN.pure 12 S (noNeed (by kernel_rfl)) rfl (by kernel_rfl) (by kernel_rfl) (fun _=>Lf.run_assign (S.ev rfl)) rfl rfl trivial fun _ S=>?_
        refine BN.pure 13 S (noNeed (by kernel_rfl)) rfl (by kernel_rfl) (by kernel_rfl) (fun _=>Lf.run_assign (S.ev rfl)) rfl rfl trivial fun _ S=>?_
        refine BN.done (by kernel_rfl) ?_
        exact⟨x203,false,h66,S.sub _ ⟨rfl,rfl,rfl,trivial⟩,H⟩
      ·
       clear H S
       rintro aa ww ⟨x11_4,x12_4,h67,S,HJ⟩
       have H:=HK_7 _ _ _ HJ
       clear HK_7 HJ
       refine W.ret ?_
       obtain⟨y_24,y_25,y_26,y_27,y_28,y_29,c_214,c_215,c_216,c_217,c_218,c_219,H⟩:=H
       exact Ret.gen S rfl (RV.cellA (cs:=[Value.int .i64 y_24,Value.slice y_25.a y_25.n y_25.c,Value.int .i64 y_26,Value.int .i64 y_27,Value.slice y_28.a y_28.n y_28.c,Value.int .i64 y_29]) rfl ag58 ti58 ⟨c_214,c_215,c_216,c_217,c_218,c_219,trivial⟩ (RV.tmp rfl (RV.tmp rfl RV.nil))) rfl H
     ·
      replace H:=H.2 hb_12
      refine W.seq ?_
      refine W.region ?_
      refine OL.zq S (Lf.run_eql (S.ev rfl) (S.ev rfl)) fun _ S=>?_
      refine OL.za S fun _ S=>?_
      refine OL.nil ?_
      refine W.cond S (b:=(x63 == 4)) rfl (fun hb_14=>?_) (fun hb_14=>?_)
      ·
       replace H:=H.1 hb_14
       refine W.seq ?_
       replace S:=S.sub [(0,Value.pointer vh0),(1,Value.pointer x1),(7,Value.pointer (some p7)),(8,Value.pointer (some p8)),(10,Value.pointer (some p10)),(13,Value.pointer (some a13)),(14,Value.pointer (some b14))] ⟨rfl,rfl,rfl,rfl,rfl,rfl,rfl,trivial⟩
       obtain⟨Sq_8,HS_8,H⟩:=H
       refine W.regionN [1,8,9,11] [5,6,12,13] Sq_8 S (by kernel_rfl) ?_
       clear S;intro ww S
       refine BN.pure 0 S (fun _=>HS_8) rfl (by kernel_rfl) (by kernel_rfl) (fun _=>Lf.run_move (S.ev rfl)) rfl rfl trivial fun _ S=>?_
       obtain⟨y227,y227_1,y227_2,y227_3,y227_4,y227_5,y227_6,y227_7,y227_8,y227_9,y227_10,y227_11,c_269,c_270,c_271,c_272,c_273,c_274,c_275,c_276,c_277,c_278,c_279,c_280,H⟩:=H
       refine BN.load 2 S (fun _=>HS_8) rfl (by kernel_rfl) (by kernel_rfl) (fun _ hx=>Lf.run_ldA (cs:=[Value.int .i64 y227,Value.int .i64 y227_1,Value.int .i64 y227_2,Value.slice y227_3.a y227_3.n y227_3.c,Value.int .i64 y227_4,Value.int .u64 y227_5,Value.string y227_6,Value.slice y227_7.a y227_7.n y227_7.c,Value.int .i64 y227_8,Value.slice y227_9.a y227_9.n y227_9.c,Value.int .i64 y227_10,Value.int .i64 y227_11]) (S.ev rfl) ag61 ti61 (hx.row (S.row ⟨c_269,c_270,c_271,c_272,c_273,c_274,c_275,c_276,c_277,c_278,c_279,c_280,trivial⟩))) rfl rfl trivial fun _ S=>?_
       refine BN.pure 3 S (fun _=>HS_8) rfl (by kernel_rfl) (by kernel_rfl) (fun _=>Lf.run_fa (S.ev rfl) fa58_0) rfl rfl trivial fun _ S=>?_
       obtain⟨y229,y229_1,y229_2,c_266,c_267,c_268,H⟩:=H
       refine BN.load 4 S (fun _=>HS_8) rfl (by kernel_rfl) (by kernel_rfl) (fun _ hx=>Lf.run_ldA (cs:=[Value.int .i64 y229,Value.slice y229_1.a y229_1.n y229_1.c,Value.int .i64 y229_2]) (S.ev rfl) ag28 ti28 (hx.row (S.row ⟨c_266,c_267,c_268,trivial⟩))) rfl rfl trivial fun _ S=>?_
       refine BN.pure 7 S (fun _=>HS_8) rfl (by kernel_rfl) (by kernel_rfl) (fun _=>Lf.run_move (S.ev rfl)) rfl rfl trivial fun _ S=>?_
       refine BN.pure 10 S (fun _=>HS_8) rfl (by kernel_rfl) (by kernel_rfl) (fun _=>Lf.run_fa (S.ev rfl) fa58_1) rfl rfl trivial fun _ S=>?_
       obtain⟨y226,y226_1,y226_2,c_263,c_264,c_265,H⟩:=H
       refine BN.held 1 S HS_8 rfl (by kernel_rfl) (fun _ hq=>Lf.run_ldA (cs:=[Value.int .i64 y226,Value.slice y226_1.a y226_1.n y226_1.c,Value.int .i64 y226_2]) (S.ev rfl) ag28 ti28 (hlRow hq fun h_ hs_=>⟨c_263 h_ hs_,c_264 h_ hs_,c_265 h_ hs_,trivial⟩)) rfl rfl trivial fun _ S=>?_
       obtain⟨y233,y233_1,y233_2,c_260,c_261,c_262,H⟩:=H
       refine BN.held 8 S HS_8 rfl (by kernel_rfl) (fun _ hq=>Lf.run_ldA (cs:=[Value.int .i64 y233,Value.slice y233_1.a y233_1.n y233_1.c,Value.int .i64 y233_2]) (S.ev rfl) ag28 ti28 (hlRow hq fun h_ hs_=>⟨c_260 h_ hs_,c_261 h_ hs_,c_262 h_ hs_,trivial⟩)) rfl rfl trivial fun _ S=>?_
       obtain⟨y234,y234_1,y234_2,y234_3,y234_4,y234_5,y234_6,y234_7,y234_8,y234_9,y234_10,y234_11,c_248,c_249,c_250,c_251,c_252,c_253,c_254,c_255,c_256,c_257,c_258,c_259,H⟩:=H
       refine BN.held 9 S HS_8 rfl (by kernel_rfl) (fun _ hq=>Lf.run_ldA (cs:=[Value.int .i64 y234,Value.int .i64 y234_1,Value.int .i64 y234_2,Value.slice y234_3.a y234_3.n y234_3.c,Value.int .i64 y234_4,Value.int .u64 y234_5,Value.string y234_6,Value.slice y234_7.a y234_7.n y234_7.c,Value.int .i64 y234_8,Value.slice y234_9.a y234_9.n y234_9.c,Value.int .i64 y234_10,Value.int .i64 y234_11]) (S.ev rfl) ag61 ti61 (hlRow hq fun h_ hs_=>⟨c_248 h_ hs_,c_249 h_ hs_,c_250 h_ hs_,c_251 h_ hs_,c_252 h_ hs_,c_253 h_ hs_,c_254 h_ hs_,c_255 h_ hs_,c_256 h_ hs_,c_257 h_ hs_,c_258 h_ hs_,c_259 h_ hs_,trivial⟩)) rfl rfl trivial fun _ S=>?_
       obtain⟨y236,y236_1,y236_2,c_245,c_246,c_247,H⟩:=H
       refine BN.held 11 S HS_8 rfl (by kernel_rfl) (fun _ hq=>Lf.run_ldA (cs:=[Value.int .i64 y236,Value.slice y236_1.a y236_1.n y236_1.c,Value.int .i64 y236_2]) (S.ev rfl) ag28 ti28 (hlRow hq fun h_ hs_=>⟨c_245 h_ hs_,c_246 h_ hs_,c_247 h_ hs_,trivial⟩)) rfl rfl trivial fun _ S=>?_
       refine BN.eff 5 rfl (by kernel_rfl) ?_
       refine ol_cal S H isfn36 rfl rfl trivial ?_
       clear S H;intro u_14 aa ww h68 H S
       obtain⟨y230,y230_1,y230_2,y230_3,y230_4,y230_5,y230_6,rfl,H⟩:=H
       refine OL.nil ?_
       clear HS_8;obtain⟨HS_8,H⟩:=H
       refine⟨fun _=>by rw[S.heap];exact HS_8,?_⟩
       refine BN.eff 6 rfl (by kernel_rfl) ?_
       refine ol_cal S H isfn17 rfl rfl trivial ?_
       clear S H;intro u_15 aa ww h69 H S
       obtain⟨x231,rfl,H⟩:=H
       refine OL.nil ?_
       clear HS_8;obtain⟨HS_8,H⟩:=H
       refine⟨fun _=>by rw[S.heap];exact HS_8,?_⟩
       refine BN.eff 12 rfl (by kernel_rfl) ?_
       refine ol_cal S H isfn36 rfl rfl trivial ?_
       clear S H;intro u_16 aa ww h70 H S
       obtain⟨y237,y237_1,y237_2,y237_3,y237_4,y237_5,y237_6,rfl,H⟩:=H
       refine OL.nil ?_
       clear HS_8;obtain⟨HS_8,H⟩:=H
       refine⟨fun _=>by rw[S.heap];exact HS_8,?_⟩
       refine BN.eff 13 rfl (by kernel_rfl) ?_
       refine ol_cal S H isfn35 rfl rfl trivial ?_
       clear S H;intro u_17 aa ww h71 H S
       obtain⟨x238,rfl,H⟩:=H
       refine OL.nil ?_
       refine⟨noNeed (by kernel_rfl),?_⟩
       refine BN.pure 14 S (noNeed (by kernel_rfl)) rfl (by kernel_rfl) (by kernel_rfl) (fun _=>Lf.run_assign (S.ev rfl)) rfl rfl trivial fun _ S=>?_
       refine BN.pure 15 S (noNeed (by kernel_rfl)) rfl (by kernel_rfl) (by kernel_rfl) (fun _=>Lf.run_assign (S.ev rfl)) rfl rfl trivial fun _ S=>?_
       refine BN.done (by kernel_rfl) ?_
       refine W.seq ?_
       refine W.region ?_
       obtain⟨y239,y239_1,y239_2,y239_3,y239_4,y239_5,c_239,c_240,c_241,c_242,c_243,c_244,H⟩:=H
       refine OL.zq S (Lf.run_ldA (cs:=[Value.int .i64 y239,Value.slice y239_1.a y239_1.n y239_1.c,Value.int .i64 y239_2,Value.int .i64 y239_3,Value.slice y239_4.a y239_4.n y239_4.c,Value.int .i64 y239_5]) (S.ev rfl) ag58 ti58 (by rw[S.heap];exact RowL.toRow ⟨c_239,c_240,c_241,c_242,c_243,c_244,trivial⟩)) fun _ S=>?_
       refine OL.zm S fun _ S=>?_
       refine OL.zm S fun _ S=>?_
       refine OL.zm S fun _ S=>?_
       refine OL.zq S (Lf.run_eql (S.ev rfl) (S.ev rfl)) fun _ S=>?_
       refine ol_stoA S H rfl rfl ti58 trivial ?_
       clear S H;intro aa ww h72 H S
       refine OL.za S fun _ S=>?_
       refine OL.za S fun _ S=>?_
       refine OL.nil ?_
       refine W.ret ?_
       obtain⟨y_30,y_31,y_32,y_33,y_34,y_35,c_233,c_234,c_235,c_236,c_237,c_238,H⟩:=H
       exact Ret.gen S rfl (RV.cellA (cs:=[Value.int .i64 y_30,Value.slice y_31.a y_31.n y_31.c,Value.int .i64 y_32,Value.int .i64 y_33,Value.slice y_34.a y_34.n y_34.c,Value.int .i64 y_35]) rfl ag58 ti58 ⟨c_233,c_234,c_235,c_236,c_237,c_238,trivial⟩ (RV.tmp rfl (RV.tmp rfl RV.nil))) rfl H
      ·
       replace H:=H.2 hb_14
       obtain⟨J_8,H,HK_8⟩:=H
       refine W.seqJ (fun aa ww=>∃x244,St 318 [(0,Value.pointer vh0),(1,Value.pointer x1),(4,Value.bool tags4),(7,Value.pointer (some p7)),(8,Value.pointer (some p8)),(10,Value.pointer (some p10)),(13,Value.pointer (some a13)),(14,Value.pointer (some b14)),(63,Value.int .i64 x63),(244,Value.bool x244)] h20 w0 aa ww∧J_8 x244) ?_ ?_
       ·
        clear HK_8
        refine W.seq ?_
        refine W.region ?_
        refine OL.zq S (Lf.run_eql (S.ev rfl) (S.ev rfl)) fun _ S=>?_
        refine OL.za S fun _ S=>?_
        refine OL.nil ?_
        refine W.cond S (b:=(x63 == 5)) rfl (fun hb_15=>?_) (fun hb_15=>?_)
        ·
         replace H:=H.1 hb_15
         refine W.skip ?_
         exact⟨(x63 == 5),S.sub _ ⟨rfl,rfl,rfl,rfl,rfl,rfl,rfl,rfl,rfl,rfl,trivial⟩,H⟩
        ·
         replace H:=H.2 hb_15
         refine W.region ?_
         refine OL.zq S (Lf.run_eql (S.ev rfl) (S.ev rfl)) fun _ S=>?_
         refine OL.za S fun _ S=>?_
         refine OL.nil ?_
         exact⟨(x63 == 6),S.sub _ ⟨rfl,rfl,rfl,rfl,rfl,rfl,rfl,rfl,rfl,rfl,trivial⟩,H⟩
       ·
        clear H S
        rintro aa ww ⟨x244,S,HJ⟩
        have H:=HK_8 _ HJ
        clear HK_8 HJ
        refine W.cond S (b:=x244) rfl (fun hb_16=>?_) (fun hb_16=>?_)
        ·
         replace H:=H.1 hb_16
         refine W.seq ?_
         refine W.region ?_
         refine OL.zm S fun _ S=>?_
         obtain⟨y249,y249_1,y249_2,c_318,c_319,c_320,H⟩:=H
         refine OL.zq S (Lf.run_ldA (cs:=[Value.int .i64 y249,Value.slice y249_1.a y249_1.n y249_1.c,Value.int .i64 y249_2]) (S.ev rfl) ag28 ti28 (by rw[S.heap];exact RowL.toRow ⟨c_318,c_319,c_320,trivial⟩)) fun _ S=>?_
         refine OL.zf S fa61_0 fun _ S=>?_
         obtain⟨x251,c_282,H⟩:=H
         refine OL.zl S fl3 c_282 fun _ S=>?_
         refine OL.zq S (Lf.run_eql (S.ev rfl) (S.ev rfl)) fun _ S=>?_
         refine ol_cal S H isfn12 rfl rfl trivial ?_
         clear S H;intro u_18 aa ww h73 H S
         obtain⟨y253,y253_1,y253_2,x253,rfl,H⟩:=H
         refine OL.zm S fun _ S=>?_
         refine OL.zq S (Lf.run_ex (S.ev rfl) rfl) fun _ S=>?_
         refine OL.zq S (Lf.run_ex (S.ev rfl) rfl) fun _ S=>?_
         refine ol_alloc S H ti28 rfl rfl trivial ?_
         clear S H;intro p32 aa ww h74 H S
         refine ol_stoA S H rfl rfl ti28 trivial ?_
         clear S H;intro aa ww h75 H S
         refine OL.za S fun _ S=>?_
         refine OL.nil ?_
         refine W.seq ?_
         refine W.region ?_
         refine OL.zm S fun _ S=>?_
         obtain⟨y258,y258_1,y258_2,c_315,c_316,c_317,H⟩:=H
         refine OL.zq S (Lf.run_ldA (cs:=[Value.int .i64 y258,Value.slice y258_1.a y258_1.n y258_1.c,Value.int .i64 y258_2]) (S.ev rfl) ag28 ti28 (by rw[S.heap];exact RowL.toRow ⟨c_315,c_316,c_317,trivial⟩)) fun _ S=>?_
         refine OL.zf S fa61_0 fun _ S=>?_
         obtain⟨x260,c_284,H⟩:=H
         refine OL.zl S fl3 c_284 fun _ S=>?_
         refine OL.zq S (Lf.run_eql (S.ev rfl) (S.ev rfl)) fun _ S=>?_
         refine ol_cal S H isfn37 rfl rfl trivial ?_
         clear S H;intro u_19 aa ww h76 H S
         obtain⟨y262,y262_1,y262_2,x262,rfl,H⟩:=H
         refine OL.zm S fun _ S=>?_
         refine OL.zq S (Lf.run_ex (S.ev rfl) rfl) fun _ S=>?_
         refine OL.zq S (Lf.run_ex (S.ev rfl) rfl) fun _ S=>?_
         refine ol_alloc S H ti28 rfl rfl trivial ?_
         clear S H;intro p34 aa ww h77 H S
         refine ol_stoA S H rfl rfl ti28 trivial ?_
         clear S H;intro aa ww h78 H S
         refine OL.za S fun _ S=>?_
         refine OL.nil ?_
         refine W.seq ?_
         replace S:=S.sub [(4,Value.bool tags4),(10,Value.pointer (some p10)),(32,Value.pointer (some p32)),(33,Value.int .i64 x253),(34,Value.pointer (some p34)),(35,Value.int .i64 x262)] ⟨rfl,rfl,rfl,rfl,rfl,rfl,trivial⟩
         obtain⟨J_9,H,HK_9⟩:=H
         refine W.mono (N':=fun aa ww=>∃x11_5 x12_5 h82,St 318 [(10,Value.pointer (some p10)),(11,Value.int .i64 x11_5),(12,Value.bool x12_5)] h82 w0 aa ww∧J_9 x11_5 x12_5 h82) ?_ ?_
         ·
          obtain⟨Sq_9,HS_9,H⟩:=H
          refine W.regionN [0,1] [11,13] Sq_9 S (by kernel_rfl) ?_
          clear S;intro ww S
          refine BN.pure 3 S (fun _=>HS_9) rfl (by kernel_rfl) (by kernel_rfl) (fun _=>Lf.run_move (S.ev rfl)) rfl rfl trivial fun _ S=>?_
          refine BN.pure 4 S (fun _=>HS_9) rfl (by kernel_rfl) (by kernel_rfl) (fun _=>Lf.run_move (S.ev rfl)) rfl rfl trivial fun _ S=>?_
          refine BN.pure 5 S (fun _=>HS_9) rfl (by kernel_rfl) (by kernel_rfl) (fun _=>Lf.run_move (S.ev rfl)) rfl rfl trivial fun _ S=>?_
          refine BN.pure 6 S (fun _=>HS_9) rfl (by kernel_rfl) (by kernel_rfl) (fun _=>Lf.run_eql (S.ev rfl) (S.ev rfl)) rfl rfl trivial fun _ S=>?_
          refine BN.pure 7 S (fun _=>HS_9) rfl (by kernel_rfl) (by kernel_rfl) (fun _=>Lf.run_move (S.ev rfl)) rfl rfl trivial fun _ S=>?_
          rcases Bool.eq_false_or_eq_true (x253 == x262) with hb_17|hb_17
          ·
           replace H:=H.1 hb_17
           refine BN.pure 10 S (fun _=>HS_9) rfl (by kernel_rfl) (by kernel_rfl) (fun _=>Lf.run_move (S.ev rfl)) rfl rfl (GOk.mk rfl rfl hb_17) fun _ S=>?_
           obtain⟨y265,y265_1,y265_2,c_298,c_299,c_300,H⟩:=H
           refine BN.held 0 S HS_9 rfl (by kernel_rfl) (fun _ hq=>Lf.run_ldA (cs:=[Value.int .i64 y265,Value.slice y265_1.a y265_1.n y265_1.c,Value.int .i64 y265_2]) (S.ev rfl) ag28 ti28 (hlRow hq fun h_ hs_=>⟨c_298 h_ hs_,c_299 h_ hs_,c_300 h_ hs_,trivial⟩)) rfl rfl trivial fun _ S=>?_
           obtain⟨y266,y266_1,y266_2,c_295,c_296,c_297,H⟩:=H
           refine BN.held 1 S HS_9 rfl (by kernel_rfl) (fun _ hq=>Lf.run_ldA (cs:=[Value.int .i64 y266,Value.slice y266_1.a y266_1.n y266_1.c,Value.int .i64 y266_2]) (S.ev rfl) ag28 ti28 (hlRow hq fun h_ hs_=>⟨c_295 h_ hs_,c_296 h_ hs_,c_297 h_ hs_,trivial⟩)) rfl rfl trivial fun _ S=>?_
           refine BN.pure 2 S (fun _=>HS_9) rfl (by kernel_rfl) (by kernel_rfl) (fun _=>Lf.run_build (cs:=#[Value.int .i64 y265,Value.slice y265_1.a y265_1.n y265_1.c,Value.int .i64 y265_2,Value.int .i64 y266,Value.slice y266_1.a y266_1.n y266_1.c,Value.int .i64 y266_2]) pl58 ti58 (parts_map S rfl) (by kernel_rfl)) rfl rfl trivial fun _ S=>?_
           obtain⟨y273,y273_1,y273_2,c_292,c_293,c_294,H⟩:=H
           refine BN.load 8 S (fun _=>HS_9) rfl (by kernel_rfl) (by kernel_rfl) (fun _ hx=>Lf.run_ldA (cs:=[Value.int .i64 y273,Value.slice y273_1.a y273_1.n y273_1.c,Value.int .i64 y273_2]) (S.ev rfl) ag28 ti28 (hx.row (S.row ⟨c_292,c_293,c_294,trivial⟩))) rfl rfl (GOk.mk rfl rfl hb_17) fun _ S=>?_
           obtain⟨y274,y274_1,y274_2,c_289,c_290,c_291,H⟩:=H
           refine BN.load 9 S (fun _=>HS_9) rfl (by kernel_rfl) (by kernel_rfl) (fun _ hx=>Lf.run_ldA (cs:=[Value.int .i64 y274,Value.slice y274_1.a y274_1.n y274_1.c,Value.int .i64 y274_2]) (S.ev rfl) ag28 ti28 (hx.row (S.row ⟨c_289,c_290,c_291,trivial⟩))) rfl rfl (GOk.mk rfl rfl hb_17) fun _ S=>?_
           refine BN.eff 11 rfl (by kernel_rfl) ?_
           refine ol_cal S H isfn41 rfl rfl (GOk.mk rfl rfl hb_17) ?_
           clear S H;intro u_20 aa ww h79 H S
           obtain⟨x276,rfl,H⟩:=H
           refine OL.nil ?_
           clear HS_9;obtain⟨HS_9,H⟩:=H
           refine⟨fun _=>by rw[S.heap];exact HS_9,?_⟩
           refine BN.pure 12 S (fun _=>HS_9) rfl (by kernel_rfl) (by kernel_rfl) (fun _=>run_pickT (S.ev rfl) hb_17 (S.ev rfl)) rfl rfl trivial fun _ S=>?_
           refine BN.eff 13 rfl (by kernel_rfl) ?_
           refine ol_stoA S H rfl rfl ti58 trivial ?_
           clear S H;intro aa ww h80 H S
           refine OL.nil ?_
           refine⟨noNeed (by kernel_rfl),?_⟩
           refine BN.pure 14 S (noNeed (by kernel_rfl)) rfl (by kernel_rfl) (by kernel_rfl) (fun _=>Lf.run_assign (S.ev rfl)) rfl rfl trivial fun _ S=>?_
           refine BN.pure 15 S (noNeed (by kernel_rfl)) rfl (by kernel_rfl) (by kernel_rfl) (fun _=>Lf.run_assign (S.ev rfl)) rfl rfl trivial fun _ S=>?_
           refine BN.done (by kernel_rfl) ?_
           exact⟨x253,x276,h80,S.sub _ ⟨rfl,rfl,rfl,trivial⟩,H⟩
          ·
           replace H:=H.2 hb_17
           refine BN.not 8 S (fun _=>HS_9) rfl (by kernel_rfl) (by kernel_rfl) rfl rfl (GNo.mk rfl rfl hb_17) fun _ S=>?_
           refine BN.not 9 S (fun _=>HS_9) rfl (by kernel_rfl) (by kernel_rfl) rfl rfl (GNo.mk rfl rfl hb_17) fun _ S=>?_
           refine BN.not 10 S (fun _=>HS_9) rfl (by kernel_rfl) (by kernel_rfl) rfl rfl (GNo.mk rfl rfl hb_17) fun _ S=>?_
           obtain⟨y265_3,y265_4,y265_5,c_306,c_307,c_308,H⟩:=H
           refine BN.held 0 S HS_9 rfl (by kernel_rfl) (fun _ hq=>Lf.run_ldA (cs:=[Value.int .i64 y265_3,Value.slice y265_4.a y265_4.n y265_4.c,Value.int .i64 y265_5]) (S.ev rfl) ag28 ti28 (hlRow hq fun h_ hs_=>⟨c_306 h_ hs_,c_307 h_ hs_,c_308 h_ hs_,trivial⟩)) rfl rfl trivial fun _ S=>?_
           obtain⟨y266_3,y266_4,y266_5,c_303,c_304,c_305,H⟩:=H
           refine BN.held 1 S HS_9 rfl (by kernel_rfl) (fun _ hq=>Lf.run_ldA (cs:=[Value.int .i64 y266_3,Value.slice y266_4.a y266_4.n y266_4.c,Value.int .i64 y266_5]) (S.ev rfl) ag28 ti28 (hlRow hq fun h_ hs_=>⟨c_303 h_ hs_,c_304 h_ hs_,c_305 h_ hs_,trivial⟩)) rfl rfl trivial fun _ S=>?_
           refine BN.pure 2 S (fun _=>HS_9) rfl (by kernel_rfl) (by kernel_rfl) (fun _=>Lf.run_build (cs:=#[Value.int .i64 y265_3,Value.slice y265_4.a y265_4.n y265_4.c,Value.int .i64 y265_5,Value.int .i64 y266_3,Value.slice y266_4.a y266_4.n y266_4.c,Value.int .i64 y266_5]) pl58 ti58 (parts_map S rfl) (by kernel_rfl)) rfl rfl trivial fun _ S=>?_
           refine BN.eff 11 rfl (by kernel_rfl) ?_
           refine OL.zn S (GNo.mk rfl rfl hb_17) fun _ S=>?_
           refine OL.nil ?_
           refine⟨fun _=>by rw[S.heap];exact HS_9,?_⟩
           refine BN.pure 12 S (fun _=>HS_9) rfl (by kernel_rfl) (by kernel_rfl) (fun _=>run_pickF (S.ev rfl) hb_17 (S.ev rfl)) rfl rfl trivial fun _ S=>?_
           refine BN.eff 13 rfl (by kernel_rfl) ?_
           refine ol_stoA S H rfl rfl ti58 trivial ?_
           clear S H;intro aa ww h81 H S
           refine OL.nil ?_
           refine⟨noNeed (by kernel_rfl),?_⟩
           refine BN.pure 14 S (noNeed (by kernel_rfl)) rfl (by kernel_rfl) (by kernel_rfl) (fun _=>Lf.run_assign (S.ev rfl)) rfl rfl trivial fun _ S=>?_
           refine BN.pure 15 S (noNeed (by kernel_rfl)) rfl (by kernel_rfl) (by kernel_rfl) (fun _=>Lf.run_assign (S.ev rfl)) rfl rfl trivial fun _ S=>?_
           refine BN.done (by kernel_rfl) ?_
           exact⟨x253,false,h81,S.sub _ ⟨rfl,rfl,rfl,trivial⟩,H⟩
         ·
          clear H S
          rintro aa ww ⟨x11_5,x12_5,h82,S,HJ⟩
          have H:=HK_9 _ _ _ HJ
          clear HK_9 HJ
          refine W.ret ?_
          obtain⟨y_36,y_37,y_38,y_39,y_40,y_41,c_309,c_310,c_311,c_312,c_313,c_314,H⟩:=H
          exact Ret.gen S rfl (RV.cellA (cs:=[Value.int .i64 y_36,Value.slice y_37.a y_37.n y_37.c,Value.int .i64 y_38,Value.int .i64 y_39,Value.slice y_40.a y_40.n y_40.c,Value.int .i64 y_41]) rfl ag58 ti58 ⟨c_309,c_310,c_311,c_312,c_313,c_314,trivial⟩ (RV.tmp rfl (RV.tmp rfl RV.nil))) rfl H
        ·
         replace H:=H.2 hb_16
         refine W.seq ?_
         refine W.region ?_
         refine OL.zq S (Lf.run_eql (S.ev rfl) (S.ev rfl)) fun _ S=>?_
         refine OL.za S fun _ S=>?_
         refine OL.nil ?_
         refine W.cond S (b:=(x63 == 7)) rfl (fun hb_18=>?_) (fun hb_18=>?_)
         ·
          replace H:=H.1 hb_18
          refine W.seq ?_
          replace S:=S.sub [(0,Value.pointer vh0),(1,Value.pointer x1),(7,Value.pointer (some p7)),(8,Value.pointer (some p8)),(10,Value.pointer (some p10))] ⟨rfl,rfl,rfl,rfl,rfl,trivial⟩
          obtain⟨Sq_10,HS_10,H⟩:=H
          refine W.regionN [6] [3,7] Sq_10 S (by kernel_rfl) ?_
          clear S;intro ww S
          refine BN.pure 0 S (fun _=>HS_10) rfl (by kernel_rfl) (by kernel_rfl) (fun _=>Lf.run_move (S.ev rfl)) rfl rfl trivial fun _ S=>?_
          refine BN.pure 1 S (fun _=>HS_10) rfl (by kernel_rfl) (by kernel_rfl) (fun _=>Lf.run_fa (S.ev rfl) fa61_1) rfl rfl trivial fun _ S=>?_
          obtain⟨x282,c_321,H⟩:=H
          refine BN.load 2 S (fun _=>HS_10) rfl (by kernel_rfl) (by kernel_rfl) (fun _ hx=>Lf.run_ld (S.ev rfl) fl3 (hx.cell _ _ (S.cl c_321))) rfl rfl trivial fun _ S=>?_
          refine BN.pure 4 S (fun _=>HS_10) rfl (by kernel_rfl) (by kernel_rfl) (fun _=>Lf.run_move (S.ev rfl)) rfl rfl trivial fun _ S=>?_
          refine BN.pure 5 S (fun _=>HS_10) rfl (by kernel_rfl) (by kernel_rfl) (fun _=>Lf.run_fa (S.ev rfl) fa61_1) rfl rfl trivial fun _ S=>?_
          obtain⟨x286,c_322,H⟩:=H
          refine BN.held 6 S HS_10 rfl (by kernel_rfl) (fun _ hq=>Lf.run_ld (S.ev rfl) fl3 (c_322 _ hq)) rfl rfl trivial fun _ S=>?_
          refine BN.eff 3 rfl (by kernel_rfl) ?_
          refine ol_cal S H isfn14 rfl rfl trivial ?_
          clear S H;intro u_21 aa ww h83 H S
          obtain⟨x283,rfl,H⟩:=H
          refine OL.nil ?_
          clear HS_10;obtain⟨HS_10,H⟩:=H
          refine⟨fun _=>by rw[S.heap];exact HS_10,?_⟩
          refine BN.eff 7 rfl (by kernel_rfl) ?_
          refine ol_cal S H isfn38 rfl rfl trivial ?_
          clear S H;intro u_22 aa ww h84 H S
          obtain⟨x287,rfl,H⟩:=H
          refine OL.nil ?_
          refine⟨noNeed (by kernel_rfl),?_⟩
          refine BN.pure 8 S (noNeed (by kernel_rfl)) rfl (by kernel_rfl) (by kernel_rfl) (fun _=>Lf.run_assign (S.ev rfl)) rfl rfl trivial fun _ S=>?_
          refine BN.pure 9 S (noNeed (by kernel_rfl)) rfl (by kernel_rfl) (by kernel_rfl) (fun _=>Lf.run_assign (S.ev rfl)) rfl rfl trivial fun _ S=>?_
          refine BN.done (by kernel_rfl) ?_
          refine W.seq ?_
          refine W.region ?_
          obtain⟨y288,y288_1,y288_2,y288_3,y288_4,y288_5,c_330,c_331,c_332,c_333,c_334,c_335,H⟩:=H
          refine OL.zq S (Lf.run_ldA (cs:=[Value.int .i64 y288,Value.slice y288_1.a y288_1.n y288_1.c,Value.int .i64 y288_2,Value.int .i64 y288_3,Value.slice y288_4.a y288_4.n y288_4.c,Value.int .i64 y288_5]) (S.ev rfl) ag58 ti58 (by rw[S.heap];exact RowL.toRow ⟨c_330,c_331,c_332,c_333,c_334,c_335,trivial⟩)) fun _ S=>?_
          refine OL.zm S fun _ S=>?_
          refine OL.zm S fun _ S=>?_
          refine OL.zm S fun _ S=>?_
          refine OL.zq S (Lf.run_eql (S.ev rfl) (S.ev rfl)) fun _ S=>?_
          refine ol_stoA S H rfl rfl ti58 trivial ?_
          clear S H;intro aa ww h85 H S
          refine OL.za S fun _ S=>?_
          refine OL.za S fun _ S=>?_
          refine OL.nil ?_
          refine W.ret ?_
          obtain⟨y_42,y_43,y_44,y_45,y_46,y_47,c_324,c_325,c_326,c_327,c_328,c_329,H⟩:=H
          exact Ret.gen S rfl (RV.cellA (cs:=[Value.int .i64 y_42,Value.slice y_43.a y_43.n y_43.c,Value.int .i64 y_44,Value.int .i64 y_45,Value.slice y_46.a y_46.n y_46.c,Value.int .i64 y_47]) rfl ag58 ti58 ⟨c_324,c_325,c_326,c_327,c_328,c_329,trivial⟩ (RV.tmp rfl (RV.tmp rfl RV.nil))) rfl H
         ·
          replace H:=H.2 hb_18
          refine W.seq ?_
          refine W.region ?_
          refine OL.zq S (Lf.run_eql (S.ev rfl) (S.ev rfl)) fun _ S=>?_
          refine OL.za S fun _ S=>?_
          refine OL.nil ?_
          refine W.cond S (b:=(x63 == 8)) rfl (fun hb_19=>?_) (fun hb_19=>?_)
          ·
           replace H:=H.1 hb_19
           refine W.seq ?_
           refine W.region ?_
           refine OL.zm S fun _ S=>?_
           obtain⟨y297,y297_1,y297_2,c_377,c_378,c_379,H⟩:=H
           refine OL.zq S (Lf.run_ldA (cs:=[Value.int .i64 y297,Value.slice y297_1.a y297_1.n y297_1.c,Value.int .i64 y297_2]) (S.ev rfl) ag28 ti28 (by rw[S.heap];exact RowL.toRow ⟨c_377,c_378,c_379,trivial⟩)) fun _ S=>?_
           refine ol_cal S H isfn24 rfl rfl trivial ?_
           clear S H;intro u_23 aa ww h86 H S
           obtain⟨y298,y298_1,y298_2,y298_3,y298_4,y298_5,y298_6,x298,rfl,H⟩:=H
           refine OL.zm S fun _ S=>?_
           refine OL.zq S (Lf.run_ex (S.ev rfl) rfl) fun _ S=>?_
           refine OL.zq S (Lf.run_ex (S.ev rfl) rfl) fun _ S=>?_
           refine ol_alloc S H ti33 rfl rfl trivial ?_
           clear S H;intro p38 aa ww h87 H S
           refine ol_stoA S H rfl rfl ti33 trivial ?_
           clear S H;intro aa ww h88 H S
           refine OL.za S fun _ S=>?_
           refine OL.nil ?_
           refine W.seq ?_
           refine W.region ?_
           refine OL.zm S fun _ S=>?_
           obtain⟨y303,y303_1,y303_2,c_374,c_375,c_376,H⟩:=H
           refine OL.zq S (Lf.run_ldA (cs:=[Value.int .i64 y303,Value.slice y303_1.a y303_1.n y303_1.c,Value.int .i64 y303_2]) (S.ev rfl) ag28 ti28 (by rw[S.heap];exact RowL.toRow ⟨c_374,c_375,c_376,trivial⟩)) fun _ S=>?_
           refine ol_cal S H isfn39 rfl rfl trivial ?_
           clear S H;intro u_24 aa ww h89 H S
           obtain⟨y304,y304_1,y304_2,y304_3,y304_4,y304_5,y304_6,x304,rfl,H⟩:=H
           refine OL.zm S fun _ S=>?_
           refine OL.zq S (Lf.run_ex (S.ev rfl) rfl) fun _ S=>?_
           refine OL.zq S (Lf.run_ex (S.ev rfl) rfl) fun _ S=>?_
           refine ol_alloc S H ti33 rfl rfl trivial ?_
           clear S H;intro p40 aa ww h90 H S
           refine ol_stoA S H rfl rfl ti33 trivial ?_
           clear S H;intro aa ww h91 H S
           refine OL.za S fun _ S=>?_
           refine OL.nil ?_
           refine W.seq ?_
           replace S:=S.sub [(4,Value.bool tags4),(8,Value.pointer (some p8)),(10,Value.pointer (some p10)),(38,Value.pointer (some p38)),(39,Value.int .i64 x298),(40,Value.pointer (some p40)),(41,Value.int .i64 x304)] ⟨rfl,rfl,rfl,rfl,rfl,rfl,rfl,trivial⟩
           obtain⟨J_10,H,HK_10⟩:=H
           refine W.mono (N':=fun aa ww=>∃x11_6 x12_6 h95,St 318 [(10,Value.pointer (some p10)),(11,Value.int .i64 x11_6),(12,Value.bool x12_6)] h95 w0 aa ww∧J_10 x11_6 x12_6 h95) ?_ ?_
           ·
            obtain⟨Sq_11,HS_11,H⟩:=H
            refine W.regionN [0] [8,10] Sq_11 S (by kernel_rfl) ?_
            clear S;intro ww S
            refine BN.pure 1 S (fun _=>HS_11) rfl (by kernel_rfl) (by kernel_rfl) (fun _=>Lf.run_move (S.ev rfl)) rfl rfl trivial fun _ S=>?_
            refine BN.pure 2 S (fun _=>HS_11) rfl (by kernel_rfl) (by kernel_rfl) (fun _=>Lf.run_move (S.ev rfl)) rfl rfl trivial fun _ S=>?_
            refine BN.pure 3 S (fun _=>HS_11) rfl (by kernel_rfl) (by kernel_rfl) (fun _=>Lf.run_eql (S.ev rfl) (S.ev rfl)) rfl rfl trivial fun _ S=>?_
            refine BN.pure 4 S (fun _=>HS_11) rfl (by kernel_rfl) (by kernel_rfl) (fun _=>Lf.run_move (S.ev rfl)) rfl rfl trivial fun _ S=>?_
            rcases Bool.eq_false_or_eq_true (x298 == x304) with hb_20|hb_20
            ·
             replace H:=H.1 hb_20
             obtain⟨y312,y312_1,y312_2,y312_3,y312_4,y312_5,y312_6,c_354,c_355,c_356,c_357,c_358,c_359,c_360,H⟩:=H
             refine BN.load 5 S (fun _=>HS_11) rfl (by kernel_rfl) (by kernel_rfl) (fun _ hx=>Lf.run_ldA (cs:=[Value.int .i64 y312,Value.int .u64 y312_1,Value.string y312_2,Value.slice y312_3.a y312_3.n y312_3.c,Value.int .i64 y312_4,Value.slice y312_5.a y312_5.n y312_5.c,Value.int .i64 y312_6]) (S.ev rfl) ag33 ti33 (hx.row (S.row ⟨c_354,c_355,c_356,c_357,c_358,c_359,c_360,trivial⟩))) rfl rfl (GOk.mk rfl rfl hb_20) fun _ S=>?_
             obtain⟨y313,y313_1,y313_2,y313_3,y313_4,y313_5,y313_6,c_347,c_348,c_349,c_350,c_351,c_352,c_353,H⟩:=H
             refine BN.load 6 S (fun _=>HS_11) rfl (by kernel_rfl) (by kernel_rfl) (fun _ hx=>Lf.run_ldA (cs:=[Value.int .i64 y313,Value.int .u64 y313_1,Value.string y313_2,Value.slice y313_3.a y313_3.n y313_3.c,Value.int .i64 y313_4,Value.slice y313_5.a y313_5.n y313_5.c,Value.int .i64 y313_6]) (S.ev rfl) ag33 ti33 (hx.row (S.row ⟨c_347,c_348,c_349,c_350,c_351,c_352,c_353,trivial⟩))) rfl rfl (GOk.mk rfl rfl hb_20) fun _ S=>?_
             refine BN.pure 7 S (fun _=>HS_11) rfl (by kernel_rfl) (by kernel_rfl) (fun _=>Lf.run_move (S.ev rfl)) rfl rfl (GOk.mk rfl rfl hb_20) fun _ S=>?_
             obtain⟨y307,y307_1,y307_2,y307_3,y307_4,y307_5,c_341,c_342,c_343,c_344,c_345,c_346,H⟩:=H
             refine BN.held 0 S HS_11 rfl (by kernel_rfl) (fun _ hq=>Lf.run_ldA (cs:=[Value.int .i64 y307,Value.slice y307_1.a y307_1.n y307_1.c,Value.int .i64 y307_2,Value.int .i64 y307_3,Value.slice y307_4.a y307_4.n y307_4.c,Value.int .i64 y307_5]) (S.ev rfl) ag58 ti58 (hlRow hq fun h_ hs_=>⟨c_341 h_ hs_,c_342 h_ hs_,c_343 h_ hs_,c_344 h_ hs_,c_345 h_ hs_,c_346 h_ hs_,trivial⟩)) rfl rfl trivial fun _ S=>?_
             refine BN.eff 8 rfl (by kernel_rfl) ?_
             refine ol_cal S H isfn42 rfl rfl (GOk.mk rfl rfl hb_20) ?_
             clear S H;intro u_25 aa ww h92 H S
             obtain⟨x315,rfl,H⟩:=H
             refine OL.nil ?_
             clear HS_11;obtain⟨HS_11,H⟩:=H
             refine⟨fun _=>by rw[S.heap];exact HS_11,?_⟩
             refine BN.pure 9 S (fun _=>HS_11) rfl (by kernel_rfl) (by kernel_rfl) (fun _=>run_pickT (S.ev rfl) hb_20 (S.ev rfl)) rfl rfl trivial fun _ S=>?_
             refine BN.eff 10 rfl (by kernel_rfl) ?_
             refine ol_stoA S H rfl rfl ti58 trivial ?_
             clear S H;intro aa ww h93 H S
             refine OL.nil ?_
             refine⟨noNeed (by kernel_rfl),?_⟩
             refine BN.pure 11 S (noNeed (by kernel_rfl)) rfl (by kernel_rfl) (by kernel_rfl) (fun _=>Lf.run_assign (S.ev rfl)) rfl rfl trivial fun _ S=>?_
             refine BN.pure 12 S (noNeed (by kernel_rfl)) rfl (by kernel_rfl) (by kernel_rfl) (fun _=>Lf.run_assign (S.ev rfl)) rfl rfl trivial fun _ S=>?_
             refine BN.done (by kernel_rfl) ?_
             exact⟨0,x315,h93,S.sub _ ⟨rfl,rfl,rfl,trivial⟩,H⟩
            ·
             replace H:=H.2 hb_20
             refine BN.not 5 S (fun _=>HS_11) rfl (by kernel_rfl) (by kernel_rfl) rfl rfl (GNo.mk rfl rfl hb_20) fun _ S=>?_
             refine BN.not 6 S (fun _=>HS_11) rfl (by kernel_rfl) (by kernel_rfl) rfl rfl (GNo.mk rfl rfl hb_20) fun _ S=>?_
             refine BN.not 7 S (fun _=>HS_11) rfl (by kernel_rfl) (by kernel_rfl) rfl rfl (GNo.mk rfl rfl hb_20) fun _ S=>?_
             obtain⟨y307_6,y307_7,y307_8,y307_9,y307_10,y307_11,c_362,c_363,c_364,c_365,c_366,c_367,H⟩:=H
             refine BN.held 0 S HS_11 rfl (by kernel_rfl) (fun _ hq=>Lf.run_ldA (cs:=[Value.int .i64 y307_6,Value.slice y307_7.a y307_7.n y307_7.c,Value.int .i64 y307_8,Value.int .i64 y307_9,Value.slice y307_10.a y307_10.n y307_10.c,Value.int .i64 y307_11]) (S.ev rfl) ag58 ti58 (hlRow hq fun h_ hs_=>⟨c_362 h_ hs_,c_363 h_ hs_,c_364 h_ hs_,c_365 h_ hs_,c_366 h_ hs_,c_367 h_ hs_,trivial⟩)) rfl rfl trivial fun _ S=>?_
             refine BN.eff 8 rfl (by kernel_rfl) ?_
             refine OL.zn S (GNo.mk rfl rfl hb_20) fun _ S=>?_
             refine OL.nil ?_
             refine⟨fun _=>by rw[S.heap];exact HS_11,?_⟩
             refine BN.pure 9 S (fun _=>HS_11) rfl (by kernel_rfl) (by kernel_rfl) (fun _=>run_pickF (S.ev rfl) hb_20 (S.ev rfl)) rfl rfl trivial fun _ S=>?_
             refine BN.eff 10 rfl (by kernel_rfl) ?_
             refine ol_stoA S H rfl rfl ti58 trivial ?_
             clear S H;intro aa ww h94 H S
             refine OL.nil ?_
             refine⟨noNeed (by kernel_rfl),?_⟩
             refine BN.pure 11 S (noNeed (by kernel_rfl)) rfl (by kernel_rfl) (by kernel_rfl) (fun _=>Lf.run_assign (S.ev rfl)) rfl rfl trivial fun _ S=>?_
             refine BN.pure 12 S (noNeed (by kernel_rfl)) rfl (by kernel_rfl) (by kernel_rfl) (fun _=>Lf.run_assign (S.ev rfl)) rfl rfl trivial fun _ S=>?_
             refine BN.done (by kernel_rfl) ?_
             exact⟨0,false,h94,S.sub _ ⟨rfl,rfl,rfl,trivial⟩,H⟩
           ·
            clear H S
            rintro aa ww ⟨x11_6,x12_6,h95,S,HJ⟩
            have H:=HK_10 _ _ _ HJ
            clear HK_10 HJ
            refine W.ret ?_
            obtain⟨y_48,y_49,y_50,y_51,y_52,y_53,c_368,c_369,c_370,c_371,c_372,c_373,H⟩:=H
            exact Ret.gen S rfl (RV.cellA (cs:=[Value.int .i64 y_48,Value.slice y_49.a y_49.n y_49.c,Value.int .i64 y_50,Value.int .i64 y_51,Value.slice y_52.a y_52.n y_52.c,Value.int .i64 y_53]) rfl ag58 ti58 ⟨c_368,c_369,c_370,c_371,c_372,c_373,trivial⟩ (RV.tmp rfl (RV.tmp rfl RV.nil))) rfl H
          ·
           replace H:=H.2 hb_19
           refine W.skip ?_
           refine W.seq ?_
           refine W.region ?_
           obtain⟨y317,y317_1,y317_2,y317_3,y317_4,y317_5,c_387,c_388,c_389,c_390,c_391,c_392,H⟩:=H
           refine OL.zq S (Lf.run_ldA (cs:=[Value.int .i64 y317,Value.slice y317_1.a y317_1.n y317_1.c,Value.int .i64 y317_2,Value.int .i64 y317_3,Value.slice y317_4.a y317_4.n y317_4.c,Value.int .i64 y317_5]) (S.ev rfl) ag58 ti58 (by rw[S.heap];exact RowL.toRow ⟨c_387,c_388,c_389,c_390,c_391,c_392,trivial⟩)) fun _ S=>?_
           refine ol_stoA S H rfl rfl ti58 trivial ?_
           clear S H;intro aa ww h96 H S
           refine OL.za S fun _ S=>?_
           refine OL.za S fun _ S=>?_
           refine OL.nil ?_
           refine W.ret ?_
           obtain⟨y_54,y_55,y_56,y_57,y_58,y_59,c_381,c_382,c_383,c_384,c_385,c_386,H⟩:=H
           exact Ret.gen S rfl (RV.cellA (cs:=[Value.int .i64 y_54,Value.slice y_55.a y_55.n y_55.c,Value.int .i64 y_56,Value.int .i64 y_57,Value.slice y_58.a y_58.n y_58.c,Value.int .i64 y_59]) rfl ag58 ti58 ⟨c_381,c_382,c_383,c_384,c_385,c_386,trivial⟩ (RV.tmp rfl (RV.tmp rfl RV.nil))) rfl H
end Go.Proofs.Ytggacajnmgligaa
namespace Go.Proofs.Ytggacajnmgligaa
open Go Go.Lf
set_option linter.unusedVariables false
theorem wrap_succ {j n:Nat} (h:j<n) (hn:n≤4611686018427387904):IntKind.i64.wrap ((j:Int)+1)=((j+1:Nat):Int):=by rw[wrap64_id (by omega) (by omega)];rfl
inductive Vl where
 | mk (k n:Int) (nm:ByteArray) (ts:List Vl) (al:Int) (pa:List Int) (tg:Int)
theorem Vl.ind {P:Vl→Prop} (H:∀k n nm ts al pa tg,(∀a∈ts,P a)→P (.mk k n nm ts al pa tg)) (t:Vl):P t:=by
 refine Vl.rec (motive_1:=P) (motive_2:=fun l=>∀a∈l,P a) (fun k n nm ts al pa tg ih=>H k n nm ts al pa tg ih) (fun _ h=>by cases h) (fun a az h1 h2 b hb=>?_) t
 rcases List.mem_cons.1 hb with e|e
 ·rw[e];exact h1
 ·exact h2 b e
structure Vv where
 k:Int
 n:Int
 nm:ByteArray
 ps:Sv
 al:Int
 pa:Sv
 tg:Int
abbrev vvs (v:Vv):Array Value:=#[.int .i64 v.k,.int .u64 v.n,.string v.nm,.slice v.ps.a v.ps.n v.ps.c,.int .i64 v.al,.slice v.pa.a v.pa.n v.pa.c,.int .i64 v.tg]
abbrev zVv:Vv:=⟨0,0,⟨#[]⟩,⟨none,0,0⟩,0,⟨none,0,0⟩,0⟩
def Vv7 (h:Heap) (p:Addr) (v:Vv):Prop:=∀(j:Nat) u,(vvs v)[j]?=some u→cl h (p.add j)=some u
theorem Vv7.fr {h h':Heap} {p:Addr} {v:Vv} {T:Nat→Prop} (x:Vv7 h p v) (f:Fr T h h') (hT:¬T p.block):Vv7 h' p v:=fun j u hu=>f.clk (x j u hu) (by rw[add_block];exact hT)
theorem Vv7.lt {h:Heap} {p:Addr} {v:Vv} (x:Vv7 h p v):p.block<h.size:=by have:=cl_lt (x 0 _ rfl);rwa [add_block] at this
theorem Vv7.blk {h:Heap} {b:Nat} {v:Vv} (k:blk h b (vvs v)):Vv7 h ⟨b,0,none⟩ v:=fun j u hu=>by rw[add_plain,k.cl,Nat.zero_add];exact hu
theorem one_vv (v:Vv):∀u∈(vvs v).toList,u.oneCell'=true:=by
 intro u hu
 simp only[List.mem_cons,List.not_mem_nil,or_false] at hu
 rcases hu with rfl|rfl|rfl|rfl|rfl|rfl|rfl<;>rfl
section
variable {h:Heap}
theorem rd7 {p:Addr} {v:Vv} {K:Int→Int→ByteArray→Sv→Int→Sv→Int→Prop} (x:Vv7 h p v) (k:K v.k v.n v.nm v.ps v.al v.pa v.tg) :
  ∃(y:Int) (y1:Int) (y2:ByteArray) (y3:Sv) (y4:Int) (y5:Sv) (y6:Int),cl h p=some (.int .i64 y)∧cl h (p.add 1)=some (.int .u64 y1)∧cl h (p.add 2)=some (.string y2)∧cl h (p.add 3)=some (.slice y3.a y3.n y3.c)∧cl h (p.add 4)=some (.int .i64 y4)∧cl h (p.add 5)=some (.slice y5.a y5.n y5.c)∧cl h (p.add 6)=some (.int .i64 y6)∧K y y1 y2 y3 y4 y5 y6:=by
 have h0:=x 0 _ rfl
 rw[add_zero] at h0
 exact⟨_,_,_,v.ps,_,v.pa,_,h0,x 1 _ rfl,x 2 _ rfl,x 3 _ rfl,x 4 _ rfl,x 5 _ rfl,x 6 _ rfl,k⟩
theorem newV {v:Vv} {K:Addr→Heap→Prop} (k:∀h',blk h' h.size (vvs v)→Grow h h'→h'.size=h.size+1→K ⟨h.size,0,none⟩ h'):new 33 (vvs v) h K:=by
 rintro p h' rfl rfl
 exact k _ (blk.new _ _ _) (Fr.push _ _ _) (by simp)
theorem stoV {b:Nat} {cs:Array Value} {v:Vv} {K:Heap→Prop} (kk:blk h b cs) (hs:cs.size=7) (k:∀h',blk h' b (vvs v)→Fr (fun i=>i=b) h h'→K h'):stoA h ⟨b,0,none⟩ (vvs v).toList K:=
 stoA_i kk (by rw[hs];rfl) (one_vv v) k
theorem mineV {v:Vv} {K:Addr→Heap→Prop} (k:∀h',blk h' h.size (vvs v)→Grow h h'→K ⟨h.size,0,none⟩ h'):new 33 (vvs zVv) h fun p h1=>stoA h1 p (vvs v).toList fun h2=>K p h2:=
 newV (v:=zVv) fun h1 b1 f1 z1=>stoV b1 rfl fun h2 b2 f2=>k h2 b2 (f1.trans' f2 fun i hi e=>by omega)
theorem stoB {g o:Nat} {cur:Array Value} {vs:List Value} {K:Heap→Prop} (kk:blk h g cur) (hfit:o+vs.length≤cur.size) (h1:∀v∈vs,v.oneCell'=true)
  (k:∀h' cur',blk h' g cur'→cur'.size=cur.size→(∀i,o≤i→i<o+vs.length→cur'[i]?=vs[i - o]?)→(∀i,i<o∨o+vs.length≤i→cur'[i]?=cur[i]?)→Fr (fun b=>b=g) h h'→K h'):stoA h ⟨g,o,none⟩ vs K:=by
 refine⟨h1,fun j hj=>?_,?_⟩
 ·rw[add_plain,kk.cl,kk.fz]
  have:o+j<cur.size:=by omega
  simp[this]
 ·rintro h' rfl
  have hs:=scs_blk g vs h cur o 0 kk
  simp only[Nat.add_zero] at hs
  have hf:=fold_set vs cur o hfit
  generalize (vs.zipIdx o).foldl (fun c p=>c.setIfInBounds p.2 p.1) cur=cur' at *
  have hget:∀i,cur'[i]?=(cur.toList.take o++vs++cur.toList.drop (o+vs.length))[i]?:=fun i=>by rw[←hf,Array.getElem?_toList]
  refine k _ cur' hs.1 ?_ (fun i h1 h2=>?_) (fun i hi=>?_) hs.2
  ·have:=congrArg List.length hf
   simp at this
   omega
  ·have hl:(cur.toList.take o).length=o:=by simp;omega
   rw[hget,List.append_assoc,List.getElem?_append_right (by omega),hl,List.getElem?_append_left (by omega)]
  ·have hl:(cur.toList.take o).length=o:=by simp;omega
   rw[hget]
   rcases hi with hi|hi
   ·rw[List.append_assoc,List.getElem?_append_left (by omega),List.getElem?_take,if_pos hi,Array.getElem?_toList]
   ·rw[List.getElem?_append_right (by simp;omega),List.getElem?_drop,Array.getElem?_toList]
    congr 1
    simp
    omega
end
def shA (A:List Nat→Nat→Prop) (j:Nat):List Nat→Nat→Prop:=fun σ=>A (j :: σ)
def VAt (o:Bool) (Q:Nat→Prop) (h:Heap):Vl→(List Nat→Nat→Prop)→Vv→Prop:=
 Vl.rec (motive_1:=fun _=>(List Nat→Nat→Prop)→Vv→Prop) (motive_2:=fun _=>(List Nat→Nat→Prop)→Sv→Nat→Prop)
  (fun k n nm ts al pa tg ih A v=>v.k=k∧v.n=n∧v.nm=nm∧v.al=al∧v.tg=tg∧IntsC Q h v.pa pa∧v.ps.n=ts.length∧ih A v.ps 0)
  (fun _ _ _=>True)
  (fun _ _ ih1 ih2 A s i=>(∃p v,s.a=some p∧A [] p.block∧(o=true→p.off=0∧p.spot=none∧∃cs,blk h p.block cs∧(i+1)*7≤cs.size)∧Vv7 h (p.add (i*7)) v∧ih1 (shA A i) v)∧ih2 A s (i+1))
def PartsAt (o:Bool) (Q:Nat→Prop) (h:Heap):List Vl→(List Nat→Nat→Prop)→Sv→Nat→Prop
 | [],_,_,_=>True
 | a :: az,A,s,i=>(∃p v,s.a=some p∧A [] p.block∧(o=true→p.off=0∧p.spot=none∧∃cs,blk h p.block cs∧(i+1)*7≤cs.size)∧Vv7 h (p.add (i*7)) v∧VAt o Q h a (shA A i) v)∧PartsAt o Q h az A s (i+1)
section
variable {o:Bool} {Q Q' T:Nat→Prop} {h h':Heap} {A A':List Nat→Nat→Prop}
theorem partsAt_rec (az:List Vl) (A:List Nat→Nat→Prop) (s:Sv) (i:Nat):(Vl.rec_1 (motive_1:=fun _=>(List Nat→Nat→Prop)→Vv→Prop) (motive_2:=fun _=>(List Nat→Nat→Prop)→Sv→Nat→Prop)
  (fun k n nm ts al pa tg ih A v=>v.k=k∧v.n=n∧v.nm=nm∧v.al=al∧v.tg=tg∧IntsC Q h v.pa pa∧v.ps.n=ts.length∧ih A v.ps 0)
  (fun _ _ _=>True)
  (fun _ _ ih1 ih2 A s i=>(∃p v,s.a=some p∧A [] p.block∧(o=true→p.off=0∧p.spot=none∧∃cs,blk h p.block cs∧(i+1)*7≤cs.size)∧Vv7 h (p.add (i*7)) v∧ih1 (shA A i) v)∧ih2 A s (i+1)) az:(List Nat→Nat→Prop)→Sv→Nat→Prop) A s i=PartsAt o Q h az A s i:=by
 induction az generalizing i with
 | nil=>rfl
 | cons a az ih=>rw[PartsAt,←ih (i+1)];rfl
theorem partsAt_iff (az:List Vl) (A:List Nat→Nat→Prop) (s:Sv) (i:Nat):PartsAt o Q h az A s i↔∀j (hj:j<az.length),∃p v,s.a=some p∧A [] p.block∧(o=true→p.off=0∧p.spot=none∧∃cs,blk h p.block cs∧(i+j+1)*7≤cs.size)∧Vv7 h (p.add ((i+j)*7)) v∧VAt o Q h az[j] (shA A (i+j)) v:=by
 induction az generalizing i with
 | nil=>simp[PartsAt]
 | cons a az ih=>
  rw[PartsAt,ih (i+1)]
  constructor
  ·rintro ⟨h1,h2⟩ j hj
   cases j with
   | zero=>simpa using h1
   | succ j=>
    have:=h2 j (by simpa using hj)
    rw[show i+1+j=i+(j+1) by omega] at this
    simpa using this
  ·intro H
   refine⟨H 0 (Nat.zero_lt_succ _),fun j hj=>?_⟩
   have:=H (j+1) (by simpa using hj)
   rw[show i+(j+1)=i+1+j by omega] at this
   simpa using this
theorem vAt_iff {k n:Int} {nm:ByteArray} {ts:List Vl} {al:Int} {pa:List Int} {tg:Int} {v:Vv}:VAt o Q h (.mk k n nm ts al pa tg) A v ↔
  (v.k=k∧v.n=n∧v.nm=nm∧v.al=al∧v.tg=tg∧IntsC Q h v.pa pa∧v.ps.n=ts.length∧∀j (hj:j<ts.length),∃p u,v.ps.a=some p∧A [] p.block∧(o=true→p.off=0∧p.spot=none∧∃cs,blk h p.block cs∧(j+1)*7≤cs.size)∧Vv7 h (p.add (j*7)) u∧VAt o Q h ts[j] (shA A j) u):=by
 have e:=partsAt_iff (o:=o) (Q:=Q) (h:=h) ts A v.ps 0
 rw[←partsAt_rec] at e
 simp only[Nat.zero_add] at e
 rw[←e]
 rfl
theorem VAt.fr (f:Fr T h h') (hQ:∀b,Q b→¬T b):∀ {t:Vl} {A:List Nat→Nat→Prop} {v:Vv},(∀σ b,A σ b→¬T b)→VAt o Q h t A v→VAt o Q h' t A v:=by
 intro t
 refine Vl.ind (P:=fun t=>∀ {A:List Nat→Nat→Prop} {v:Vv},(∀σ b,A σ b→¬T b)→VAt o Q h t A v→VAt o Q h' t A v) ?_ t
 intro k n nm ts al pa tg ih A v hA hv
 rw[vAt_iff] at hv ⊢
 obtain⟨e1,e2,e3,e4,e5,e6,e7,e8⟩:=hv
 refine⟨e1,e2,e3,e4,e5,e6.fr f hQ,e7,fun j hj=>?_⟩
 obtain⟨p,u,q1,q2,q3,q4,q5⟩:=e8 j hj
 refine⟨p,u,q1,q2,fun ho=>?_,q4.fr f (by rw[add_block];exact hA _ _ q2),ih _ (List.getElem_mem hj) (fun σ=>hA (j :: σ)) q5⟩
 obtain⟨r1,r2,cs,r3,r4⟩:=q3 ho
 exact⟨r1,r2,cs,f.blk r3 (hA _ _ q2),r4⟩
theorem VAt.weak (hQ:∀b,Q b→b<h.size→Q' b) {o':Bool} (ho:o'=true→o=true):∀ {t:Vl} {A A':List Nat→Nat→Prop} {v:Vv},(∀σ b,A σ b→b<h.size→A' σ b)→VAt o Q h t A v→VAt o' Q' h t A' v:=by
 intro t
 refine Vl.ind (P:=fun t=>∀ {A A':List Nat→Nat→Prop} {v:Vv},(∀σ b,A σ b→b<h.size→A' σ b)→VAt o Q h t A v→VAt o' Q' h t A' v) ?_ t
 intro k n nm ts al pa tg ih A A' v hA hv
 rw[vAt_iff] at hv ⊢
 obtain⟨e1,e2,e3,e4,e5,e6,e7,e8⟩:=hv
 refine⟨e1,e2,e3,e4,e5,e6.weak hQ,e7,fun j hj=>?_⟩
 obtain⟨p,u,q1,q2,q3,q4,q5⟩:=e8 j hj
 exact⟨p,u,q1,hA _ _ q2 (by have:=q4.lt;rwa [add_block] at this),fun h=>q3 (ho h),q4,ih _ (List.getElem_mem hj) (fun σ=>hA (j :: σ)) q5⟩
theorem VAt.grow {t:Vl} {v:Vv} (x:VAt o Q h t A v) (f:Grow h h'):VAt o Q h' t A v:=x.fr f (fun _ _ h=>h) fun _ _ _ h=>h
abbrev anyA (Q:Nat→Prop):List Nat→Nat→Prop:=fun _ b=>Q b
end
def getV:Vl→List Int→Except Int Vl
 | t,[]=>.ok t
 | .mk k n nm ts al pa tg,i :: π=>if k=0 then .error 3 else if k≠5∨i<0∨(ts.length:Int)≤i then .error 4 else match ts[i.toNat]? with
  | some u=>getV u π
  | none=>.error 4
def putV:Vl→List Nat→Vl→Vl
 | _,[],x=>x
 | .mk k n nm ts al pa tg,j :: π,x=>.mk k n nm (match ts[j]? with|some u=>ts.set j (putV u π x)|none=>ts) al pa tg
def getN:Vl→List Nat→Option Vl
 | t,[]=>some t
 | .mk k n nm ts al pa tg,j :: π=>match ts[j]? with
  | some u=>getN u π
  | none=>none
def Pl (h:Heap):Addr→List Nat→Addr→Prop
 | p0,[],p=>p=p0
 | p0,j :: π,p=>∃(s:Sv) (q:Addr),cl h (p0.add 3)=some (.slice s.a s.n s.c)∧s.a=some q∧Pl h (q.add (j*7)) π p
section
variable {Q:Nat→Prop} {h h':Heap}
theorem Pl.at_:∀ {π:List Nat} {t y:Vl} {A:List Nat→Nat→Prop} {p0 p:Addr} {v:Vv} {o:Bool},Pl h p0 π p→Vv7 h p0 v→VAt o Q h t A v→getN t π=some y →
  ∃u,Vv7 h p u∧VAt o Q h y (fun σ=>A (π++σ)) u∧((π=[]∧p=p0)∨∃τ,τ.length<π.length∧A τ p.block∧τ=π.dropLast)
 | [],t,y,A,p0,p,v,o,hp,hv,ht,hg=>by
  obtain rfl:p=p0:=hp
  unfold getN at hg
  simp only[Option.some.injEq] at hg
  subst hg
  exact⟨v,hv,ht,.inl ⟨rfl,rfl⟩⟩
 | j :: π,.mk k n nm ts al pa tg,y,A,p0,p,v,o,hp,hv,ht,hg=>by
  obtain⟨s,q,c,e,hp'⟩:=hp
  obtain⟨e1,e2,e3,e4,e5,e6,e7,e8⟩:=vAt_iff.1 ht
  unfold getN at hg
  split at hg
  ·rename_i u hu
   obtain⟨hj,rfl⟩:=List.getElem?_eq_some_iff.1 hu
   obtain⟨q',u',r1,r2,r3,r4,r5⟩:=e8 j hj
   have c':cl h (p0.add 3)=some (.slice v.ps.a v.ps.n v.ps.c):=hv 3 _ rfl
   rw[c] at c'
   simp only[Option.some.injEq,Value.slice.injEq] at c'
   rw[e,r1] at c'
   obtain rfl:q=q':=by simpa using c'.1
   obtain⟨u,g1,g2,g3⟩:=Pl.at_ hp' r4 r5 hg
   refine⟨u,g1,g2,.inr ?_⟩
   rcases g3 with⟨rfl,rfl⟩|⟨τ,l1,l2,l3⟩
   ·exact⟨[],by simp,by rw[add_block];exact r2,rfl⟩
   ·refine⟨j :: τ,by simpa using l1,l2,?_⟩
    cases π with
    | nil=>simp at l1
    | cons a π=>rw[l3];rfl
  ·cases hg
end
end Go.Proofs.Ytggacajnmgligaa

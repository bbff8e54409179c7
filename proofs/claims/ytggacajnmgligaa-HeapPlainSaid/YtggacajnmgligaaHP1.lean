/- HeapPlain: for every input that its row covers the law returns true, and its arguments read as they did; under no other conditions. This text is joined by a program of ours out of smaller ones. -/
import Derived.Test.YtggacajnmgligaaHP0
namespace Go.Proofs.Ytggacajnmgligaa
open Go Go.Lf
set_option linter.unusedVariables false
set_option maxRecDepth 100000
def L8 (most0:Int) (watch1:Bool) (h:Heap) (R:Value→Heap→Prop):Prop:=
 new 74 #[Value.slice (⟨none,0,0⟩:Sv).a (⟨none,0,0⟩:Sv).n (⟨none,0,0⟩:Sv).c,Value.int .i64 0,Value.int .i64 0,Value.int .i64 most0,Value.bool watch1] h fun p8 h1=>
 R (Value.pointer (some p8)) h1
set_option maxRecDepth 100000 in
theorem F8 {most0 watch1 h:_} {R:Value→Heap→Prop} (H:L8 most0 watch1 h R):CallsH Try.prog 8 #[Value.int .i64 most0,Value.bool watch1] h R:=by
 refine CallsH.enter (n:=9) Try.func8 rfl rfl rfl rfl ?_
 intro w0 aa ww S
 unfold L8 at H
 refine W.seq ?_
 refine W.region ?_
 refine OL.za S fun _ S=>?_
 refine OL.nil ?_
 refine W.seq ?_
 refine W.region ?_
 refine OL.zm S fun _ S=>?_
 refine OL.zm S fun _ S=>?_
 refine OL.zq S (Lf.run_build (cs:=#[Value.slice (⟨none,0,0⟩:Sv).a (⟨none,0,0⟩:Sv).n (⟨none,0,0⟩:Sv).c,Value.int .i64 0,Value.int .i64 0,Value.int .i64 most0,Value.bool watch1]) pl74 ti74 (parts_map S rfl) (by kernel_rfl)) fun _ S=>?_
 refine ol_box S H rfl rfl rfl trivial ?_
 clear S H;intro p8 aa ww h1 H S
 refine OL.za S fun _ S=>?_
 refine OL.nil ?_
 refine W.ret ?_
 exact Ret.one S rfl rfl H
def L9  (h:Heap) (R:Value→Heap→Prop):Prop:=
 cal Try.prog 8 #[Value.int .i64 4,Value.bool true] h fun u h1=>asP u fun x12=>
 cal Try.prog 11 #[Value.int .u64 7] h1 fun u_1 h2=>∃(y15:Int) (y15_1:Int) (y15_2:ByteArray) (y15_3:Sv) (y15_4:Int) (y15_5:Sv) (y15_6:Int),u_1=Value.agg #[Value.int .i64 y15,Value.int .u64 y15_1,Value.string y15_2,Value.slice y15_3.a y15_3.n y15_3.c,Value.int .i64 y15_4,Value.slice y15_5.a y15_5.n y15_5.c,Value.int .i64 y15_6] ∧
 cal Try.prog 10 #[Value.pointer x12,Value.agg #[Value.int .i64 y15,Value.int .u64 y15_1,Value.string y15_2,Value.slice y15_3.a y15_3.n y15_3.c,Value.int .i64 y15_4,Value.slice y15_5.a y15_5.n y15_5.c,Value.int .i64 y15_6]] h2 fun u_2 h3=>asTup u_2 fun r16=>
 elt r16 0 fun u_3=>∃(y17:Int) (y17_1:Sv) (y17_2:Int),u_3=Value.agg #[Value.int .i64 y17,Value.slice y17_1.a y17_1.n y17_1.c,Value.int .i64 y17_2] ∧
 elt r16 1 fun u_4=>asB u_4 fun x18=>
 new 28 #[Value.int .i64 0,Value.slice (⟨none,0,0⟩:Sv).a (⟨none,0,0⟩:Sv).n (⟨none,0,0⟩:Sv).c,Value.int .i64 0] h3 fun p2 h4=>
 stoA h4 p2 [Value.int .i64 y17,Value.slice y17_1.a y17_1.n y17_1.c,Value.int .i64 y17_2] fun h5=>
 ifb (!x18) (
  R (Value.bool false) h5) (
  ∃(y23:Int) (y23_1:Sv) (y23_2:Int),cl h5 p2=some (Value.int .i64 y23)∧cl h5 (p2.add 1)=some (Value.slice y23_1.a y23_1.n y23_1.c)∧cl h5 (p2.add 2)=some (Value.int .i64 y23_2) ∧
  cal Try.prog 12 #[Value.pointer x12,Value.agg #[Value.int .i64 y23,Value.slice y23_1.a y23_1.n y23_1.c,Value.int .i64 y23_2],Value.bool true] h5 fun u_5 h6=>asTup u_5 fun r24=>
  elt r24 0 fun u_6=>∃(y25:Int) (y25_1:Sv) (y25_2:Int),u_6=Value.agg #[Value.int .i64 y25,Value.slice y25_1.a y25_1.n y25_1.c,Value.int .i64 y25_2] ∧
  elt r24 1 fun u_7=>asI .i64 u_7 fun x26=>
  new 28 #[Value.int .i64 0,Value.slice (⟨none,0,0⟩:Sv).a (⟨none,0,0⟩:Sv).n (⟨none,0,0⟩:Sv).c,Value.int .i64 0] h6 fun p4 h7=>
  stoA h7 p4 [Value.int .i64 y25,Value.slice y25_1.a y25_1.n y25_1.c,Value.int .i64 y25_2] fun h8=>
  ∃(y29:Int) (y29_1:Sv) (y29_2:Int),cl h8 p4=some (Value.int .i64 y29)∧cl h8 (p4.add 1)=some (Value.slice y29_1.a y29_1.n y29_1.c)∧cl h8 (p4.add 2)=some (Value.int .i64 y29_2) ∧
  cal Try.prog 15 #[Value.pointer x12,Value.agg #[Value.int .i64 y29,Value.slice y29_1.a y29_1.n y29_1.c,Value.int .i64 y29_2]] h8 fun u_8 h9=>asTup u_8 fun r30=>
  elt r30 0 fun u_9=>∃(y31:Int) (y31_1:Int) (y31_2:ByteArray) (y31_3:Sv) (y31_4:Int) (y31_5:Sv) (y31_6:Int),u_9=Value.agg #[Value.int .i64 y31,Value.int .u64 y31_1,Value.string y31_2,Value.slice y31_3.a y31_3.n y31_3.c,Value.int .i64 y31_4,Value.slice y31_5.a y31_5.n y31_5.c,Value.int .i64 y31_6] ∧
  elt r30 1 fun u_10=>asI .i64 u_10 fun x32=>
  new 33 #[Value.int .i64 0,Value.int .u64 0,Value.string (⟨#[]⟩:ByteArray),Value.slice (⟨none,0,0⟩:Sv).a (⟨none,0,0⟩:Sv).n (⟨none,0,0⟩:Sv).c,Value.int .i64 0,Value.slice (⟨none,0,0⟩:Sv).a (⟨none,0,0⟩:Sv).n (⟨none,0,0⟩:Sv).c,Value.int .i64 0] h9 fun p6 h10=>
  stoA h10 p6 [Value.int .i64 y31,Value.int .u64 y31_1,Value.string y31_2,Value.slice y31_3.a y31_3.n y31_3.c,Value.int .i64 y31_4,Value.slice y31_5.a y31_5.n y31_5.c,Value.int .i64 y31_6] fun h11=>
  ∃(y35:Int) (y35_1:Sv) (y35_2:Int),cl h11 p2=some (Value.int .i64 y35)∧cl h11 (p2.add 1)=some (Value.slice y35_1.a y35_1.n y35_1.c)∧cl h11 (p2.add 2)=some (Value.int .i64 y35_2) ∧
  cal Try.prog 15 #[Value.pointer x12,Value.agg #[Value.int .i64 y35,Value.slice y35_1.a y35_1.n y35_1.c,Value.int .i64 y35_2]] h11 fun u_11 h12=>asTup u_11 fun r36=>
  elt r36 0 fun u_12=>∃(y37:Int) (y37_1:Int) (y37_2:ByteArray) (y37_3:Sv) (y37_4:Int) (y37_5:Sv) (y37_6:Int),u_12=Value.agg #[Value.int .i64 y37,Value.int .u64 y37_1,Value.string y37_2,Value.slice y37_3.a y37_3.n y37_3.c,Value.int .i64 y37_4,Value.slice y37_5.a y37_5.n y37_5.c,Value.int .i64 y37_6] ∧
  elt r36 1 fun u_13=>asI .i64 u_13 fun x38=>
  new 33 #[Value.int .i64 0,Value.int .u64 0,Value.string (⟨#[]⟩:ByteArray),Value.slice (⟨none,0,0⟩:Sv).a (⟨none,0,0⟩:Sv).n (⟨none,0,0⟩:Sv).c,Value.int .i64 0,Value.slice (⟨none,0,0⟩:Sv).a (⟨none,0,0⟩:Sv).n (⟨none,0,0⟩:Sv).c,Value.int .i64 0] h12 fun p8 h13=>
  stoA h13 p8 [Value.int .i64 y37,Value.int .u64 y37_1,Value.string y37_2,Value.slice y37_3.a y37_3.n y37_3.c,Value.int .i64 y37_4,Value.slice y37_5.a y37_5.n y37_5.c,Value.int .i64 y37_6] fun h14=>
  ∃(y41:Int) (y41_1:Sv) (y41_2:Int),cl h14 p4=some (Value.int .i64 y41)∧cl h14 (p4.add 1)=some (Value.slice y41_1.a y41_1.n y41_1.c)∧cl h14 (p4.add 2)=some (Value.int .i64 y41_2) ∧
  cal Try.prog 15 #[Value.pointer x12,Value.agg #[Value.int .i64 y41,Value.slice y41_1.a y41_1.n y41_1.c,Value.int .i64 y41_2]] h14 fun u_14 h15=>asTup u_14 fun r42=>
  elt r42 0 fun u_15=>∃(y43:Int) (y43_1:Int) (y43_2:ByteArray) (y43_3:Sv) (y43_4:Int) (y43_5:Sv) (y43_6:Int),u_15=Value.agg #[Value.int .i64 y43,Value.int .u64 y43_1,Value.string y43_2,Value.slice y43_3.a y43_3.n y43_3.c,Value.int .i64 y43_4,Value.slice y43_5.a y43_5.n y43_5.c,Value.int .i64 y43_6] ∧
  elt r42 1 fun u_16=>asI .i64 u_16 fun x44=>
  new 33 #[Value.int .i64 0,Value.int .u64 0,Value.string (⟨#[]⟩:ByteArray),Value.slice (⟨none,0,0⟩:Sv).a (⟨none,0,0⟩:Sv).n (⟨none,0,0⟩:Sv).c,Value.int .i64 0,Value.slice (⟨none,0,0⟩:Sv).a (⟨none,0,0⟩:Sv).n (⟨none,0,0⟩:Sv).c,Value.int .i64 0] h15 fun p10 h16=>
  stoA h16 p10 [Value.int .i64 y43,Value.int .u64 y43_1,Value.string y43_2,Value.slice y43_3.a y43_3.n y43_3.c,Value.int .i64 y43_4,Value.slice y43_5.a y43_5.n y43_5.c,Value.int .i64 y43_6] fun h17=>
  ∃J:Bool→Prop,(andr (((x26 == 0) && (x32 == 0)) && (x38 == 0)) (fun k=>
   ldI .u64 h17 (p6.add 1) fun x57=>
   k (x57 == 7)) J)∧∀x59,J x59 →
  ∃J_1:Bool→Heap→Prop,(andj (x59 && (x44 == 2)) (fun k_1=>
   cal Try.prog 13 #[Value.pointer x12] h17 fun u_17 h19=>asI .i64 u_17 fun x66=>
   k_1 (x66 == 1) h19) h17 J_1)∧∀x68 h18,J_1 x68 h18 →
  R (Value.bool x68) h18)
set_option maxRecDepth 100000 in
theorem F9 {h:_} {R:Value→Heap→Prop} (H:L9 h R):CallsH Try.prog 9 #[] h R:=by
 refine CallsH.enter (n:=69) Try.func9 rfl rfl rfl rfl ?_
 intro w0 aa ww S
 unfold L9 at H
 refine W.seq ?_
 refine W.region ?_
 refine OL.za S fun _ S=>?_
 refine OL.nil ?_
 refine W.seq ?_
 refine W.region ?_
 refine ol_cal S H isfn8 rfl rfl trivial ?_
 clear S H;intro u aa ww h1 H S
 obtain⟨x12,rfl,H⟩:=H
 refine OL.za S fun _ S=>?_
 refine OL.nil ?_
 refine W.seq ?_
 refine W.region ?_
 refine OL.zm S fun _ S=>?_
 refine ol_cal S H isfn11 rfl rfl trivial ?_
 clear S H;intro u_1 aa ww h2 H S
 obtain⟨y15,y15_1,y15_2,y15_3,y15_4,y15_5,y15_6,rfl,H⟩:=H
 refine ol_cal S H isfn10 rfl rfl trivial ?_
 clear S H;intro u_2 aa ww h3 H S
 obtain⟨r16,rfl,H⟩:=H
 refine OL.zm S fun _ S=>?_
 obtain⟨u_3,e,y17,y17_1,y17_2,rfl,H⟩:=H
 refine OL.zq S (Lf.run_ex (S.ev rfl) e) fun _ S=>?_
 obtain⟨u_4,e_1,x18,rfl,H⟩:=H
 refine OL.zq S (Lf.run_ex (S.ev rfl) e_1) fun _ S=>?_
 refine ol_alloc S H ti28 rfl rfl trivial ?_
 clear S H;intro p2 aa ww h4 H S
 refine ol_stoA S H rfl rfl ti28 trivial ?_
 clear S H;intro aa ww h5 H S
 refine OL.za S fun _ S=>?_
 refine OL.nil ?_
 refine W.seq ?_
 refine W.seq ?_
 refine W.region ?_
 refine OL.zm S fun _ S=>?_
 refine OL.zq S (Lf.run_not (S.ev rfl)) fun _ S=>?_
 refine OL.nil ?_
 refine W.cond S (b:=(!x18)) rfl (fun hb=>?_) (fun hb=>?_)
 ·
  replace H:=H.1 hb
  refine W.seq ?_
  refine W.region ?_
  refine OL.za S fun _ S=>?_
  refine OL.nil ?_
  refine W.ret ?_
  exact Ret.one S rfl rfl H
 ·
  replace H:=H.2 hb
  refine W.skip ?_
  refine W.seq ?_
  refine W.region ?_
  refine OL.zm S fun _ S=>?_
  obtain⟨y23,y23_1,y23_2,c_14,c_15,c_16,H⟩:=H
  refine OL.zq S (Lf.run_ldA (cs:=[Value.int .i64 y23,Value.slice y23_1.a y23_1.n y23_1.c,Value.int .i64 y23_2]) (S.ev rfl) ag28 ti28 (by rw[S.heap];exact RowL.toRow ⟨c_14,c_15,c_16,trivial⟩)) fun _ S=>?_
  refine ol_cal S H isfn12 rfl rfl trivial ?_
  clear S H;intro u_5 aa ww h6 H S
  obtain⟨r24,rfl,H⟩:=H
  refine OL.zm S fun _ S=>?_
  obtain⟨u_6,e_2,y25,y25_1,y25_2,rfl,H⟩:=H
  refine OL.zq S (Lf.run_ex (S.ev rfl) e_2) fun _ S=>?_
  obtain⟨u_7,e_3,x26,rfl,H⟩:=H
  refine OL.zq S (Lf.run_ex (S.ev rfl) e_3) fun _ S=>?_
  refine ol_alloc S H ti28 rfl rfl trivial ?_
  clear S H;intro p4 aa ww h7 H S
  refine ol_stoA S H rfl rfl ti28 trivial ?_
  clear S H;intro aa ww h8 H S
  refine OL.za S fun _ S=>?_
  refine OL.nil ?_
  refine W.seq ?_
  refine W.region ?_
  refine OL.zm S fun _ S=>?_
  obtain⟨y29,y29_1,y29_2,c_11,c_12,c_13,H⟩:=H
  refine OL.zq S (Lf.run_ldA (cs:=[Value.int .i64 y29,Value.slice y29_1.a y29_1.n y29_1.c,Value.int .i64 y29_2]) (S.ev rfl) ag28 ti28 (by rw[S.heap];exact RowL.toRow ⟨c_11,c_12,c_13,trivial⟩)) fun _ S=>?_
  refine ol_cal S H isfn15 rfl rfl trivial ?_
  clear S H;intro u_8 aa ww h9 H S
  obtain⟨r30,rfl,H⟩:=H
  refine OL.zm S fun _ S=>?_
  obtain⟨u_9,e_4,y31,y31_1,y31_2,y31_3,y31_4,y31_5,y31_6,rfl,H⟩:=H
  refine OL.zq S (Lf.run_ex (S.ev rfl) e_4) fun _ S=>?_
  obtain⟨u_10,e_5,x32,rfl,H⟩:=H
  refine OL.zq S (Lf.run_ex (S.ev rfl) e_5) fun _ S=>?_
  refine ol_alloc S H ti33 rfl rfl trivial ?_
  clear S H;intro p6 aa ww h10 H S
  refine ol_stoA S H rfl rfl ti33 trivial ?_
  clear S H;intro aa ww h11 H S
  refine OL.za S fun _ S=>?_
  refine OL.nil ?_
  refine W.seq ?_
  refine W.region ?_
  refine OL.zm S fun _ S=>?_
  obtain⟨y35,y35_1,y35_2,c_8,c_9,c_10,H⟩:=H
  refine OL.zq S (Lf.run_ldA (cs:=[Value.int .i64 y35,Value.slice y35_1.a y35_1.n y35_1.c,Value.int .i64 y35_2]) (S.ev rfl) ag28 ti28 (by rw[S.heap];exact RowL.toRow ⟨c_8,c_9,c_10,trivial⟩)) fun _ S=>?_
  refine ol_cal S H isfn15 rfl rfl trivial ?_
  clear S H;intro u_11 aa ww h12 H S
  obtain⟨r36,rfl,H⟩:=H
  refine OL.zm S fun _ S=>?_
  obtain⟨u_12,e_6,y37,y37_1,y37_2,y37_3,y37_4,y37_5,y37_6,rfl,H⟩:=H
  refine OL.zq S (Lf.run_ex (S.ev rfl) e_6) fun _ S=>?_
  obtain⟨u_13,e_7,x38,rfl,H⟩:=H
  refine OL.zq S (Lf.run_ex (S.ev rfl) e_7) fun _ S=>?_
  refine ol_alloc S H ti33 rfl rfl trivial ?_
  clear S H;intro p8 aa ww h13 H S
  refine ol_stoA S H rfl rfl ti33 trivial ?_
  clear S H;intro aa ww h14 H S
  refine OL.za S fun _ S=>?_
  refine OL.nil ?_
  refine W.seq ?_
  refine W.region ?_
  refine OL.zm S fun _ S=>?_
  obtain⟨y41,y41_1,y41_2,c_5,c_6,c_7,H⟩:=H
  refine OL.zq S (Lf.run_ldA (cs:=[Value.int .i64 y41,Value.slice y41_1.a y41_1.n y41_1.c,Value.int .i64 y41_2]) (S.ev rfl) ag28 ti28 (by rw[S.heap];exact RowL.toRow ⟨c_5,c_6,c_7,trivial⟩)) fun _ S=>?_
  refine ol_cal S H isfn15 rfl rfl trivial ?_
  clear S H;intro u_14 aa ww h15 H S
  obtain⟨r42,rfl,H⟩:=H
  refine OL.zm S fun _ S=>?_
  obtain⟨u_15,e_8,y43,y43_1,y43_2,y43_3,y43_4,y43_5,y43_6,rfl,H⟩:=H
  refine OL.zq S (Lf.run_ex (S.ev rfl) e_8) fun _ S=>?_
  obtain⟨u_16,e_9,x44,rfl,H⟩:=H
  refine OL.zq S (Lf.run_ex (S.ev rfl) e_9) fun _ S=>?_
  refine ol_alloc S H ti33 rfl rfl trivial ?_
  clear S H;intro p10 aa ww h16 H S
  refine ol_stoA S H rfl rfl ti33 trivial ?_
  clear S H;intro aa ww h17 H S
  refine OL.za S fun _ S=>?_
  refine OL.nil ?_
  refine W.seq ?_
  refine W.region ?_
  refine OL.zm S fun _ S=>?_
  refine OL.zq S (Lf.run_eql (S.ev rfl) (S.ev rfl)) fun _ S=>?_
  refine OL.zm S fun _ S=>?_
  refine OL.cutN 3 (fun aa ww=>St 69 ((50,Value.bool ((x26 == 0) && (x32 == 0))) :: [(1,Value.pointer x12),(5,Value.int .i64 x26),(6,Value.pointer (some p6)),(7,Value.int .i64 x32),(9,Value.int .i64 x38),(11,Value.int .i64 x44),(45,Value.int .i64 x26),(46,Value.bool (x26 == 0)),(47,Value.bool (x26 == 0))]) h17 w0 aa ww) ?_ ?_
  ·
   rcases Bool.eq_false_or_eq_true (x26 == 0) with hb_1|hb_1
   ·
    refine OL.zm (hg:=GOk.mk rfl rfl hb_1) S fun _ S=>?_
    refine OL.zq (hg:=GOk.mk rfl rfl hb_1) S (Lf.run_eql (S.ev rfl) (S.ev rfl)) fun _ S=>?_
    refine OL.zq S (Lf.run_pickT (S.ev rfl) hb_1 (S.ev rfl)) fun _ S=>?_
    refine OL.nil ?_
    exact (S.hd (by rw[hb_1,Bool.true_and])).sub _ ⟨rfl,rfl,rfl,rfl,rfl,rfl,rfl,rfl,rfl,rfl,trivial⟩
   ·
    refine OL.zn S (GNo.mk rfl rfl hb_1) fun _ S=>?_
    refine OL.zn S (GNo.mk rfl rfl hb_1) fun _ S=>?_
    refine OL.zq S (Lf.run_pickF (S.ev rfl) hb_1 (S.ev rfl)) fun _ S=>?_
    refine OL.nil ?_
    exact (S.hd (by rw[hb_1,Bool.false_and])).sub _ ⟨rfl,rfl,rfl,rfl,rfl,rfl,rfl,rfl,rfl,rfl,trivial⟩
  ·
   clear S
   intro aa ww S
   refine OL.zm S fun _ S=>?_
   refine OL.cutN 3 (fun aa ww=>St 69 ((54,Value.bool (((x26 == 0) && (x32 == 0)) && (x38 == 0))) :: [(1,Value.pointer x12),(5,Value.int .i64 x26),(6,Value.pointer (some p6)),(7,Value.int .i64 x32),(9,Value.int .i64 x38),(11,Value.int .i64 x44),(45,Value.int .i64 x26),(46,Value.bool (x26 == 0)),(47,Value.bool (x26 == 0)),(50,Value.bool ((x26 == 0) && (x32 == 0))),(51,Value.bool ((x26 == 0) && (x32 == 0)))]) h17 w0 aa ww) ?_ ?_
   ·
    rcases Bool.eq_false_or_eq_true ((x26 == 0) && (x32 == 0)) with hb_2|hb_2
    ·
     refine OL.zm (hg:=GOk.mk rfl rfl hb_2) S fun _ S=>?_
     refine OL.zq (hg:=GOk.mk rfl rfl hb_2) S (Lf.run_eql (S.ev rfl) (S.ev rfl)) fun _ S=>?_
     refine OL.zq S (Lf.run_pickT (S.ev rfl) hb_2 (S.ev rfl)) fun _ S=>?_
     refine OL.nil ?_
     exact (S.hd (by rw[hb_2,Bool.true_and])).sub _ ⟨rfl,rfl,rfl,rfl,rfl,rfl,rfl,rfl,rfl,rfl,rfl,rfl,trivial⟩
    ·
     refine OL.zn S (GNo.mk rfl rfl hb_2) fun _ S=>?_
     refine OL.zn S (GNo.mk rfl rfl hb_2) fun _ S=>?_
     refine OL.zq S (Lf.run_pickF (S.ev rfl) hb_2 (S.ev rfl)) fun _ S=>?_
     refine OL.nil ?_
     exact (S.hd (by rw[hb_2,Bool.false_and])).sub _ ⟨rfl,rfl,rfl,rfl,rfl,rfl,rfl,rfl,rfl,rfl,rfl,rfl,trivial⟩
   ·
    clear S
    intro aa ww S
    refine OL.zm S fun _ S=>?_
    obtain⟨J,H,HK⟩:=H
    refine OL.cutN 4 (fun aa ww=>∃x59,St 69 ((59,Value.bool x59) :: [(1,Value.pointer x12),(5,Value.int .i64 x26),(6,Value.pointer (some p6)),(7,Value.int .i64 x32),(9,Value.int .i64 x38),(11,Value.int .i64 x44),(45,Value.int .i64 x26),(46,Value.bool (x26 == 0)),(47,Value.bool (x26 == 0)),(50,Value.bool ((x26 == 0) && (x32 == 0))),(51,Value.bool ((x26 == 0) && (x32 == 0))),(54,Value.bool (((x26 == 0) && (x32 == 0)) && (x38 == 0))),(55,Value.bool (((x26 == 0) && (x32 == 0)) && (x38 == 0)))]) h17 w0 aa ww∧J x59) ?_ ?_
    ·
     rcases Bool.eq_false_or_eq_true (((x26 == 0) && (x32 == 0)) && (x38 == 0)) with hb_3|hb_3
     ·
      replace H:=H.1 hb_3
      refine OL.zf (hg:=GOk.mk rfl rfl hb_3) S fa33_1 fun _ S=>?_
      obtain⟨x57,c_4,H⟩:=H
      refine OL.zl (hg:=GOk.mk rfl rfl hb_3) S fl22 c_4 fun _ S=>?_
      refine OL.zq (hg:=GOk.mk rfl rfl hb_3) S (Lf.run_eql (S.ev rfl) (S.ev rfl)) fun _ S=>?_
      refine OL.zq S (Lf.run_pickT (S.ev rfl) hb_3 (S.ev rfl)) fun _ S=>?_
      refine OL.nil ?_
      exact⟨_,S.sub _ ⟨rfl,rfl,rfl,rfl,rfl,rfl,rfl,rfl,rfl,rfl,rfl,rfl,rfl,rfl,trivial⟩,H⟩
     ·
      replace H:=H.2 hb_3
      refine OL.zn S (GNo.mk rfl rfl hb_3) fun _ S=>?_
      refine OL.zn S (GNo.mk rfl rfl hb_3) fun _ S=>?_
      refine OL.zn S (GNo.mk rfl rfl hb_3) fun _ S=>?_
      refine OL.zq S (Lf.run_pickF (S.ev rfl) hb_3 (S.ev rfl)) fun _ S=>?_
      refine OL.nil ?_
      exact⟨_,S.sub _ ⟨rfl,rfl,rfl,rfl,rfl,rfl,rfl,rfl,rfl,rfl,rfl,rfl,rfl,rfl,trivial⟩,H⟩
    ·
     clear S
     rintro aa ww ⟨x59,S,HJ⟩
     replace H:=HK _ HJ
     clear HK HJ
     refine OL.zm S fun _ S=>?_
     refine OL.cutN 3 (fun aa ww=>St 69 ((63,Value.bool (x59 && (x44 == 2))) :: [(1,Value.pointer x12),(5,Value.int .i64 x26),(6,Value.pointer (some p6)),(7,Value.int .i64 x32),(9,Value.int .i64 x38),(11,Value.int .i64 x44),(45,Value.int .i64 x26),(46,Value.bool (x26 == 0)),(47,Value.bool (x26 == 0)),(50,Value.bool ((x26 == 0) && (x32 == 0))),(51,Value.bool ((x26 == 0) && (x32 == 0))),(54,Value.bool (((x26 == 0) && (x32 == 0)) && (x38 == 0))),(55,Value.bool (((x26 == 0) && (x32 == 0)) && (x38 == 0))),(59,Value.bool x59),(60,Value.bool x59)]) h17 w0 aa ww) ?_ ?_
     ·
      rcases Bool.eq_false_or_eq_true x59 with hb_4|hb_4
      ·
       refine OL.zm (hg:=GOk.mk rfl rfl hb_4) S fun _ S=>?_
       refine OL.zq (hg:=GOk.mk rfl rfl hb_4) S (Lf.run_eql (S.ev rfl) (S.ev rfl)) fun _ S=>?_
       refine OL.zq S (Lf.run_pickT (S.ev rfl) hb_4 (S.ev rfl)) fun _ S=>?_
       refine OL.nil ?_
       exact (S.hd (by rw[hb_4,Bool.true_and])).sub _ ⟨rfl,rfl,rfl,rfl,rfl,rfl,rfl,rfl,rfl,rfl,rfl,rfl,rfl,rfl,rfl,rfl,trivial⟩
      ·
       refine OL.zn S (GNo.mk rfl rfl hb_4) fun _ S=>?_
       refine OL.zn S (GNo.mk rfl rfl hb_4) fun _ S=>?_
       refine OL.zq S (Lf.run_pickF (S.ev rfl) hb_4 (S.ev rfl)) fun _ S=>?_
       refine OL.nil ?_
       exact (S.hd (by rw[hb_4,Bool.false_and])).sub _ ⟨rfl,rfl,rfl,rfl,rfl,rfl,rfl,rfl,rfl,rfl,rfl,rfl,rfl,rfl,rfl,rfl,trivial⟩
     ·
      clear S
      intro aa ww S
      refine OL.zm S fun _ S=>?_
      obtain⟨J_1,H,HK_1⟩:=H
      refine OL.cutN 4 (fun aa ww=>∃x68 h18,St 69 ((68,Value.bool x68) :: [(1,Value.pointer x12),(5,Value.int .i64 x26),(6,Value.pointer (some p6)),(7,Value.int .i64 x32),(9,Value.int .i64 x38),(11,Value.int .i64 x44),(45,Value.int .i64 x26),(46,Value.bool (x26 == 0)),(47,Value.bool (x26 == 0)),(50,Value.bool ((x26 == 0) && (x32 == 0))),(51,Value.bool ((x26 == 0) && (x32 == 0))),(54,Value.bool (((x26 == 0) && (x32 == 0)) && (x38 == 0))),(55,Value.bool (((x26 == 0) && (x32 == 0)) && (x38 == 0))),(59,Value.bool x59),(60,Value.bool x59),(63,Value.bool (x59 && (x44 == 2))),(64,Value.bool (x59 && (x44 == 2)))]) h18 w0 aa ww∧J_1 x68 h18) ?_ ?_
      ·
       rcases Bool.eq_false_or_eq_true (x59 && (x44 == 2)) with hb_5|hb_5
       ·
        replace H:=H.1 hb_5
        refine OL.zm (hg:=GOk.mk rfl rfl hb_5) S fun _ S=>?_
        refine ol_cal S H isfn13 rfl rfl (GOk.mk rfl rfl hb_5) ?_
        clear S H;intro u_17 aa ww h19 H S
        obtain⟨x66,rfl,H⟩:=H
        refine OL.zq (hg:=GOk.mk rfl rfl hb_5) S (Lf.run_eql (S.ev rfl) (S.ev rfl)) fun _ S=>?_
        refine OL.zq S (Lf.run_pickT (S.ev rfl) hb_5 (S.ev rfl)) fun _ S=>?_
        refine OL.nil ?_
        exact⟨_,_,S.sub _ ⟨rfl,rfl,rfl,rfl,rfl,rfl,rfl,rfl,rfl,rfl,rfl,rfl,rfl,rfl,rfl,rfl,rfl,rfl,trivial⟩,H⟩
       ·
        replace H:=H.2 hb_5
        refine OL.zn S (GNo.mk rfl rfl hb_5) fun _ S=>?_
        refine OL.zn S (GNo.mk rfl rfl hb_5) fun _ S=>?_
        refine OL.zn S (GNo.mk rfl rfl hb_5) fun _ S=>?_
        refine OL.zq S (Lf.run_pickF (S.ev rfl) hb_5 (S.ev rfl)) fun _ S=>?_
        refine OL.nil ?_
        exact⟨_,_,S.sub _ ⟨rfl,rfl,rfl,rfl,rfl,rfl,rfl,rfl,rfl,rfl,rfl,rfl,rfl,rfl,rfl,rfl,rfl,rfl,trivial⟩,H⟩
      ·
       clear S
       rintro aa ww ⟨x68,h18,S,HJ⟩
       replace H:=HK_1 _ _ HJ
       clear HK_1 HJ
       refine OL.za S fun _ S=>?_
       refine OL.nil ?_
       refine W.ret ?_
       exact Ret.one S rfl rfl H
def L10 (vh0:Option Addr) (v1:Int) (v1_1:Int) (v1_2:ByteArray) (v1_3:Sv) (v1_4:Int) (v1_5:Sv) (v1_6:Int) (h:Heap) (R:Value→Heap→Prop):Prop:=
 new 33 #[Value.int .i64 v1,Value.int .u64 v1_1,Value.string v1_2,Value.slice v1_3.a v1_3.n v1_3.c,Value.int .i64 v1_4,Value.slice v1_5.a v1_5.n v1_5.c,Value.int .i64 v1_6] h fun p3 h1=>
 new 28 #[Value.int .i64 0,Value.slice (⟨none,0,0⟩:Sv).a (⟨none,0,0⟩:Sv).n (⟨none,0,0⟩:Sv).c,Value.int .i64 0] h1 fun p4 h2=>
 ∃J:Bool→Prop,(
  ifb (Option.isNone vh0) (
   J true) (
   nn vh0 fun p11=>
   ldI .i64 h2 (p11.add 2) fun x13=>
   nn vh0 fun p15=>
   ldI .i64 h2 (p15.add 3) fun x17=>
   J (decide (x17≤x13))))∧(∀x19,J x19 →
 ifb x19 (
  stoA h2 p4 [Value.int .i64 0,Value.slice (⟨none,0,0⟩:Sv).a (⟨none,0,0⟩:Sv).n (⟨none,0,0⟩:Sv).c,Value.int .i64 0] fun h3=>
  ∃(y:Int) (y_1:Sv) (y_2:Int),cl h3 p4=some (Value.int .i64 y)∧cl h3 (p4.add 1)=some (Value.slice y_1.a y_1.n y_1.c)∧cl h3 (p4.add 2)=some (Value.int .i64 y_2) ∧
  R (.tuple #[Value.agg #[Value.int .i64 y,Value.slice y_1.a y_1.n y_1.c,Value.int .i64 y_2],Value.bool false]) h3) (
  nn vh0 fun p22=>
  ldI .i64 h2 (p22.add 1) fun x24=>
  nn vh0 fun p26=>
  sto h2 (p26.add 1) (Value.int .i64 (IntKind.i64.wrap (x24+1))) fun h4=>
  nn vh0 fun p29=>
  ldI .i64 h4 (p29.add 2) fun x31=>
  nn vh0 fun p33=>
  sto h4 (p33.add 2) (Value.int .i64 (IntKind.i64.wrap (x31+1))) fun h5=>
  ∃(y35:Int) (y35_1:Int) (y35_2:ByteArray) (y35_3:Sv) (y35_4:Int) (y35_5:Sv) (y35_6:Int),cl h5 p3=some (Value.int .i64 y35)∧cl h5 (p3.add 1)=some (Value.int .u64 y35_1)∧cl h5 (p3.add 2)=some (Value.string y35_2)∧cl h5 (p3.add 3)=some (Value.slice y35_3.a y35_3.n y35_3.c)∧cl h5 (p3.add 4)=some (Value.int .i64 y35_4)∧cl h5 (p3.add 5)=some (Value.slice y35_5.a y35_5.n y35_5.c)∧cl h5 (p3.add 6)=some (Value.int .i64 y35_6) ∧
  cal Try.prog 27 #[Value.agg #[Value.int .i64 y35,Value.int .u64 y35_1,Value.string y35_2,Value.slice y35_3.a y35_3.n y35_3.c,Value.int .i64 y35_4,Value.slice y35_5.a y35_5.n y35_5.c,Value.int .i64 y35_6]] h5 fun u h6=>∃(y36:Int) (y36_1:Int) (y36_2:ByteArray) (y36_3:Sv) (y36_4:Int) (y36_5:Sv) (y36_6:Int),u=Value.agg #[Value.int .i64 y36,Value.int .u64 y36_1,Value.string y36_2,Value.slice y36_3.a y36_3.n y36_3.c,Value.int .i64 y36_4,Value.slice y36_5.a y36_5.n y36_5.c,Value.int .i64 y36_6] ∧
  new 78 #[Value.bool true,Value.int .i64 y36,Value.int .u64 y36_1,Value.string y36_2,Value.slice y36_3.a y36_3.n y36_3.c,Value.int .i64 y36_4,Value.slice y36_5.a y36_5.n y36_5.c,Value.int .i64 y36_6,Value.slice (⟨none,0,0⟩:Sv).a (⟨none,0,0⟩:Sv).n (⟨none,0,0⟩:Sv).c] h6 fun p38 h7=>
  ∃J_1:Heap→Prop,(
   nn vh0 fun p40=>
   ldB h7 (p40.add 4) fun x42=>
   ifb x42 (
    nn vh0 fun p45=>
    ldI .i64 h7 (p45.add 1) fun x47=>
    newS 80 #[Value.int .i64 x47,Value.slice (⟨none,0,0⟩:Sv).a (⟨none,0,0⟩:Sv).n (⟨none,0,0⟩:Sv).c,Value.bool true] 1 h7 fun s49 h8=>
    sto h8 (p38.add 8) (Value.slice s49.a s49.n s49.c) fun h9=>
    J_1 h9) (
    J_1 h7))∧(∀h10,J_1 h10 →
  nn vh0 fun p54=>
  ldS h10 p54 fun x56=>
  newS 75 #[Value.pointer (some p38)] 1 h10 fun s58 h11=>
  appS 75 (Value.pointer none).cells 1 8 h11 x56 s58 fun s59 h12=>
  nn vh0 fun p60=>
  sto h12 p60 (Value.slice s59.a s59.n s59.c) fun h13=>
  nn vh0 fun p63=>
  ldS h13 p63 fun x65=>
  nn vh0 fun p69=>
  ldI .i64 h13 (p69.add 1) fun x71=>
  stoA h13 p4 [Value.int .i64 (IntKind.i64.wrap (((x65.n:Nat):Int) - 1)),Value.slice (⟨none,0,0⟩:Sv).a (⟨none,0,0⟩:Sv).n (⟨none,0,0⟩:Sv).c,Value.int .i64 x71] fun h14=>
  ∃(y_3:Int) (y_4:Sv) (y_5:Int),cl h14 p4=some (Value.int .i64 y_3)∧cl h14 (p4.add 1)=some (Value.slice y_4.a y_4.n y_4.c)∧cl h14 (p4.add 2)=some (Value.int .i64 y_5) ∧
  R (.tuple #[Value.agg #[Value.int .i64 y_3,Value.slice y_4.a y_4.n y_4.c,Value.int .i64 y_5],Value.bool true]) h14)))
set_option maxRecDepth 100000 in
theorem F10 {vh0 v1 v1_1 v1_2 v1_3 v1_4 v1_5 v1_6 h:_} {R:Value→Heap→Prop} (H:L10 vh0 v1 v1_1 v1_2 v1_3 v1_4 v1_5 v1_6 h R):CallsH Try.prog 10 #[Value.pointer vh0,Value.agg #[Value.int .i64 v1,Value.int .u64 v1_1,Value.string v1_2,Value.slice v1_3.a v1_3.n v1_3.c,Value.int .i64 v1_4,Value.slice v1_5.a v1_5.n v1_5.c,Value.int .i64 v1_6]] h R:=by
 refine CallsH.enter (n:=73) Try.func10 rfl rfl rfl rfl ?_
 intro w0 aa ww S
 unfold L10 at H
 refine W.seq ?_
 refine W.region ?_
 refine ol_box S H rfl rfl rfl trivial ?_
 clear S H;intro p3 aa ww h1 H S
 refine ol_alloc S H ti28 rfl rfl trivial ?_
 clear S H;intro p4 aa ww h2 H S
 refine OL.za S fun _ S=>?_
 refine OL.nil ?_
 refine W.seq ?_
 refine W.seq ?_
 replace S:=S.sub [(0,Value.pointer vh0),(3,Value.pointer (some p3)),(4,Value.pointer (some p4))] ⟨rfl,rfl,rfl,trivial⟩
 obtain⟨J,H,HK⟩:=H
 refine W.mono (N':=fun aa ww=>∃x19,St 73 [(0,Value.pointer vh0),(3,Value.pointer (some p3)),(4,Value.pointer (some p4)),(19,Value.bool x19)] h2 w0 aa ww∧J x19) ?_ ?_
 ·
  refine W.regionD S (by kernel_rfl) ?_
  clear S;intro ww S
  refine AN.zq 0 S rfl (fun _=>Lf.run_move (S.ev rfl)) fun _ S=>?_
  refine AN.zq 1 S rfl (fun _=>Lf.run_eqlpn Try.underlying23 (S.ev rfl) (S.ev rfl)) fun _ S=>?_
  refine AN.zq 2 S rfl (fun _=>Lf.run_move (S.ev rfl)) fun _ S=>?_
  rcases Bool.eq_false_or_eq_true (Option.isNone vh0) with hb|hb
  ·
   replace H:=H.1 hb
   refine AN.zn 3 S rfl (GNo.mk rfl rfl hb) fun _ S=>?_
   refine AN.zn 4 S rfl (GNo.mk rfl rfl hb) fun _ S=>?_
   refine AN.zn 5 S rfl (GNo.mk rfl rfl hb) fun _ S=>?_
   refine AN.zn 6 S rfl (GNo.mk rfl rfl hb) fun _ S=>?_
   refine AN.zn 7 S rfl (GNo.mk rfl rfl hb) fun _ S=>?_
   refine AN.zn 8 S rfl (GNo.mk rfl rfl hb) fun _ S=>?_
   refine AN.zn 9 S rfl (GNo.mk rfl rfl hb) fun _ S=>?_
   refine AN.zn 10 S rfl (GNo.mk rfl rfl hb) fun _ S=>?_
   refine AN.zn 11 S rfl (GNo.mk rfl rfl hb) fun _ S=>?_
   refine AN.zq 12 S rfl (fun _=>run_pickT (S.ev rfl) hb (S.ev rfl)) fun _ S=>?_
   refine AN.done (by kernel_rfl) ?_
   exact⟨true,S.sub _ ⟨rfl,rfl,rfl,rfl,trivial⟩,H⟩
  ·
   replace H:=H.2 hb
   refine AN.zq (hg:=GOk.mk rfl rfl hb) 3 S rfl (fun _=>Lf.run_move (S.ev rfl)) fun _ S=>?_
   obtain⟨p11,e,H⟩:=H
   refine AN.zq (hg:=GOk.mk rfl rfl hb) 4 S rfl (fun _=>Lf.run_nc' (S.ev rfl) e) fun _ S=>?_
   refine AN.zq (hg:=GOk.mk rfl rfl hb) 5 S rfl (fun _=>Lf.run_fa (S.ev rfl) fa74_2) fun _ S=>?_
   obtain⟨x13,c,H⟩:=H
   refine AN.zl (hg:=GOk.mk rfl rfl hb) 6 S rfl (fun _ hx=>Lf.run_ld (S.ev rfl) fl3 (hx.cell _ _ (S.cl c))) fun _ S=>?_
   refine AN.zq (hg:=GOk.mk rfl rfl hb) 7 S rfl (fun _=>Lf.run_move (S.ev rfl)) fun _ S=>?_
   obtain⟨p15,e_1,H⟩:=H
   refine AN.zq (hg:=GOk.mk rfl rfl hb) 8 S rfl (fun _=>Lf.run_nc' (S.ev rfl) e_1) fun _ S=>?_
   refine AN.zq (hg:=GOk.mk rfl rfl hb) 9 S rfl (fun _=>Lf.run_fa (S.ev rfl) fa74_3) fun _ S=>?_
   obtain⟨x17,c_1,H⟩:=H
   refine AN.zl (hg:=GOk.mk rfl rfl hb) 10 S rfl (fun _ hx=>Lf.run_ld (S.ev rfl) fl3 (hx.cell _ _ (S.cl c_1))) fun _ S=>?_
   refine AN.zq (hg:=GOk.mk rfl rfl hb) 11 S rfl (fun _=>Lf.run_geq (S.ev rfl) (S.ev rfl)) fun _ S=>?_
   refine AN.zq 12 S rfl (fun _=>run_pickF (S.ev rfl) hb (S.ev rfl)) fun _ S=>?_
   refine AN.done (by kernel_rfl) ?_
   exact⟨(decide (x17≤x13)),S.sub _ ⟨rfl,rfl,rfl,rfl,trivial⟩,H⟩
 ·
  clear H S
  rintro aa ww ⟨x19,S,HJ⟩
  have H:=HK _ HJ
  clear HK HJ
  refine W.cond S (b:=x19) rfl (fun hb_1=>?_) (fun hb_1=>?_)
  ·
   replace H:=H.1 hb_1
   refine W.seq ?_
   refine W.region ?_
   refine OL.zq S (Lf.run_build (cs:=#[Value.int .i64 0,Value.slice (⟨none,0,0⟩:Sv).a (⟨none,0,0⟩:Sv).n (⟨none,0,0⟩:Sv).c,Value.int .i64 0]) pl28 ti28 (parts_map S rfl) (by kernel_rfl)) fun _ S=>?_
   refine ol_stoA S H rfl rfl ti28 trivial ?_
   clear S H;intro aa ww h3 H S
   refine OL.za S fun _ S=>?_
   refine OL.nil ?_
   refine W.ret ?_
   obtain⟨y,y_1,y_2,c_2,c_3,c_4,H⟩:=H
   exact Ret.gen S rfl (RV.cellA (cs:=[Value.int .i64 y,Value.slice y_1.a y_1.n y_1.c,Value.int .i64 y_2]) rfl ag28 ti28 ⟨c_2,c_3,c_4,trivial⟩ (RV.tmp rfl RV.nil)) rfl H
  ·
   replace H:=H.2 hb_1
   refine W.skip ?_
   refine W.seq ?_
   refine W.region ?_
   refine OL.zm S fun _ S=>?_
   obtain⟨p22,e_2,H⟩:=H
   refine OL.zq S (Lf.run_nc' (S.ev rfl) e_2) fun _ S=>?_
   refine OL.zf S fa74_1 fun _ S=>?_
   obtain⟨x24,c_5,H⟩:=H
   refine OL.zl S fl3 c_5 fun _ S=>?_
   refine OL.zq S (Lf.run_add (S.ev rfl) (S.ev rfl)) fun _ S=>?_
   obtain⟨p26,e_3,H⟩:=H
   refine OL.zq S (Lf.run_nc' (S.ev rfl) e_3) fun _ S=>?_
   refine OL.zf S fa74_1 fun _ S=>?_
   refine ol_sto S H rfl rfl rfl ti3 trivial ?_
   clear S H;intro aa ww h4 H S
   refine OL.nil ?_
   refine W.seq ?_
   refine W.region ?_
   refine OL.zm S fun _ S=>?_
   obtain⟨p29,e_4,H⟩:=H
   refine OL.zq S (Lf.run_nc' (S.ev rfl) e_4) fun _ S=>?_
   refine OL.zf S fa74_2 fun _ S=>?_
   obtain⟨x31,c_6,H⟩:=H
   refine OL.zl S fl3 c_6 fun _ S=>?_
   refine OL.zq S (Lf.run_add (S.ev rfl) (S.ev rfl)) fun _ S=>?_
   obtain⟨p33,e_5,H⟩:=H
   refine OL.zq S (Lf.run_nc' (S.ev rfl) e_5) fun _ S=>?_
   refine OL.zf S fa74_2 fun _ S=>?_
   refine ol_sto S H rfl rfl rfl ti3 trivial ?_
   clear S H;intro aa ww h5 H S
   refine OL.nil ?_
   refine W.seq ?_
   refine W.region ?_
   obtain⟨y35,y35_1,y35_2,y35_3,y35_4,y35_5,y35_6,c_16,c_17,c_18,c_19,c_20,c_21,c_22,H⟩:=H
   refine OL.zq S (Lf.run_ldA (cs:=[Value.int .i64 y35,Value.int .u64 y35_1,Value.string y35_2,Value.slice y35_3.a y35_3.n y35_3.c,Value.int .i64 y35_4,Value.slice y35_5.a y35_5.n y35_5.c,Value.int .i64 y35_6]) (S.ev rfl) ag33 ti33 (by rw[S.heap];exact RowL.toRow ⟨c_16,c_17,c_18,c_19,c_20,c_21,c_22,trivial⟩)) fun _ S=>?_
   refine ol_cal S H isfn27 rfl rfl trivial ?_
   clear S H;intro u aa ww h6 H S
   obtain⟨y36,y36_1,y36_2,y36_3,y36_4,y36_5,y36_6,rfl,H⟩:=H
   refine OL.zq S (Lf.run_build (cs:=#[Value.bool true,Value.int .i64 y36,Value.int .u64 y36_1,Value.string y36_2,Value.slice y36_3.a y36_3.n y36_3.c,Value.int .i64 y36_4,Value.slice y36_5.a y36_5.n y36_5.c,Value.int .i64 y36_6,Value.slice (⟨none,0,0⟩:Sv).a (⟨none,0,0⟩:Sv).n (⟨none,0,0⟩:Sv).c]) pl78 ti78 (parts_map S rfl) (by kernel_rfl)) fun _ S=>?_
   refine ol_box S H rfl rfl rfl trivial ?_
   clear S H;intro p38 aa ww h7 H S
   refine OL.za S fun _ S=>?_
   refine OL.nil ?_
   obtain⟨J_1,H,HK_1⟩:=H
   refine W.seqJ (fun aa ww=>∃h10,St 73 [(0,Value.pointer vh0),(4,Value.pointer (some p4)),(6,Value.pointer (some p38))] h10 w0 aa ww∧J_1 h10) ?_ ?_
   ·
    clear HK_1
    refine W.seq ?_
    refine W.region ?_
    refine OL.zm S fun _ S=>?_
    obtain⟨p40,e_6,H⟩:=H
    refine OL.zq S (Lf.run_nc' (S.ev rfl) e_6) fun _ S=>?_
    refine OL.zf S fa74_4 fun _ S=>?_
    obtain⟨x42,c_8,H⟩:=H
    refine OL.zl S fl4 c_8 fun _ S=>?_
    refine OL.nil ?_
    refine W.cond S (b:=x42) rfl (fun hb_2=>?_) (fun hb_2=>?_)
    ·
     replace H:=H.1 hb_2
     refine W.region ?_
     refine OL.zm S fun _ S=>?_
     refine OL.zm S fun _ S=>?_
     obtain⟨p45,e_7,H⟩:=H
     refine OL.zq S (Lf.run_nc' (S.ev rfl) e_7) fun _ S=>?_
     refine OL.zf S fa74_1 fun _ S=>?_
     obtain⟨x47,c_9,H⟩:=H
     refine OL.zl S fl3 c_9 fun _ S=>?_
     refine OL.zq S (Lf.run_build (cs:=#[Value.int .i64 x47,Value.slice (⟨none,0,0⟩:Sv).a (⟨none,0,0⟩:Sv).n (⟨none,0,0⟩:Sv).c,Value.bool true]) pl80 ti80 (parts_map S rfl) (by kernel_rfl)) fun _ S=>?_
     refine ol_newS S H Try.underlying69 ti80 (by decide) (parts_map S rfl) (by kernel_rfl) (by decide) rfl trivial ?_
     clear S H;intro s49 aa ww h8 H S
     refine OL.zq S (Lf.run_nc (S.ev rfl)) fun _ S=>?_
     refine OL.zf S fa78_2 fun _ S=>?_
     refine ol_sto S H rfl rfl rfl ti69 trivial ?_
     clear S H;intro aa ww h9 H S
     refine OL.nil ?_
     exact⟨h9,S.sub _ ⟨rfl,rfl,rfl,trivial⟩,H⟩
    ·
     replace H:=H.2 hb_2
     refine W.skip ?_
     exact⟨h7,S.sub _ ⟨rfl,rfl,rfl,trivial⟩,H⟩
   ·
    clear H S
    rintro aa ww ⟨h10,S,HJ⟩
    have H:=HK_1 _ HJ
    clear HK_1 HJ
    refine W.seq ?_
    refine W.region ?_
    refine OL.zm S fun _ S=>?_
    refine OL.zm S fun _ S=>?_
    obtain⟨p54,e_8,H⟩:=H
    refine OL.zq S (Lf.run_nc' (S.ev rfl) e_8) fun _ S=>?_
    refine OL.zf S fa74_0 fun _ S=>?_
    obtain⟨x56,c_10,H⟩:=H
    refine OL.zl S fl72 c_10 fun _ S=>?_
    refine OL.zm S fun _ S=>?_
    refine ol_newS S H Try.underlying72 ti75 (by decide) (parts_map S rfl) (by kernel_rfl) (by decide) rfl trivial ?_
    clear S H;intro s58 aa ww h11 H S
    refine ol_appS S H Try.underlying72 ti75 rfl rfl rfl trivial ?_
    clear S H;intro s59 aa ww h12 H S
    obtain⟨p60,e_9,H⟩:=H
    refine OL.zq S (Lf.run_nc' (S.ev rfl) e_9) fun _ S=>?_
    refine OL.zf S fa74_0 fun _ S=>?_
    refine ol_sto S H rfl rfl rfl ti72 trivial ?_
    clear S H;intro aa ww h13 H S
    refine OL.nil ?_
    refine W.seq ?_
    replace S:=S.sub [(0,Value.pointer vh0),(4,Value.pointer (some p4))] ⟨rfl,rfl,trivial⟩
    refine W.regionD S (by kernel_rfl) ?_
    clear S;intro ww S
    refine AN.zq 0 S rfl (fun _=>Lf.run_move (S.ev rfl)) fun _ S=>?_
    obtain⟨p63,e_10,H⟩:=H
    refine AN.zq 1 S rfl (fun _=>Lf.run_nc' (S.ev rfl) e_10) fun _ S=>?_
    refine AN.zq 2 S rfl (fun _=>Lf.run_fa (S.ev rfl) fa74_0) fun _ S=>?_
    obtain⟨x65,c_11,H⟩:=H
    refine AN.zl 3 S rfl (fun _ hx=>Lf.run_ld (S.ev rfl) fl72 (hx.cell _ _ (S.cl c_11))) fun _ S=>?_
    refine AN.zq 4 S rfl (fun _=>Lf.run_lens (S.ev rfl) rfl Try.underlying72) fun _ S=>?_
    refine AN.zq 5 S rfl (fun _=>Lf.run_sub (S.ev rfl) (S.ev rfl)) fun _ S=>?_
    refine AN.zq 6 S rfl (fun _=>Lf.run_move (S.ev rfl)) fun _ S=>?_
    obtain⟨p69,e_11,H⟩:=H
    refine AN.zq 7 S rfl (fun _=>Lf.run_nc' (S.ev rfl) e_11) fun _ S=>?_
    refine AN.zq 8 S rfl (fun _=>Lf.run_fa (S.ev rfl) fa74_1) fun _ S=>?_
    obtain⟨x71,c_12,H⟩:=H
    refine AN.zl 9 S rfl (fun _ hx=>Lf.run_ld (S.ev rfl) fl3 (hx.cell _ _ (S.cl c_12))) fun _ S=>?_
    refine AN.zq 10 S rfl (fun _=>Lf.run_build (cs:=#[Value.int .i64 (IntKind.i64.wrap (((x65.n:Nat):Int) - 1)),Value.slice (⟨none,0,0⟩:Sv).a (⟨none,0,0⟩:Sv).n (⟨none,0,0⟩:Sv).c,Value.int .i64 x71]) pl28 ti28 (parts_map S rfl) (by kernel_rfl)) fun _ S=>?_
    refine AN.eff 11 rfl (by kernel_rfl) ?_
    refine ol_stoA S H rfl rfl ti28 trivial ?_
    clear S H;intro aa ww h14 H S
    refine OL.nil ?_
    refine AN.zq 12 S rfl (fun _=>Lf.run_assign (S.ev rfl)) fun _ S=>?_
    refine AN.done (by kernel_rfl) ?_
    refine W.ret ?_
    obtain⟨y_3,y_4,y_5,c_13,c_14,c_15,H⟩:=H
    exact Ret.gen S rfl (RV.cellA (cs:=[Value.int .i64 y_3,Value.slice y_4.a y_4.n y_4.c,Value.int .i64 y_5]) rfl ag28 ti28 ⟨c_13,c_14,c_15,trivial⟩ (RV.tmp rfl RV.nil)) rfl H
def L11 (n0:Int) (h:Heap) (R:Value→Heap→Prop):Prop:=
 new 33 #[Value.int .i64 0,Value.int .u64 0,Value.string (⟨#[]⟩:ByteArray),Value.slice (⟨none,0,0⟩:Sv).a (⟨none,0,0⟩:Sv).n (⟨none,0,0⟩:Sv).c,Value.int .i64 0,Value.slice (⟨none,0,0⟩:Sv).a (⟨none,0,0⟩:Sv).n (⟨none,0,0⟩:Sv).c,Value.int .i64 0] h fun p2 h1=>
 stoA h1 p2 [Value.int .i64 2,Value.int .u64 n0,Value.string (⟨#[]⟩:ByteArray),Value.slice (⟨none,0,0⟩:Sv).a (⟨none,0,0⟩:Sv).n (⟨none,0,0⟩:Sv).c,Value.int .i64 0,Value.slice (⟨none,0,0⟩:Sv).a (⟨none,0,0⟩:Sv).n (⟨none,0,0⟩:Sv).c,Value.int .i64 0] fun h2=>
 ∃(y:Int) (y_1:Int) (y_2:ByteArray) (y_3:Sv) (y_4:Int) (y_5:Sv) (y_6:Int),cl h2 p2=some (Value.int .i64 y)∧cl h2 (p2.add 1)=some (Value.int .u64 y_1)∧cl h2 (p2.add 2)=some (Value.string y_2)∧cl h2 (p2.add 3)=some (Value.slice y_3.a y_3.n y_3.c)∧cl h2 (p2.add 4)=some (Value.int .i64 y_4)∧cl h2 (p2.add 5)=some (Value.slice y_5.a y_5.n y_5.c)∧cl h2 (p2.add 6)=some (Value.int .i64 y_6) ∧
 R (Value.agg #[Value.int .i64 y,Value.int .u64 y_1,Value.string y_2,Value.slice y_3.a y_3.n y_3.c,Value.int .i64 y_4,Value.slice y_5.a y_5.n y_5.c,Value.int .i64 y_6]) h2
set_option maxRecDepth 100000 in
theorem F11 {n0 h:_} {R:Value→Heap→Prop} (H:L11 n0 h R):CallsH Try.prog 11 #[Value.int .u64 n0] h R:=by
 refine CallsH.enter (n:=5) Try.func11 rfl rfl rfl rfl ?_
 intro w0 aa ww S
 unfold L11 at H
 refine W.seq ?_
 refine W.region ?_
 refine ol_alloc S H ti33 rfl rfl trivial ?_
 clear S H;intro p2 aa ww h1 H S
 refine OL.nil ?_
 refine W.seq ?_
 refine W.region ?_
 refine OL.zm S fun _ S=>?_
 refine OL.zq S (Lf.run_build (cs:=#[Value.int .i64 2,Value.int .u64 n0,Value.string (⟨#[]⟩:ByteArray),Value.slice (⟨none,0,0⟩:Sv).a (⟨none,0,0⟩:Sv).n (⟨none,0,0⟩:Sv).c,Value.int .i64 0,Value.slice (⟨none,0,0⟩:Sv).a (⟨none,0,0⟩:Sv).n (⟨none,0,0⟩:Sv).c,Value.int .i64 0]) pl33 ti33 (parts_map S rfl) (by kernel_rfl)) fun _ S=>?_
 refine ol_stoA S H rfl rfl ti33 trivial ?_
 clear S H;intro aa ww h2 H S
 refine OL.nil ?_
 refine W.ret ?_
 obtain⟨y,y_1,y_2,y_3,y_4,y_5,y_6,c,c_1,c_2,c_3,c_4,c_5,c_6,H⟩:=H
 exact Ret.gen S rfl (RV.cellA (cs:=[Value.int .i64 y,Value.int .u64 y_1,Value.string y_2,Value.slice y_3.a y_3.n y_3.c,Value.int .i64 y_4,Value.slice y_5.a y_5.n y_5.c,Value.int .i64 y_6]) rfl ag33 ti33 ⟨c,c_1,c_2,c_3,c_4,c_5,c_6,trivial⟩ RV.nil) rfl H
def L12 (vh0:Option Addr) (p1:Int) (p1_1:Sv) (p1_2:Int) (unique2:Bool) (h:Heap) (R:Value→Heap→Prop):Prop:=
 new 28 #[Value.int .i64 p1,Value.slice p1_1.a p1_1.n p1_1.c,Value.int .i64 p1_2] h fun p4 h1=>
 new 28 #[Value.int .i64 0,Value.slice (⟨none,0,0⟩:Sv).a (⟨none,0,0⟩:Sv).n (⟨none,0,0⟩:Sv).c,Value.int .i64 0] h1 fun p6 h2=>
 ∃(y15:Int) (y15_1:Sv) (y15_2:Int),cl h2 p4=some (Value.int .i64 y15)∧cl h2 (p4.add 1)=some (Value.slice y15_1.a y15_1.n y15_1.c)∧cl h2 (p4.add 2)=some (Value.int .i64 y15_2) ∧
 cal Try.prog 28 #[Value.pointer vh0,Value.agg #[Value.int .i64 y15,Value.slice y15_1.a y15_1.n y15_1.c,Value.int .i64 y15_2],Value.bool unique2] h2 fun u h3=>asTup u fun r17=>
 elt r17 0 fun u_1=>asP u_1 fun x18=>
 elt r17 1 fun u_2=>asI .i64 u_2 fun x19=>
 ifb (x19 != 0) (
  stoA h3 p6 [Value.int .i64 0,Value.slice (⟨none,0,0⟩:Sv).a (⟨none,0,0⟩:Sv).n (⟨none,0,0⟩:Sv).c,Value.int .i64 0] fun h4=>
  ∃(y:Int) (y_1:Sv) (y_2:Int),cl h4 p6=some (Value.int .i64 y)∧cl h4 (p6.add 1)=some (Value.slice y_1.a y_1.n y_1.c)∧cl h4 (p6.add 2)=some (Value.int .i64 y_2) ∧
  R (.tuple #[Value.agg #[Value.int .i64 y,Value.slice y_1.a y_1.n y_1.c,Value.int .i64 y_2],Value.int .i64 x19]) h4) (
  ldS h3 (p4.add 1) fun x27=>
  cal Try.prog 29 #[Value.pointer x18,Value.slice x27.a x27.n x27.c] h3 fun u_3 h5=>asTup u_3 fun r28=>
  elt r28 0 fun u_4=>asP u_4 fun x29=>
  elt r28 1 fun u_5=>asI .i64 u_5 fun x30=>
  ifb (x30 != 0) (
   stoA h5 p6 [Value.int .i64 0,Value.slice (⟨none,0,0⟩:Sv).a (⟨none,0,0⟩:Sv).n (⟨none,0,0⟩:Sv).c,Value.int .i64 0] fun h6=>
   ∃(y_3:Int) (y_4:Sv) (y_5:Int),cl h6 p6=some (Value.int .i64 y_3)∧cl h6 (p6.add 1)=some (Value.slice y_4.a y_4.n y_4.c)∧cl h6 (p6.add 2)=some (Value.int .i64 y_5) ∧
   R (.tuple #[Value.agg #[Value.int .i64 y_3,Value.slice y_4.a y_4.n y_4.c,Value.int .i64 y_5],Value.int .i64 x30]) h6) (
   ∃J:Addr→Heap→Prop,(
    ∃Sq:Heap→Prop,Sq h5∧(
     hlI .i64 Sq p4 fun x36=>
     hlS Sq (p4.add 1) fun x38=>
     (
      cal Try.prog 30 #[Value.slice x38.a x38.n x38.c] h5 fun u_6 h7=>asS u_6 fun x39=>
      Sq h7 ∧
      new 28 #[Value.int .i64 0,Value.slice (⟨none,0,0⟩:Sv).a (⟨none,0,0⟩:Sv).n (⟨none,0,0⟩:Sv).c,Value.int .i64 0] h7 fun p12 h8=>
      Sq h8 ∧
      stoA h8 p12 [Value.int .i64 x36,Value.slice x39.a x39.n x39.c,Value.int .i64 0] fun h9=>
      J p12 h9)∧(
      new 28 #[Value.int .i64 0,Value.slice (⟨none,0,0⟩:Sv).a (⟨none,0,0⟩:Sv).n (⟨none,0,0⟩:Sv).c,Value.int .i64 0] h5 fun p12_1 h10=>
      Sq h10 ∧
      cal Try.prog 30 #[Value.slice x38.a x38.n x38.c] h10 fun u_7 h11=>asS u_7 fun x39_1=>
      Sq h11 ∧
      stoA h11 p12_1 [Value.int .i64 x36,Value.slice x39_1.a x39_1.n x39_1.c,Value.int .i64 0] fun h12=>
      J p12_1 h12)))∧(∀out12 h13,J out12 h13 →
   ∃J_1:Heap→Prop,(
    nn vh0 fun p42=>
    ldB h13 (p42.add 4) fun x44=>
    ifb x44 (
     nn vh0 fun p46=>
     ldI .i64 h13 (p46.add 1) fun x48=>
     nn vh0 fun p50=>
     sto h13 (p50.add 1) (Value.int .i64 (IntKind.i64.wrap (x48+1))) fun h14=>
     nn vh0 fun p53=>
     ldI .i64 h14 (p53.add 1) fun x55=>
     sto h14 (out12.add 2) (Value.int .i64 x55) fun h15=>
     ∃Sq_1:Heap→Prop,Sq_1 h15∧(
      nn x18 fun p59=>
      nn vh0 fun p63=>
      ldS h15 (p4.add 1) fun x67=>
      hlS Sq_1 (p59.add 8) fun x61=>
      hlI .i64 Sq_1 (p63.add 1) fun x65=>
      cal Try.prog 30 #[Value.slice x67.a x67.n x67.c] h15 fun u_8 h16=>asS u_8 fun x68=>
      Sq_1 h16 ∧
      newS 80 #[Value.int .i64 x65,Value.slice x68.a x68.n x68.c,Value.bool unique2] 1 h16 fun s71 h17=>
      Sq_1 h17 ∧
      appS 80 (Value.agg #[Value.int .i64 0,Value.slice (⟨none,0,0⟩:Sv).a (⟨none,0,0⟩:Sv).n (⟨none,0,0⟩:Sv).c,Value.bool false]).cells 3 40 h17 x61 s71 fun s72 h18=>
      nn x18 fun p73=>
      sto h18 (p73.add 8) (Value.slice s72.a s72.n s72.c) fun h19=>
      J_1 h19)) (
     J_1 h13))∧(∀h20,J_1 h20 →
   ∃(y75:Int) (y75_1:Sv) (y75_2:Int),cl h20 out12=some (Value.int .i64 y75)∧cl h20 (out12.add 1)=some (Value.slice y75_1.a y75_1.n y75_1.c)∧cl h20 (out12.add 2)=some (Value.int .i64 y75_2) ∧
   stoA h20 p6 [Value.int .i64 y75,Value.slice y75_1.a y75_1.n y75_1.c,Value.int .i64 y75_2] fun h21=>
   ∃(y_6:Int) (y_7:Sv) (y_8:Int),cl h21 p6=some (Value.int .i64 y_6)∧cl h21 (p6.add 1)=some (Value.slice y_7.a y_7.n y_7.c)∧cl h21 (p6.add 2)=some (Value.int .i64 y_8) ∧
   R (.tuple #[Value.agg #[Value.int .i64 y_6,Value.slice y_7.a y_7.n y_7.c,Value.int .i64 y_8],Value.int .i64 0]) h21))))
set_option maxRecDepth 100000 in
theorem F12 {vh0 p1 p1_1 p1_2 unique2 h:_} {R:Value→Heap→Prop} (H:L12 vh0 p1 p1_1 p1_2 unique2 h R):CallsH Try.prog 12 #[Value.pointer vh0,Value.agg #[Value.int .i64 p1,Value.slice p1_1.a p1_1.n p1_1.c,Value.int .i64 p1_2],Value.bool unique2] h R:=by
 refine CallsH.enter (n:=76) Try.func12 rfl rfl rfl rfl ?_
 intro w0 aa ww S
 unfold L12 at H
 refine W.seq ?_
 refine W.region ?_
 refine ol_box S H rfl rfl rfl trivial ?_
 clear S H;intro p4 aa ww h1 H S
 refine ol_alloc S H ti28 rfl rfl trivial ?_
 clear S H;intro p6 aa ww h2 H S
 refine OL.za S fun _ S=>?_
 refine OL.nil ?_
 refine W.seq ?_
 refine W.region ?_
 refine OL.zm S fun _ S=>?_
 obtain⟨y15,y15_1,y15_2,c_23,c_24,c_25,H⟩:=H
 refine OL.zq S (Lf.run_ldA (cs:=[Value.int .i64 y15,Value.slice y15_1.a y15_1.n y15_1.c,Value.int .i64 y15_2]) (S.ev rfl) ag28 ti28 (by rw[S.heap];exact RowL.toRow ⟨c_23,c_24,c_25,trivial⟩)) fun _ S=>?_
 refine OL.zm S fun _ S=>?_
 refine ol_cal S H isfn28 rfl rfl trivial ?_
 clear S H;intro u aa ww h3 H S
 obtain⟨r17,rfl,H⟩:=H
 refine OL.zm S fun _ S=>?_
 obtain⟨u_1,e,x18,rfl,H⟩:=H
 refine OL.zq S (Lf.run_ex (S.ev rfl) e) fun _ S=>?_
 obtain⟨u_2,e_1,x19,rfl,H⟩:=H
 refine OL.zq S (Lf.run_ex (S.ev rfl) e_1) fun _ S=>?_
 refine OL.za S fun _ S=>?_
 refine OL.za S fun _ S=>?_
 refine OL.nil ?_
 refine W.seq ?_
 refine W.seq ?_
 refine W.region ?_
 refine OL.zm S fun _ S=>?_
 refine OL.zq S (Lf.run_neq (S.ev rfl) (S.ev rfl)) fun _ S=>?_
 refine OL.nil ?_
 refine W.cond S (b:=(x19 != 0)) rfl (fun hb=>?_) (fun hb=>?_)
 ·
  replace H:=H.1 hb
  refine W.seq ?_
  refine W.region ?_
  refine OL.zq S (Lf.run_build (cs:=#[Value.int .i64 0,Value.slice (⟨none,0,0⟩:Sv).a (⟨none,0,0⟩:Sv).n (⟨none,0,0⟩:Sv).c,Value.int .i64 0]) pl28 ti28 (parts_map S rfl) (by kernel_rfl)) fun _ S=>?_
  refine OL.zm S fun _ S=>?_
  refine ol_stoA S H rfl rfl ti28 trivial ?_
  clear S H;intro aa ww h4 H S
  refine OL.za S fun _ S=>?_
  refine OL.nil ?_
  refine W.ret ?_
  obtain⟨y,y_1,y_2,c_1,c_2,c_3,H⟩:=H
  exact Ret.gen S rfl (RV.cellA (cs:=[Value.int .i64 y,Value.slice y_1.a y_1.n y_1.c,Value.int .i64 y_2]) rfl ag28 ti28 ⟨c_1,c_2,c_3,trivial⟩ (RV.tmp rfl RV.nil)) rfl H
 ·
  replace H:=H.2 hb
  refine W.skip ?_
  refine W.seq ?_
  refine W.seq ?_
  refine W.region ?_
  refine OL.zm S fun _ S=>?_
  refine OL.zf S fa28_1 fun _ S=>?_
  obtain⟨x27,c_4,H⟩:=H
  refine OL.zl S fl26 c_4 fun _ S=>?_
  refine ol_cal S H isfn29 rfl rfl trivial ?_
  clear S H;intro u_3 aa ww h5 H S
  obtain⟨r28,rfl,H⟩:=H
  refine OL.zm S fun _ S=>?_
  obtain⟨u_4,e_2,x29,rfl,H⟩:=H
  refine OL.zq S (Lf.run_ex (S.ev rfl) e_2) fun _ S=>?_
  obtain⟨u_5,e_3,x30,rfl,H⟩:=H
  refine OL.zq S (Lf.run_ex (S.ev rfl) e_3) fun _ S=>?_
  refine OL.za S fun _ S=>?_
  refine OL.za S fun _ S=>?_
  refine OL.nil ?_
  refine W.seq ?_
  refine W.region ?_
  refine OL.zm S fun _ S=>?_
  refine OL.zq S (Lf.run_neq (S.ev rfl) (S.ev rfl)) fun _ S=>?_
  refine OL.nil ?_
  refine W.cond S (b:=(x30 != 0)) rfl (fun hb_1=>?_) (fun hb_1=>?_)
  ·
   replace H:=H.1 hb_1
   refine W.seq ?_
   refine W.region ?_
   refine OL.zq S (Lf.run_build (cs:=#[Value.int .i64 0,Value.slice (⟨none,0,0⟩:Sv).a (⟨none,0,0⟩:Sv).n (⟨none,0,0⟩:Sv).c,Value.int .i64 0]) pl28 ti28 (parts_map S rfl) (by kernel_rfl)) fun _ S=>?_
   refine OL.zm S fun _ S=>?_
   refine ol_stoA S H rfl rfl ti28 trivial ?_
   clear S H;intro aa ww h6 H S
   refine OL.za S fun _ S=>?_
   refine OL.nil ?_
   refine W.ret ?_
   obtain⟨y_3,y_4,y_5,c_5,c_6,c_7,H⟩:=H
   exact Ret.gen S rfl (RV.cellA (cs:=[Value.int .i64 y_3,Value.slice y_4.a y_4.n y_4.c,Value.int .i64 y_5]) rfl ag28 ti28 ⟨c_5,c_6,c_7,trivial⟩ (RV.tmp rfl RV.nil)) rfl H
  ·
   replace H:=H.2 hb_1
   refine W.skip ?_
   refine W.seq ?_
   replace S:=S.sub [(0,Value.pointer vh0),(2,Value.bool unique2),(4,Value.pointer (some p4)),(6,Value.pointer (some p6)),(8,Value.pointer x18)] ⟨rfl,rfl,rfl,rfl,rfl,trivial⟩
   obtain⟨J,H,HK⟩:=H
   refine W.mono (N':=fun aa ww=>∃out12 h13,St 76 [(0,Value.pointer vh0),(2,Value.bool unique2),(4,Value.pointer (some p4)),(6,Value.pointer (some p6)),(8,Value.pointer x18),(12,Value.pointer (some out12))] h13 w0 aa ww∧J out12 h13) ?_ ?_
   ·
    obtain⟨Sq,HS,H⟩:=H
    refine W.regionN [1,3] [4,6,7] Sq S (by kernel_rfl) ?_
    clear S;intro ww S
    refine BN.pure 0 S (fun _=>HS) rfl (by kernel_rfl) (by kernel_rfl) (fun _=>Lf.run_fa (S.ev rfl) fa28_0) rfl rfl trivial fun _ S=>?_
    refine BN.pure 2 S (fun _=>HS) rfl (by kernel_rfl) (by kernel_rfl) (fun _=>Lf.run_fa (S.ev rfl) fa28_1) rfl rfl trivial fun _ S=>?_
    obtain⟨x36,c_8,H⟩:=H
    refine BN.held 1 S HS rfl (by kernel_rfl) (fun _ hq=>Lf.run_ld (S.ev rfl) fl3 (c_8 _ hq)) rfl rfl trivial fun _ S=>?_
    obtain⟨x38,c_9,H⟩:=H
    refine BN.held 3 S HS rfl (by kernel_rfl) (fun _ hq=>Lf.run_ld (S.ev rfl) fl26 (c_9 _ hq)) rfl rfl trivial fun _ S=>?_
    refine BN.effs [4,6] (by kernel_rfl) rfl ⟨⟨_,rfl,?_⟩,⟨_,rfl,?_⟩,trivial⟩
    ·
     replace H:=H.1
     refine ol_cal S H isfn30 rfl rfl trivial ?_
     clear S H;intro u_6 aa ww h7 H S
     obtain⟨x39,rfl,H⟩:=H
     refine OL.nil ?_
     clear HS;obtain⟨HS,H⟩:=H
     refine⟨fun _=>by rw[S.heap];exact HS,?_⟩
     refine BN.pure 5 S (fun _=>HS) rfl (by kernel_rfl) (by kernel_rfl) (fun _=>Lf.run_build (cs:=#[Value.int .i64 x36,Value.slice x39.a x39.n x39.c,Value.int .i64 0]) pl28 ti28 (parts_map S rfl) (by kernel_rfl)) rfl rfl trivial fun _ S=>?_
     refine BN.eff 6 rfl (by kernel_rfl) ?_
     refine ol_alloc S H ti28 rfl rfl trivial ?_
     clear S H;intro p12 aa ww h8 H S
     refine OL.nil ?_
     clear HS;obtain⟨HS,H⟩:=H
     refine⟨fun _=>by rw[S.heap];exact HS,?_⟩
     refine BN.eff 7 rfl (by kernel_rfl) ?_
     refine ol_stoA S H rfl rfl ti28 trivial ?_
     clear S H;intro aa ww h9 H S
     refine OL.nil ?_
     refine⟨noNeed (by kernel_rfl),?_⟩
     refine BN.done (by kernel_rfl) ?_
     exact⟨p12,h9,S.sub _ ⟨rfl,rfl,rfl,rfl,rfl,rfl,trivial⟩,H⟩
    ·
     replace H:=H.2
     refine ol_alloc S H ti28 rfl rfl trivial ?_
     clear S H;intro p12_1 aa ww h10 H S
     refine OL.nil ?_
     clear HS;obtain⟨HS,H⟩:=H
     refine⟨fun _=>by rw[S.heap];exact HS,?_⟩
     refine BN.eff 4 rfl (by kernel_rfl) ?_
     refine ol_cal S H isfn30 rfl rfl trivial ?_
     clear S H;intro u_7 aa ww h11 H S
     obtain⟨x39_1,rfl,H⟩:=H
     refine OL.nil ?_
     clear HS;obtain⟨HS,H⟩:=H
     refine⟨fun _=>by rw[S.heap];exact HS,?_⟩
     refine BN.pure 5 S (fun _=>HS) rfl (by kernel_rfl) (by kernel_rfl) (fun _=>Lf.run_build (cs:=#[Value.int .i64 x36,Value.slice x39_1.a x39_1.n x39_1.c,Value.int .i64 0]) pl28 ti28 (parts_map S rfl) (by kernel_rfl)) rfl rfl trivial fun _ S=>?_
     refine BN.eff 7 rfl (by kernel_rfl) ?_
     refine ol_stoA S H rfl rfl ti28 trivial ?_
     clear S H;intro aa ww h12 H S
     refine OL.nil ?_
     refine⟨noNeed (by kernel_rfl),?_⟩
     refine BN.done (by kernel_rfl) ?_
     exact⟨p12_1,h12,S.sub _ ⟨rfl,rfl,rfl,rfl,rfl,rfl,trivial⟩,H⟩
   ·
    clear H S
    rintro aa ww ⟨out12,h13,S,HJ⟩
    have H:=HK _ _ HJ
    clear HK HJ
    obtain⟨J_1,H,HK_1⟩:=H
    refine W.seqJ (fun aa ww=>∃h20,St 76 [(6,Value.pointer (some p6)),(12,Value.pointer (some out12))] h20 w0 aa ww∧J_1 h20) ?_ ?_
    ·
     clear HK_1
     refine W.seq ?_
     refine W.region ?_
     refine OL.zm S fun _ S=>?_
     obtain⟨p42,e_4,H⟩:=H
     refine OL.zq S (Lf.run_nc' (S.ev rfl) e_4) fun _ S=>?_
     refine OL.zf S fa74_4 fun _ S=>?_
     obtain⟨x44,c_10,H⟩:=H
     refine OL.zl S fl4 c_10 fun _ S=>?_
     refine OL.nil ?_
     refine W.cond S (b:=x44) rfl (fun hb_2=>?_) (fun hb_2=>?_)
     ·
      replace H:=H.1 hb_2
      refine W.seq ?_
      refine W.region ?_
      refine OL.zm S fun _ S=>?_
      obtain⟨p46,e_5,H⟩:=H
      refine OL.zq S (Lf.run_nc' (S.ev rfl) e_5) fun _ S=>?_
      refine OL.zf S fa74_1 fun _ S=>?_
      obtain⟨x48,c_11,H⟩:=H
      refine OL.zl S fl3 c_11 fun _ S=>?_
      refine OL.zq S (Lf.run_add (S.ev rfl) (S.ev rfl)) fun _ S=>?_
      obtain⟨p50,e_6,H⟩:=H
      refine OL.zq S (Lf.run_nc' (S.ev rfl) e_6) fun _ S=>?_
      refine OL.zf S fa74_1 fun _ S=>?_
      refine ol_sto S H rfl rfl rfl ti3 trivial ?_
      clear S H;intro aa ww h14 H S
      refine OL.nil ?_
      refine W.seq ?_
      refine W.region ?_
      refine OL.zm S fun _ S=>?_
      obtain⟨p53,e_7,H⟩:=H
      refine OL.zq S (Lf.run_nc' (S.ev rfl) e_7) fun _ S=>?_
      refine OL.zf S fa74_1 fun _ S=>?_
      obtain⟨x55,c_12,H⟩:=H
      refine OL.zl S fl3 c_12 fun _ S=>?_
      refine OL.zf S fa28_2 fun _ S=>?_
      refine ol_sto S H rfl rfl rfl ti3 trivial ?_
      clear S H;intro aa ww h15 H S
      refine OL.nil ?_
      replace S:=S.sub [(0,Value.pointer vh0),(2,Value.bool unique2),(4,Value.pointer (some p4)),(6,Value.pointer (some p6)),(8,Value.pointer x18),(12,Value.pointer (some out12))] ⟨rfl,rfl,rfl,rfl,rfl,rfl,trivial⟩
      obtain⟨Sq_1,HS_1,H⟩:=H
      refine W.regionN [4,8] [11,14,15,18] Sq_1 S (by kernel_rfl) ?_
      clear S;intro ww S
      refine BN.pure 0 S (fun _=>HS_1) rfl (by kernel_rfl) (by kernel_rfl) (fun _=>Lf.run_move (S.ev rfl)) rfl rfl trivial fun _ S=>?_
      refine BN.pure 1 S (fun _=>HS_1) rfl (by kernel_rfl) (by kernel_rfl) (fun _=>Lf.run_move (S.ev rfl)) rfl rfl trivial fun _ S=>?_
      obtain⟨p59,e_8,H⟩:=H
      refine BN.pure 2 S (fun _=>HS_1) rfl (by kernel_rfl) (by kernel_rfl) (fun _=>Lf.run_nc' (S.ev rfl) e_8) rfl rfl trivial fun _ S=>?_
      refine BN.pure 3 S (fun _=>HS_1) rfl (by kernel_rfl) (by kernel_rfl) (fun _=>Lf.run_fa (S.ev rfl) fa78_2) rfl rfl trivial fun _ S=>?_
      refine BN.pure 5 S (fun _=>HS_1) rfl (by kernel_rfl) (by kernel_rfl) (fun _=>Lf.run_move (S.ev rfl)) rfl rfl trivial fun _ S=>?_
      obtain⟨p63,e_9,H⟩:=H
      refine BN.pure 6 S (fun _=>HS_1) rfl (by kernel_rfl) (by kernel_rfl) (fun _=>Lf.run_nc' (S.ev rfl) e_9) rfl rfl trivial fun _ S=>?_
      refine BN.pure 7 S (fun _=>HS_1) rfl (by kernel_rfl) (by kernel_rfl) (fun _=>Lf.run_fa (S.ev rfl) fa74_1) rfl rfl trivial fun _ S=>?_
      refine BN.pure 9 S (fun _=>HS_1) rfl (by kernel_rfl) (by kernel_rfl) (fun _=>Lf.run_fa (S.ev rfl) fa28_1) rfl rfl trivial fun _ S=>?_
      obtain⟨x67,c_13,H⟩:=H
      refine BN.load 10 S (fun _=>HS_1) rfl (by kernel_rfl) (by kernel_rfl) (fun _ hx=>Lf.run_ld (S.ev rfl) fl26 (hx.cell _ _ (S.cl c_13))) rfl rfl trivial fun _ S=>?_
      refine BN.pure 12 S (fun _=>HS_1) rfl (by kernel_rfl) (by kernel_rfl) (fun _=>Lf.run_move (S.ev rfl)) rfl rfl trivial fun _ S=>?_
      obtain⟨x61,c_14,H⟩:=H
      refine BN.held 4 S HS_1 rfl (by kernel_rfl) (fun _ hq=>Lf.run_ld (S.ev rfl) fl69 (c_14 _ hq)) rfl rfl trivial fun _ S=>?_
      obtain⟨x65,c_15,H⟩:=H
      refine BN.held 8 S HS_1 rfl (by kernel_rfl) (fun _ hq=>Lf.run_ld (S.ev rfl) fl3 (c_15 _ hq)) rfl rfl trivial fun _ S=>?_
      refine BN.eff 11 rfl (by kernel_rfl) ?_
      refine ol_cal S H isfn30 rfl rfl trivial ?_
      clear S H;intro u_8 aa ww h16 H S
      obtain⟨x68,rfl,H⟩:=H
      refine OL.nil ?_
      clear HS_1;obtain⟨HS_1,H⟩:=H
      refine⟨fun _=>by rw[S.heap];exact HS_1,?_⟩
      refine BN.pure 13 S (fun _=>HS_1) rfl (by kernel_rfl) (by kernel_rfl) (fun _=>Lf.run_build (cs:=#[Value.int .i64 x65,Value.slice x68.a x68.n x68.c,Value.bool unique2]) pl80 ti80 (parts_map S rfl) (by kernel_rfl)) rfl rfl trivial fun _ S=>?_
      refine BN.eff 14 rfl (by kernel_rfl) ?_
      refine ol_newS S H Try.underlying69 ti80 (by decide) (parts_map S rfl) (by kernel_rfl) (by decide) rfl trivial ?_
      clear S H;intro s71 aa ww h17 H S
      refine OL.nil ?_
      clear HS_1;obtain⟨HS_1,H⟩:=H
      refine⟨fun _=>by rw[S.heap];exact HS_1,?_⟩
      refine BN.eff 15 rfl (by kernel_rfl) ?_
      refine ol_appS S H Try.underlying69 ti80 rfl rfl rfl trivial ?_
      clear S H;intro s72 aa ww h18 H S
      refine OL.nil ?_
      refine⟨noNeed (by kernel_rfl),?_⟩
      obtain⟨p73,e_10,H⟩:=H
      refine BN.pure 16 S (noNeed (by kernel_rfl)) rfl (by kernel_rfl) (by kernel_rfl) (fun _=>Lf.run_nc' (S.ev rfl) e_10) rfl rfl trivial fun _ S=>?_
      refine BN.pure 17 S (noNeed (by kernel_rfl)) rfl (by kernel_rfl) (by kernel_rfl) (fun _=>Lf.run_fa (S.ev rfl) fa78_2) rfl rfl trivial fun _ S=>?_
      refine BN.eff 18 rfl (by kernel_rfl) ?_
      refine ol_sto S H rfl rfl rfl ti69 trivial ?_
      clear S H;intro aa ww h19 H S
      refine OL.nil ?_
      refine⟨noNeed (by kernel_rfl),?_⟩
      refine BN.done (by kernel_rfl) ?_
      exact⟨h19,S.sub _ ⟨rfl,rfl,trivial⟩,H⟩
     ·
      replace H:=H.2 hb_2
      refine W.skip ?_
      exact⟨h13,S.sub _ ⟨rfl,rfl,trivial⟩,H⟩
    ·
     clear H S
     rintro aa ww ⟨h20,S,HJ⟩
     have H:=HK_1 _ HJ
     clear HK_1 HJ
     refine W.seq ?_
     refine W.region ?_
     obtain⟨y75,y75_1,y75_2,c_20,c_21,c_22,H⟩:=H
     refine OL.zq S (Lf.run_ldA (cs:=[Value.int .i64 y75,Value.slice y75_1.a y75_1.n y75_1.c,Value.int .i64 y75_2]) (S.ev rfl) ag28 ti28 (by rw[S.heap];exact RowL.toRow ⟨c_20,c_21,c_22,trivial⟩)) fun _ S=>?_
     refine ol_stoA S H rfl rfl ti28 trivial ?_
     clear S H;intro aa ww h21 H S
     refine OL.za S fun _ S=>?_
     refine OL.nil ?_
     refine W.ret ?_
     obtain⟨y_6,y_7,y_8,c_17,c_18,c_19,H⟩:=H
     exact Ret.gen S rfl (RV.cellA (cs:=[Value.int .i64 y_6,Value.slice y_7.a y_7.n y_7.c,Value.int .i64 y_8]) rfl ag28 ti28 ⟨c_17,c_18,c_19,trivial⟩ (RV.tmp rfl RV.nil)) rfl H
def L13 (vh0:Option Addr) (h:Heap) (R:Value→Heap→Prop):Prop:=
 ifb (Option.isNone vh0) (
  R (Value.int .i64 0) h) (
  nn vh0 fun p6=>
  ldI .i64 h (p6.add 2) fun x8=>
  R (Value.int .i64 x8) h)
set_option maxRecDepth 100000 in
theorem F13 {vh0 h:_} {R:Value→Heap→Prop} (H:L13 vh0 h R):CallsH Try.prog 13 #[Value.pointer vh0] h R:=by
 refine CallsH.enter (n:=9) Try.func13 rfl rfl rfl rfl ?_
 intro w0 aa ww S
 unfold L13 at H
 refine W.seq ?_
 refine W.region ?_
 refine OL.za S fun _ S=>?_
 refine OL.nil ?_
 refine W.seq ?_
 refine W.seq ?_
 refine W.region ?_
 refine OL.zm S fun _ S=>?_
 refine OL.zq S (Lf.run_eqlpn Try.underlying23 (S.ev rfl) (S.ev rfl)) fun _ S=>?_
 refine OL.nil ?_
 refine W.cond S (b:=(Option.isNone vh0)) rfl (fun hb=>?_) (fun hb=>?_)
 ·
  replace H:=H.1 hb
  refine W.seq ?_
  refine W.region ?_
  refine OL.za S fun _ S=>?_
  refine OL.nil ?_
  refine W.ret ?_
  exact Ret.one S rfl rfl H
 ·
  replace H:=H.2 hb
  refine W.skip ?_
  refine W.seq ?_
  refine W.region ?_
  refine OL.zm S fun _ S=>?_
  obtain⟨p6,e,H⟩:=H
  refine OL.zq S (Lf.run_nc' (S.ev rfl) e) fun _ S=>?_
  refine OL.zf S fa74_2 fun _ S=>?_
  obtain⟨x8,c,H⟩:=H
  refine OL.zl S fl3 c fun _ S=>?_
  refine OL.za S fun _ S=>?_
  refine OL.nil ?_
  refine W.ret ?_
  exact Ret.one S rfl rfl H
def L14 (vh0:Option Addr) (i1:Int) (h:Heap) (R:Value→Heap→Prop):Prop:=
 cal Try.prog 31 #[Value.pointer vh0,Value.int .i64 i1] h fun u h1=>asP u fun x9=>
 ifb (Option.isNone x9) (
  R (Value.int .i64 1) h1) (
  nn x9 fun p13=>
  sto h1 p13 (Value.bool false) fun h2=>
  nn vh0 fun p16=>
  ldI .i64 h2 (p16.add 2) fun x18=>
  nn vh0 fun p20=>
  sto h2 (p20.add 2) (Value.int .i64 (IntKind.i64.wrap (x18 - 1))) fun h3=>
  nn x9 fun p23=>
  ∃(y25:Int) (y25_1:Int) (y25_2:ByteArray) (y25_3:Sv) (y25_4:Int) (y25_5:Sv) (y25_6:Int),cl h3 (p23.add 1)=some (Value.int .i64 y25)∧cl h3 ((p23.add 1).add 1)=some (Value.int .u64 y25_1)∧cl h3 ((p23.add 1).add 2)=some (Value.string y25_2)∧cl h3 ((p23.add 1).add 3)=some (Value.slice y25_3.a y25_3.n y25_3.c)∧cl h3 ((p23.add 1).add 4)=some (Value.int .i64 y25_4)∧cl h3 ((p23.add 1).add 5)=some (Value.slice y25_5.a y25_5.n y25_5.c)∧cl h3 ((p23.add 1).add 6)=some (Value.int .i64 y25_6) ∧
  new 33 #[Value.int .i64 0,Value.int .u64 0,Value.string (⟨#[]⟩:ByteArray),Value.slice (⟨none,0,0⟩:Sv).a (⟨none,0,0⟩:Sv).n (⟨none,0,0⟩:Sv).c,Value.int .i64 0,Value.slice (⟨none,0,0⟩:Sv).a (⟨none,0,0⟩:Sv).n (⟨none,0,0⟩:Sv).c,Value.int .i64 0] h3 fun p6 h4=>
  stoA h4 p6 [Value.int .i64 y25,Value.int .u64 y25_1,Value.string y25_2,Value.slice y25_3.a y25_3.n y25_3.c,Value.int .i64 y25_4,Value.slice y25_5.a y25_5.n y25_5.c,Value.int .i64 y25_6] fun h5=>
  nn x9 fun p29=>
  stoA h5 (p29.add 1) [Value.int .i64 0,Value.int .u64 0,Value.string (⟨#[]⟩:ByteArray),Value.slice (⟨none,0,0⟩:Sv).a (⟨none,0,0⟩:Sv).n (⟨none,0,0⟩:Sv).c,Value.int .i64 0,Value.slice (⟨none,0,0⟩:Sv).a (⟨none,0,0⟩:Sv).n (⟨none,0,0⟩:Sv).c,Value.int .i64 0] fun h6=>
  nn x9 fun p31=>
  sto h6 (p31.add 8) (Value.slice (⟨none,0,0⟩:Sv).a (⟨none,0,0⟩:Sv).n (⟨none,0,0⟩:Sv).c) fun h7=>
  ∃(y34:Int) (y34_1:Int) (y34_2:ByteArray) (y34_3:Sv) (y34_4:Int) (y34_5:Sv) (y34_6:Int),cl h7 p6=some (Value.int .i64 y34)∧cl h7 (p6.add 1)=some (Value.int .u64 y34_1)∧cl h7 (p6.add 2)=some (Value.string y34_2)∧cl h7 (p6.add 3)=some (Value.slice y34_3.a y34_3.n y34_3.c)∧cl h7 (p6.add 4)=some (Value.int .i64 y34_4)∧cl h7 (p6.add 5)=some (Value.slice y34_5.a y34_5.n y34_5.c)∧cl h7 (p6.add 6)=some (Value.int .i64 y34_6) ∧
  cal Try.prog 25 #[Value.pointer vh0,Value.agg #[Value.int .i64 y34,Value.int .u64 y34_1,Value.string y34_2,Value.slice y34_3.a y34_3.n y34_3.c,Value.int .i64 y34_4,Value.slice y34_5.a y34_5.n y34_5.c,Value.int .i64 y34_6]] h7 fun u_1 h8=>asI .i64 u_1 fun x35=>
  R (Value.int .i64 x35) h8)
set_option maxRecDepth 100000 in
theorem F14 {vh0 i1 h:_} {R:Value→Heap→Prop} (H:L14 vh0 i1 h R):CallsH Try.prog 14 #[Value.pointer vh0,Value.int .i64 i1] h R:=by
 refine CallsH.enter (n:=36) Try.func14 rfl rfl rfl rfl ?_
 intro w0 aa ww S
 unfold L14 at H
 refine W.seq ?_
 refine W.region ?_
 refine OL.za S fun _ S=>?_
 refine OL.nil ?_
 refine W.seq ?_
 refine W.region ?_
 refine OL.zm S fun _ S=>?_
 refine OL.zm S fun _ S=>?_
 refine ol_cal S H isfn31 rfl rfl trivial ?_
 clear S H;intro u aa ww h1 H S
 obtain⟨x9,rfl,H⟩:=H
 refine OL.za S fun _ S=>?_
 refine OL.nil ?_
 refine W.seq ?_
 refine W.seq ?_
 refine W.region ?_
 refine OL.zm S fun _ S=>?_
 refine OL.zq S (Lf.run_eqlpn Try.underlying75 (S.ev rfl) (S.ev rfl)) fun _ S=>?_
 refine OL.nil ?_
 refine W.cond S (b:=(Option.isNone x9)) rfl (fun hb=>?_) (fun hb=>?_)
 ·
  replace H:=H.1 hb
  refine W.seq ?_
  refine W.region ?_
  refine OL.za S fun _ S=>?_
  refine OL.nil ?_
  refine W.ret ?_
  exact Ret.one S rfl rfl H
 ·
  replace H:=H.2 hb
  refine W.skip ?_
  refine W.seq ?_
  refine W.region ?_
  refine OL.zm S fun _ S=>?_
  obtain⟨p13,e,H⟩:=H
  refine OL.zq S (Lf.run_nc' (S.ev rfl) e) fun _ S=>?_
  refine OL.zf S fa78_0 fun _ S=>?_
  refine ol_sto S H rfl rfl rfl ti4 trivial ?_
  clear S H;intro aa ww h2 H S
  refine OL.nil ?_
  refine W.seq ?_
  refine W.region ?_
  refine OL.zm S fun _ S=>?_
  obtain⟨p16,e_1,H⟩:=H
  refine OL.zq S (Lf.run_nc' (S.ev rfl) e_1) fun _ S=>?_
  refine OL.zf S fa74_2 fun _ S=>?_
  obtain⟨x18,c,H⟩:=H
  refine OL.zl S fl3 c fun _ S=>?_
  refine OL.zq S (Lf.run_sub (S.ev rfl) (S.ev rfl)) fun _ S=>?_
  obtain⟨p20,e_2,H⟩:=H
  refine OL.zq S (Lf.run_nc' (S.ev rfl) e_2) fun _ S=>?_
  refine OL.zf S fa74_2 fun _ S=>?_
  refine ol_sto S H rfl rfl rfl ti3 trivial ?_
  clear S H;intro aa ww h3 H S
  refine OL.nil ?_
  refine W.seq ?_
  refine W.region ?_
  refine OL.zm S fun _ S=>?_
  obtain⟨p23,e_3,H⟩:=H
  refine OL.zq S (Lf.run_nc' (S.ev rfl) e_3) fun _ S=>?_
  refine OL.zf S fa78_1 fun _ S=>?_
  obtain⟨y25,y25_1,y25_2,y25_3,y25_4,y25_5,y25_6,c_10,c_11,c_12,c_13,c_14,c_15,c_16,H⟩:=H
  refine OL.zq S (Lf.run_ldA (cs:=[Value.int .i64 y25,Value.int .u64 y25_1,Value.string y25_2,Value.slice y25_3.a y25_3.n y25_3.c,Value.int .i64 y25_4,Value.slice y25_5.a y25_5.n y25_5.c,Value.int .i64 y25_6]) (S.ev rfl) ag33 ti33 (by rw[S.heap];exact RowL.toRow ⟨c_10,c_11,c_12,c_13,c_14,c_15,c_16,trivial⟩)) fun _ S=>?_
  refine ol_alloc S H ti33 rfl rfl trivial ?_
  clear S H;intro p6 aa ww h4 H S
  refine ol_stoA S H rfl rfl ti33 trivial ?_
  clear S H;intro aa ww h5 H S
  refine OL.nil ?_
  refine W.seq ?_
  refine W.region ?_
  refine OL.zm S fun _ S=>?_
  refine OL.zm S fun _ S=>?_
  refine OL.zq S (Lf.run_build (cs:=#[Value.int .i64 0,Value.int .u64 0,Value.string (⟨#[]⟩:ByteArray),Value.slice (⟨none,0,0⟩:Sv).a (⟨none,0,0⟩:Sv).n (⟨none,0,0⟩:Sv).c,Value.int .i64 0,Value.slice (⟨none,0,0⟩:Sv).a (⟨none,0,0⟩:Sv).n (⟨none,0,0⟩:Sv).c,Value.int .i64 0]) pl33 ti33 (parts_map S rfl) (by kernel_rfl)) fun _ S=>?_
  obtain⟨p29,e_4,H⟩:=H
  refine OL.zq S (Lf.run_nc' (S.ev rfl) e_4) fun _ S=>?_
  refine OL.zf S fa78_1 fun _ S=>?_
  refine ol_stoA S H rfl rfl ti33 trivial ?_
  clear S H;intro aa ww h6 H S
  obtain⟨p31,e_5,H⟩:=H
  refine OL.zq S (Lf.run_nc' (S.ev rfl) e_5) fun _ S=>?_
  refine OL.zf S fa78_2 fun _ S=>?_
  refine ol_sto S H rfl rfl rfl ti69 trivial ?_
  clear S H;intro aa ww h7 H S
  refine OL.nil ?_
  refine W.seq ?_
  refine W.region ?_
  refine OL.zm S fun _ S=>?_
  obtain⟨y34,y34_1,y34_2,y34_3,y34_4,y34_5,y34_6,c_3,c_4,c_5,c_6,c_7,c_8,c_9,H⟩:=H
  refine OL.zq S (Lf.run_ldA (cs:=[Value.int .i64 y34,Value.int .u64 y34_1,Value.string y34_2,Value.slice y34_3.a y34_3.n y34_3.c,Value.int .i64 y34_4,Value.slice y34_5.a y34_5.n y34_5.c,Value.int .i64 y34_6]) (S.ev rfl) ag33 ti33 (by rw[S.heap];exact RowL.toRow ⟨c_3,c_4,c_5,c_6,c_7,c_8,c_9,trivial⟩)) fun _ S=>?_
  refine ol_cal S H isfn25 rfl rfl trivial ?_
  clear S H;intro u_1 aa ww h8 H S
  obtain⟨x35,rfl,H⟩:=H
  refine OL.za S fun _ S=>?_
  refine OL.nil ?_
  refine W.ret ?_
  exact Ret.one S rfl rfl H
def L15 (vh0:Option Addr) (p1:Int) (p1_1:Sv) (p1_2:Int) (h:Heap) (R:Value→Heap→Prop):Prop:=
 new 28 #[Value.int .i64 p1,Value.slice p1_1.a p1_1.n p1_1.c,Value.int .i64 p1_2] h fun p3 h1=>
 new 33 #[Value.int .i64 0,Value.int .u64 0,Value.string (⟨#[]⟩:ByteArray),Value.slice (⟨none,0,0⟩:Sv).a (⟨none,0,0⟩:Sv).n (⟨none,0,0⟩:Sv).c,Value.int .i64 0,Value.slice (⟨none,0,0⟩:Sv).a (⟨none,0,0⟩:Sv).n (⟨none,0,0⟩:Sv).c,Value.int .i64 0] h1 fun p4 h2=>
 ∃(y11:Int) (y11_1:Sv) (y11_2:Int),cl h2 p3=some (Value.int .i64 y11)∧cl h2 (p3.add 1)=some (Value.slice y11_1.a y11_1.n y11_1.c)∧cl h2 (p3.add 2)=some (Value.int .i64 y11_2) ∧
 cal Try.prog 28 #[Value.pointer vh0,Value.agg #[Value.int .i64 y11,Value.slice y11_1.a y11_1.n y11_1.c,Value.int .i64 y11_2],Value.bool false] h2 fun u h3=>asTup u fun r12=>
 elt r12 0 fun u_1=>asP u_1 fun x13=>
 elt r12 1 fun u_2=>asI .i64 u_2 fun x14=>
 ifb (x14 != 0) (
  stoA h3 p4 [Value.int .i64 0,Value.int .u64 0,Value.string (⟨#[]⟩:ByteArray),Value.slice (⟨none,0,0⟩:Sv).a (⟨none,0,0⟩:Sv).n (⟨none,0,0⟩:Sv).c,Value.int .i64 0,Value.slice (⟨none,0,0⟩:Sv).a (⟨none,0,0⟩:Sv).n (⟨none,0,0⟩:Sv).c,Value.int .i64 0] fun h4=>
  ∃(y:Int) (y_1:Int) (y_2:ByteArray) (y_3:Sv) (y_4:Int) (y_5:Sv) (y_6:Int),cl h4 p4=some (Value.int .i64 y)∧cl h4 (p4.add 1)=some (Value.int .u64 y_1)∧cl h4 (p4.add 2)=some (Value.string y_2)∧cl h4 (p4.add 3)=some (Value.slice y_3.a y_3.n y_3.c)∧cl h4 (p4.add 4)=some (Value.int .i64 y_4)∧cl h4 (p4.add 5)=some (Value.slice y_5.a y_5.n y_5.c)∧cl h4 (p4.add 6)=some (Value.int .i64 y_6) ∧
  R (.tuple #[Value.agg #[Value.int .i64 y,Value.int .u64 y_1,Value.string y_2,Value.slice y_3.a y_3.n y_3.c,Value.int .i64 y_4,Value.slice y_5.a y_5.n y_5.c,Value.int .i64 y_6],Value.int .i64 x14]) h4) (
  ldS h3 (p3.add 1) fun x22=>
  cal Try.prog 29 #[Value.pointer x13,Value.slice x22.a x22.n x22.c] h3 fun u_3 h5=>asTup u_3 fun r23=>
  elt r23 0 fun u_4=>asP u_4 fun x24=>
  elt r23 1 fun u_5=>asI .i64 u_5 fun x25=>
  ifb (x25 != 0) (
   stoA h5 p4 [Value.int .i64 0,Value.int .u64 0,Value.string (⟨#[]⟩:ByteArray),Value.slice (⟨none,0,0⟩:Sv).a (⟨none,0,0⟩:Sv).n (⟨none,0,0⟩:Sv).c,Value.int .i64 0,Value.slice (⟨none,0,0⟩:Sv).a (⟨none,0,0⟩:Sv).n (⟨none,0,0⟩:Sv).c,Value.int .i64 0] fun h6=>
   ∃(y_7:Int) (y_8:Int) (y_9:ByteArray) (y_10:Sv) (y_11:Int) (y_12:Sv) (y_13:Int),cl h6 p4=some (Value.int .i64 y_7)∧cl h6 (p4.add 1)=some (Value.int .u64 y_8)∧cl h6 (p4.add 2)=some (Value.string y_9)∧cl h6 (p4.add 3)=some (Value.slice y_10.a y_10.n y_10.c)∧cl h6 (p4.add 4)=some (Value.int .i64 y_11)∧cl h6 (p4.add 5)=some (Value.slice y_12.a y_12.n y_12.c)∧cl h6 (p4.add 6)=some (Value.int .i64 y_13) ∧
   R (.tuple #[Value.agg #[Value.int .i64 y_7,Value.int .u64 y_8,Value.string y_9,Value.slice y_10.a y_10.n y_10.c,Value.int .i64 y_11,Value.slice y_12.a y_12.n y_12.c,Value.int .i64 y_13],Value.int .i64 x25]) h6) (
   nn x24 fun p31=>
   ∃(y32:Int) (y32_1:Int) (y32_2:ByteArray) (y32_3:Sv) (y32_4:Int) (y32_5:Sv) (y32_6:Int),cl h5 p31=some (Value.int .i64 y32)∧cl h5 (p31.add 1)=some (Value.int .u64 y32_1)∧cl h5 (p31.add 2)=some (Value.string y32_2)∧cl h5 (p31.add 3)=some (Value.slice y32_3.a y32_3.n y32_3.c)∧cl h5 (p31.add 4)=some (Value.int .i64 y32_4)∧cl h5 (p31.add 5)=some (Value.slice y32_5.a y32_5.n y32_5.c)∧cl h5 (p31.add 6)=some (Value.int .i64 y32_6) ∧
   cal Try.prog 27 #[Value.agg #[Value.int .i64 y32,Value.int .u64 y32_1,Value.string y32_2,Value.slice y32_3.a y32_3.n y32_3.c,Value.int .i64 y32_4,Value.slice y32_5.a y32_5.n y32_5.c,Value.int .i64 y32_6]] h5 fun u_6 h7=>∃(y33:Int) (y33_1:Int) (y33_2:ByteArray) (y33_3:Sv) (y33_4:Int) (y33_5:Sv) (y33_6:Int),u_6=Value.agg #[Value.int .i64 y33,Value.int .u64 y33_1,Value.string y33_2,Value.slice y33_3.a y33_3.n y33_3.c,Value.int .i64 y33_4,Value.slice y33_5.a y33_5.n y33_5.c,Value.int .i64 y33_6] ∧
   stoA h7 p4 [Value.int .i64 y33,Value.int .u64 y33_1,Value.string y33_2,Value.slice y33_3.a y33_3.n y33_3.c,Value.int .i64 y33_4,Value.slice y33_5.a y33_5.n y33_5.c,Value.int .i64 y33_6] fun h8=>
   ∃(y_14:Int) (y_15:Int) (y_16:ByteArray) (y_17:Sv) (y_18:Int) (y_19:Sv) (y_20:Int),cl h8 p4=some (Value.int .i64 y_14)∧cl h8 (p4.add 1)=some (Value.int .u64 y_15)∧cl h8 (p4.add 2)=some (Value.string y_16)∧cl h8 (p4.add 3)=some (Value.slice y_17.a y_17.n y_17.c)∧cl h8 (p4.add 4)=some (Value.int .i64 y_18)∧cl h8 (p4.add 5)=some (Value.slice y_19.a y_19.n y_19.c)∧cl h8 (p4.add 6)=some (Value.int .i64 y_20) ∧
   R (.tuple #[Value.agg #[Value.int .i64 y_14,Value.int .u64 y_15,Value.string y_16,Value.slice y_17.a y_17.n y_17.c,Value.int .i64 y_18,Value.slice y_19.a y_19.n y_19.c,Value.int .i64 y_20],Value.int .i64 0]) h8))
set_option maxRecDepth 100000 in
theorem F15 {vh0 p1 p1_1 p1_2 h:_} {R:Value→Heap→Prop} (H:L15 vh0 p1 p1_1 p1_2 h R):CallsH Try.prog 15 #[Value.pointer vh0,Value.agg #[Value.int .i64 p1,Value.slice p1_1.a p1_1.n p1_1.c,Value.int .i64 p1_2]] h R:=by
 refine CallsH.enter (n:=34) Try.func15 rfl rfl rfl rfl ?_
 intro w0 aa ww S
 unfold L15 at H
 refine W.seq ?_
 refine W.region ?_
 refine ol_box S H rfl rfl rfl trivial ?_
 clear S H;intro p3 aa ww h1 H S
 refine ol_alloc S H ti33 rfl rfl trivial ?_
 clear S H;intro p4 aa ww h2 H S
 refine OL.za S fun _ S=>?_
 refine OL.nil ?_
 refine W.seq ?_
 refine W.region ?_
 refine OL.zm S fun _ S=>?_
 obtain⟨y11,y11_1,y11_2,c_31,c_32,c_33,H⟩:=H
 refine OL.zq S (Lf.run_ldA (cs:=[Value.int .i64 y11,Value.slice y11_1.a y11_1.n y11_1.c,Value.int .i64 y11_2]) (S.ev rfl) ag28 ti28 (by rw[S.heap];exact RowL.toRow ⟨c_31,c_32,c_33,trivial⟩)) fun _ S=>?_
 refine ol_cal S H isfn28 rfl rfl trivial ?_
 clear S H;intro u aa ww h3 H S
 obtain⟨r12,rfl,H⟩:=H
 refine OL.zm S fun _ S=>?_
 obtain⟨u_1,e,x13,rfl,H⟩:=H
 refine OL.zq S (Lf.run_ex (S.ev rfl) e) fun _ S=>?_
 obtain⟨u_2,e_1,x14,rfl,H⟩:=H
 refine OL.zq S (Lf.run_ex (S.ev rfl) e_1) fun _ S=>?_
 refine OL.za S fun _ S=>?_
 refine OL.za S fun _ S=>?_
 refine OL.nil ?_
 refine W.seq ?_
 refine W.seq ?_
 refine W.region ?_
 refine OL.zm S fun _ S=>?_
 refine OL.zq S (Lf.run_neq (S.ev rfl) (S.ev rfl)) fun _ S=>?_
 refine OL.nil ?_
 refine W.cond S (b:=(x14 != 0)) rfl (fun hb=>?_) (fun hb=>?_)
 ·
  replace H:=H.1 hb
  refine W.seq ?_
  refine W.region ?_
  refine OL.zq S (Lf.run_build (cs:=#[Value.int .i64 0,Value.int .u64 0,Value.string (⟨#[]⟩:ByteArray),Value.slice (⟨none,0,0⟩:Sv).a (⟨none,0,0⟩:Sv).n (⟨none,0,0⟩:Sv).c,Value.int .i64 0,Value.slice (⟨none,0,0⟩:Sv).a (⟨none,0,0⟩:Sv).n (⟨none,0,0⟩:Sv).c,Value.int .i64 0]) pl33 ti33 (parts_map S rfl) (by kernel_rfl)) fun _ S=>?_
  refine OL.zm S fun _ S=>?_
  refine ol_stoA S H rfl rfl ti33 trivial ?_
  clear S H;intro aa ww h4 H S
  refine OL.za S fun _ S=>?_
  refine OL.nil ?_
  refine W.ret ?_
  obtain⟨y,y_1,y_2,y_3,y_4,y_5,y_6,c_1,c_2,c_3,c_4,c_5,c_6,c_7,H⟩:=H
  exact Ret.gen S rfl (RV.cellA (cs:=[Value.int .i64 y,Value.int .u64 y_1,Value.string y_2,Value.slice y_3.a y_3.n y_3.c,Value.int .i64 y_4,Value.slice y_5.a y_5.n y_5.c,Value.int .i64 y_6]) rfl ag33 ti33 ⟨c_1,c_2,c_3,c_4,c_5,c_6,c_7,trivial⟩ (RV.tmp rfl RV.nil)) rfl H
 ·
  replace H:=H.2 hb
  refine W.skip ?_
  refine W.seq ?_
  refine W.region ?_
  refine OL.zm S fun _ S=>?_
  refine OL.zf S fa28_1 fun _ S=>?_
  obtain⟨x22,c_8,H⟩:=H
  refine OL.zl S fl26 c_8 fun _ S=>?_
  refine ol_cal S H isfn29 rfl rfl trivial ?_
  clear S H;intro u_3 aa ww h5 H S
  obtain⟨r23,rfl,H⟩:=H
  refine OL.zm S fun _ S=>?_
  obtain⟨u_4,e_2,x24,rfl,H⟩:=H
  refine OL.zq S (Lf.run_ex (S.ev rfl) e_2) fun _ S=>?_
  obtain⟨u_5,e_3,x25,rfl,H⟩:=H
  refine OL.zq S (Lf.run_ex (S.ev rfl) e_3) fun _ S=>?_
  refine OL.za S fun _ S=>?_
  refine OL.za S fun _ S=>?_
  refine OL.nil ?_
  refine W.seq ?_
  refine W.seq ?_
  refine W.region ?_
  refine OL.zm S fun _ S=>?_
  refine OL.zq S (Lf.run_neq (S.ev rfl) (S.ev rfl)) fun _ S=>?_
  refine OL.nil ?_
  refine W.cond S (b:=(x25 != 0)) rfl (fun hb_1=>?_) (fun hb_1=>?_)
  ·
   replace H:=H.1 hb_1
   refine W.seq ?_
   refine W.region ?_
   refine OL.zq S (Lf.run_build (cs:=#[Value.int .i64 0,Value.int .u64 0,Value.string (⟨#[]⟩:ByteArray),Value.slice (⟨none,0,0⟩:Sv).a (⟨none,0,0⟩:Sv).n (⟨none,0,0⟩:Sv).c,Value.int .i64 0,Value.slice (⟨none,0,0⟩:Sv).a (⟨none,0,0⟩:Sv).n (⟨none,0,0⟩:Sv).c,Value.int .i64 0]) pl33 ti33 (parts_map S rfl) (by kernel_rfl)) fun _ S=>?_
   refine OL.zm S fun _ S=>?_
   refine ol_stoA S H rfl rfl ti33 trivial ?_
   clear S H;intro aa ww h6 H S
   refine OL.za S fun _ S=>?_
   refine OL.nil ?_
   refine W.ret ?_
   obtain⟨y_7,y_8,y_9,y_10,y_11,y_12,y_13,c_9,c_10,c_11,c_12,c_13,c_14,c_15,H⟩:=H
   exact Ret.gen S rfl (RV.cellA (cs:=[Value.int .i64 y_7,Value.int .u64 y_8,Value.string y_9,Value.slice y_10.a y_10.n y_10.c,Value.int .i64 y_11,Value.slice y_12.a y_12.n y_12.c,Value.int .i64 y_13]) rfl ag33 ti33 ⟨c_9,c_10,c_11,c_12,c_13,c_14,c_15,trivial⟩ (RV.tmp rfl RV.nil)) rfl H
  ·
   replace H:=H.2 hb_1
   refine W.skip ?_
   refine W.seq ?_
   refine W.region ?_
   refine OL.zm S fun _ S=>?_
   obtain⟨p31,e_4,H⟩:=H
   refine OL.zq S (Lf.run_nc' (S.ev rfl) e_4) fun _ S=>?_
   obtain⟨y32,y32_1,y32_2,y32_3,y32_4,y32_5,y32_6,c_24,c_25,c_26,c_27,c_28,c_29,c_30,H⟩:=H
   refine OL.zq S (Lf.run_ldA (cs:=[Value.int .i64 y32,Value.int .u64 y32_1,Value.string y32_2,Value.slice y32_3.a y32_3.n y32_3.c,Value.int .i64 y32_4,Value.slice y32_5.a y32_5.n y32_5.c,Value.int .i64 y32_6]) (S.ev rfl) ag33 ti33 (by rw[S.heap];exact RowL.toRow ⟨c_24,c_25,c_26,c_27,c_28,c_29,c_30,trivial⟩)) fun _ S=>?_
   refine ol_cal S H isfn27 rfl rfl trivial ?_
   clear S H;intro u_6 aa ww h7 H S
   obtain⟨y33,y33_1,y33_2,y33_3,y33_4,y33_5,y33_6,rfl,H⟩:=H
   refine ol_stoA S H rfl rfl ti33 trivial ?_
   clear S H;intro aa ww h8 H S
   refine OL.za S fun _ S=>?_
   refine OL.nil ?_
   refine W.ret ?_
   obtain⟨y_14,y_15,y_16,y_17,y_18,y_19,y_20,c_17,c_18,c_19,c_20,c_21,c_22,c_23,H⟩:=H
   exact Ret.gen S rfl (RV.cellA (cs:=[Value.int .i64 y_14,Value.int .u64 y_15,Value.string y_16,Value.slice y_17.a y_17.n y_17.c,Value.int .i64 y_18,Value.slice y_19.a y_19.n y_19.c,Value.int .i64 y_20]) rfl ag33 ti33 ⟨c_17,c_18,c_19,c_20,c_21,c_22,c_23,trivial⟩ (RV.tmp rfl RV.nil)) rfl H
def L17 (vh0:Option Addr) (p1:Int) (p1_1:Sv) (p1_2:Int) (x2:Int) (x2_1:Int) (x2_2:ByteArray) (x2_3:Sv) (x2_4:Int) (x2_5:Sv) (x2_6:Int) (h:Heap) (R:Value→Heap→Prop):Prop:=
 new 28 #[Value.int .i64 p1,Value.slice p1_1.a p1_1.n p1_1.c,Value.int .i64 p1_2] h fun p4 h1=>
 new 33 #[Value.int .i64 x2,Value.int .u64 x2_1,Value.string x2_2,Value.slice x2_3.a x2_3.n x2_3.c,Value.int .i64 x2_4,Value.slice x2_5.a x2_5.n x2_5.c,Value.int .i64 x2_6] h1 fun p5 h2=>
 ∃(y13:Int) (y13_1:Sv) (y13_2:Int),cl h2 p4=some (Value.int .i64 y13)∧cl h2 (p4.add 1)=some (Value.slice y13_1.a y13_1.n y13_1.c)∧cl h2 (p4.add 2)=some (Value.int .i64 y13_2) ∧
 cal Try.prog 28 #[Value.pointer vh0,Value.agg #[Value.int .i64 y13,Value.slice y13_1.a y13_1.n y13_1.c,Value.int .i64 y13_2],Value.bool true] h2 fun u h3=>asTup u fun r14=>
 elt r14 0 fun u_1=>asP u_1 fun x15=>
 elt r14 1 fun u_2=>asI .i64 u_2 fun x16=>
 ifb (x16 != 0) (
  R (Value.int .i64 x16) h3) (
  ldS h3 (p4.add 1) fun x23=>
  cal Try.prog 32 #[Value.pointer x15,Value.slice x23.a x23.n x23.c] h3 fun u_3 h4=>asTup u_3 fun r24=>
  elt r24 0 fun u_4=>asP u_4 fun x25=>
  elt r24 1 fun u_5=>asI .i64 u_5 fun x26=>
  ifb (x26 != 0) (
   R (Value.int .i64 x26) h4) (
   nn x25 fun p31=>
   ∃(y32:Int) (y32_1:Int) (y32_2:ByteArray) (y32_3:Sv) (y32_4:Int) (y32_5:Sv) (y32_6:Int),cl h4 p31=some (Value.int .i64 y32)∧cl h4 (p31.add 1)=some (Value.int .u64 y32_1)∧cl h4 (p31.add 2)=some (Value.string y32_2)∧cl h4 (p31.add 3)=some (Value.slice y32_3.a y32_3.n y32_3.c)∧cl h4 (p31.add 4)=some (Value.int .i64 y32_4)∧cl h4 (p31.add 5)=some (Value.slice y32_5.a y32_5.n y32_5.c)∧cl h4 (p31.add 6)=some (Value.int .i64 y32_6) ∧
   new 33 #[Value.int .i64 0,Value.int .u64 0,Value.string (⟨#[]⟩:ByteArray),Value.slice (⟨none,0,0⟩:Sv).a (⟨none,0,0⟩:Sv).n (⟨none,0,0⟩:Sv).c,Value.int .i64 0,Value.slice (⟨none,0,0⟩:Sv).a (⟨none,0,0⟩:Sv).n (⟨none,0,0⟩:Sv).c,Value.int .i64 0] h4 fun p10 h5=>
   stoA h5 p10 [Value.int .i64 y32,Value.int .u64 y32_1,Value.string y32_2,Value.slice y32_3.a y32_3.n y32_3.c,Value.int .i64 y32_4,Value.slice y32_5.a y32_5.n y32_5.c,Value.int .i64 y32_6] fun h6=>
   ∃(y34:Int) (y34_1:Int) (y34_2:ByteArray) (y34_3:Sv) (y34_4:Int) (y34_5:Sv) (y34_6:Int),cl h6 p5=some (Value.int .i64 y34)∧cl h6 (p5.add 1)=some (Value.int .u64 y34_1)∧cl h6 (p5.add 2)=some (Value.string y34_2)∧cl h6 (p5.add 3)=some (Value.slice y34_3.a y34_3.n y34_3.c)∧cl h6 (p5.add 4)=some (Value.int .i64 y34_4)∧cl h6 (p5.add 5)=some (Value.slice y34_5.a y34_5.n y34_5.c)∧cl h6 (p5.add 6)=some (Value.int .i64 y34_6) ∧
   cal Try.prog 27 #[Value.agg #[Value.int .i64 y34,Value.int .u64 y34_1,Value.string y34_2,Value.slice y34_3.a y34_3.n y34_3.c,Value.int .i64 y34_4,Value.slice y34_5.a y34_5.n y34_5.c,Value.int .i64 y34_6]] h6 fun u_6 h7=>∃(y35:Int) (y35_1:Int) (y35_2:ByteArray) (y35_3:Sv) (y35_4:Int) (y35_5:Sv) (y35_6:Int),u_6=Value.agg #[Value.int .i64 y35,Value.int .u64 y35_1,Value.string y35_2,Value.slice y35_3.a y35_3.n y35_3.c,Value.int .i64 y35_4,Value.slice y35_5.a y35_5.n y35_5.c,Value.int .i64 y35_6] ∧
   nn x25 fun p36=>
   stoA h7 p36 [Value.int .i64 y35,Value.int .u64 y35_1,Value.string y35_2,Value.slice y35_3.a y35_3.n y35_3.c,Value.int .i64 y35_4,Value.slice y35_5.a y35_5.n y35_5.c,Value.int .i64 y35_6] fun h8=>
   ∃(y38:Int) (y38_1:Int) (y38_2:ByteArray) (y38_3:Sv) (y38_4:Int) (y38_5:Sv) (y38_6:Int),cl h8 p10=some (Value.int .i64 y38)∧cl h8 (p10.add 1)=some (Value.int .u64 y38_1)∧cl h8 (p10.add 2)=some (Value.string y38_2)∧cl h8 (p10.add 3)=some (Value.slice y38_3.a y38_3.n y38_3.c)∧cl h8 (p10.add 4)=some (Value.int .i64 y38_4)∧cl h8 (p10.add 5)=some (Value.slice y38_5.a y38_5.n y38_5.c)∧cl h8 (p10.add 6)=some (Value.int .i64 y38_6) ∧
   cal Try.prog 25 #[Value.pointer vh0,Value.agg #[Value.int .i64 y38,Value.int .u64 y38_1,Value.string y38_2,Value.slice y38_3.a y38_3.n y38_3.c,Value.int .i64 y38_4,Value.slice y38_5.a y38_5.n y38_5.c,Value.int .i64 y38_6]] h8 fun u_7 h9=>asI .i64 u_7 fun x39=>
   R (Value.int .i64 x39) h9))
set_option maxRecDepth 100000 in
theorem F17 {vh0 p1 p1_1 p1_2 x2 x2_1 x2_2 x2_3 x2_4 x2_5 x2_6 h:_} {R:Value→Heap→Prop} (H:L17 vh0 p1 p1_1 p1_2 x2 x2_1 x2_2 x2_3 x2_4 x2_5 x2_6 h R):CallsH Try.prog 17 #[Value.pointer vh0,Value.agg #[Value.int .i64 p1,Value.slice p1_1.a p1_1.n p1_1.c,Value.int .i64 p1_2],Value.agg #[Value.int .i64 x2,Value.int .u64 x2_1,Value.string x2_2,Value.slice x2_3.a x2_3.n x2_3.c,Value.int .i64 x2_4,Value.slice x2_5.a x2_5.n x2_5.c,Value.int .i64 x2_6]] h R:=by
 refine CallsH.enter (n:=40) Try.func17 rfl rfl rfl rfl ?_
 intro w0 aa ww S
 unfold L17 at H
 refine W.seq ?_
 refine W.region ?_
 refine ol_box S H rfl rfl rfl trivial ?_
 clear S H;intro p4 aa ww h1 H S
 refine ol_box S H rfl rfl rfl trivial ?_
 clear S H;intro p5 aa ww h2 H S
 refine OL.za S fun _ S=>?_
 refine OL.nil ?_
 refine W.seq ?_
 refine W.region ?_
 refine OL.zm S fun _ S=>?_
 obtain⟨y13,y13_1,y13_2,c_26,c_27,c_28,H⟩:=H
 refine OL.zq S (Lf.run_ldA (cs:=[Value.int .i64 y13,Value.slice y13_1.a y13_1.n y13_1.c,Value.int .i64 y13_2]) (S.ev rfl) ag28 ti28 (by rw[S.heap];exact RowL.toRow ⟨c_26,c_27,c_28,trivial⟩)) fun _ S=>?_
 refine ol_cal S H isfn28 rfl rfl trivial ?_
 clear S H;intro u aa ww h3 H S
 obtain⟨r14,rfl,H⟩:=H
 refine OL.zm S fun _ S=>?_
 obtain⟨u_1,e,x15,rfl,H⟩:=H
 refine OL.zq S (Lf.run_ex (S.ev rfl) e) fun _ S=>?_
 obtain⟨u_2,e_1,x16,rfl,H⟩:=H
 refine OL.zq S (Lf.run_ex (S.ev rfl) e_1) fun _ S=>?_
 refine OL.za S fun _ S=>?_
 refine OL.za S fun _ S=>?_
 refine OL.nil ?_
 refine W.seq ?_
 refine W.seq ?_
 refine W.region ?_
 refine OL.zm S fun _ S=>?_
 refine OL.zq S (Lf.run_neq (S.ev rfl) (S.ev rfl)) fun _ S=>?_
 refine OL.nil ?_
 refine W.cond S (b:=(x16 != 0)) rfl (fun hb=>?_) (fun hb=>?_)
 ·
  replace H:=H.1 hb
  refine W.seq ?_
  refine W.region ?_
  refine OL.zm S fun _ S=>?_
  refine OL.za S fun _ S=>?_
  refine OL.nil ?_
  refine W.ret ?_
  exact Ret.one S rfl rfl H
 ·
  replace H:=H.2 hb
  refine W.skip ?_
  refine W.seq ?_
  refine W.region ?_
  refine OL.zm S fun _ S=>?_
  refine OL.zf S fa28_1 fun _ S=>?_
  obtain⟨x23,c_1,H⟩:=H
  refine OL.zl S fl26 c_1 fun _ S=>?_
  refine ol_cal S H isfn32 rfl rfl trivial ?_
  clear S H;intro u_3 aa ww h4 H S
  obtain⟨r24,rfl,H⟩:=H
  refine OL.zm S fun _ S=>?_
  obtain⟨u_4,e_2,x25,rfl,H⟩:=H
  refine OL.zq S (Lf.run_ex (S.ev rfl) e_2) fun _ S=>?_
  obtain⟨u_5,e_3,x26,rfl,H⟩:=H
  refine OL.zq S (Lf.run_ex (S.ev rfl) e_3) fun _ S=>?_
  refine OL.za S fun _ S=>?_
  refine OL.za S fun _ S=>?_
  refine OL.nil ?_
  refine W.seq ?_
  refine W.seq ?_
  refine W.region ?_
  refine OL.zm S fun _ S=>?_
  refine OL.zq S (Lf.run_neq (S.ev rfl) (S.ev rfl)) fun _ S=>?_
  refine OL.nil ?_
  refine W.cond S (b:=(x26 != 0)) rfl (fun hb_1=>?_) (fun hb_1=>?_)
  ·
   replace H:=H.1 hb_1
   refine W.seq ?_
   refine W.region ?_
   refine OL.zm S fun _ S=>?_
   refine OL.za S fun _ S=>?_
   refine OL.nil ?_
   refine W.ret ?_
   exact Ret.one S rfl rfl H
  ·
   replace H:=H.2 hb_1
   refine W.skip ?_
   refine W.seq ?_
   refine W.region ?_
   refine OL.zm S fun _ S=>?_
   obtain⟨p31,e_4,H⟩:=H
   refine OL.zq S (Lf.run_nc' (S.ev rfl) e_4) fun _ S=>?_
   obtain⟨y32,y32_1,y32_2,y32_3,y32_4,y32_5,y32_6,c_19,c_20,c_21,c_22,c_23,c_24,c_25,H⟩:=H
   refine OL.zq S (Lf.run_ldA (cs:=[Value.int .i64 y32,Value.int .u64 y32_1,Value.string y32_2,Value.slice y32_3.a y32_3.n y32_3.c,Value.int .i64 y32_4,Value.slice y32_5.a y32_5.n y32_5.c,Value.int .i64 y32_6]) (S.ev rfl) ag33 ti33 (by rw[S.heap];exact RowL.toRow ⟨c_19,c_20,c_21,c_22,c_23,c_24,c_25,trivial⟩)) fun _ S=>?_
   refine ol_alloc S H ti33 rfl rfl trivial ?_
   clear S H;intro p10 aa ww h5 H S
   refine ol_stoA S H rfl rfl ti33 trivial ?_
   clear S H;intro aa ww h6 H S
   refine OL.nil ?_
   refine W.seq ?_
   refine W.region ?_
   refine OL.zm S fun _ S=>?_
   obtain⟨y34,y34_1,y34_2,y34_3,y34_4,y34_5,y34_6,c_12,c_13,c_14,c_15,c_16,c_17,c_18,H⟩:=H
   refine OL.zq S (Lf.run_ldA (cs:=[Value.int .i64 y34,Value.int .u64 y34_1,Value.string y34_2,Value.slice y34_3.a y34_3.n y34_3.c,Value.int .i64 y34_4,Value.slice y34_5.a y34_5.n y34_5.c,Value.int .i64 y34_6]) (S.ev rfl) ag33 ti33 (by rw[S.heap];exact RowL.toRow ⟨c_12,c_13,c_14,c_15,c_16,c_17,c_18,trivial⟩)) fun _ S=>?_
   refine ol_cal S H isfn27 rfl rfl trivial ?_
   clear S H;intro u_6 aa ww h7 H S
   obtain⟨y35,y35_1,y35_2,y35_3,y35_4,y35_5,y35_6,rfl,H⟩:=H
   obtain⟨p36,e_5,H⟩:=H
   refine OL.zq S (Lf.run_nc' (S.ev rfl) e_5) fun _ S=>?_
   refine ol_stoA S H rfl rfl ti33 trivial ?_
   clear S H;intro aa ww h8 H S
   refine OL.nil ?_
   refine W.seq ?_
   refine W.region ?_
   refine OL.zm S fun _ S=>?_
   obtain⟨y38,y38_1,y38_2,y38_3,y38_4,y38_5,y38_6,c_5,c_6,c_7,c_8,c_9,c_10,c_11,H⟩:=H
   refine OL.zq S (Lf.run_ldA (cs:=[Value.int .i64 y38,Value.int .u64 y38_1,Value.string y38_2,Value.slice y38_3.a y38_3.n y38_3.c,Value.int .i64 y38_4,Value.slice y38_5.a y38_5.n y38_5.c,Value.int .i64 y38_6]) (S.ev rfl) ag33 ti33 (by rw[S.heap];exact RowL.toRow ⟨c_5,c_6,c_7,c_8,c_9,c_10,c_11,trivial⟩)) fun _ S=>?_
   refine ol_cal S H isfn25 rfl rfl trivial ?_
   clear S H;intro u_7 aa ww h9 H S
   obtain⟨x39,rfl,H⟩:=H
   refine OL.za S fun _ S=>?_
   refine OL.nil ?_
   refine W.ret ?_
   exact Ret.one S rfl rfl H
def L18 (vh0:Option Addr) (p1:Int) (p1_1:Sv) (p1_2:Int) (h:Heap) (R:Value→Heap→Prop):Prop:=
 new 28 #[Value.int .i64 p1,Value.slice p1_1.a p1_1.n p1_1.c,Value.int .i64 p1_2] h fun p3 h1=>
 new 33 #[Value.int .i64 0,Value.int .u64 0,Value.string (⟨#[]⟩:ByteArray),Value.slice (⟨none,0,0⟩:Sv).a (⟨none,0,0⟩:Sv).n (⟨none,0,0⟩:Sv).c,Value.int .i64 0,Value.slice (⟨none,0,0⟩:Sv).a (⟨none,0,0⟩:Sv).n (⟨none,0,0⟩:Sv).c,Value.int .i64 0] h1 fun p4 h2=>
 ∃(y12:Int) (y12_1:Sv) (y12_2:Int),cl h2 p3=some (Value.int .i64 y12)∧cl h2 (p3.add 1)=some (Value.slice y12_1.a y12_1.n y12_1.c)∧cl h2 (p3.add 2)=some (Value.int .i64 y12_2) ∧
 cal Try.prog 28 #[Value.pointer vh0,Value.agg #[Value.int .i64 y12,Value.slice y12_1.a y12_1.n y12_1.c,Value.int .i64 y12_2],Value.bool true] h2 fun u h3=>asTup u fun r13=>
 elt r13 0 fun u_1=>asP u_1 fun x14=>
 elt r13 1 fun u_2=>asI .i64 u_2 fun x15=>
 ifb (x15 != 0) (
  stoA h3 p4 [Value.int .i64 0,Value.int .u64 0,Value.string (⟨#[]⟩:ByteArray),Value.slice (⟨none,0,0⟩:Sv).a (⟨none,0,0⟩:Sv).n (⟨none,0,0⟩:Sv).c,Value.int .i64 0,Value.slice (⟨none,0,0⟩:Sv).a (⟨none,0,0⟩:Sv).n (⟨none,0,0⟩:Sv).c,Value.int .i64 0] fun h4=>
  ∃(y:Int) (y_1:Int) (y_2:ByteArray) (y_3:Sv) (y_4:Int) (y_5:Sv) (y_6:Int),cl h4 p4=some (Value.int .i64 y)∧cl h4 (p4.add 1)=some (Value.int .u64 y_1)∧cl h4 (p4.add 2)=some (Value.string y_2)∧cl h4 (p4.add 3)=some (Value.slice y_3.a y_3.n y_3.c)∧cl h4 (p4.add 4)=some (Value.int .i64 y_4)∧cl h4 (p4.add 5)=some (Value.slice y_5.a y_5.n y_5.c)∧cl h4 (p4.add 6)=some (Value.int .i64 y_6) ∧
  R (.tuple #[Value.agg #[Value.int .i64 y,Value.int .u64 y_1,Value.string y_2,Value.slice y_3.a y_3.n y_3.c,Value.int .i64 y_4,Value.slice y_5.a y_5.n y_5.c,Value.int .i64 y_6],Value.int .i64 x15]) h4) (
  ldS h3 (p3.add 1) fun x23=>
  cal Try.prog 29 #[Value.pointer x14,Value.slice x23.a x23.n x23.c] h3 fun u_3 h5=>asTup u_3 fun r24=>
  elt r24 0 fun u_4=>asP u_4 fun x25=>
  elt r24 1 fun u_5=>asI .i64 u_5 fun x26=>
  ifb (x26 != 0) (
   stoA h5 p4 [Value.int .i64 0,Value.int .u64 0,Value.string (⟨#[]⟩:ByteArray),Value.slice (⟨none,0,0⟩:Sv).a (⟨none,0,0⟩:Sv).n (⟨none,0,0⟩:Sv).c,Value.int .i64 0,Value.slice (⟨none,0,0⟩:Sv).a (⟨none,0,0⟩:Sv).n (⟨none,0,0⟩:Sv).c,Value.int .i64 0] fun h6=>
   ∃(y_7:Int) (y_8:Int) (y_9:ByteArray) (y_10:Sv) (y_11:Int) (y_12:Sv) (y_13:Int),cl h6 p4=some (Value.int .i64 y_7)∧cl h6 (p4.add 1)=some (Value.int .u64 y_8)∧cl h6 (p4.add 2)=some (Value.string y_9)∧cl h6 (p4.add 3)=some (Value.slice y_10.a y_10.n y_10.c)∧cl h6 (p4.add 4)=some (Value.int .i64 y_11)∧cl h6 (p4.add 5)=some (Value.slice y_12.a y_12.n y_12.c)∧cl h6 (p4.add 6)=some (Value.int .i64 y_13) ∧
   R (.tuple #[Value.agg #[Value.int .i64 y_7,Value.int .u64 y_8,Value.string y_9,Value.slice y_10.a y_10.n y_10.c,Value.int .i64 y_11,Value.slice y_12.a y_12.n y_12.c,Value.int .i64 y_13],Value.int .i64 x26]) h6) (
   nn x25 fun p32=>
   ∃(y33:Int) (y33_1:Int) (y33_2:ByteArray) (y33_3:Sv) (y33_4:Int) (y33_5:Sv) (y33_6:Int),cl h5 p32=some (Value.int .i64 y33)∧cl h5 (p32.add 1)=some (Value.int .u64 y33_1)∧cl h5 (p32.add 2)=some (Value.string y33_2)∧cl h5 (p32.add 3)=some (Value.slice y33_3.a y33_3.n y33_3.c)∧cl h5 (p32.add 4)=some (Value.int .i64 y33_4)∧cl h5 (p32.add 5)=some (Value.slice y33_5.a y33_5.n y33_5.c)∧cl h5 (p32.add 6)=some (Value.int .i64 y33_6) ∧
   new 33 #[Value.int .i64 0,Value.int .u64 0,Value.string (⟨#[]⟩:ByteArray),Value.slice (⟨none,0,0⟩:Sv).a (⟨none,0,0⟩:Sv).n (⟨none,0,0⟩:Sv).c,Value.int .i64 0,Value.slice (⟨none,0,0⟩:Sv).a (⟨none,0,0⟩:Sv).n (⟨none,0,0⟩:Sv).c,Value.int .i64 0] h5 fun p9 h7=>
   stoA h7 p9 [Value.int .i64 y33,Value.int .u64 y33_1,Value.string y33_2,Value.slice y33_3.a y33_3.n y33_3.c,Value.int .i64 y33_4,Value.slice y33_5.a y33_5.n y33_5.c,Value.int .i64 y33_6] fun h8=>
   nn x25 fun p36=>
   stoA h8 p36 [Value.int .i64 0,Value.int .u64 0,Value.string (⟨#[]⟩:ByteArray),Value.slice (⟨none,0,0⟩:Sv).a (⟨none,0,0⟩:Sv).n (⟨none,0,0⟩:Sv).c,Value.int .i64 0,Value.slice (⟨none,0,0⟩:Sv).a (⟨none,0,0⟩:Sv).n (⟨none,0,0⟩:Sv).c,Value.int .i64 0] fun h9=>
   ∃(y37:Int) (y37_1:Int) (y37_2:ByteArray) (y37_3:Sv) (y37_4:Int) (y37_5:Sv) (y37_6:Int),cl h9 p9=some (Value.int .i64 y37)∧cl h9 (p9.add 1)=some (Value.int .u64 y37_1)∧cl h9 (p9.add 2)=some (Value.string y37_2)∧cl h9 (p9.add 3)=some (Value.slice y37_3.a y37_3.n y37_3.c)∧cl h9 (p9.add 4)=some (Value.int .i64 y37_4)∧cl h9 (p9.add 5)=some (Value.slice y37_5.a y37_5.n y37_5.c)∧cl h9 (p9.add 6)=some (Value.int .i64 y37_6) ∧
   stoA h9 p4 [Value.int .i64 y37,Value.int .u64 y37_1,Value.string y37_2,Value.slice y37_3.a y37_3.n y37_3.c,Value.int .i64 y37_4,Value.slice y37_5.a y37_5.n y37_5.c,Value.int .i64 y37_6] fun h10=>
   ∃(y_14:Int) (y_15:Int) (y_16:ByteArray) (y_17:Sv) (y_18:Int) (y_19:Sv) (y_20:Int),cl h10 p4=some (Value.int .i64 y_14)∧cl h10 (p4.add 1)=some (Value.int .u64 y_15)∧cl h10 (p4.add 2)=some (Value.string y_16)∧cl h10 (p4.add 3)=some (Value.slice y_17.a y_17.n y_17.c)∧cl h10 (p4.add 4)=some (Value.int .i64 y_18)∧cl h10 (p4.add 5)=some (Value.slice y_19.a y_19.n y_19.c)∧cl h10 (p4.add 6)=some (Value.int .i64 y_20) ∧
   R (.tuple #[Value.agg #[Value.int .i64 y_14,Value.int .u64 y_15,Value.string y_16,Value.slice y_17.a y_17.n y_17.c,Value.int .i64 y_18,Value.slice y_19.a y_19.n y_19.c,Value.int .i64 y_20],Value.int .i64 0]) h10))
set_option maxRecDepth 100000 in
theorem F18 {vh0 p1 p1_1 p1_2 h:_} {R:Value→Heap→Prop} (H:L18 vh0 p1 p1_1 p1_2 h R):CallsH Try.prog 18 #[Value.pointer vh0,Value.agg #[Value.int .i64 p1,Value.slice p1_1.a p1_1.n p1_1.c,Value.int .i64 p1_2]] h R:=by
 refine CallsH.enter (n:=38) Try.func18 rfl rfl rfl rfl ?_
 intro w0 aa ww S
 unfold L18 at H
 refine W.seq ?_
 refine W.region ?_
 refine ol_box S H rfl rfl rfl trivial ?_
 clear S H;intro p3 aa ww h1 H S
 refine ol_alloc S H ti33 rfl rfl trivial ?_
 clear S H;intro p4 aa ww h2 H S
 refine OL.za S fun _ S=>?_
 refine OL.nil ?_
 refine W.seq ?_
 refine W.region ?_
 refine OL.zm S fun _ S=>?_
 obtain⟨y12,y12_1,y12_2,c_39,c_40,c_41,H⟩:=H
 refine OL.zq S (Lf.run_ldA (cs:=[Value.int .i64 y12,Value.slice y12_1.a y12_1.n y12_1.c,Value.int .i64 y12_2]) (S.ev rfl) ag28 ti28 (by rw[S.heap];exact RowL.toRow ⟨c_39,c_40,c_41,trivial⟩)) fun _ S=>?_
 refine ol_cal S H isfn28 rfl rfl trivial ?_
 clear S H;intro u aa ww h3 H S
 obtain⟨r13,rfl,H⟩:=H
 refine OL.zm S fun _ S=>?_
 obtain⟨u_1,e,x14,rfl,H⟩:=H
 refine OL.zq S (Lf.run_ex (S.ev rfl) e) fun _ S=>?_
 obtain⟨u_2,e_1,x15,rfl,H⟩:=H
 refine OL.zq S (Lf.run_ex (S.ev rfl) e_1) fun _ S=>?_
 refine OL.za S fun _ S=>?_
 refine OL.za S fun _ S=>?_
 refine OL.nil ?_
 refine W.seq ?_
 refine W.seq ?_
 refine W.region ?_
 refine OL.zm S fun _ S=>?_
 refine OL.zq S (Lf.run_neq (S.ev rfl) (S.ev rfl)) fun _ S=>?_
 refine OL.nil ?_
 refine W.cond S (b:=(x15 != 0)) rfl (fun hb=>?_) (fun hb=>?_)
 ·
  replace H:=H.1 hb
  refine W.seq ?_
  refine W.region ?_
  refine OL.zq S (Lf.run_build (cs:=#[Value.int .i64 0,Value.int .u64 0,Value.string (⟨#[]⟩:ByteArray),Value.slice (⟨none,0,0⟩:Sv).a (⟨none,0,0⟩:Sv).n (⟨none,0,0⟩:Sv).c,Value.int .i64 0,Value.slice (⟨none,0,0⟩:Sv).a (⟨none,0,0⟩:Sv).n (⟨none,0,0⟩:Sv).c,Value.int .i64 0]) pl33 ti33 (parts_map S rfl) (by kernel_rfl)) fun _ S=>?_
  refine OL.zm S fun _ S=>?_
  refine ol_stoA S H rfl rfl ti33 trivial ?_
  clear S H;intro aa ww h4 H S
  refine OL.za S fun _ S=>?_
  refine OL.nil ?_
  refine W.ret ?_
  obtain⟨y,y_1,y_2,y_3,y_4,y_5,y_6,c_1,c_2,c_3,c_4,c_5,c_6,c_7,H⟩:=H
  exact Ret.gen S rfl (RV.cellA (cs:=[Value.int .i64 y,Value.int .u64 y_1,Value.string y_2,Value.slice y_3.a y_3.n y_3.c,Value.int .i64 y_4,Value.slice y_5.a y_5.n y_5.c,Value.int .i64 y_6]) rfl ag33 ti33 ⟨c_1,c_2,c_3,c_4,c_5,c_6,c_7,trivial⟩ (RV.tmp rfl RV.nil)) rfl H
 ·
  replace H:=H.2 hb
  refine W.skip ?_
  refine W.seq ?_
  refine W.region ?_
  refine OL.zm S fun _ S=>?_
  refine OL.zf S fa28_1 fun _ S=>?_
  obtain⟨x23,c_8,H⟩:=H
  refine OL.zl S fl26 c_8 fun _ S=>?_
  refine ol_cal S H isfn29 rfl rfl trivial ?_
  clear S H;intro u_3 aa ww h5 H S
  obtain⟨r24,rfl,H⟩:=H
  refine OL.zm S fun _ S=>?_
  obtain⟨u_4,e_2,x25,rfl,H⟩:=H
  refine OL.zq S (Lf.run_ex (S.ev rfl) e_2) fun _ S=>?_
  obtain⟨u_5,e_3,x26,rfl,H⟩:=H
  refine OL.zq S (Lf.run_ex (S.ev rfl) e_3) fun _ S=>?_
  refine OL.za S fun _ S=>?_
  refine OL.za S fun _ S=>?_
  refine OL.nil ?_
  refine W.seq ?_
  refine W.seq ?_
  refine W.region ?_
  refine OL.zm S fun _ S=>?_
  refine OL.zq S (Lf.run_neq (S.ev rfl) (S.ev rfl)) fun _ S=>?_
  refine OL.nil ?_
  refine W.cond S (b:=(x26 != 0)) rfl (fun hb_1=>?_) (fun hb_1=>?_)
  ·
   replace H:=H.1 hb_1
   refine W.seq ?_
   refine W.region ?_
   refine OL.zq S (Lf.run_build (cs:=#[Value.int .i64 0,Value.int .u64 0,Value.string (⟨#[]⟩:ByteArray),Value.slice (⟨none,0,0⟩:Sv).a (⟨none,0,0⟩:Sv).n (⟨none,0,0⟩:Sv).c,Value.int .i64 0,Value.slice (⟨none,0,0⟩:Sv).a (⟨none,0,0⟩:Sv).n (⟨none,0,0⟩:Sv).c,Value.int .i64 0]) pl33 ti33 (parts_map S rfl) (by kernel_rfl)) fun _ S=>?_
   refine OL.zm S fun _ S=>?_
   refine ol_stoA S H rfl rfl ti33 trivial ?_
   clear S H;intro aa ww h6 H S
   refine OL.za S fun _ S=>?_
   refine OL.nil ?_
   refine W.ret ?_
   obtain⟨y_7,y_8,y_9,y_10,y_11,y_12,y_13,c_9,c_10,c_11,c_12,c_13,c_14,c_15,H⟩:=H
   exact Ret.gen S rfl (RV.cellA (cs:=[Value.int .i64 y_7,Value.int .u64 y_8,Value.string y_9,Value.slice y_10.a y_10.n y_10.c,Value.int .i64 y_11,Value.slice y_12.a y_12.n y_12.c,Value.int .i64 y_13]) rfl ag33 ti33 ⟨c_9,c_10,c_11,c_12,c_13,c_14,c_15,trivial⟩ (RV.tmp rfl RV.nil)) rfl H
  ·
   replace H:=H.2 hb_1
   refine W.skip ?_
   refine W.seq ?_
   refine W.region ?_
   refine OL.zm S fun _ S=>?_
   obtain⟨p32,e_4,H⟩:=H
   refine OL.zq S (Lf.run_nc' (S.ev rfl) e_4) fun _ S=>?_
   obtain⟨y33,y33_1,y33_2,y33_3,y33_4,y33_5,y33_6,c_32,c_33,c_34,c_35,c_36,c_37,c_38,H⟩:=H
   refine OL.zq S (Lf.run_ldA (cs:=[Value.int .i64 y33,Value.int .u64 y33_1,Value.string y33_2,Value.slice y33_3.a y33_3.n y33_3.c,Value.int .i64 y33_4,Value.slice y33_5.a y33_5.n y33_5.c,Value.int .i64 y33_6]) (S.ev rfl) ag33 ti33 (by rw[S.heap];exact RowL.toRow ⟨c_32,c_33,c_34,c_35,c_36,c_37,c_38,trivial⟩)) fun _ S=>?_
   refine ol_alloc S H ti33 rfl rfl trivial ?_
   clear S H;intro p9 aa ww h7 H S
   refine ol_stoA S H rfl rfl ti33 trivial ?_
   clear S H;intro aa ww h8 H S
   refine OL.nil ?_
   refine W.seq ?_
   refine W.region ?_
   refine OL.zm S fun _ S=>?_
   refine OL.zq S (Lf.run_build (cs:=#[Value.int .i64 0,Value.int .u64 0,Value.string (⟨#[]⟩:ByteArray),Value.slice (⟨none,0,0⟩:Sv).a (⟨none,0,0⟩:Sv).n (⟨none,0,0⟩:Sv).c,Value.int .i64 0,Value.slice (⟨none,0,0⟩:Sv).a (⟨none,0,0⟩:Sv).n (⟨none,0,0⟩:Sv).c,Value.int .i64 0]) pl33 ti33 (parts_map S rfl) (by kernel_rfl)) fun _ S=>?_
   obtain⟨p36,e_5,H⟩:=H
   refine OL.zq S (Lf.run_nc' (S.ev rfl) e_5) fun _ S=>?_
   refine ol_stoA S H rfl rfl ti33 trivial ?_
   clear S H;intro aa ww h9 H S
   refine OL.nil ?_
   refine W.seq ?_
   refine W.region ?_
   obtain⟨y37,y37_1,y37_2,y37_3,y37_4,y37_5,y37_6,c_25,c_26,c_27,c_28,c_29,c_30,c_31,H⟩:=H
   refine OL.zq S (Lf.run_ldA (cs:=[Value.int .i64 y37,Value.int .u64 y37_1,Value.string y37_2,Value.slice y37_3.a y37_3.n y37_3.c,Value.int .i64 y37_4,Value.slice y37_5.a y37_5.n y37_5.c,Value.int .i64 y37_6]) (S.ev rfl) ag33 ti33 (by rw[S.heap];exact RowL.toRow ⟨c_25,c_26,c_27,c_28,c_29,c_30,c_31,trivial⟩)) fun _ S=>?_
   refine ol_stoA S H rfl rfl ti33 trivial ?_
   clear S H;intro aa ww h10 H S
   refine OL.za S fun _ S=>?_
   refine OL.nil ?_
   refine W.ret ?_
   obtain⟨y_14,y_15,y_16,y_17,y_18,y_19,y_20,c_18,c_19,c_20,c_21,c_22,c_23,c_24,H⟩:=H
   exact Ret.gen S rfl (RV.cellA (cs:=[Value.int .i64 y_14,Value.int .u64 y_15,Value.string y_16,Value.slice y_17.a y_17.n y_17.c,Value.int .i64 y_18,Value.slice y_19.a y_19.n y_19.c,Value.int .i64 y_20]) rfl ag33 ti33 ⟨c_18,c_19,c_20,c_21,c_22,c_23,c_24,trivial⟩ (RV.tmp rfl RV.nil)) rfl H
def L22 (v0:Int) (v0_1:Int) (v0_2:ByteArray) (v0_3:Sv) (v0_4:Int) (v0_5:Sv) (v0_6:Int) (deep1:Int) (h:Heap) (R:Value→Heap→Prop):Prop:=
 new 33 #[Value.int .i64 v0,Value.int .u64 v0_1,Value.string v0_2,Value.slice v0_3.a v0_3.n v0_3.c,Value.int .i64 v0_4,Value.slice v0_5.a v0_5.n v0_5.c,Value.int .i64 v0_6] h fun p2 h1=>
 ∃J:Bool→Prop,(orr (deep1 == 0) (fun k=>
  ldS h1 (p2.add 3) fun x10=>
  k (decide (5<((x10.n:Nat):Int)))) J)∧∀x13,J x13 →
 ∃J_1:Bool→Prop,(orr x13 (fun k_1=>
  ldT h1 (p2.add 2) fun x16=>
  k_1 (decide (60<((x16.size:Nat):Int)))) J_1)∧∀x19,J_1 x19 →
 ∃J_2:Bool→Prop,(orr x19 (fun k_2=>
  ldS h1 ((p2.add 4).add 1) fun x23=>
  k_2 (decide (6<((x23.n:Nat):Int)))) J_2)∧∀x26,J_2 x26 →
 ifb x26 (
  R (Value.bool false) h1) (
  ∃(I:Int→Heap→Prop) (m:Int→Heap→Nat),I 0 h1∧∀i5 h2,I i5 h2 →
  ldS h2 (p2.add 3) fun x29=>
  ifb (decide (i5<((x29.n:Nat):Int))) (
   ldS h2 (p2.add 3) fun x35=>
   ixS x35 i5 fun q37=>
   ∃(y38:Int) (y38_1:Int) (y38_2:ByteArray) (y38_3:Sv) (y38_4:Int) (y38_5:Sv) (y38_6:Int),cl h2 (q37.add ((i5:Int).toNat*7))=some (Value.int .i64 y38)∧cl h2 ((q37.add ((i5:Int).toNat*7)).add 1)=some (Value.int .u64 y38_1)∧cl h2 ((q37.add ((i5:Int).toNat*7)).add 2)=some (Value.string y38_2)∧cl h2 ((q37.add ((i5:Int).toNat*7)).add 3)=some (Value.slice y38_3.a y38_3.n y38_3.c)∧cl h2 ((q37.add ((i5:Int).toNat*7)).add 4)=some (Value.int .i64 y38_4)∧cl h2 ((q37.add ((i5:Int).toNat*7)).add 5)=some (Value.slice y38_5.a y38_5.n y38_5.c)∧cl h2 ((q37.add ((i5:Int).toNat*7)).add 6)=some (Value.int .i64 y38_6) ∧
   cal Try.prog 22 #[Value.agg #[Value.int .i64 y38,Value.int .u64 y38_1,Value.string y38_2,Value.slice y38_3.a y38_3.n y38_3.c,Value.int .i64 y38_4,Value.slice y38_5.a y38_5.n y38_5.c,Value.int .i64 y38_6],Value.int .i64 (IntKind.i64.wrap (deep1 - 1))] h2 fun u h3=>asB u fun x41=>
   ifb (!x41) (
    R (Value.bool false) h3) (
    I (IntKind.i64.wrap (i5+1)) h3∧m (IntKind.i64.wrap (i5+1)) h3<m i5 h2)) (
   R (Value.bool true) h2))
set_option maxRecDepth 100000 in
theorem F22 {v0 v0_1 v0_2 v0_3 v0_4 v0_5 v0_6 deep1 h:_} {R:Value→Heap→Prop} (H:L22 v0 v0_1 v0_2 v0_3 v0_4 v0_5 v0_6 deep1 h R):CallsH Try.prog 22 #[Value.agg #[Value.int .i64 v0,Value.int .u64 v0_1,Value.string v0_2,Value.slice v0_3.a v0_3.n v0_3.c,Value.int .i64 v0_4,Value.slice v0_5.a v0_5.n v0_5.c,Value.int .i64 v0_6],Value.int .i64 deep1] h R:=by
 refine CallsH.enter (n:=43) Try.func22 rfl rfl rfl rfl ?_
 intro w0 aa ww S
 unfold L22 at H
 refine W.seq ?_
 refine W.region ?_
 refine ol_box S H rfl rfl rfl trivial ?_
 clear S H;intro p2 aa ww h1 H S
 refine OL.za S fun _ S=>?_
 refine OL.nil ?_
 refine W.seq ?_
 refine W.seq ?_
 refine W.region ?_
 refine OL.zm S fun _ S=>?_
 refine OL.zq S (Lf.run_eql (S.ev rfl) (S.ev rfl)) fun _ S=>?_
 refine OL.zm S fun _ S=>?_
 obtain⟨J,H,HK⟩:=H
 refine OL.cutN 5 (fun aa ww=>∃x13,St 43 ((13,Value.bool x13) :: [(1,Value.int .i64 deep1),(2,Value.pointer (some p2)),(6,Value.int .i64 deep1),(7,Value.bool (deep1 == 0)),(8,Value.bool (deep1 == 0))]) h1 w0 aa ww∧J x13) ?_ ?_
 ·
  rcases Bool.eq_false_or_eq_true (deep1 == 0) with hb|hb
  ·
   replace H:=H.1 hb
   refine OL.zn S (GNo.mk rfl rfl hb) fun _ S=>?_
   refine OL.zn S (GNo.mk rfl rfl hb) fun _ S=>?_
   refine OL.zn S (GNo.mk rfl rfl hb) fun _ S=>?_
   refine OL.zn S (GNo.mk rfl rfl hb) fun _ S=>?_
   refine OL.zq S (Lf.run_pickT (S.ev rfl) hb (S.ev rfl)) fun _ S=>?_
   refine OL.nil ?_
   exact⟨_,S.sub _ ⟨rfl,rfl,rfl,rfl,rfl,rfl,trivial⟩,H⟩
  ·
   replace H:=H.2 hb
   refine OL.zf (hg:=GOk.mk rfl rfl hb) S fa33_3 fun _ S=>?_
   obtain⟨x10,c,H⟩:=H
   refine OL.zl (hg:=GOk.mk rfl rfl hb) S fl31 c fun _ S=>?_
   refine OL.zq (hg:=GOk.mk rfl rfl hb) S (Lf.run_lens (S.ev rfl) rfl Try.underlying31) fun _ S=>?_
   refine OL.zq (hg:=GOk.mk rfl rfl hb) S (Lf.run_gtr (S.ev rfl) (S.ev rfl)) fun _ S=>?_
   refine OL.zq S (Lf.run_pickF (S.ev rfl) hb (S.ev rfl)) fun _ S=>?_
   refine OL.nil ?_
   exact⟨_,S.sub _ ⟨rfl,rfl,rfl,rfl,rfl,rfl,trivial⟩,H⟩
 ·
  clear S
  rintro aa ww ⟨x13,S,HJ⟩
  replace H:=HK _ HJ
  clear HK HJ
  refine OL.zm S fun _ S=>?_
  obtain⟨J_1,H,HK_1⟩:=H
  refine OL.cutN 5 (fun aa ww=>∃x19,St 43 ((19,Value.bool x19) :: [(1,Value.int .i64 deep1),(2,Value.pointer (some p2)),(6,Value.int .i64 deep1),(7,Value.bool (deep1 == 0)),(8,Value.bool (deep1 == 0)),(13,Value.bool x13),(14,Value.bool x13)]) h1 w0 aa ww∧J_1 x19) ?_ ?_
  ·
   rcases Bool.eq_false_or_eq_true x13 with hb_1|hb_1
   ·
    replace H:=H.1 hb_1
    refine OL.zn S (GNo.mk rfl rfl hb_1) fun _ S=>?_
    refine OL.zn S (GNo.mk rfl rfl hb_1) fun _ S=>?_
    refine OL.zn S (GNo.mk rfl rfl hb_1) fun _ S=>?_
    refine OL.zn S (GNo.mk rfl rfl hb_1) fun _ S=>?_
    refine OL.zq S (Lf.run_pickT (S.ev rfl) hb_1 (S.ev rfl)) fun _ S=>?_
    refine OL.nil ?_
    exact⟨_,S.sub _ ⟨rfl,rfl,rfl,rfl,rfl,rfl,rfl,rfl,trivial⟩,H⟩
   ·
    replace H:=H.2 hb_1
    refine OL.zf (hg:=GOk.mk rfl rfl hb_1) S fa33_2 fun _ S=>?_
    obtain⟨x16,c_1,H⟩:=H
    refine OL.zl (hg:=GOk.mk rfl rfl hb_1) S fl9 c_1 fun _ S=>?_
    refine OL.zq (hg:=GOk.mk rfl rfl hb_1) S (Lf.run_lent (S.ev rfl) rfl Try.underlying9) fun _ S=>?_
    refine OL.zq (hg:=GOk.mk rfl rfl hb_1) S (Lf.run_gtr (S.ev rfl) (S.ev rfl)) fun _ S=>?_
    refine OL.zq S (Lf.run_pickF (S.ev rfl) hb_1 (S.ev rfl)) fun _ S=>?_
    refine OL.nil ?_
    exact⟨_,S.sub _ ⟨rfl,rfl,rfl,rfl,rfl,rfl,rfl,rfl,trivial⟩,H⟩
  ·
   clear S
   rintro aa ww ⟨x19,S,HJ⟩
   replace H:=HK_1 _ HJ
   clear HK_1 HJ
   refine OL.zm S fun _ S=>?_
   obtain⟨J_2,H,HK_2⟩:=H
   refine OL.cutN 6 (fun aa ww=>∃x26,St 43 ((26,Value.bool x26) :: [(1,Value.int .i64 deep1),(2,Value.pointer (some p2)),(6,Value.int .i64 deep1),(7,Value.bool (deep1 == 0)),(8,Value.bool (deep1 == 0)),(13,Value.bool x13),(14,Value.bool x13),(19,Value.bool x19),(20,Value.bool x19)]) h1 w0 aa ww∧J_2 x26) ?_ ?_
   ·
    rcases Bool.eq_false_or_eq_true x19 with hb_2|hb_2
    ·
     replace H:=H.1 hb_2
     refine OL.zn S (GNo.mk rfl rfl hb_2) fun _ S=>?_
     refine OL.zn S (GNo.mk rfl rfl hb_2) fun _ S=>?_
     refine OL.zn S (GNo.mk rfl rfl hb_2) fun _ S=>?_
     refine OL.zn S (GNo.mk rfl rfl hb_2) fun _ S=>?_
     refine OL.zn S (GNo.mk rfl rfl hb_2) fun _ S=>?_
     refine OL.zq S (Lf.run_pickT (S.ev rfl) hb_2 (S.ev rfl)) fun _ S=>?_
     refine OL.nil ?_
     exact⟨_,S.sub _ ⟨rfl,rfl,rfl,rfl,rfl,rfl,rfl,rfl,rfl,rfl,trivial⟩,H⟩
    ·
     replace H:=H.2 hb_2
     refine OL.zf (hg:=GOk.mk rfl rfl hb_2) S fa33_4 fun _ S=>?_
     refine OL.zf (hg:=GOk.mk rfl rfl hb_2) S fa28_1 fun _ S=>?_
     obtain⟨x23,c_2,H⟩:=H
     refine OL.zl (hg:=GOk.mk rfl rfl hb_2) S fl26 c_2 fun _ S=>?_
     refine OL.zq (hg:=GOk.mk rfl rfl hb_2) S (Lf.run_lens (S.ev rfl) rfl Try.underlying26) fun _ S=>?_
     refine OL.zq (hg:=GOk.mk rfl rfl hb_2) S (Lf.run_gtr (S.ev rfl) (S.ev rfl)) fun _ S=>?_
     refine OL.zq S (Lf.run_pickF (S.ev rfl) hb_2 (S.ev rfl)) fun _ S=>?_
     refine OL.nil ?_
     exact⟨_,S.sub _ ⟨rfl,rfl,rfl,rfl,rfl,rfl,rfl,rfl,rfl,rfl,trivial⟩,H⟩
   ·
    clear S
    rintro aa ww ⟨x26,S,HJ⟩
    replace H:=HK_2 _ HJ
    clear HK_2 HJ
    refine OL.nil ?_
    refine W.cond S (b:=x26) rfl (fun hb_3=>?_) (fun hb_3=>?_)
    ·
     replace H:=H.1 hb_3
     refine W.seq ?_
     refine W.region ?_
     refine OL.za S fun _ S=>?_
     refine OL.nil ?_
     refine W.ret ?_
     exact Ret.one S rfl rfl H
    ·
     replace H:=H.2 hb_3
     refine W.skip ?_
     refine W.seq ?_
     refine W.seq ?_
     refine W.region ?_
     refine OL.za S fun _ S=>?_
     refine OL.nil ?_
     refine W.block ?_
     obtain⟨I,m,H,HB⟩:=H
     refine W.loopS (σ:=Int×Heap) (fun s aa ww=>St 43 [(1,Value.int .i64 deep1),(2,Value.pointer (some p2)),(5,Value.int .i64 s.1)] s.2 w0 aa ww∧I s.1 s.2) (fun s=>m s.1 s.2) (0,h1) ⟨S.sub _ ⟨rfl,rfl,rfl,trivial⟩,H⟩ ?_
     clear H S
     rintro ⟨i5,h2⟩ aa ww ⟨S,HI⟩
     replace S:St 43 [(1,Value.int .i64 deep1),(2,Value.pointer (some p2)),(5,Value.int .i64 i5)] h2 w0 aa ww:=S
     have H:=HB i5 h2 HI
     clear HI
     refine W.seq ?_
     refine W.seq ?_
     refine W.region ?_
     refine OL.zm S fun _ S=>?_
     refine OL.zf S fa33_3 fun _ S=>?_
     obtain⟨x29,c_3,H⟩:=H
     refine OL.zl S fl31 c_3 fun _ S=>?_
     refine OL.zq S (Lf.run_lens (S.ev rfl) rfl Try.underlying31) fun _ S=>?_
     refine OL.zq S (Lf.run_lss (S.ev rfl) (S.ev rfl)) fun _ S=>?_
     refine OL.nil ?_
     refine W.cond S (b:=(decide (i5<((x29.n:Nat):Int)))) rfl (fun hb_4=>?_) (fun hb_4=>?_)
     ·
      replace H:=H.1 hb_4
      refine W.skip ?_
      refine W.seq ?_
      refine W.block ?_
      refine W.seq ?_
      refine W.region ?_
      refine OL.zf S fa33_3 fun _ S=>?_
      obtain⟨x35,c_4,H⟩:=H
      refine OL.zl S fl31 c_4 fun _ S=>?_
      refine OL.zm S fun _ S=>?_
      obtain⟨q37,e,e_1,e_2,H⟩:=H
      refine OL.zq S (Lf.run_ixs (S.ev rfl) (S.ev rfl) Try.underlying31 ti33 e e_1 e_2) fun _ S=>?_
      obtain⟨y38,y38_1,y38_2,y38_3,y38_4,y38_5,y38_6,c_6,c_7,c_8,c_9,c_10,c_11,c_12,H⟩:=H
      refine OL.zq S (Lf.run_ldA (cs:=[Value.int .i64 y38,Value.int .u64 y38_1,Value.string y38_2,Value.slice y38_3.a y38_3.n y38_3.c,Value.int .i64 y38_4,Value.slice y38_5.a y38_5.n y38_5.c,Value.int .i64 y38_6]) (S.ev rfl) ag33 ti33 (by rw[S.heap];exact RowL.toRow ⟨c_6,c_7,c_8,c_9,c_10,c_11,c_12,trivial⟩)) fun _ S=>?_
      refine OL.zm S fun _ S=>?_
      refine OL.zq S (Lf.run_sub (S.ev rfl) (S.ev rfl)) fun _ S=>?_
      refine ol_cal S H isfn22 rfl rfl trivial ?_
      clear S H;intro u aa ww h3 H S
      obtain⟨x41,rfl,H⟩:=H
      refine OL.zq S (Lf.run_not (S.ev rfl)) fun _ S=>?_
      refine OL.nil ?_
      refine W.cond S (b:=(!x41)) rfl (fun hb_5=>?_) (fun hb_5=>?_)
      ·
       replace H:=H.1 hb_5
       refine W.seq ?_
       refine W.region ?_
       refine OL.za S fun _ S=>?_
       refine OL.nil ?_
       refine W.ret ?_
       exact Ret.one S rfl rfl H
      ·
       replace H:=H.2 hb_5
       refine W.skip ?_
       refine W.region ?_
       refine OL.zm S fun _ S=>?_
       refine OL.zq S (Lf.run_add (S.ev rfl) (S.ev rfl)) fun _ S=>?_
       refine OL.za S fun _ S=>?_
       refine OL.nil ?_
       exact⟨((IntKind.i64.wrap (i5+1)),h3),⟨S.sub _ ⟨rfl,rfl,rfl,trivial⟩,H.1⟩,H.2⟩
     ·
      replace H:=H.2 hb_4
      refine W.exit_ ?_
      refine xhit ?_
      refine W.seq ?_
      refine W.region ?_
      refine OL.za S fun _ S=>?_
      refine OL.nil ?_
      refine W.ret ?_
      exact Ret.one S rfl rfl H
def L23 (vh0:Option Addr) (i1:Int) (h:Heap) (R:Value→Heap→Prop):Prop:=
 new 28 #[Value.int .i64 0,Value.slice (⟨none,0,0⟩:Sv).a (⟨none,0,0⟩:Sv).n (⟨none,0,0⟩:Sv).c,Value.int .i64 0] h fun p4 h1=>
 cal Try.prog 31 #[Value.pointer vh0,Value.int .i64 i1] h1 fun u h2=>asP u fun x9=>
 ifb (Option.isNone x9) (
  stoA h2 p4 [Value.int .i64 0,Value.slice (⟨none,0,0⟩:Sv).a (⟨none,0,0⟩:Sv).n (⟨none,0,0⟩:Sv).c,Value.int .i64 0] fun h3=>
  ∃(y:Int) (y_1:Sv) (y_2:Int),cl h3 p4=some (Value.int .i64 y)∧cl h3 (p4.add 1)=some (Value.slice y_1.a y_1.n y_1.c)∧cl h3 (p4.add 2)=some (Value.int .i64 y_2) ∧
  R (.tuple #[Value.agg #[Value.int .i64 y,Value.slice y_1.a y_1.n y_1.c,Value.int .i64 y_2],Value.int .i64 1]) h3) (
  nn vh0 fun p14=>
  ldB h2 (p14.add 4) fun x16=>
  ifb (!x16) (
   stoA h2 p4 [Value.int .i64 i1,Value.slice (⟨none,0,0⟩:Sv).a (⟨none,0,0⟩:Sv).n (⟨none,0,0⟩:Sv).c,Value.int .i64 0] fun h4=>
   ∃(y_3:Int) (y_4:Sv) (y_5:Int),cl h4 p4=some (Value.int .i64 y_3)∧cl h4 (p4.add 1)=some (Value.slice y_4.a y_4.n y_4.c)∧cl h4 (p4.add 2)=some (Value.int .i64 y_5) ∧
   R (.tuple #[Value.agg #[Value.int .i64 y_3,Value.slice y_4.a y_4.n y_4.c,Value.int .i64 y_5],Value.int .i64 0]) h4) (
   nn x9 fun p22=>
   ldS h2 (p22.add 8) fun x24=>
   ixS x24 0 fun q25=>
   ldI .i64 h2 q25 fun x27=>
   stoA h2 p4 [Value.int .i64 i1,Value.slice (⟨none,0,0⟩:Sv).a (⟨none,0,0⟩:Sv).n (⟨none,0,0⟩:Sv).c,Value.int .i64 x27] fun h5=>
   ∃(y_6:Int) (y_7:Sv) (y_8:Int),cl h5 p4=some (Value.int .i64 y_6)∧cl h5 (p4.add 1)=some (Value.slice y_7.a y_7.n y_7.c)∧cl h5 (p4.add 2)=some (Value.int .i64 y_8) ∧
   R (.tuple #[Value.agg #[Value.int .i64 y_6,Value.slice y_7.a y_7.n y_7.c,Value.int .i64 y_8],Value.int .i64 0]) h5))
set_option maxRecDepth 100000 in
theorem F23 {vh0 i1 h:_} {R:Value→Heap→Prop} (H:L23 vh0 i1 h R):CallsH Try.prog 23 #[Value.pointer vh0,Value.int .i64 i1] h R:=by
 refine CallsH.enter (n:=29) Try.func23 rfl rfl rfl rfl ?_
 intro w0 aa ww S
 unfold L23 at H
 refine W.seq ?_
 refine W.region ?_
 refine ol_alloc S H ti28 rfl rfl trivial ?_
 clear S H;intro p4 aa ww h1 H S
 refine OL.za S fun _ S=>?_
 refine OL.nil ?_
 refine W.seq ?_
 refine W.region ?_
 refine OL.zm S fun _ S=>?_
 refine OL.zm S fun _ S=>?_
 refine ol_cal S H isfn31 rfl rfl trivial ?_
 clear S H;intro u aa ww h2 H S
 obtain⟨x9,rfl,H⟩:=H
 refine OL.za S fun _ S=>?_
 refine OL.nil ?_
 refine W.seq ?_
 refine W.seq ?_
 refine W.region ?_
 refine OL.zm S fun _ S=>?_
 refine OL.zq S (Lf.run_eqlpn Try.underlying75 (S.ev rfl) (S.ev rfl)) fun _ S=>?_
 refine OL.nil ?_
 refine W.cond S (b:=(Option.isNone x9)) rfl (fun hb=>?_) (fun hb=>?_)
 ·
  replace H:=H.1 hb
  refine W.seq ?_
  refine W.region ?_
  refine OL.zq S (Lf.run_build (cs:=#[Value.int .i64 0,Value.slice (⟨none,0,0⟩:Sv).a (⟨none,0,0⟩:Sv).n (⟨none,0,0⟩:Sv).c,Value.int .i64 0]) pl28 ti28 (parts_map S rfl) (by kernel_rfl)) fun _ S=>?_
  refine ol_stoA S H rfl rfl ti28 trivial ?_
  clear S H;intro aa ww h3 H S
  refine OL.za S fun _ S=>?_
  refine OL.nil ?_
  refine W.ret ?_
  obtain⟨y,y_1,y_2,c,c_1,c_2,H⟩:=H
  exact Ret.gen S rfl (RV.cellA (cs:=[Value.int .i64 y,Value.slice y_1.a y_1.n y_1.c,Value.int .i64 y_2]) rfl ag28 ti28 ⟨c,c_1,c_2,trivial⟩ (RV.tmp rfl RV.nil)) rfl H
 ·
  replace H:=H.2 hb
  refine W.skip ?_
  refine W.seq ?_
  refine W.seq ?_
  refine W.region ?_
  refine OL.zm S fun _ S=>?_
  obtain⟨p14,e,H⟩:=H
  refine OL.zq S (Lf.run_nc' (S.ev rfl) e) fun _ S=>?_
  refine OL.zf S fa74_4 fun _ S=>?_
  obtain⟨x16,c_3,H⟩:=H
  refine OL.zl S fl4 c_3 fun _ S=>?_
  refine OL.zq S (Lf.run_not (S.ev rfl)) fun _ S=>?_
  refine OL.nil ?_
  refine W.cond S (b:=(!x16)) rfl (fun hb_1=>?_) (fun hb_1=>?_)
  ·
   replace H:=H.1 hb_1
   refine W.seq ?_
   refine W.region ?_
   refine OL.zm S fun _ S=>?_
   refine OL.zq S (Lf.run_build (cs:=#[Value.int .i64 i1,Value.slice (⟨none,0,0⟩:Sv).a (⟨none,0,0⟩:Sv).n (⟨none,0,0⟩:Sv).c,Value.int .i64 0]) pl28 ti28 (parts_map S rfl) (by kernel_rfl)) fun _ S=>?_
   refine ol_stoA S H rfl rfl ti28 trivial ?_
   clear S H;intro aa ww h4 H S
   refine OL.za S fun _ S=>?_
   refine OL.nil ?_
   refine W.ret ?_
   obtain⟨y_3,y_4,y_5,c_4,c_5,c_6,H⟩:=H
   exact Ret.gen S rfl (RV.cellA (cs:=[Value.int .i64 y_3,Value.slice y_4.a y_4.n y_4.c,Value.int .i64 y_5]) rfl ag28 ti28 ⟨c_4,c_5,c_6,trivial⟩ (RV.tmp rfl RV.nil)) rfl H
  ·
   replace H:=H.2 hb_1
   refine W.skip ?_
   refine W.seq ?_
   refine W.region ?_
   refine OL.zm S fun _ S=>?_
   refine OL.zm S fun _ S=>?_
   obtain⟨p22,e_1,H⟩:=H
   refine OL.zq S (Lf.run_nc' (S.ev rfl) e_1) fun _ S=>?_
   refine OL.zf S fa78_2 fun _ S=>?_
   obtain⟨x24,c_7,H⟩:=H
   refine OL.zl S fl69 c_7 fun _ S=>?_
   obtain⟨q25,e_2,e_3,e_4,H⟩:=H
   refine OL.zq S (Lf.run_ixs (S.ev rfl) (S.ev rfl) Try.underlying69 ti80 e_2 e_3 e_4) fun _ S=>?_
   refine OL.zf S fa80_0 fun _ S=>?_
   obtain⟨x27,c_8,H⟩:=H
   refine OL.zl S fl3 c_8 fun _ S=>?_
   refine OL.zq S (Lf.run_build (cs:=#[Value.int .i64 i1,Value.slice (⟨none,0,0⟩:Sv).a (⟨none,0,0⟩:Sv).n (⟨none,0,0⟩:Sv).c,Value.int .i64 x27]) pl28 ti28 (parts_map S rfl) (by kernel_rfl)) fun _ S=>?_
   refine ol_stoA S H rfl rfl ti28 trivial ?_
   clear S H;intro aa ww h5 H S
   refine OL.za S fun _ S=>?_
   refine OL.nil ?_
   refine W.ret ?_
   obtain⟨y_6,y_7,y_8,c_9,c_10,c_11,H⟩:=H
   exact Ret.gen S rfl (RV.cellA (cs:=[Value.int .i64 y_6,Value.slice y_7.a y_7.n y_7.c,Value.int .i64 y_8]) rfl ag28 ti28 ⟨c_9,c_10,c_11,trivial⟩ (RV.tmp rfl RV.nil)) rfl H
def L24 (vh0:Option Addr) (p1:Int) (p1_1:Sv) (p1_2:Int) (h:Heap) (R:Value→Heap→Prop):Prop:=
 new 28 #[Value.int .i64 p1,Value.slice p1_1.a p1_1.n p1_1.c,Value.int .i64 p1_2] h fun p3 h1=>
 new 33 #[Value.int .i64 0,Value.int .u64 0,Value.string (⟨#[]⟩:ByteArray),Value.slice (⟨none,0,0⟩:Sv).a (⟨none,0,0⟩:Sv).n (⟨none,0,0⟩:Sv).c,Value.int .i64 0,Value.slice (⟨none,0,0⟩:Sv).a (⟨none,0,0⟩:Sv).n (⟨none,0,0⟩:Sv).c,Value.int .i64 0] h1 fun p4 h2=>
 ldI .i64 h2 p3 fun x11=>
 cal Try.prog 31 #[Value.pointer vh0,Value.int .i64 x11] h2 fun u h3=>asP u fun x12=>
 ifb (Option.isNone x12) (
  stoA h3 p4 [Value.int .i64 0,Value.int .u64 0,Value.string (⟨#[]⟩:ByteArray),Value.slice (⟨none,0,0⟩:Sv).a (⟨none,0,0⟩:Sv).n (⟨none,0,0⟩:Sv).c,Value.int .i64 0,Value.slice (⟨none,0,0⟩:Sv).a (⟨none,0,0⟩:Sv).n (⟨none,0,0⟩:Sv).c,Value.int .i64 0] fun h4=>
  ∃(y:Int) (y_1:Int) (y_2:ByteArray) (y_3:Sv) (y_4:Int) (y_5:Sv) (y_6:Int),cl h4 p4=some (Value.int .i64 y)∧cl h4 (p4.add 1)=some (Value.int .u64 y_1)∧cl h4 (p4.add 2)=some (Value.string y_2)∧cl h4 (p4.add 3)=some (Value.slice y_3.a y_3.n y_3.c)∧cl h4 (p4.add 4)=some (Value.int .i64 y_4)∧cl h4 (p4.add 5)=some (Value.slice y_5.a y_5.n y_5.c)∧cl h4 (p4.add 6)=some (Value.int .i64 y_6) ∧
  R (.tuple #[Value.agg #[Value.int .i64 y,Value.int .u64 y_1,Value.string y_2,Value.slice y_3.a y_3.n y_3.c,Value.int .i64 y_4,Value.slice y_5.a y_5.n y_5.c,Value.int .i64 y_6],Value.int .i64 1]) h4) (
  ldS h3 (p3.add 1) fun x19=>
  cal Try.prog 32 #[Value.pointer x12,Value.slice x19.a x19.n x19.c] h3 fun u_1 h5=>asTup u_1 fun r20=>
  elt r20 0 fun u_2=>asP u_2 fun x21=>
  elt r20 1 fun u_3=>asI .i64 u_3 fun x22=>
  ifb (x22 != 0) (
   stoA h5 p4 [Value.int .i64 0,Value.int .u64 0,Value.string (⟨#[]⟩:ByteArray),Value.slice (⟨none,0,0⟩:Sv).a (⟨none,0,0⟩:Sv).n (⟨none,0,0⟩:Sv).c,Value.int .i64 0,Value.slice (⟨none,0,0⟩:Sv).a (⟨none,0,0⟩:Sv).n (⟨none,0,0⟩:Sv).c,Value.int .i64 0] fun h6=>
   ∃(y_7:Int) (y_8:Int) (y_9:ByteArray) (y_10:Sv) (y_11:Int) (y_12:Sv) (y_13:Int),cl h6 p4=some (Value.int .i64 y_7)∧cl h6 (p4.add 1)=some (Value.int .u64 y_8)∧cl h6 (p4.add 2)=some (Value.string y_9)∧cl h6 (p4.add 3)=some (Value.slice y_10.a y_10.n y_10.c)∧cl h6 (p4.add 4)=some (Value.int .i64 y_11)∧cl h6 (p4.add 5)=some (Value.slice y_12.a y_12.n y_12.c)∧cl h6 (p4.add 6)=some (Value.int .i64 y_13) ∧
   R (.tuple #[Value.agg #[Value.int .i64 y_7,Value.int .u64 y_8,Value.string y_9,Value.slice y_10.a y_10.n y_10.c,Value.int .i64 y_11,Value.slice y_12.a y_12.n y_12.c,Value.int .i64 y_13],Value.int .i64 x22]) h6) (
   nn x21 fun p28=>
   ∃(y29:Int) (y29_1:Int) (y29_2:ByteArray) (y29_3:Sv) (y29_4:Int) (y29_5:Sv) (y29_6:Int),cl h5 p28=some (Value.int .i64 y29)∧cl h5 (p28.add 1)=some (Value.int .u64 y29_1)∧cl h5 (p28.add 2)=some (Value.string y29_2)∧cl h5 (p28.add 3)=some (Value.slice y29_3.a y29_3.n y29_3.c)∧cl h5 (p28.add 4)=some (Value.int .i64 y29_4)∧cl h5 (p28.add 5)=some (Value.slice y29_5.a y29_5.n y29_5.c)∧cl h5 (p28.add 6)=some (Value.int .i64 y29_6) ∧
   cal Try.prog 27 #[Value.agg #[Value.int .i64 y29,Value.int .u64 y29_1,Value.string y29_2,Value.slice y29_3.a y29_3.n y29_3.c,Value.int .i64 y29_4,Value.slice y29_5.a y29_5.n y29_5.c,Value.int .i64 y29_6]] h5 fun u_4 h7=>∃(y30:Int) (y30_1:Int) (y30_2:ByteArray) (y30_3:Sv) (y30_4:Int) (y30_5:Sv) (y30_6:Int),u_4=Value.agg #[Value.int .i64 y30,Value.int .u64 y30_1,Value.string y30_2,Value.slice y30_3.a y30_3.n y30_3.c,Value.int .i64 y30_4,Value.slice y30_5.a y30_5.n y30_5.c,Value.int .i64 y30_6] ∧
   stoA h7 p4 [Value.int .i64 y30,Value.int .u64 y30_1,Value.string y30_2,Value.slice y30_3.a y30_3.n y30_3.c,Value.int .i64 y30_4,Value.slice y30_5.a y30_5.n y30_5.c,Value.int .i64 y30_6] fun h8=>
   ∃(y_14:Int) (y_15:Int) (y_16:ByteArray) (y_17:Sv) (y_18:Int) (y_19:Sv) (y_20:Int),cl h8 p4=some (Value.int .i64 y_14)∧cl h8 (p4.add 1)=some (Value.int .u64 y_15)∧cl h8 (p4.add 2)=some (Value.string y_16)∧cl h8 (p4.add 3)=some (Value.slice y_17.a y_17.n y_17.c)∧cl h8 (p4.add 4)=some (Value.int .i64 y_18)∧cl h8 (p4.add 5)=some (Value.slice y_19.a y_19.n y_19.c)∧cl h8 (p4.add 6)=some (Value.int .i64 y_20) ∧
   R (.tuple #[Value.agg #[Value.int .i64 y_14,Value.int .u64 y_15,Value.string y_16,Value.slice y_17.a y_17.n y_17.c,Value.int .i64 y_18,Value.slice y_19.a y_19.n y_19.c,Value.int .i64 y_20],Value.int .i64 0]) h8))
set_option maxRecDepth 100000 in
theorem F24 {vh0 p1 p1_1 p1_2 h:_} {R:Value→Heap→Prop} (H:L24 vh0 p1 p1_1 p1_2 h R):CallsH Try.prog 24 #[Value.pointer vh0,Value.agg #[Value.int .i64 p1,Value.slice p1_1.a p1_1.n p1_1.c,Value.int .i64 p1_2]] h R:=by
 refine CallsH.enter (n:=31) Try.func24 rfl rfl rfl rfl ?_
 intro w0 aa ww S
 unfold L24 at H
 refine W.seq ?_
 refine W.region ?_
 refine ol_box S H rfl rfl rfl trivial ?_
 clear S H;intro p3 aa ww h1 H S
 refine ol_alloc S H ti33 rfl rfl trivial ?_
 clear S H;intro p4 aa ww h2 H S
 refine OL.za S fun _ S=>?_
 refine OL.nil ?_
 refine W.seq ?_
 refine W.region ?_
 refine OL.zm S fun _ S=>?_
 refine OL.zf S fa28_0 fun _ S=>?_
 obtain⟨x11,c,H⟩:=H
 refine OL.zl S fl3 c fun _ S=>?_
 refine ol_cal S H isfn31 rfl rfl trivial ?_
 clear S H;intro u aa ww h3 H S
 obtain⟨x12,rfl,H⟩:=H
 refine OL.za S fun _ S=>?_
 refine OL.nil ?_
 refine W.seq ?_
 refine W.seq ?_
 refine W.region ?_
 refine OL.zm S fun _ S=>?_
 refine OL.zq S (Lf.run_eqlpn Try.underlying75 (S.ev rfl) (S.ev rfl)) fun _ S=>?_
 refine OL.nil ?_
 refine W.cond S (b:=(Option.isNone x12)) rfl (fun hb=>?_) (fun hb=>?_)
 ·
  replace H:=H.1 hb
  refine W.seq ?_
  refine W.region ?_
  refine OL.zq S (Lf.run_build (cs:=#[Value.int .i64 0,Value.int .u64 0,Value.string (⟨#[]⟩:ByteArray),Value.slice (⟨none,0,0⟩:Sv).a (⟨none,0,0⟩:Sv).n (⟨none,0,0⟩:Sv).c,Value.int .i64 0,Value.slice (⟨none,0,0⟩:Sv).a (⟨none,0,0⟩:Sv).n (⟨none,0,0⟩:Sv).c,Value.int .i64 0]) pl33 ti33 (parts_map S rfl) (by kernel_rfl)) fun _ S=>?_
  refine ol_stoA S H rfl rfl ti33 trivial ?_
  clear S H;intro aa ww h4 H S
  refine OL.za S fun _ S=>?_
  refine OL.nil ?_
  refine W.ret ?_
  obtain⟨y,y_1,y_2,y_3,y_4,y_5,y_6,c_1,c_2,c_3,c_4,c_5,c_6,c_7,H⟩:=H
  exact Ret.gen S rfl (RV.cellA (cs:=[Value.int .i64 y,Value.int .u64 y_1,Value.string y_2,Value.slice y_3.a y_3.n y_3.c,Value.int .i64 y_4,Value.slice y_5.a y_5.n y_5.c,Value.int .i64 y_6]) rfl ag33 ti33 ⟨c_1,c_2,c_3,c_4,c_5,c_6,c_7,trivial⟩ (RV.tmp rfl RV.nil)) rfl H
 ·
  replace H:=H.2 hb
  refine W.skip ?_
  refine W.seq ?_
  refine W.region ?_
  refine OL.zm S fun _ S=>?_
  refine OL.zf S fa28_1 fun _ S=>?_
  obtain⟨x19,c_8,H⟩:=H
  refine OL.zl S fl26 c_8 fun _ S=>?_
  refine ol_cal S H isfn32 rfl rfl trivial ?_
  clear S H;intro u_1 aa ww h5 H S
  obtain⟨r20,rfl,H⟩:=H
  refine OL.zm S fun _ S=>?_
  obtain⟨u_2,e,x21,rfl,H⟩:=H
  refine OL.zq S (Lf.run_ex (S.ev rfl) e) fun _ S=>?_
  obtain⟨u_3,e_1,x22,rfl,H⟩:=H
  refine OL.zq S (Lf.run_ex (S.ev rfl) e_1) fun _ S=>?_
  refine OL.za S fun _ S=>?_
  refine OL.za S fun _ S=>?_
  refine OL.nil ?_
  refine W.seq ?_
  refine W.seq ?_
  refine W.region ?_
  refine OL.zm S fun _ S=>?_
  refine OL.zq S (Lf.run_neq (S.ev rfl) (S.ev rfl)) fun _ S=>?_
  refine OL.nil ?_
  refine W.cond S (b:=(x22 != 0)) rfl (fun hb_1=>?_) (fun hb_1=>?_)
  ·
   replace H:=H.1 hb_1
   refine W.seq ?_
   refine W.region ?_
   refine OL.zq S (Lf.run_build (cs:=#[Value.int .i64 0,Value.int .u64 0,Value.string (⟨#[]⟩:ByteArray),Value.slice (⟨none,0,0⟩:Sv).a (⟨none,0,0⟩:Sv).n (⟨none,0,0⟩:Sv).c,Value.int .i64 0,Value.slice (⟨none,0,0⟩:Sv).a (⟨none,0,0⟩:Sv).n (⟨none,0,0⟩:Sv).c,Value.int .i64 0]) pl33 ti33 (parts_map S rfl) (by kernel_rfl)) fun _ S=>?_
   refine OL.zm S fun _ S=>?_
   refine ol_stoA S H rfl rfl ti33 trivial ?_
   clear S H;intro aa ww h6 H S
   refine OL.za S fun _ S=>?_
   refine OL.nil ?_
   refine W.ret ?_
   obtain⟨y_7,y_8,y_9,y_10,y_11,y_12,y_13,c_9,c_10,c_11,c_12,c_13,c_14,c_15,H⟩:=H
   exact Ret.gen S rfl (RV.cellA (cs:=[Value.int .i64 y_7,Value.int .u64 y_8,Value.string y_9,Value.slice y_10.a y_10.n y_10.c,Value.int .i64 y_11,Value.slice y_12.a y_12.n y_12.c,Value.int .i64 y_13]) rfl ag33 ti33 ⟨c_9,c_10,c_11,c_12,c_13,c_14,c_15,trivial⟩ (RV.tmp rfl RV.nil)) rfl H
  ·
   replace H:=H.2 hb_1
   refine W.skip ?_
   refine W.seq ?_
   refine W.region ?_
   refine OL.zm S fun _ S=>?_
   obtain⟨p28,e_2,H⟩:=H
   refine OL.zq S (Lf.run_nc' (S.ev rfl) e_2) fun _ S=>?_
   obtain⟨y29,y29_1,y29_2,y29_3,y29_4,y29_5,y29_6,c_24,c_25,c_26,c_27,c_28,c_29,c_30,H⟩:=H
   refine OL.zq S (Lf.run_ldA (cs:=[Value.int .i64 y29,Value.int .u64 y29_1,Value.string y29_2,Value.slice y29_3.a y29_3.n y29_3.c,Value.int .i64 y29_4,Value.slice y29_5.a y29_5.n y29_5.c,Value.int .i64 y29_6]) (S.ev rfl) ag33 ti33 (by rw[S.heap];exact RowL.toRow ⟨c_24,c_25,c_26,c_27,c_28,c_29,c_30,trivial⟩)) fun _ S=>?_
   refine ol_cal S H isfn27 rfl rfl trivial ?_
   clear S H;intro u_4 aa ww h7 H S
   obtain⟨y30,y30_1,y30_2,y30_3,y30_4,y30_5,y30_6,rfl,H⟩:=H
   refine ol_stoA S H rfl rfl ti33 trivial ?_
   clear S H;intro aa ww h8 H S
   refine OL.za S fun _ S=>?_
   refine OL.nil ?_
   refine W.ret ?_
   obtain⟨y_14,y_15,y_16,y_17,y_18,y_19,y_20,c_17,c_18,c_19,c_20,c_21,c_22,c_23,H⟩:=H
   exact Ret.gen S rfl (RV.cellA (cs:=[Value.int .i64 y_14,Value.int .u64 y_15,Value.string y_16,Value.slice y_17.a y_17.n y_17.c,Value.int .i64 y_18,Value.slice y_19.a y_19.n y_19.c,Value.int .i64 y_20]) rfl ag33 ti33 ⟨c_17,c_18,c_19,c_20,c_21,c_22,c_23,trivial⟩ (RV.tmp rfl RV.nil)) rfl H
def L25 (vh0:Option Addr) (v1:Int) (v1_1:Int) (v1_2:ByteArray) (v1_3:Sv) (v1_4:Int) (v1_5:Sv) (v1_6:Int) (h:Heap) (R:Value→Heap→Prop):Prop:=
 new 33 #[Value.int .i64 v1,Value.int .u64 v1_1,Value.string v1_2,Value.slice v1_3.a v1_3.n v1_3.c,Value.int .i64 v1_4,Value.slice v1_5.a v1_5.n v1_5.c,Value.int .i64 v1_6] h fun p3 h1=>
 ldI .i64 h1 p3 fun x9=>
 ifb (x9 == 6) (
  ldI .i64 h1 (p3.add 4) fun x14=>
  cal Try.prog 14 #[Value.pointer vh0,Value.int .i64 x14] h1 fun u h2=>asI .i64 u fun x15=>
  R (Value.int .i64 x15) h2) (
  ldI .i64 h1 p3 fun x17=>
  ifb (x17 != 5) (
   R (Value.int .i64 0) h1) (
   ldS h1 (p3.add 3) fun x20=>
   ∃(I:Int→Heap→Prop) (m:Int→Heap→Nat),I 0 h1∧∀x22 h3,I x22 h3 →
   ifb (decide (x22<((x20.n:Nat):Int))) (
    ixS x20 x22 fun q24=>
    ∃(y25:Int) (y25_1:Int) (y25_2:ByteArray) (y25_3:Sv) (y25_4:Int) (y25_5:Sv) (y25_6:Int),cl h3 (q24.add ((x22:Int).toNat*7))=some (Value.int .i64 y25)∧cl h3 ((q24.add ((x22:Int).toNat*7)).add 1)=some (Value.int .u64 y25_1)∧cl h3 ((q24.add ((x22:Int).toNat*7)).add 2)=some (Value.string y25_2)∧cl h3 ((q24.add ((x22:Int).toNat*7)).add 3)=some (Value.slice y25_3.a y25_3.n y25_3.c)∧cl h3 ((q24.add ((x22:Int).toNat*7)).add 4)=some (Value.int .i64 y25_4)∧cl h3 ((q24.add ((x22:Int).toNat*7)).add 5)=some (Value.slice y25_5.a y25_5.n y25_5.c)∧cl h3 ((q24.add ((x22:Int).toNat*7)).add 6)=some (Value.int .i64 y25_6) ∧
    new 33 #[Value.int .i64 0,Value.int .u64 0,Value.string (⟨#[]⟩:ByteArray),Value.slice (⟨none,0,0⟩:Sv).a (⟨none,0,0⟩:Sv).n (⟨none,0,0⟩:Sv).c,Value.int .i64 0,Value.slice (⟨none,0,0⟩:Sv).a (⟨none,0,0⟩:Sv).n (⟨none,0,0⟩:Sv).c,Value.int .i64 0] h3 fun p6 h4=>
    stoA h4 p6 [Value.int .i64 y25,Value.int .u64 y25_1,Value.string y25_2,Value.slice y25_3.a y25_3.n y25_3.c,Value.int .i64 y25_4,Value.slice y25_5.a y25_5.n y25_5.c,Value.int .i64 y25_6] fun h5=>
    ∃(y27:Int) (y27_1:Int) (y27_2:ByteArray) (y27_3:Sv) (y27_4:Int) (y27_5:Sv) (y27_6:Int),cl h5 p6=some (Value.int .i64 y27)∧cl h5 (p6.add 1)=some (Value.int .u64 y27_1)∧cl h5 (p6.add 2)=some (Value.string y27_2)∧cl h5 (p6.add 3)=some (Value.slice y27_3.a y27_3.n y27_3.c)∧cl h5 (p6.add 4)=some (Value.int .i64 y27_4)∧cl h5 (p6.add 5)=some (Value.slice y27_5.a y27_5.n y27_5.c)∧cl h5 (p6.add 6)=some (Value.int .i64 y27_6) ∧
    cal Try.prog 25 #[Value.pointer vh0,Value.agg #[Value.int .i64 y27,Value.int .u64 y27_1,Value.string y27_2,Value.slice y27_3.a y27_3.n y27_3.c,Value.int .i64 y27_4,Value.slice y27_5.a y27_5.n y27_5.c,Value.int .i64 y27_6]] h5 fun u_1 h6=>asI .i64 u_1 fun x28=>
    ifb (x28 != 0) (
     R (Value.int .i64 x28) h6) (
     I (IntKind.i64.wrap (x22+1)) h6∧m (IntKind.i64.wrap (x22+1)) h6<m x22 h3)) (
    R (Value.int .i64 0) h3)))
set_option maxRecDepth 100000 in
theorem F25 {vh0 v1 v1_1 v1_2 v1_3 v1_4 v1_5 v1_6 h:_} {R:Value→Heap→Prop} (H:L25 vh0 v1 v1_1 v1_2 v1_3 v1_4 v1_5 v1_6 h R):CallsH Try.prog 25 #[Value.pointer vh0,Value.agg #[Value.int .i64 v1,Value.int .u64 v1_1,Value.string v1_2,Value.slice v1_3.a v1_3.n v1_3.c,Value.int .i64 v1_4,Value.slice v1_5.a v1_5.n v1_5.c,Value.int .i64 v1_6]] h R:=by
 refine CallsH.enter (n:=33) Try.func25 rfl rfl rfl rfl ?_
 intro w0 aa ww S
 unfold L25 at H
 refine W.seq ?_
 refine W.region ?_
 refine ol_box S H rfl rfl rfl trivial ?_
 clear S H;intro p3 aa ww h1 H S
 refine OL.za S fun _ S=>?_
 refine OL.nil ?_
 refine W.seq ?_
 refine W.seq ?_
 refine W.region ?_
 refine OL.zf S fa33_0 fun _ S=>?_
 obtain⟨x9,c,H⟩:=H
 refine OL.zl S fl3 c fun _ S=>?_
 refine OL.zq S (Lf.run_eql (S.ev rfl) (S.ev rfl)) fun _ S=>?_
 refine OL.nil ?_
 refine W.cond S (b:=(x9 == 6)) rfl (fun hb=>?_) (fun hb=>?_)
 ·
  replace H:=H.1 hb
  refine W.seq ?_
  refine W.region ?_
  refine OL.zm S fun _ S=>?_
  refine OL.zf S fa33_4 fun _ S=>?_
  refine OL.zf S fa28_0 fun _ S=>?_
  obtain⟨x14,c_1,H⟩:=H
  refine OL.zl S fl3 c_1 fun _ S=>?_
  refine ol_cal S H isfn14 rfl rfl trivial ?_
  clear S H;intro u aa ww h2 H S
  obtain⟨x15,rfl,H⟩:=H
  refine OL.za S fun _ S=>?_
  refine OL.nil ?_
  refine W.ret ?_
  exact Ret.one S rfl rfl H
 ·
  replace H:=H.2 hb
  refine W.skip ?_
  refine W.seq ?_
  refine W.seq ?_
  refine W.region ?_
  refine OL.zf S fa33_0 fun _ S=>?_
  obtain⟨x17,c_2,H⟩:=H
  refine OL.zl S fl3 c_2 fun _ S=>?_
  refine OL.zq S (Lf.run_neq (S.ev rfl) (S.ev rfl)) fun _ S=>?_
  refine OL.nil ?_
  refine W.cond S (b:=(x17 != 5)) rfl (fun hb_1=>?_) (fun hb_1=>?_)
  ·
   replace H:=H.1 hb_1
   refine W.seq ?_
   refine W.region ?_
   refine OL.za S fun _ S=>?_
   refine OL.nil ?_
   refine W.ret ?_
   exact Ret.one S rfl rfl H
  ·
   replace H:=H.2 hb_1
   refine W.skip ?_
   refine W.seq ?_
   refine W.seq ?_
   refine W.region ?_
   refine OL.zf S fa33_3 fun _ S=>?_
   obtain⟨x20,c_3,H⟩:=H
   refine OL.zl S fl31 c_3 fun _ S=>?_
   refine OL.zq S (Lf.run_lens (S.ev rfl) rfl Try.underlying31) fun _ S=>?_
   refine OL.zm S fun _ S=>?_
   refine OL.nil ?_
   refine W.block ?_
   obtain⟨I,m,H,HB⟩:=H
   refine W.loopS (σ:=Int×Heap) (fun s aa ww=>St 33 [(0,Value.pointer vh0),(20,Value.slice x20.a x20.n x20.c),(21,Value.int .i64 ((x20.n:Nat):Int)),(22,Value.int .i64 s.1)] s.2 w0 aa ww∧I s.1 s.2) (fun s=>m s.1 s.2) (0,h1) ⟨S.sub _ ⟨rfl,rfl,rfl,rfl,trivial⟩,H⟩ ?_
   clear H S
   rintro ⟨x22,h3⟩ aa ww ⟨S,HI⟩
   replace S:St 33 [(0,Value.pointer vh0),(20,Value.slice x20.a x20.n x20.c),(21,Value.int .i64 ((x20.n:Nat):Int)),(22,Value.int .i64 x22)] h3 w0 aa ww:=S
   have H:=HB x22 h3 HI
   clear HI
   refine W.seq ?_
   refine W.region ?_
   refine OL.zq S (Lf.run_lss (S.ev rfl) (S.ev rfl)) fun _ S=>?_
   refine OL.nil ?_
   refine W.seq ?_
   refine W.cond S (b:=(decide (x22<((x20.n:Nat):Int)))) rfl (fun hb_2=>?_) (fun hb_2=>?_)
   ·
    replace H:=H.1 hb_2
    refine W.skip ?_
    refine W.seq ?_
    refine W.block ?_
    refine W.seq ?_
    refine W.region ?_
    obtain⟨q24,e,e_1,e_2,H⟩:=H
    refine OL.zq S (Lf.run_ixs (S.ev rfl) (S.ev rfl) Try.underlying31 ti33 e e_1 e_2) fun _ S=>?_
    obtain⟨y25,y25_1,y25_2,y25_3,y25_4,y25_5,y25_6,c_13,c_14,c_15,c_16,c_17,c_18,c_19,H⟩:=H
    refine OL.zq S (Lf.run_ldA (cs:=[Value.int .i64 y25,Value.int .u64 y25_1,Value.string y25_2,Value.slice y25_3.a y25_3.n y25_3.c,Value.int .i64 y25_4,Value.slice y25_5.a y25_5.n y25_5.c,Value.int .i64 y25_6]) (S.ev rfl) ag33 ti33 (by rw[S.heap];exact RowL.toRow ⟨c_13,c_14,c_15,c_16,c_17,c_18,c_19,trivial⟩)) fun _ S=>?_
    refine ol_alloc S H ti33 rfl rfl trivial ?_
    clear S H;intro p6 aa ww h4 H S
    refine ol_stoA S H rfl rfl ti33 trivial ?_
    clear S H;intro aa ww h5 H S
    refine OL.nil ?_
    refine W.seq ?_
    refine W.region ?_
    refine OL.zm S fun _ S=>?_
    obtain⟨y27,y27_1,y27_2,y27_3,y27_4,y27_5,y27_6,c_6,c_7,c_8,c_9,c_10,c_11,c_12,H⟩:=H
    refine OL.zq S (Lf.run_ldA (cs:=[Value.int .i64 y27,Value.int .u64 y27_1,Value.string y27_2,Value.slice y27_3.a y27_3.n y27_3.c,Value.int .i64 y27_4,Value.slice y27_5.a y27_5.n y27_5.c,Value.int .i64 y27_6]) (S.ev rfl) ag33 ti33 (by rw[S.heap];exact RowL.toRow ⟨c_6,c_7,c_8,c_9,c_10,c_11,c_12,trivial⟩)) fun _ S=>?_
    refine ol_cal S H isfn25 rfl rfl trivial ?_
    clear S H;intro u_1 aa ww h6 H S
    obtain⟨x28,rfl,H⟩:=H
    refine OL.za S fun _ S=>?_
    refine OL.nil ?_
    refine W.seq ?_
    refine W.region ?_
    refine OL.zm S fun _ S=>?_
    refine OL.zq S (Lf.run_neq (S.ev rfl) (S.ev rfl)) fun _ S=>?_
    refine OL.nil ?_
    refine W.cond S (b:=(x28 != 0)) rfl (fun hb_3=>?_) (fun hb_3=>?_)
    ·
     replace H:=H.1 hb_3
     refine W.seq ?_
     refine W.region ?_
     refine OL.zm S fun _ S=>?_
     refine OL.za S fun _ S=>?_
     refine OL.nil ?_
     refine W.ret ?_
     exact Ret.one S rfl rfl H
    ·
     replace H:=H.2 hb_3
     refine W.skip ?_
     refine W.region ?_
     refine OL.zq S (Lf.run_add (S.ev rfl) (S.ev rfl)) fun _ S=>?_
     refine OL.zm S fun _ S=>?_
     refine OL.nil ?_
     exact⟨((IntKind.i64.wrap (x22+1)),h6),⟨S.sub _ ⟨rfl,rfl,rfl,rfl,trivial⟩,H.1⟩,H.2⟩
   ·
    replace H:=H.2 hb_2
    refine W.exit_ ?_
    refine xhit ?_
    refine W.seq ?_
    refine W.region ?_
    refine OL.za S fun _ S=>?_
    refine OL.nil ?_
    refine W.ret ?_
    exact Ret.one S rfl rfl H
def L27 (v0:Int) (v0_1:Int) (v0_2:ByteArray) (v0_3:Sv) (v0_4:Int) (v0_5:Sv) (v0_6:Int) (h:Heap) (R:Value→Heap→Prop):Prop:=
 new 33 #[Value.int .i64 v0,Value.int .u64 v0_1,Value.string v0_2,Value.slice v0_3.a v0_3.n v0_3.c,Value.int .i64 v0_4,Value.slice v0_5.a v0_5.n v0_5.c,Value.int .i64 v0_6] h fun p1 h1=>
 new 33 #[Value.int .i64 0,Value.int .u64 0,Value.string (⟨#[]⟩:ByteArray),Value.slice (⟨none,0,0⟩:Sv).a (⟨none,0,0⟩:Sv).n (⟨none,0,0⟩:Sv).c,Value.int .i64 0,Value.slice (⟨none,0,0⟩:Sv).a (⟨none,0,0⟩:Sv).n (⟨none,0,0⟩:Sv).c,Value.int .i64 0] h1 fun p2 h2=>
 ldS h2 (p1.add 3) fun x6=>
 cal Try.prog 44 #[Value.slice x6.a x6.n x6.c] h2 fun u h3=>asS u fun x7=>
 sto h3 (p1.add 3) (Value.slice x7.a x7.n x7.c) fun h4=>
 ldS h4 (p1.add 3) fun x10=>
 ∃(I:Int→Heap→Prop) (m:Int→Heap→Nat),I 0 h4∧∀x12 h5,I x12 h5 →
 ifb (decide (x12<((x10.n:Nat):Int))) (
  ixS x10 x12 fun q15=>
  ∃(y16:Int) (y16_1:Int) (y16_2:ByteArray) (y16_3:Sv) (y16_4:Int) (y16_5:Sv) (y16_6:Int),cl h5 (q15.add ((x12:Int).toNat*7))=some (Value.int .i64 y16)∧cl h5 ((q15.add ((x12:Int).toNat*7)).add 1)=some (Value.int .u64 y16_1)∧cl h5 ((q15.add ((x12:Int).toNat*7)).add 2)=some (Value.string y16_2)∧cl h5 ((q15.add ((x12:Int).toNat*7)).add 3)=some (Value.slice y16_3.a y16_3.n y16_3.c)∧cl h5 ((q15.add ((x12:Int).toNat*7)).add 4)=some (Value.int .i64 y16_4)∧cl h5 ((q15.add ((x12:Int).toNat*7)).add 5)=some (Value.slice y16_5.a y16_5.n y16_5.c)∧cl h5 ((q15.add ((x12:Int).toNat*7)).add 6)=some (Value.int .i64 y16_6) ∧
  new 33 #[Value.int .i64 0,Value.int .u64 0,Value.string (⟨#[]⟩:ByteArray),Value.slice (⟨none,0,0⟩:Sv).a (⟨none,0,0⟩:Sv).n (⟨none,0,0⟩:Sv).c,Value.int .i64 0,Value.slice (⟨none,0,0⟩:Sv).a (⟨none,0,0⟩:Sv).n (⟨none,0,0⟩:Sv).c,Value.int .i64 0] h5 fun p4 h6=>
  stoA h6 p4 [Value.int .i64 y16,Value.int .u64 y16_1,Value.string y16_2,Value.slice y16_3.a y16_3.n y16_3.c,Value.int .i64 y16_4,Value.slice y16_5.a y16_5.n y16_5.c,Value.int .i64 y16_6] fun h7=>
  ∃Sq:Heap→Prop,Sq h7∧(
   ∃(y20:Int) (y20_1:Int) (y20_2:ByteArray) (y20_3:Sv) (y20_4:Int) (y20_5:Sv) (y20_6:Int),cl h7 p4=some (Value.int .i64 y20)∧cl h7 (p4.add 1)=some (Value.int .u64 y20_1)∧cl h7 (p4.add 2)=some (Value.string y20_2)∧cl h7 (p4.add 3)=some (Value.slice y20_3.a y20_3.n y20_3.c)∧cl h7 (p4.add 4)=some (Value.int .i64 y20_4)∧cl h7 (p4.add 5)=some (Value.slice y20_5.a y20_5.n y20_5.c)∧cl h7 (p4.add 6)=some (Value.int .i64 y20_6) ∧
   hlS Sq (p1.add 3) fun x18=>
   cal Try.prog 27 #[Value.agg #[Value.int .i64 y20,Value.int .u64 y20_1,Value.string y20_2,Value.slice y20_3.a y20_3.n y20_3.c,Value.int .i64 y20_4,Value.slice y20_5.a y20_5.n y20_5.c,Value.int .i64 y20_6]] h7 fun u_1 h8=>∃(y21:Int) (y21_1:Int) (y21_2:ByteArray) (y21_3:Sv) (y21_4:Int) (y21_5:Sv) (y21_6:Int),u_1=Value.agg #[Value.int .i64 y21,Value.int .u64 y21_1,Value.string y21_2,Value.slice y21_3.a y21_3.n y21_3.c,Value.int .i64 y21_4,Value.slice y21_5.a y21_5.n y21_5.c,Value.int .i64 y21_6] ∧
   Sq h8 ∧
   ixS x18 x12 fun q22=>
   stoA h8 (q22.add ((x12:Int).toNat*7)) [Value.int .i64 y21,Value.int .u64 y21_1,Value.string y21_2,Value.slice y21_3.a y21_3.n y21_3.c,Value.int .i64 y21_4,Value.slice y21_5.a y21_5.n y21_5.c,Value.int .i64 y21_6] fun h9=>
   I (IntKind.i64.wrap (x12+1)) h9∧m (IntKind.i64.wrap (x12+1)) h9<m x12 h5)) (
  ldS h5 ((p1.add 4).add 1) fun x26=>
  cal Try.prog 30 #[Value.slice x26.a x26.n x26.c] h5 fun u_2 h10=>asS u_2 fun x27=>
  sto h10 ((p1.add 4).add 1) (Value.slice x27.a x27.n x27.c) fun h11=>
  ∃(y30:Int) (y30_1:Int) (y30_2:ByteArray) (y30_3:Sv) (y30_4:Int) (y30_5:Sv) (y30_6:Int),cl h11 p1=some (Value.int .i64 y30)∧cl h11 (p1.add 1)=some (Value.int .u64 y30_1)∧cl h11 (p1.add 2)=some (Value.string y30_2)∧cl h11 (p1.add 3)=some (Value.slice y30_3.a y30_3.n y30_3.c)∧cl h11 (p1.add 4)=some (Value.int .i64 y30_4)∧cl h11 (p1.add 5)=some (Value.slice y30_5.a y30_5.n y30_5.c)∧cl h11 (p1.add 6)=some (Value.int .i64 y30_6) ∧
  stoA h11 p2 [Value.int .i64 y30,Value.int .u64 y30_1,Value.string y30_2,Value.slice y30_3.a y30_3.n y30_3.c,Value.int .i64 y30_4,Value.slice y30_5.a y30_5.n y30_5.c,Value.int .i64 y30_6] fun h12=>
  ∃(y:Int) (y_1:Int) (y_2:ByteArray) (y_3:Sv) (y_4:Int) (y_5:Sv) (y_6:Int),cl h12 p2=some (Value.int .i64 y)∧cl h12 (p2.add 1)=some (Value.int .u64 y_1)∧cl h12 (p2.add 2)=some (Value.string y_2)∧cl h12 (p2.add 3)=some (Value.slice y_3.a y_3.n y_3.c)∧cl h12 (p2.add 4)=some (Value.int .i64 y_4)∧cl h12 (p2.add 5)=some (Value.slice y_5.a y_5.n y_5.c)∧cl h12 (p2.add 6)=some (Value.int .i64 y_6) ∧
  R (Value.agg #[Value.int .i64 y,Value.int .u64 y_1,Value.string y_2,Value.slice y_3.a y_3.n y_3.c,Value.int .i64 y_4,Value.slice y_5.a y_5.n y_5.c,Value.int .i64 y_6]) h12)
set_option maxRecDepth 100000 in
theorem F27 {v0 v0_1 v0_2 v0_3 v0_4 v0_5 v0_6 h:_} {R:Value→Heap→Prop} (H:L27 v0 v0_1 v0_2 v0_3 v0_4 v0_5 v0_6 h R):CallsH Try.prog 27 #[Value.agg #[Value.int .i64 v0,Value.int .u64 v0_1,Value.string v0_2,Value.slice v0_3.a v0_3.n v0_3.c,Value.int .i64 v0_4,Value.slice v0_5.a v0_5.n v0_5.c,Value.int .i64 v0_6]] h R:=by
 refine CallsH.enter (n:=31) Try.func27 rfl rfl rfl rfl ?_
 intro w0 aa ww S
 unfold L27 at H
 refine W.seq ?_
 refine W.region ?_
 refine ol_box S H rfl rfl rfl trivial ?_
 clear S H;intro p1 aa ww h1 H S
 refine ol_alloc S H ti33 rfl rfl trivial ?_
 clear S H;intro p2 aa ww h2 H S
 refine OL.nil ?_
 refine W.seq ?_
 refine W.region ?_
 refine OL.zf S fa33_3 fun _ S=>?_
 obtain⟨x6,c,H⟩:=H
 refine OL.zl S fl31 c fun _ S=>?_
 refine ol_cal S H isfn44 rfl rfl trivial ?_
 clear S H;intro u aa ww h3 H S
 obtain⟨x7,rfl,H⟩:=H
 refine OL.zf S fa33_3 fun _ S=>?_
 refine ol_sto S H rfl rfl rfl ti31 trivial ?_
 clear S H;intro aa ww h4 H S
 refine OL.nil ?_
 refine W.seq ?_
 refine W.seq ?_
 refine W.region ?_
 refine OL.zf S fa33_3 fun _ S=>?_
 obtain⟨x10,c_1,H⟩:=H
 refine OL.zl S fl31 c_1 fun _ S=>?_
 refine OL.zq S (Lf.run_lens (S.ev rfl) rfl Try.underlying31) fun _ S=>?_
 refine OL.zm S fun _ S=>?_
 refine OL.nil ?_
 refine W.block ?_
 obtain⟨I,m,H,HB⟩:=H
 refine W.loopS (σ:=Int×Heap) (fun s aa ww=>St 31 [(1,Value.pointer (some p1)),(2,Value.pointer (some p2)),(10,Value.slice x10.a x10.n x10.c),(11,Value.int .i64 ((x10.n:Nat):Int)),(12,Value.int .i64 s.1)] s.2 w0 aa ww∧I s.1 s.2) (fun s=>m s.1 s.2) (0,h4) ⟨S.sub _ ⟨rfl,rfl,rfl,rfl,rfl,trivial⟩,H⟩ ?_
 clear H S
 rintro ⟨x12,h5⟩ aa ww ⟨S,HI⟩
 replace S:St 31 [(1,Value.pointer (some p1)),(2,Value.pointer (some p2)),(10,Value.slice x10.a x10.n x10.c),(11,Value.int .i64 ((x10.n:Nat):Int)),(12,Value.int .i64 x12)] h5 w0 aa ww:=S
 have H:=HB x12 h5 HI
 clear HI
 refine W.seq ?_
 refine W.region ?_
 refine OL.zq S (Lf.run_lss (S.ev rfl) (S.ev rfl)) fun _ S=>?_
 refine OL.nil ?_
 refine W.seq ?_
 refine W.cond S (b:=(decide (x12<((x10.n:Nat):Int)))) rfl (fun hb=>?_) (fun hb=>?_)
 ·
  replace H:=H.1 hb
  refine W.skip ?_
  refine W.seq ?_
  refine W.block ?_
  refine W.seq ?_
  refine W.region ?_
  refine OL.zm S fun _ S=>?_
  obtain⟨q15,e,e_1,e_2,H⟩:=H
  refine OL.zq S (Lf.run_ixs (S.ev rfl) (S.ev rfl) Try.underlying31 ti33 e e_1 e_2) fun _ S=>?_
  obtain⟨y16,y16_1,y16_2,y16_3,y16_4,y16_5,y16_6,c_12,c_13,c_14,c_15,c_16,c_17,c_18,H⟩:=H
  refine OL.zq S (Lf.run_ldA (cs:=[Value.int .i64 y16,Value.int .u64 y16_1,Value.string y16_2,Value.slice y16_3.a y16_3.n y16_3.c,Value.int .i64 y16_4,Value.slice y16_5.a y16_5.n y16_5.c,Value.int .i64 y16_6]) (S.ev rfl) ag33 ti33 (by rw[S.heap];exact RowL.toRow ⟨c_12,c_13,c_14,c_15,c_16,c_17,c_18,trivial⟩)) fun _ S=>?_
  refine ol_alloc S H ti33 rfl rfl trivial ?_
  clear S H;intro p4 aa ww h6 H S
  refine OL.za S fun _ S=>?_
  refine ol_stoA S H rfl rfl ti33 trivial ?_
  clear S H;intro aa ww h7 H S
  refine OL.nil ?_
  replace S:=S.sub [(1,Value.pointer (some p1)),(2,Value.pointer (some p2)),(3,Value.int .i64 x12),(4,Value.pointer (some p4)),(10,Value.slice x10.a x10.n x10.c),(11,Value.int .i64 ((x10.n:Nat):Int)),(12,Value.int .i64 x12)] ⟨rfl,rfl,rfl,rfl,rfl,rfl,rfl,trivial⟩
  obtain⟨Sq,HS,H⟩:=H
  refine W.regionN [1] [4,6] Sq S (by kernel_rfl) ?_
  clear S;intro ww S
  refine BN.pure 0 S (fun _=>HS) rfl (by kernel_rfl) (by kernel_rfl) (fun _=>Lf.run_fa (S.ev rfl) fa33_3) rfl rfl trivial fun _ S=>?_
  refine BN.pure 2 S (fun _=>HS) rfl (by kernel_rfl) (by kernel_rfl) (fun _=>Lf.run_move (S.ev rfl)) rfl rfl trivial fun _ S=>?_
  obtain⟨y20,y20_1,y20_2,y20_3,y20_4,y20_5,y20_6,c_5,c_6,c_7,c_8,c_9,c_10,c_11,H⟩:=H
  refine BN.load 3 S (fun _=>HS) rfl (by kernel_rfl) (by kernel_rfl) (fun _ hx=>Lf.run_ldA (cs:=[Value.int .i64 y20,Value.int .u64 y20_1,Value.string y20_2,Value.slice y20_3.a y20_3.n y20_3.c,Value.int .i64 y20_4,Value.slice y20_5.a y20_5.n y20_5.c,Value.int .i64 y20_6]) (S.ev rfl) ag33 ti33 (hx.row (S.row ⟨c_5,c_6,c_7,c_8,c_9,c_10,c_11,trivial⟩))) rfl rfl trivial fun _ S=>?_
  obtain⟨x18,c_4,H⟩:=H
  refine BN.held 1 S HS rfl (by kernel_rfl) (fun _ hq=>Lf.run_ld (S.ev rfl) fl31 (c_4 _ hq)) rfl rfl trivial fun _ S=>?_
  refine BN.eff 4 rfl (by kernel_rfl) ?_
  refine ol_cal S H isfn27 rfl rfl trivial ?_
  clear S H;intro u_1 aa ww h8 H S
  obtain⟨y21,y21_1,y21_2,y21_3,y21_4,y21_5,y21_6,rfl,H⟩:=H
  refine OL.nil ?_
  clear HS;obtain⟨HS,H⟩:=H
  refine⟨fun _=>by rw[S.heap];exact HS,?_⟩
  obtain⟨q22,e_3,e_4,e_5,H⟩:=H
  refine BN.pure 5 S (fun _=>HS) rfl (by kernel_rfl) (by kernel_rfl) (fun _=>Lf.run_ixs (S.ev rfl) (S.ev rfl) Try.underlying31 ti33 e_3 e_4 e_5) rfl rfl trivial fun _ S=>?_
  refine BN.eff 6 rfl (by kernel_rfl) ?_
  refine ol_stoA S H rfl rfl ti33 trivial ?_
  clear S H;intro aa ww h9 H S
  refine OL.nil ?_
  refine⟨noNeed (by kernel_rfl),?_⟩
  refine BN.done (by kernel_rfl) ?_
  refine W.region ?_
  refine OL.zq S (Lf.run_add (S.ev rfl) (S.ev rfl)) fun _ S=>?_
  refine OL.zm S fun _ S=>?_
  refine OL.nil ?_
  exact⟨((IntKind.i64.wrap (x12+1)),h9),⟨S.sub _ ⟨rfl,rfl,rfl,rfl,rfl,trivial⟩,H.1⟩,H.2⟩
 ·
  replace H:=H.2 hb
  refine W.exit_ ?_
  refine xhit ?_
  refine W.seq ?_
  refine W.region ?_
  refine OL.zf S fa33_4 fun _ S=>?_
  refine OL.zf S fa28_1 fun _ S=>?_
  obtain⟨x26,c_19,H⟩:=H
  refine OL.zl S fl26 c_19 fun _ S=>?_
  refine ol_cal S H isfn30 rfl rfl trivial ?_
  clear S H;intro u_2 aa ww h10 H S
  obtain⟨x27,rfl,H⟩:=H
  refine OL.zf S fa33_4 fun _ S=>?_
  refine OL.zf S fa28_1 fun _ S=>?_
  refine ol_sto S H rfl rfl rfl ti26 trivial ?_
  clear S H;intro aa ww h11 H S
  refine OL.nil ?_
  refine W.seq ?_
  refine W.region ?_
  obtain⟨y30,y30_1,y30_2,y30_3,y30_4,y30_5,y30_6,c_28,c_29,c_30,c_31,c_32,c_33,c_34,H⟩:=H
  refine OL.zq S (Lf.run_ldA (cs:=[Value.int .i64 y30,Value.int .u64 y30_1,Value.string y30_2,Value.slice y30_3.a y30_3.n y30_3.c,Value.int .i64 y30_4,Value.slice y30_5.a y30_5.n y30_5.c,Value.int .i64 y30_6]) (S.ev rfl) ag33 ti33 (by rw[S.heap];exact RowL.toRow ⟨c_28,c_29,c_30,c_31,c_32,c_33,c_34,trivial⟩)) fun _ S=>?_
  refine ol_stoA S H rfl rfl ti33 trivial ?_
  clear S H;intro aa ww h12 H S
  refine OL.nil ?_
  refine W.ret ?_
  obtain⟨y,y_1,y_2,y_3,y_4,y_5,y_6,c_21,c_22,c_23,c_24,c_25,c_26,c_27,H⟩:=H
  exact Ret.gen S rfl (RV.cellA (cs:=[Value.int .i64 y,Value.int .u64 y_1,Value.string y_2,Value.slice y_3.a y_3.n y_3.c,Value.int .i64 y_4,Value.slice y_5.a y_5.n y_5.c,Value.int .i64 y_6]) rfl ag33 ti33 ⟨c_21,c_22,c_23,c_24,c_25,c_26,c_27,trivial⟩ RV.nil) rfl H
def L28 (vh0:Option Addr) (p1:Int) (p1_1:Sv) (p1_2:Int) (write2:Bool) (h:Heap) (R:Value→Heap→Prop):Prop:=
 new 28 #[Value.int .i64 p1,Value.slice p1_1.a p1_1.n p1_1.c,Value.int .i64 p1_2] h fun p4 h1=>
 ldI .i64 h1 p4 fun x15=>
 cal Try.prog 31 #[Value.pointer vh0,Value.int .i64 x15] h1 fun u h2=>asP u fun x16=>
 ifb (Option.isNone x16) (
  R (.tuple #[Value.pointer none,Value.int .i64 1]) h2) (
  nn vh0 fun p20=>
  ldB h2 (p20.add 4) fun x22=>
  ifb (!x22) (
   R (.tuple #[Value.pointer x16,Value.int .i64 0]) h2) (
   nn x16 fun p26=>
   ldS h2 (p26.add 8) fun x28=>
   cal Try.prog 45 #[Value.slice x28.a x28.n x28.c,(Value.func (.func 46) #[] #[Value.pointer (some p4)])] h2 fun u_1 h3=>asI .i64 u_1 fun x30=>
   ∃J:Bool→Heap→Prop,(
    ifb (decide (x30<0)) (
     ifb true (
      J true h3) (
      ifb write2 (
       nn x16 fun p51_1=>
       ldS h3 (p51_1.add 8) fun x53_1=>
       ixS x53_1 x30 fun q55_1=>
       ldB h3 ((q55_1.add ((x30:Int).toNat*3)).add 2) fun x57_1=>
       J (!x57_1) h3) (
       J false h3))) (
     nn x16 fun p35=>
     ldS h3 (p35.add 8) fun x37=>
     ixS x37 x30 fun q39=>
     ldS h3 ((q39.add ((x30:Int).toNat*3)).add 1) fun x41=>
     ldS h3 (p4.add 1) fun x43=>
     cal Try.prog 47 #[Value.slice x41.a x41.n x41.c,Value.slice x43.a x43.n x43.c] h3 fun u_2 h4=>asB u_2 fun x44=>
     ifb (!x44) (
      J true h4) (
      ifb write2 (
       nn x16 fun p51=>
       ldS h4 (p51.add 8) fun x53=>
       ixS x53 x30 fun q55=>
       ldB h4 ((q55.add ((x30:Int).toNat*3)).add 2) fun x57=>
       J (!x57) h4) (
       J false h4))))∧(∀x60 h5,J x60 h5 →
   ifb x60 (
    R (.tuple #[Value.pointer none,Value.int .i64 2]) h5) (
    nn x16 fun p62=>
    ldS h5 (p62.add 8) fun x64=>
    slS x64 3 0 (IntKind.i64.wrap (x30+1)) fun s67=>
    nn x16 fun p69=>
    ldS h5 (p69.add 8) fun x71=>
    slS x71 3 (IntKind.i64.wrap (x30+1)) ((x71.n:Nat):Int) fun s74=>
    ∃(I:Sv→Int→Heap→Prop) (m:Sv→Int→Heap→Nat),I s67 0 h5∧∀kept10 x76 h6,I kept10 x76 h6 →
    ifb (decide (x76<((s74.n:Nat):Int))) (
     ∃J_1:Sv→Heap→Prop,(
      ixS s74 x76 fun q78=>
      ∃(y79:Int) (y79_1:Sv) (y79_2:Bool),cl h6 (q78.add ((x76:Int).toNat*3))=some (Value.int .i64 y79)∧cl h6 ((q78.add ((x76:Int).toNat*3)).add 1)=some (Value.slice y79_1.a y79_1.n y79_1.c)∧cl h6 ((q78.add ((x76:Int).toNat*3)).add 2)=some (Value.bool y79_2) ∧
      new 80 #[Value.int .i64 0,Value.slice (⟨none,0,0⟩:Sv).a (⟨none,0,0⟩:Sv).n (⟨none,0,0⟩:Sv).c,Value.bool false] h6 fun p12 h7=>
      stoA h7 p12 [Value.int .i64 y79,Value.slice y79_1.a y79_1.n y79_1.c,Value.bool y79_2] fun h8=>
      ldS h8 (p12.add 1) fun x81=>
      ldS h8 (p4.add 1) fun x83=>
      cal Try.prog 48 #[Value.slice x81.a x81.n x81.c,Value.slice x83.a x83.n x83.c] h8 fun u_3 h9=>asB u_3 fun x84=>
      ∃J_2:Bool→Prop,(orr (!x84) (fun k=>
       ∃J_3:Bool→Prop,(andr (!write2) (fun k_1=>
        ldB h9 (p12.add 2) fun x91=>
        k_1 (!x91)) J_3)∧∀x93,J_3 x93 →
       k x93) J_2)∧∀x94,J_2 x94 →
      ifb x94 (
       ∃(y96:Int) (y96_1:Sv) (y96_2:Bool),cl h9 p12=some (Value.int .i64 y96)∧cl h9 (p12.add 1)=some (Value.slice y96_1.a y96_1.n y96_1.c)∧cl h9 (p12.add 2)=some (Value.bool y96_2) ∧
       newS 80 #[Value.int .i64 y96,Value.slice y96_1.a y96_1.n y96_1.c,Value.bool y96_2] 1 h9 fun s97 h10=>
       appS 80 (Value.agg #[Value.int .i64 0,Value.slice (⟨none,0,0⟩:Sv).a (⟨none,0,0⟩:Sv).n (⟨none,0,0⟩:Sv).c,Value.bool false]).cells 3 40 h10 kept10 s97 fun s98 h11=>
       J_1 s98 h11) (
       J_1 kept10 h9))∧(∀kept10_1 h12,J_1 kept10_1 h12 →
     I kept10_1 (IntKind.i64.wrap (x76+1)) h12∧m kept10_1 (IntKind.i64.wrap (x76+1)) h12<m kept10 x76 h6)) (
     nn x16 fun p102=>
     sto h6 (p102.add 8) (Value.slice kept10.a kept10.n kept10.c) fun h13=>
     R (.tuple #[Value.pointer x16,Value.int .i64 0]) h13)))))
set_option maxRecDepth 100000 in
theorem F28 {vh0 p1 p1_1 p1_2 write2 h:_} {R:Value→Heap→Prop} (H:L28 vh0 p1 p1_1 p1_2 write2 h R):CallsH Try.prog 28 #[Value.pointer vh0,Value.agg #[Value.int .i64 p1,Value.slice p1_1.a p1_1.n p1_1.c,Value.int .i64 p1_2],Value.bool write2] h R:=by
 refine CallsH.enter (n:=105) Try.func28 rfl rfl rfl rfl ?_
 intro w0 aa ww S
 unfold L28 at H
 refine W.seq ?_
 refine W.region ?_
 refine ol_box S H rfl rfl rfl trivial ?_
 clear S H;intro p4 aa ww h1 H S
 refine OL.za S fun _ S=>?_
 refine OL.za S fun _ S=>?_
 refine OL.nil ?_
 refine W.seq ?_
 refine W.region ?_
 refine OL.zm S fun _ S=>?_
 refine OL.zf S fa28_0 fun _ S=>?_
 obtain⟨x15,c,H⟩:=H
 refine OL.zl S fl3 c fun _ S=>?_
 refine ol_cal S H isfn31 rfl rfl trivial ?_
 clear S H;intro u aa ww h2 H S
 obtain⟨x16,rfl,H⟩:=H
 refine OL.za S fun _ S=>?_
 refine OL.nil ?_
 refine W.seq ?_
 refine W.seq ?_
 refine W.region ?_
 refine OL.zm S fun _ S=>?_
 refine OL.zq S (Lf.run_eqlpn Try.underlying75 (S.ev rfl) (S.ev rfl)) fun _ S=>?_
 refine OL.nil ?_
 refine W.cond S (b:=(Option.isNone x16)) rfl (fun hb=>?_) (fun hb=>?_)
 ·
  replace H:=H.1 hb
  refine W.seq ?_
  refine W.region ?_
  refine OL.za S fun _ S=>?_
  refine OL.za S fun _ S=>?_
  refine OL.nil ?_
  refine W.ret ?_
  exact Ret.two S rfl rfl rfl H
 ·
  replace H:=H.2 hb
  refine W.skip ?_
  refine W.seq ?_
  refine W.seq ?_
  refine W.region ?_
  refine OL.zm S fun _ S=>?_
  obtain⟨p20,e,H⟩:=H
  refine OL.zq S (Lf.run_nc' (S.ev rfl) e) fun _ S=>?_
  refine OL.zf S fa74_4 fun _ S=>?_
  obtain⟨x22,c_1,H⟩:=H
  refine OL.zl S fl4 c_1 fun _ S=>?_
  refine OL.zq S (Lf.run_not (S.ev rfl)) fun _ S=>?_
  refine OL.nil ?_
  refine W.cond S (b:=(!x22)) rfl (fun hb_1=>?_) (fun hb_1=>?_)
  ·
   replace H:=H.1 hb_1
   refine W.seq ?_
   refine W.region ?_
   refine OL.zm S fun _ S=>?_
   refine OL.za S fun _ S=>?_
   refine OL.za S fun _ S=>?_
   refine OL.nil ?_
   refine W.ret ?_
   exact Ret.two S rfl rfl rfl H
  ·
   replace H:=H.2 hb_1
   refine W.skip ?_
   refine W.seq ?_
   refine W.region ?_
   refine OL.zm S fun _ S=>?_
   obtain⟨p26,e_1,H⟩:=H
   refine OL.zq S (Lf.run_nc' (S.ev rfl) e_1) fun _ S=>?_
   refine OL.zf S fa78_2 fun _ S=>?_
   obtain⟨x28,c_2,H⟩:=H
   refine OL.zl S fl69 c_2 fun _ S=>?_
   refine OL.zq S (Lf.run_mf (evs_map S rfl)) fun _ S=>?_
   refine ol_cal S H isfn45 rfl rfl trivial ?_
   clear S H;intro u_1 aa ww h3 H S
   obtain⟨x30,rfl,H⟩:=H
   refine OL.za S fun _ S=>?_
   refine OL.nil ?_
   refine W.seq ?_
   refine W.seq ?_
   replace S:=S.sub [(2,Value.bool write2),(4,Value.pointer (some p4)),(8,Value.pointer x16),(9,Value.int .i64 x30)] ⟨rfl,rfl,rfl,rfl,trivial⟩
   obtain⟨J,H,HK⟩:=H
   refine W.mono (N':=fun aa ww=>∃x60 h5,St 105 [(2,Value.bool write2),(4,Value.pointer (some p4)),(8,Value.pointer x16),(9,Value.int .i64 x30),(60,Value.bool x60)] h5 w0 aa ww∧J x60 h5) ?_ ?_
   ·
    refine W.regionD S (by kernel_rfl) ?_
    clear S;intro ww S
    refine AN.zq 0 S rfl (fun _=>Lf.run_move (S.ev rfl)) fun _ S=>?_
    refine AN.zq 1 S rfl (fun _=>Lf.run_lss (S.ev rfl) (S.ev rfl)) fun _ S=>?_
    refine AN.zq 2 S rfl (fun _=>Lf.run_move (S.ev rfl)) fun _ S=>?_
    rcases Bool.eq_false_or_eq_true (decide (x30<0)) with hb_2|hb_2
    ·
     replace H:=H.1 hb_2
     refine AN.zn 3 S rfl (GNo.mk rfl rfl hb_2) fun _ S=>?_
     refine AN.zn 4 S rfl (GNo.mk rfl rfl hb_2) fun _ S=>?_
     refine AN.zn 5 S rfl (GNo.mk rfl rfl hb_2) fun _ S=>?_
     refine AN.zn 6 S rfl (GNo.mk rfl rfl hb_2) fun _ S=>?_
     refine AN.zn 7 S rfl (GNo.mk rfl rfl hb_2) fun _ S=>?_
     refine AN.zn 8 S rfl (GNo.mk rfl rfl hb_2) fun _ S=>?_
     refine AN.zn 9 S rfl (GNo.mk rfl rfl hb_2) fun _ S=>?_
     refine AN.zn 10 S rfl (GNo.mk rfl rfl hb_2) fun _ S=>?_
     refine AN.zn 11 S rfl (GNo.mk rfl rfl hb_2) fun _ S=>?_
     refine AN.zn 12 S rfl (GNo.mk rfl rfl hb_2) fun _ S=>?_
     refine AN.zn 13 S rfl (GNo.mk rfl rfl hb_2) fun _ S=>?_
     refine AN.zn 14 S rfl (GNo.mk rfl rfl hb_2) fun _ S=>?_
     refine AN.zq 15 S rfl (fun _=>run_pickT (S.ev rfl) hb_2 (S.ev rfl)) fun _ S=>?_
     refine AN.zq 16 S rfl (fun _=>Lf.run_move (S.ev rfl)) fun _ S=>?_
     rcases Bool.eq_false_or_eq_true true with hb_5|hb_5
     ·
      replace H:=H.1 hb_5
      refine AN.zn 17 S rfl (GNo.mk rfl rfl hb_5) fun _ S=>?_
      refine AN.zn 18 S rfl (GNo.mk rfl rfl hb_5) fun _ S=>?_
      refine AN.zn 19 S rfl (GNo.un rfl rfl) fun _ S=>?_
      refine AN.zn 20 S rfl (GNo.un rfl rfl) fun _ S=>?_
      refine AN.zn 21 S rfl (GNo.un rfl rfl) fun _ S=>?_
      refine AN.zn 22 S rfl (GNo.un rfl rfl) fun _ S=>?_
      refine AN.zn 23 S rfl (GNo.un rfl rfl) fun _ S=>?_
      refine AN.zn 24 S rfl (GNo.un rfl rfl) fun _ S=>?_
      refine AN.zn 25 S rfl (GNo.un rfl rfl) fun _ S=>?_
      refine AN.zn 26 S rfl (GNo.un rfl rfl) fun _ S=>?_
      refine AN.zn 27 S rfl (GNo.un rfl rfl) fun _ S=>?_
      refine AN.zn 28 S rfl (GNo.mk rfl rfl hb_5) fun _ S=>?_
      refine AN.zq 29 S rfl (fun _=>run_pickT (S.ev rfl) hb_5 (S.ev rfl)) fun _ S=>?_
      refine AN.done (by kernel_rfl) ?_
      exact⟨true,h3,S.sub _ ⟨rfl,rfl,rfl,rfl,rfl,trivial⟩,H⟩
     ·
      replace H:=H.2 hb_5
      refine AN.zq (hg:=GOk.mk rfl rfl hb_5) 17 S rfl (fun _=>Lf.run_move (S.ev rfl)) fun _ S=>?_
      refine AN.zq (hg:=GOk.mk rfl rfl hb_5) 18 S rfl (fun _=>Lf.run_move (S.ev rfl)) fun _ S=>?_
      rcases Bool.eq_false_or_eq_true write2 with hb_6|hb_6
      ·
       replace H:=H.1 hb_6
       refine AN.zq (hg:=GOk.mk rfl rfl hb_6) 19 S rfl (fun _=>Lf.run_move (S.ev rfl)) fun _ S=>?_
       obtain⟨p51_1,e_10,H⟩:=H
       refine AN.zq (hg:=GOk.mk rfl rfl hb_6) 20 S rfl (fun _=>Lf.run_nc' (S.ev rfl) e_10) fun _ S=>?_
       refine AN.zq (hg:=GOk.mk rfl rfl hb_6) 21 S rfl (fun _=>Lf.run_fa (S.ev rfl) fa78_2) fun _ S=>?_
       obtain⟨x53_1,c_8,H⟩:=H
       refine AN.zl (hg:=GOk.mk rfl rfl hb_6) 22 S rfl (fun _ hx=>Lf.run_ld (S.ev rfl) fl69 (hx.cell _ _ (S.cl c_8))) fun _ S=>?_
       refine AN.zq (hg:=GOk.mk rfl rfl hb_6) 23 S rfl (fun _=>Lf.run_move (S.ev rfl)) fun _ S=>?_
       obtain⟨q55_1,e_11,e_12,e_13,H⟩:=H
       refine AN.zq (hg:=GOk.mk rfl rfl hb_6) 24 S rfl (fun _=>Lf.run_ixs (S.ev rfl) (S.ev rfl) Try.underlying69 ti80 e_11 e_12 e_13) fun _ S=>?_
       refine AN.zq (hg:=GOk.mk rfl rfl hb_6) 25 S rfl (fun _=>Lf.run_fa (S.ev rfl) fa80_2) fun _ S=>?_
       obtain⟨x57_1,c_9,H⟩:=H
       refine AN.zl (hg:=GOk.mk rfl rfl hb_6) 26 S rfl (fun _ hx=>Lf.run_ld (S.ev rfl) fl4 (hx.cell _ _ (S.cl c_9))) fun _ S=>?_
       refine AN.zq (hg:=GOk.mk rfl rfl hb_6) 27 S rfl (fun _=>Lf.run_not (S.ev rfl)) fun _ S=>?_
       refine AN.zq (hg:=GOk.mk rfl rfl hb_5) 28 S rfl (fun _=>run_pickT (S.ev rfl) hb_6 (S.ev rfl)) fun _ S=>?_
       refine AN.zq 29 S rfl (fun _=>run_pickF (S.ev rfl) hb_5 (S.ev rfl)) fun _ S=>?_
       refine AN.done (by kernel_rfl) ?_
       exact⟨(!x57_1),h3,S.sub _ ⟨rfl,rfl,rfl,rfl,rfl,trivial⟩,H⟩
      ·
       replace H:=H.2 hb_6
       refine AN.zn 19 S rfl (GNo.mk rfl rfl hb_6) fun _ S=>?_
       refine AN.zn 20 S rfl (GNo.mk rfl rfl hb_6) fun _ S=>?_
       refine AN.zn 21 S rfl (GNo.mk rfl rfl hb_6) fun _ S=>?_
       refine AN.zn 22 S rfl (GNo.mk rfl rfl hb_6) fun _ S=>?_
       refine AN.zn 23 S rfl (GNo.mk rfl rfl hb_6) fun _ S=>?_
       refine AN.zn 24 S rfl (GNo.mk rfl rfl hb_6) fun _ S=>?_
       refine AN.zn 25 S rfl (GNo.mk rfl rfl hb_6) fun _ S=>?_
       refine AN.zn 26 S rfl (GNo.mk rfl rfl hb_6) fun _ S=>?_
       refine AN.zn 27 S rfl (GNo.mk rfl rfl hb_6) fun _ S=>?_
       refine AN.zq (hg:=GOk.mk rfl rfl hb_5) 28 S rfl (fun _=>run_pickF (S.ev rfl) hb_6 (S.ev rfl)) fun _ S=>?_
       refine AN.zq 29 S rfl (fun _=>run_pickF (S.ev rfl) hb_5 (S.ev rfl)) fun _ S=>?_
       refine AN.done (by kernel_rfl) ?_
       exact⟨false,h3,S.sub _ ⟨rfl,rfl,rfl,rfl,rfl,trivial⟩,H⟩
    ·
     replace H:=H.2 hb_2
     refine AN.zq (hg:=GOk.mk rfl rfl hb_2) 3 S rfl (fun _=>Lf.run_move (S.ev rfl)) fun _ S=>?_
     obtain⟨p35,e_2,H⟩:=H
     refine AN.zq (hg:=GOk.mk rfl rfl hb_2) 4 S rfl (fun _=>Lf.run_nc' (S.ev rfl) e_2) fun _ S=>?_
     refine AN.zq (hg:=GOk.mk rfl rfl hb_2) 5 S rfl (fun _=>Lf.run_fa (S.ev rfl) fa78_2) fun _ S=>?_
     obtain⟨x37,c_3,H⟩:=H
     refine AN.zl (hg:=GOk.mk rfl rfl hb_2) 6 S rfl (fun _ hx=>Lf.run_ld (S.ev rfl) fl69 (hx.cell _ _ (S.cl c_3))) fun _ S=>?_
     refine AN.zq (hg:=GOk.mk rfl rfl hb_2) 7 S rfl (fun _=>Lf.run_move (S.ev rfl)) fun _ S=>?_
     obtain⟨q39,e_3,e_4,e_5,H⟩:=H
     refine AN.zq (hg:=GOk.mk rfl rfl hb_2) 8 S rfl (fun _=>Lf.run_ixs (S.ev rfl) (S.ev rfl) Try.underlying69 ti80 e_3 e_4 e_5) fun _ S=>?_
     refine AN.zq (hg:=GOk.mk rfl rfl hb_2) 9 S rfl (fun _=>Lf.run_fa (S.ev rfl) fa80_1) fun _ S=>?_
     obtain⟨x41,c_4,H⟩:=H
     refine AN.zl (hg:=GOk.mk rfl rfl hb_2) 10 S rfl (fun _ hx=>Lf.run_ld (S.ev rfl) fl26 (hx.cell _ _ (S.cl c_4))) fun _ S=>?_
     refine AN.zq (hg:=GOk.mk rfl rfl hb_2) 11 S rfl (fun _=>Lf.run_fa (S.ev rfl) fa28_1) fun _ S=>?_
     obtain⟨x43,c_5,H⟩:=H
     refine AN.zl (hg:=GOk.mk rfl rfl hb_2) 12 S rfl (fun _ hx=>Lf.run_ld (S.ev rfl) fl26 (hx.cell _ _ (S.cl c_5))) fun _ S=>?_
     refine AN.eff 13 rfl (by kernel_rfl) ?_
     refine ol_cal S H isfn47 rfl rfl (GOk.mk rfl rfl hb_2) ?_
     clear S H;intro u_2 aa ww h4 H S
     obtain⟨x44,rfl,H⟩:=H
     refine OL.nil ?_
     refine AN.zq (hg:=GOk.mk rfl rfl hb_2) 14 S rfl (fun _=>Lf.run_not (S.ev rfl)) fun _ S=>?_
     refine AN.zq 15 S rfl (fun _=>run_pickF (S.ev rfl) hb_2 (S.ev rfl)) fun _ S=>?_
     refine AN.zq 16 S rfl (fun _=>Lf.run_move (S.ev rfl)) fun _ S=>?_
     rcases Bool.eq_false_or_eq_true (!x44) with hb_3|hb_3
     ·
      replace H:=H.1 hb_3
      refine AN.zn 17 S rfl (GNo.mk rfl rfl hb_3) fun _ S=>?_
      refine AN.zn 18 S rfl (GNo.mk rfl rfl hb_3) fun _ S=>?_
      refine AN.zn 19 S rfl (GNo.un rfl rfl) fun _ S=>?_
      refine AN.zn 20 S rfl (GNo.un rfl rfl) fun _ S=>?_
      refine AN.zn 21 S rfl (GNo.un rfl rfl) fun _ S=>?_
      refine AN.zn 22 S rfl (GNo.un rfl rfl) fun _ S=>?_
      refine AN.zn 23 S rfl (GNo.un rfl rfl) fun _ S=>?_
      refine AN.zn 24 S rfl (GNo.un rfl rfl) fun _ S=>?_
      refine AN.zn 25 S rfl (GNo.un rfl rfl) fun _ S=>?_
      refine AN.zn 26 S rfl (GNo.un rfl rfl) fun _ S=>?_
      refine AN.zn 27 S rfl (GNo.un rfl rfl) fun _ S=>?_
      refine AN.zn 28 S rfl (GNo.mk rfl rfl hb_3) fun _ S=>?_
      refine AN.zq 29 S rfl (fun _=>run_pickT (S.ev rfl) hb_3 (S.ev rfl)) fun _ S=>?_
      refine AN.done (by kernel_rfl) ?_
      exact⟨true,h4,S.sub _ ⟨rfl,rfl,rfl,rfl,rfl,trivial⟩,H⟩
     ·
      replace H:=H.2 hb_3
      refine AN.zq (hg:=GOk.mk rfl rfl hb_3) 17 S rfl (fun _=>Lf.run_move (S.ev rfl)) fun _ S=>?_
      refine AN.zq (hg:=GOk.mk rfl rfl hb_3) 18 S rfl (fun _=>Lf.run_move (S.ev rfl)) fun _ S=>?_
      rcases Bool.eq_false_or_eq_true write2 with hb_4|hb_4
      ·
       replace H:=H.1 hb_4
       refine AN.zq (hg:=GOk.mk rfl rfl hb_4) 19 S rfl (fun _=>Lf.run_move (S.ev rfl)) fun _ S=>?_
       obtain⟨p51,e_6,H⟩:=H
       refine AN.zq (hg:=GOk.mk rfl rfl hb_4) 20 S rfl (fun _=>Lf.run_nc' (S.ev rfl) e_6) fun _ S=>?_
       refine AN.zq (hg:=GOk.mk rfl rfl hb_4) 21 S rfl (fun _=>Lf.run_fa (S.ev rfl) fa78_2) fun _ S=>?_
       obtain⟨x53,c_6,H⟩:=H
       refine AN.zl (hg:=GOk.mk rfl rfl hb_4) 22 S rfl (fun _ hx=>Lf.run_ld (S.ev rfl) fl69 (hx.cell _ _ (S.cl c_6))) fun _ S=>?_
       refine AN.zq (hg:=GOk.mk rfl rfl hb_4) 23 S rfl (fun _=>Lf.run_move (S.ev rfl)) fun _ S=>?_
       obtain⟨q55,e_7,e_8,e_9,H⟩:=H
       refine AN.zq (hg:=GOk.mk rfl rfl hb_4) 24 S rfl (fun _=>Lf.run_ixs (S.ev rfl) (S.ev rfl) Try.underlying69 ti80 e_7 e_8 e_9) fun _ S=>?_
       refine AN.zq (hg:=GOk.mk rfl rfl hb_4) 25 S rfl (fun _=>Lf.run_fa (S.ev rfl) fa80_2) fun _ S=>?_
       obtain⟨x57,c_7,H⟩:=H
       refine AN.zl (hg:=GOk.mk rfl rfl hb_4) 26 S rfl (fun _ hx=>Lf.run_ld (S.ev rfl) fl4 (hx.cell _ _ (S.cl c_7))) fun _ S=>?_
       refine AN.zq (hg:=GOk.mk rfl rfl hb_4) 27 S rfl (fun _=>Lf.run_not (S.ev rfl)) fun _ S=>?_
       refine AN.zq (hg:=GOk.mk rfl rfl hb_3) 28 S rfl (fun _=>run_pickT (S.ev rfl) hb_4 (S.ev rfl)) fun _ S=>?_
       refine AN.zq 29 S rfl (fun _=>run_pickF (S.ev rfl) hb_3 (S.ev rfl)) fun _ S=>?_
       refine AN.done (by kernel_rfl) ?_
       exact⟨(!x57),h4,S.sub _ ⟨rfl,rfl,rfl,rfl,rfl,trivial⟩,H⟩
      ·
       replace H:=H.2 hb_4
       refine AN.zn 19 S rfl (GNo.mk rfl rfl hb_4) fun _ S=>?_
       refine AN.zn 20 S rfl (GNo.mk rfl rfl hb_4) fun _ S=>?_
       refine AN.zn 21 S rfl (GNo.mk rfl rfl hb_4) fun _ S=>?_
       refine AN.zn 22 S rfl (GNo.mk rfl rfl hb_4) fun _ S=>?_
       refine AN.zn 23 S rfl (GNo.mk rfl rfl hb_4) fun _ S=>?_
       refine AN.zn 24 S rfl (GNo.mk rfl rfl hb_4) fun _ S=>?_
       refine AN.zn 25 S rfl (GNo.mk rfl rfl hb_4) fun _ S=>?_
       refine AN.zn 26 S rfl (GNo.mk rfl rfl hb_4) fun _ S=>?_
       refine AN.zn 27 S rfl (GNo.mk rfl rfl hb_4) fun _ S=>?_
       refine AN.zq (hg:=GOk.mk rfl rfl hb_3) 28 S rfl (fun _=>run_pickF (S.ev rfl) hb_4 (S.ev rfl)) fun _ S=>?_
       refine AN.zq 29 S rfl (fun _=>run_pickF (S.ev rfl) hb_3 (S.ev rfl)) fun _ S=>?_
       refine AN.done (by kernel_rfl) ?_
       exact⟨false,h4,S.sub _ ⟨rfl,rfl,rfl,rfl,rfl,trivial⟩,H⟩
   ·
    clear H S
    rintro aa ww ⟨x60,h5,S,HJ⟩
    have H:=HK _ _ HJ
    clear HK HJ
    refine W.cond S (b:=x60) rfl (fun hb_7=>?_) (fun hb_7=>?_)
    ·
     replace H:=H.1 hb_7
     refine W.seq ?_
     refine W.region ?_
     refine OL.za S fun _ S=>?_
     refine OL.za S fun _ S=>?_
     refine OL.nil ?_
     refine W.ret ?_
     exact Ret.two S rfl rfl rfl H
    ·
     replace H:=H.2 hb_7
     refine W.skip ?_
     refine W.seq ?_
     refine W.region ?_
     refine OL.zm S fun _ S=>?_
     obtain⟨p62,e_14,H⟩:=H
     refine OL.zq S (Lf.run_nc' (S.ev rfl) e_14) fun _ S=>?_
     refine OL.zf S fa78_2 fun _ S=>?_
     obtain⟨x64,c_10,H⟩:=H
     refine OL.zl S fl69 c_10 fun _ S=>?_
     refine OL.zm S fun _ S=>?_
     refine OL.zq S (Lf.run_add (S.ev rfl) (S.ev rfl)) fun _ S=>?_
     obtain⟨s67,c_11,c_12,c_13,c_14,H⟩:=slS_ex H
     refine OL.zq S (Lf.run_slNS Try.underlying69 ti80 (S.ev rfl) (S.ev rfl) c_12 c_13 c_14) fun _ S=>?_
     refine OL.za S fun _ S=>?_
     refine OL.nil ?_
     refine W.seq ?_
     refine W.seq ?_
     refine W.region ?_
     refine OL.zm S fun _ S=>?_
     obtain⟨p69,e_15,H⟩:=H
     refine OL.zq S (Lf.run_nc' (S.ev rfl) e_15) fun _ S=>?_
     refine OL.zf S fa78_2 fun _ S=>?_
     obtain⟨x71,c_15,H⟩:=H
     refine OL.zl S fl69 c_15 fun _ S=>?_
     refine OL.zm S fun _ S=>?_
     refine OL.zq S (Lf.run_add (S.ev rfl) (S.ev rfl)) fun _ S=>?_
     obtain⟨s74,c_16,c_17,c_18,c_19,H⟩:=slS_ex H
     refine OL.zq S (Lf.run_slSN Try.underlying69 ti80 (S.ev rfl) (S.ev rfl) c_16 c_17 c_18 c_19) fun _ S=>?_
     refine OL.zq S (Lf.run_lens (S.ev rfl) rfl Try.underlying69) fun _ S=>?_
     refine OL.zm S fun _ S=>?_
     refine OL.nil ?_
     refine W.block ?_
     obtain⟨I,m,H,HB⟩:=H
     refine W.loopS (σ:=Sv×Int×Heap) (fun s aa ww=>St 105 [(2,Value.bool write2),(4,Value.pointer (some p4)),(8,Value.pointer x16),(10,Value.slice s.1.a s.1.n s.1.c),(74,Value.slice s74.a s74.n s74.c),(75,Value.int .i64 ((s74.n:Nat):Int)),(76,Value.int .i64 s.2.1)] s.2.2 w0 aa ww∧I s.1 s.2.1 s.2.2) (fun s=>m s.1 s.2.1 s.2.2) (s67,0,h5) ⟨S.sub _ ⟨rfl,rfl,rfl,rfl,rfl,rfl,rfl,trivial⟩,H⟩ ?_
     clear H S
     rintro ⟨kept10,x76,h6⟩ aa ww ⟨S,HI⟩
     replace S:St 105 [(2,Value.bool write2),(4,Value.pointer (some p4)),(8,Value.pointer x16),(10,Value.slice kept10.a kept10.n kept10.c),(74,Value.slice s74.a s74.n s74.c),(75,Value.int .i64 ((s74.n:Nat):Int)),(76,Value.int .i64 x76)] h6 w0 aa ww:=S
     have H:=HB kept10 x76 h6 HI
     clear HI
     refine W.seq ?_
     refine W.region ?_
     refine OL.zq S (Lf.run_lss (S.ev rfl) (S.ev rfl)) fun _ S=>?_
     refine OL.nil ?_
     refine W.seq ?_
     refine W.cond S (b:=(decide (x76<((s74.n:Nat):Int)))) rfl (fun hb_8=>?_) (fun hb_8=>?_)
     ·
      replace H:=H.1 hb_8
      refine W.skip ?_
      obtain⟨J_1,H,HK_1⟩:=H
      refine W.seqJ (fun aa ww=>∃kept10_1 h12,St 105 [(2,Value.bool write2),(4,Value.pointer (some p4)),(8,Value.pointer x16),(10,Value.slice kept10_1.a kept10_1.n kept10_1.c),(74,Value.slice s74.a s74.n s74.c),(75,Value.int .i64 ((s74.n:Nat):Int)),(76,Value.int .i64 x76)] h12 w0 aa ww∧J_1 kept10_1 h12) ?_ ?_
      ·
       clear HK_1
       refine W.block ?_
       refine W.seq ?_
       refine W.region ?_
       obtain⟨q78,e_16,e_17,e_18,H⟩:=H
       refine OL.zq S (Lf.run_ixs (S.ev rfl) (S.ev rfl) Try.underlying69 ti80 e_16 e_17 e_18) fun _ S=>?_
       obtain⟨y79,y79_1,y79_2,c_28,c_29,c_30,H⟩:=H
       refine OL.zq S (Lf.run_ldA (cs:=[Value.int .i64 y79,Value.slice y79_1.a y79_1.n y79_1.c,Value.bool y79_2]) (S.ev rfl) ag80 ti80 (by rw[S.heap];exact RowL.toRow ⟨c_28,c_29,c_30,trivial⟩)) fun _ S=>?_
       refine ol_alloc S H ti80 rfl rfl trivial ?_
       clear S H;intro p12 aa ww h7 H S
       refine ol_stoA S H rfl rfl ti80 trivial ?_
       clear S H;intro aa ww h8 H S
       refine OL.nil ?_
       refine W.seq ?_
       refine W.region ?_
       refine OL.zf S fa80_1 fun _ S=>?_
       obtain⟨x81,c_21,H⟩:=H
       refine OL.zl S fl26 c_21 fun _ S=>?_
       refine OL.zf S fa28_1 fun _ S=>?_
       obtain⟨x83,c_22,H⟩:=H
       refine OL.zl S fl26 c_22 fun _ S=>?_
       refine ol_cal S H isfn48 rfl rfl trivial ?_
       clear S H;intro u_3 aa ww h9 H S
       obtain⟨x84,rfl,H⟩:=H
       refine OL.zq S (Lf.run_not (S.ev rfl)) fun _ S=>?_
       refine OL.zm S fun _ S=>?_
       obtain⟨J_2,H,HK_2⟩:=H
       refine OL.cutN 8 (fun aa ww=>∃x94,St 105 ((94,Value.bool x94) :: [(2,Value.bool write2),(4,Value.pointer (some p4)),(8,Value.pointer x16),(10,Value.slice kept10.a kept10.n kept10.c),(12,Value.pointer (some p12)),(74,Value.slice s74.a s74.n s74.c),(75,Value.int .i64 ((s74.n:Nat):Int)),(76,Value.int .i64 x76),(80,Value.pointer (some (p12.add 1))),(81,Value.slice x81.a x81.n x81.c),(82,Value.pointer (some (p4.add 1))),(83,Value.slice x83.a x83.n x83.c),(84,Value.bool x84),(85,Value.bool (!x84)),(86,Value.bool (!x84))]) h9 w0 aa ww∧J_2 x94) ?_ ?_
       ·
        rcases Bool.eq_false_or_eq_true (!x84) with hb_9|hb_9
        ·
         replace H:=H.1 hb_9
         refine OL.zn S (GNo.mk rfl rfl hb_9) fun _ S=>?_
         refine OL.zn S (GNo.mk rfl rfl hb_9) fun _ S=>?_
         refine OL.zn S (GNo.mk rfl rfl hb_9) fun _ S=>?_
         refine OL.zn S (GNo.un rfl rfl) fun _ S=>?_
         refine OL.zn S (GNo.un rfl rfl) fun _ S=>?_
         refine OL.zn S (GNo.un rfl rfl) fun _ S=>?_
         refine OL.zn S (GNo.mk rfl rfl hb_9) fun _ S=>?_
         refine OL.zq S (Lf.run_pickT (S.ev rfl) hb_9 (S.ev rfl)) fun _ S=>?_
         refine OL.nil ?_
         exact⟨_,S.sub _ ⟨rfl,rfl,rfl,rfl,rfl,rfl,rfl,rfl,rfl,rfl,rfl,rfl,rfl,rfl,rfl,rfl,trivial⟩,H⟩
        ·
         replace H:=H.2 hb_9
         refine OL.zm (hg:=GOk.mk rfl rfl hb_9) S fun _ S=>?_
         refine OL.zq (hg:=GOk.mk rfl rfl hb_9) S (Lf.run_not (S.ev rfl)) fun _ S=>?_
         refine OL.zm (hg:=GOk.mk rfl rfl hb_9) S fun _ S=>?_
         obtain⟨J_3,H,HK_3⟩:=H
         refine OL.cutN 4 (fun aa ww=>∃x93,St 105 ((93,Value.bool x93) :: [(2,Value.bool write2),(4,Value.pointer (some p4)),(8,Value.pointer x16),(10,Value.slice kept10.a kept10.n kept10.c),(12,Value.pointer (some p12)),(74,Value.slice s74.a s74.n s74.c),(75,Value.int .i64 ((s74.n:Nat):Int)),(76,Value.int .i64 x76),(80,Value.pointer (some (p12.add 1))),(81,Value.slice x81.a x81.n x81.c),(82,Value.pointer (some (p4.add 1))),(83,Value.slice x83.a x83.n x83.c),(84,Value.bool x84),(85,Value.bool (!x84)),(86,Value.bool (!x84)),(87,Value.bool write2),(88,Value.bool (!write2)),(89,Value.bool (!write2))]) h9 w0 aa ww∧J_3 x93) ?_ ?_
         ·
          rcases Bool.eq_false_or_eq_true (!write2) with hb_10|hb_10
          ·
           replace H:=H.1 hb_10
           refine OL.zf (hg:=GOk.mk rfl rfl hb_10) S fa80_2 fun _ S=>?_
           obtain⟨x91,c_23,H⟩:=H
           refine OL.zl (hg:=GOk.mk rfl rfl hb_10) S fl4 c_23 fun _ S=>?_
           refine OL.zq (hg:=GOk.mk rfl rfl hb_10) S (Lf.run_not (S.ev rfl)) fun _ S=>?_
           refine OL.zq (hg:=GOk.mk rfl rfl hb_9) S (Lf.run_pickT (S.ev rfl) hb_10 (S.ev rfl)) fun _ S=>?_
           refine OL.nil ?_
           exact⟨_,S.sub _ ⟨rfl,rfl,rfl,rfl,rfl,rfl,rfl,rfl,rfl,rfl,rfl,rfl,rfl,rfl,rfl,rfl,rfl,rfl,rfl,trivial⟩,H⟩
          ·
           replace H:=H.2 hb_10
           refine OL.zn S (GNo.mk rfl rfl hb_10) fun _ S=>?_
           refine OL.zn S (GNo.mk rfl rfl hb_10) fun _ S=>?_
           refine OL.zn S (GNo.mk rfl rfl hb_10) fun _ S=>?_
           refine OL.zq (hg:=GOk.mk rfl rfl hb_9) S (Lf.run_pickF (S.ev rfl) hb_10 (S.ev rfl)) fun _ S=>?_
           refine OL.nil ?_
           exact⟨_,S.sub _ ⟨rfl,rfl,rfl,rfl,rfl,rfl,rfl,rfl,rfl,rfl,rfl,rfl,rfl,rfl,rfl,rfl,rfl,rfl,rfl,trivial⟩,H⟩
         ·
          clear S
          rintro aa ww ⟨x93,S,HJ⟩
          replace H:=HK_3 _ HJ
          clear HK_3 HJ
          refine OL.zq S (Lf.run_pickF (S.ev rfl) hb_9 (S.ev rfl)) fun _ S=>?_
          refine OL.nil ?_
          exact⟨_,S.sub _ ⟨rfl,rfl,rfl,rfl,rfl,rfl,rfl,rfl,rfl,rfl,rfl,rfl,rfl,rfl,rfl,rfl,trivial⟩,H⟩
       ·
        clear S
        rintro aa ww ⟨x94,S,HJ⟩
        replace H:=HK_2 _ HJ
        clear HK_2 HJ
        refine OL.nil ?_
        refine W.cond S (b:=x94) rfl (fun hb_11=>?_) (fun hb_11=>?_)
        ·
         replace H:=H.1 hb_11
         refine W.region ?_
         refine OL.zm S fun _ S=>?_
         obtain⟨y96,y96_1,y96_2,c_25,c_26,c_27,H⟩:=H
         refine OL.zq S (Lf.run_ldA (cs:=[Value.int .i64 y96,Value.slice y96_1.a y96_1.n y96_1.c,Value.bool y96_2]) (S.ev rfl) ag80 ti80 (by rw[S.heap];exact RowL.toRow ⟨c_25,c_26,c_27,trivial⟩)) fun _ S=>?_
         refine ol_newS S H Try.underlying69 ti80 (by decide) (parts_map S rfl) (by kernel_rfl) (by decide) rfl trivial ?_
         clear S H;intro s97 aa ww h10 H S
         refine ol_appS S H Try.underlying69 ti80 rfl rfl rfl trivial ?_
         clear S H;intro s98 aa ww h11 H S
         refine OL.za S fun _ S=>?_
         refine OL.nil ?_
         exact⟨s98,h11,S.sub _ ⟨rfl,rfl,rfl,rfl,rfl,rfl,rfl,trivial⟩,H⟩
        ·
         replace H:=H.2 hb_11
         refine W.skip ?_
         exact⟨kept10,h9,S.sub _ ⟨rfl,rfl,rfl,rfl,rfl,rfl,rfl,trivial⟩,H⟩
      ·
       clear H S
       rintro aa ww ⟨kept10_1,h12,S,HJ⟩
       have H:=HK_1 _ _ HJ
       clear HK_1 HJ
       refine W.region ?_
       refine OL.zq S (Lf.run_add (S.ev rfl) (S.ev rfl)) fun _ S=>?_
       refine OL.zm S fun _ S=>?_
       refine OL.nil ?_
       exact⟨(kept10_1,(IntKind.i64.wrap (x76+1)),h12),⟨S.sub _ ⟨rfl,rfl,rfl,rfl,rfl,rfl,rfl,trivial⟩,H.1⟩,H.2⟩
     ·
      replace H:=H.2 hb_8
      refine W.exit_ ?_
      refine xhit ?_
      refine W.seq ?_
      refine W.region ?_
      refine OL.zm S fun _ S=>?_
      refine OL.zm S fun _ S=>?_
      obtain⟨p102,e_19,H⟩:=H
      refine OL.zq S (Lf.run_nc' (S.ev rfl) e_19) fun _ S=>?_
      refine OL.zf S fa78_2 fun _ S=>?_
      refine ol_sto S H rfl rfl rfl ti69 trivial ?_
      clear S H;intro aa ww h13 H S
      refine OL.nil ?_
      refine W.seq ?_
      refine W.region ?_
      refine OL.zm S fun _ S=>?_
      refine OL.za S fun _ S=>?_
      refine OL.za S fun _ S=>?_
      refine OL.nil ?_
      refine W.ret ?_
      exact Ret.two S rfl rfl rfl H
def L29 (a0:Option Addr) (path1:Sv) (h:Heap) (R:Value→Heap→Prop):Prop:=
 cal Try.prog 32 #[Value.pointer a0,Value.slice path1.a path1.n path1.c] h fun u h1=>asTup u fun r11=>
 elt r11 0 fun u_1=>asP u_1 fun x12=>
 elt r11 1 fun u_2=>asI .i64 u_2 fun x13=>
 ifb (x13 != 0) (
  R (.tuple #[Value.pointer none,Value.int .i64 x13]) h1) (
  nn x12 fun p18=>
  ∃(y19:Int) (y19_1:Int) (y19_2:ByteArray) (y19_3:Sv) (y19_4:Int) (y19_5:Sv) (y19_6:Int),cl h1 p18=some (Value.int .i64 y19)∧cl h1 (p18.add 1)=some (Value.int .u64 y19_1)∧cl h1 (p18.add 2)=some (Value.string y19_2)∧cl h1 (p18.add 3)=some (Value.slice y19_3.a y19_3.n y19_3.c)∧cl h1 (p18.add 4)=some (Value.int .i64 y19_4)∧cl h1 (p18.add 5)=some (Value.slice y19_5.a y19_5.n y19_5.c)∧cl h1 (p18.add 6)=some (Value.int .i64 y19_6) ∧
  cal Try.prog 49 #[Value.agg #[Value.int .i64 y19,Value.int .u64 y19_1,Value.string y19_2,Value.slice y19_3.a y19_3.n y19_3.c,Value.int .i64 y19_4,Value.slice y19_5.a y19_5.n y19_5.c,Value.int .i64 y19_6]] h1 fun u_3 h2=>asB u_3 fun x20=>
  ifb (!x20) (
   R (.tuple #[Value.pointer none,Value.int .i64 3]) h2) (
   R (.tuple #[Value.pointer x12,Value.int .i64 0]) h2))
set_option maxRecDepth 100000 in
theorem F29 {a0 path1 h:_} {R:Value→Heap→Prop} (H:L29 a0 path1 h R):CallsH Try.prog 29 #[Value.pointer a0,Value.slice path1.a path1.n path1.c] h R:=by
 refine CallsH.enter (n:=23) Try.func29 rfl rfl rfl rfl ?_
 intro w0 aa ww S
 unfold L29 at H
 refine W.seq ?_
 refine W.region ?_
 refine OL.za S fun _ S=>?_
 refine OL.za S fun _ S=>?_
 refine OL.nil ?_
 refine W.seq ?_
 refine W.region ?_
 refine OL.zm S fun _ S=>?_
 refine OL.zm S fun _ S=>?_
 refine ol_cal S H isfn32 rfl rfl trivial ?_
 clear S H;intro u aa ww h1 H S
 obtain⟨r11,rfl,H⟩:=H
 refine OL.zm S fun _ S=>?_
 obtain⟨u_1,e,x12,rfl,H⟩:=H
 refine OL.zq S (Lf.run_ex (S.ev rfl) e) fun _ S=>?_
 obtain⟨u_2,e_1,x13,rfl,H⟩:=H
 refine OL.zq S (Lf.run_ex (S.ev rfl) e_1) fun _ S=>?_
 refine OL.za S fun _ S=>?_
 refine OL.za S fun _ S=>?_
 refine OL.nil ?_
 refine W.seq ?_
 refine W.seq ?_
 refine W.region ?_
 refine OL.zm S fun _ S=>?_
 refine OL.zq S (Lf.run_neq (S.ev rfl) (S.ev rfl)) fun _ S=>?_
 refine OL.nil ?_
 refine W.cond S (b:=(x13 != 0)) rfl (fun hb=>?_) (fun hb=>?_)
 ·
  replace H:=H.1 hb
  refine W.seq ?_
  refine W.region ?_
  refine OL.zm S fun _ S=>?_
  refine OL.za S fun _ S=>?_
  refine OL.za S fun _ S=>?_
  refine OL.nil ?_
  refine W.ret ?_
  exact Ret.two S rfl rfl rfl H
 ·
  replace H:=H.2 hb
  refine W.skip ?_
  refine W.seq ?_
  refine W.seq ?_
  refine W.region ?_
  refine OL.zm S fun _ S=>?_
  obtain⟨p18,e_2,H⟩:=H
  refine OL.zq S (Lf.run_nc' (S.ev rfl) e_2) fun _ S=>?_
  obtain⟨y19,y19_1,y19_2,y19_3,y19_4,y19_5,y19_6,c_1,c_2,c_3,c_4,c_5,c_6,c_7,H⟩:=H
  refine OL.zq S (Lf.run_ldA (cs:=[Value.int .i64 y19,Value.int .u64 y19_1,Value.string y19_2,Value.slice y19_3.a y19_3.n y19_3.c,Value.int .i64 y19_4,Value.slice y19_5.a y19_5.n y19_5.c,Value.int .i64 y19_6]) (S.ev rfl) ag33 ti33 (by rw[S.heap];exact RowL.toRow ⟨c_1,c_2,c_3,c_4,c_5,c_6,c_7,trivial⟩)) fun _ S=>?_
  refine ol_cal S H isfn49 rfl rfl trivial ?_
  clear S H;intro u_3 aa ww h2 H S
  obtain⟨x20,rfl,H⟩:=H
  refine OL.zq S (Lf.run_not (S.ev rfl)) fun _ S=>?_
  refine OL.nil ?_
  refine W.cond S (b:=(!x20)) rfl (fun hb_1=>?_) (fun hb_1=>?_)
  ·
   replace H:=H.1 hb_1
   refine W.seq ?_
   refine W.region ?_
   refine OL.za S fun _ S=>?_
   refine OL.za S fun _ S=>?_
   refine OL.nil ?_
   refine W.ret ?_
   exact Ret.two S rfl rfl rfl H
  ·
   replace H:=H.2 hb_1
   refine W.skip ?_
   refine W.seq ?_
   refine W.region ?_
   refine OL.zm S fun _ S=>?_
   refine OL.za S fun _ S=>?_
   refine OL.za S fun _ S=>?_
   refine OL.nil ?_
   refine W.ret ?_
   exact Ret.two S rfl rfl rfl H
def L30 (s0:Sv) (h:Heap) (R:Value→Heap→Prop):Prop:=
 ifb (Option.isNone s0.a) (
  R (Value.slice (⟨none,0,0⟩:Sv).a (⟨none,0,0⟩:Sv).n (⟨none,0,0⟩:Sv).c) h) (
  newS 3 #[] 0 h fun s5 h1=>
  appS 3 (Value.int .i64 0).cells 1 8 h1 s5 s0 fun s7 h2=>
  R (Value.slice s7.a s7.n s7.c) h2)
set_option maxRecDepth 100000 in
theorem F30 {s0 h:_} {R:Value→Heap→Prop} (H:L30 s0 h R):CallsH Try.prog 30 #[Value.slice s0.a s0.n s0.c] h R:=by
 refine CallsH.enter (n:=8) Try.func30 rfl rfl rfl rfl ?_
 intro w0 aa ww S
 unfold L30 at H
 refine W.seq ?_
 refine W.region ?_
 refine OL.za S fun _ S=>?_
 refine OL.nil ?_
 refine W.seq ?_
 refine W.seq ?_
 refine W.region ?_
 refine OL.zm S fun _ S=>?_
 refine OL.zq S (Lf.run_eqlsn Try.underlying26 (S.ev rfl) (S.ev rfl)) fun _ S=>?_
 refine OL.nil ?_
 refine W.cond S (b:=(Option.isNone s0.a)) rfl (fun hb=>?_) (fun hb=>?_)
 ·
  replace H:=H.1 hb
  refine W.seq ?_
  refine W.region ?_
  refine OL.za S fun _ S=>?_
  refine OL.nil ?_
  refine W.ret ?_
  exact Ret.one S rfl rfl H
 ·
  replace H:=H.2 hb
  refine W.skip ?_
  refine W.seq ?_
  refine W.region ?_
  refine ol_newS0 S H Try.underlying26 ti3 rfl rfl trivial ?_
  clear S H;intro s5 aa ww h1 H S
  refine OL.zm S fun _ S=>?_
  refine ol_appS S H Try.underlying26 ti3 rfl rfl rfl trivial ?_
  clear S H;intro s7 aa ww h2 H S
  refine OL.za S fun _ S=>?_
  refine OL.nil ?_
  refine W.ret ?_
  exact Ret.one S rfl rfl H
def L31 (vh0:Option Addr) (i1:Int) (h:Heap) (R:Value→Heap→Prop):Prop:=
 ∃J:Bool→Prop,(orr ((Option.isNone vh0) || (decide (i1<0))) (fun k=>
  nn vh0 fun p14=>
  ldS h p14 fun x16=>
  k (decide (((x16.n:Nat):Int)≤i1))) J)∧∀x19,J x19 →
 ∃J_1:Bool→Prop,(orr x19 (fun k_1=>
  nn vh0 fun p22=>
  ldS h p22 fun x24=>
  ixS x24 i1 fun q26=>
  ldP h (q26.add ((i1:Int).toNat*1)) fun x27=>
  nn x27 fun p28=>
  ldB h p28 fun x30=>
  k_1 (!x30)) J_1)∧∀x32,J_1 x32 →
 ifb x32 (
  R (Value.pointer none) h) (
  nn vh0 fun p34=>
  ldS h p34 fun x36=>
  ixS x36 i1 fun q38=>
  ldP h (q38.add ((i1:Int).toNat*1)) fun x39=>
  R (Value.pointer x39) h)
set_option maxRecDepth 100000 in
theorem F31 {vh0 i1 h:_} {R:Value→Heap→Prop} (H:L31 vh0 i1 h R):CallsH Try.prog 31 #[Value.pointer vh0,Value.int .i64 i1] h R:=by
 refine CallsH.enter (n:=40) Try.func31 rfl rfl rfl rfl ?_
 intro w0 aa ww S
 unfold L31 at H
 refine W.seq ?_
 refine W.region ?_
 refine OL.za S fun _ S=>?_
 refine OL.nil ?_
 refine W.seq ?_
 refine W.seq ?_
 refine W.region ?_
 refine OL.zm S fun _ S=>?_
 refine OL.zq S (Lf.run_eqlpn Try.underlying23 (S.ev rfl) (S.ev rfl)) fun _ S=>?_
 refine OL.zm S fun _ S=>?_
 refine OL.cutN 3 (fun aa ww=>St 40 ((10,Value.bool ((Option.isNone vh0) || (decide (i1<0)))) :: [(0,Value.pointer vh0),(1,Value.int .i64 i1),(5,Value.pointer vh0),(6,Value.bool (Option.isNone vh0)),(7,Value.bool (Option.isNone vh0))]) h w0 aa ww) ?_ ?_
 ·
  rcases Bool.eq_false_or_eq_true (Option.isNone vh0) with hb|hb
  ·
   refine OL.zn S (GNo.mk rfl rfl hb) fun _ S=>?_
   refine OL.zn S (GNo.mk rfl rfl hb) fun _ S=>?_
   refine OL.zq S (Lf.run_pickT (S.ev rfl) hb (S.ev rfl)) fun _ S=>?_
   refine OL.nil ?_
   exact (S.hd (by rw[hb,Bool.true_or])).sub _ ⟨rfl,rfl,rfl,rfl,rfl,rfl,trivial⟩
  ·
   refine OL.zm (hg:=GOk.mk rfl rfl hb) S fun _ S=>?_
   refine OL.zq (hg:=GOk.mk rfl rfl hb) S (Lf.run_lss (S.ev rfl) (S.ev rfl)) fun _ S=>?_
   refine OL.zq S (Lf.run_pickF (S.ev rfl) hb (S.ev rfl)) fun _ S=>?_
   refine OL.nil ?_
   exact (S.hd (by rw[hb,Bool.false_or])).sub _ ⟨rfl,rfl,rfl,rfl,rfl,rfl,trivial⟩
 ·
  clear S
  intro aa ww S
  refine OL.zm S fun _ S=>?_
  obtain⟨J,H,HK⟩:=H
  refine OL.cutN 8 (fun aa ww=>∃x19,St 40 ((19,Value.bool x19) :: [(0,Value.pointer vh0),(1,Value.int .i64 i1),(5,Value.pointer vh0),(6,Value.bool (Option.isNone vh0)),(7,Value.bool (Option.isNone vh0)),(10,Value.bool ((Option.isNone vh0) || (decide (i1<0)))),(11,Value.bool ((Option.isNone vh0) || (decide (i1<0))))]) h w0 aa ww∧J x19) ?_ ?_
  ·
   rcases Bool.eq_false_or_eq_true ((Option.isNone vh0) || (decide (i1<0))) with hb_1|hb_1
   ·
    replace H:=H.1 hb_1
    refine OL.zn S (GNo.mk rfl rfl hb_1) fun _ S=>?_
    refine OL.zn S (GNo.mk rfl rfl hb_1) fun _ S=>?_
    refine OL.zn S (GNo.mk rfl rfl hb_1) fun _ S=>?_
    refine OL.zn S (GNo.mk rfl rfl hb_1) fun _ S=>?_
    refine OL.zn S (GNo.mk rfl rfl hb_1) fun _ S=>?_
    refine OL.zn S (GNo.mk rfl rfl hb_1) fun _ S=>?_
    refine OL.zn S (GNo.mk rfl rfl hb_1) fun _ S=>?_
    refine OL.zq S (Lf.run_pickT (S.ev rfl) hb_1 (S.ev rfl)) fun _ S=>?_
    refine OL.nil ?_
    exact⟨_,S.sub _ ⟨rfl,rfl,rfl,rfl,rfl,rfl,rfl,rfl,trivial⟩,H⟩
   ·
    replace H:=H.2 hb_1
    refine OL.zm (hg:=GOk.mk rfl rfl hb_1) S fun _ S=>?_
    refine OL.zm (hg:=GOk.mk rfl rfl hb_1) S fun _ S=>?_
    obtain⟨p14,e,H⟩:=H
    refine OL.zq (hg:=GOk.mk rfl rfl hb_1) S (Lf.run_nc' (S.ev rfl) e) fun _ S=>?_
    refine OL.zf (hg:=GOk.mk rfl rfl hb_1) S fa74_0 fun _ S=>?_
    obtain⟨x16,c,H⟩:=H
    refine OL.zl (hg:=GOk.mk rfl rfl hb_1) S fl72 c fun _ S=>?_
    refine OL.zq (hg:=GOk.mk rfl rfl hb_1) S (Lf.run_lens (S.ev rfl) rfl Try.underlying72) fun _ S=>?_
    refine OL.zq (hg:=GOk.mk rfl rfl hb_1) S (Lf.run_geq (S.ev rfl) (S.ev rfl)) fun _ S=>?_
    refine OL.zq S (Lf.run_pickF (S.ev rfl) hb_1 (S.ev rfl)) fun _ S=>?_
    refine OL.nil ?_
    exact⟨_,S.sub _ ⟨rfl,rfl,rfl,rfl,rfl,rfl,rfl,rfl,trivial⟩,H⟩
  ·
   clear S
   rintro aa ww ⟨x19,S,HJ⟩
   replace H:=HK _ HJ
   clear HK HJ
   refine OL.zm S fun _ S=>?_
   obtain⟨J_1,H,HK_1⟩:=H
   refine OL.cutN 12 (fun aa ww=>∃x32,St 40 ((32,Value.bool x32) :: [(0,Value.pointer vh0),(1,Value.int .i64 i1),(5,Value.pointer vh0),(6,Value.bool (Option.isNone vh0)),(7,Value.bool (Option.isNone vh0)),(10,Value.bool ((Option.isNone vh0) || (decide (i1<0)))),(11,Value.bool ((Option.isNone vh0) || (decide (i1<0)))),(19,Value.bool x19),(20,Value.bool x19)]) h w0 aa ww∧J_1 x32) ?_ ?_
   ·
    rcases Bool.eq_false_or_eq_true x19 with hb_2|hb_2
    ·
     replace H:=H.1 hb_2
     refine OL.zn S (GNo.mk rfl rfl hb_2) fun _ S=>?_
     refine OL.zn S (GNo.mk rfl rfl hb_2) fun _ S=>?_
     refine OL.zn S (GNo.mk rfl rfl hb_2) fun _ S=>?_
     refine OL.zn S (GNo.mk rfl rfl hb_2) fun _ S=>?_
     refine OL.zn S (GNo.mk rfl rfl hb_2) fun _ S=>?_
     refine OL.zn S (GNo.mk rfl rfl hb_2) fun _ S=>?_
     refine OL.zn S (GNo.mk rfl rfl hb_2) fun _ S=>?_
     refine OL.zn S (GNo.mk rfl rfl hb_2) fun _ S=>?_
     refine OL.zn S (GNo.mk rfl rfl hb_2) fun _ S=>?_
     refine OL.zn S (GNo.mk rfl rfl hb_2) fun _ S=>?_
     refine OL.zn S (GNo.mk rfl rfl hb_2) fun _ S=>?_
     refine OL.zq S (Lf.run_pickT (S.ev rfl) hb_2 (S.ev rfl)) fun _ S=>?_
     refine OL.nil ?_
     exact⟨_,S.sub _ ⟨rfl,rfl,rfl,rfl,rfl,rfl,rfl,rfl,rfl,rfl,trivial⟩,H⟩
    ·
     replace H:=H.2 hb_2
     refine OL.zm (hg:=GOk.mk rfl rfl hb_2) S fun _ S=>?_
     obtain⟨p22,e_1,H⟩:=H
     refine OL.zq (hg:=GOk.mk rfl rfl hb_2) S (Lf.run_nc' (S.ev rfl) e_1) fun _ S=>?_
     refine OL.zf (hg:=GOk.mk rfl rfl hb_2) S fa74_0 fun _ S=>?_
     obtain⟨x24,c_1,H⟩:=H
     refine OL.zl (hg:=GOk.mk rfl rfl hb_2) S fl72 c_1 fun _ S=>?_
     refine OL.zm (hg:=GOk.mk rfl rfl hb_2) S fun _ S=>?_
     obtain⟨q26,e_2,e_3,e_4,H⟩:=H
     refine OL.zq (hg:=GOk.mk rfl rfl hb_2) S (Lf.run_ixs (S.ev rfl) (S.ev rfl) Try.underlying72 ti75 e_2 e_3 e_4) fun _ S=>?_
     obtain⟨x27,c_2,H⟩:=H
     refine OL.zl (hg:=GOk.mk rfl rfl hb_2) S fl75 c_2 fun _ S=>?_
     obtain⟨p28,e_5,H⟩:=H
     refine OL.zq (hg:=GOk.mk rfl rfl hb_2) S (Lf.run_nc' (S.ev rfl) e_5) fun _ S=>?_
     refine OL.zf (hg:=GOk.mk rfl rfl hb_2) S fa78_0 fun _ S=>?_
     obtain⟨x30,c_3,H⟩:=H
     refine OL.zl (hg:=GOk.mk rfl rfl hb_2) S fl4 c_3 fun _ S=>?_
     refine OL.zq (hg:=GOk.mk rfl rfl hb_2) S (Lf.run_not (S.ev rfl)) fun _ S=>?_
     refine OL.zq S (Lf.run_pickF (S.ev rfl) hb_2 (S.ev rfl)) fun _ S=>?_
     refine OL.nil ?_
     exact⟨_,S.sub _ ⟨rfl,rfl,rfl,rfl,rfl,rfl,rfl,rfl,rfl,rfl,trivial⟩,H⟩
   ·
    clear S
    rintro aa ww ⟨x32,S,HJ⟩
    replace H:=HK_1 _ HJ
    clear HK_1 HJ
    refine OL.nil ?_
    refine W.cond S (b:=x32) rfl (fun hb_3=>?_) (fun hb_3=>?_)
    ·
     replace H:=H.1 hb_3
     refine W.seq ?_
     refine W.region ?_
     refine OL.za S fun _ S=>?_
     refine OL.nil ?_
     refine W.ret ?_
     exact Ret.one S rfl rfl H
    ·
     replace H:=H.2 hb_3
     refine W.skip ?_
     refine W.seq ?_
     refine W.region ?_
     refine OL.zm S fun _ S=>?_
     obtain⟨p34,e_6,H⟩:=H
     refine OL.zq S (Lf.run_nc' (S.ev rfl) e_6) fun _ S=>?_
     refine OL.zf S fa74_0 fun _ S=>?_
     obtain⟨x36,c_4,H⟩:=H
     refine OL.zl S fl72 c_4 fun _ S=>?_
     refine OL.zm S fun _ S=>?_
     obtain⟨q38,e_7,e_8,e_9,H⟩:=H
     refine OL.zq S (Lf.run_ixs (S.ev rfl) (S.ev rfl) Try.underlying72 ti75 e_7 e_8 e_9) fun _ S=>?_
     obtain⟨x39,c_5,H⟩:=H
     refine OL.zl S fl75 c_5 fun _ S=>?_
     refine OL.za S fun _ S=>?_
     refine OL.nil ?_
     refine W.ret ?_
     exact Ret.one S rfl rfl H
def L32 (a0:Option Addr) (path1:Sv) (h:Heap) (R:Value→Heap→Prop):Prop:=
 nn a0 fun p10=>
 ∃(I:Option Addr→Int→Prop) (m:Option Addr→Int→Nat),I (some (p10.add 1)) 0∧∀v6 x14,I v6 x14 →
 ifb (decide (x14<((path1.n:Nat):Int))) (
  ixS path1 x14 fun q16=>
  ldI .i64 h (q16.add ((x14:Int).toNat*1)) fun x17=>
  nn v6 fun p20=>
  ldI .i64 h p20 fun x22=>
  ifb (x22 == 0) (
   R (.tuple #[Value.pointer none,Value.int .i64 3]) h) (
   nn v6 fun p26=>
   ldI .i64 h p26 fun x28=>
   ∃J:Bool→Prop,(orr ((x28 != 5) || (decide (x17<0))) (fun k=>
    nn v6 fun p37=>
    ldS h (p37.add 3) fun x39=>
    k (decide (((x39.n:Nat):Int)≤x17))) J)∧∀x42,J x42 →
   ifb x42 (
    R (.tuple #[Value.pointer none,Value.int .i64 4]) h) (
    nn v6 fun p44=>
    ldS h (p44.add 3) fun x46=>
    ixS x46 x17 fun q48=>
    I (some (q48.add ((x17:Int).toNat*7))) (IntKind.i64.wrap (x14+1))∧m (some (q48.add ((x17:Int).toNat*7))) (IntKind.i64.wrap (x14+1))<m v6 x14))) (
  R (.tuple #[Value.pointer v6,Value.int .i64 0]) h)
set_option maxRecDepth 100000 in
theorem F32 {a0 path1 h:_} {R:Value→Heap→Prop} (H:L32 a0 path1 h R):CallsH Try.prog 32 #[Value.pointer a0,Value.slice path1.a path1.n path1.c] h R:=by
 refine CallsH.enter (n:=51) Try.func32 rfl rfl rfl rfl ?_
 intro w0 aa ww S
 unfold L32 at H
 refine W.seq ?_
 refine W.region ?_
 refine OL.za S fun _ S=>?_
 refine OL.za S fun _ S=>?_
 refine OL.nil ?_
 refine W.seq ?_
 refine W.region ?_
 refine OL.zm S fun _ S=>?_
 obtain⟨p10,e,H⟩:=H
 refine OL.zq S (Lf.run_nc' (S.ev rfl) e) fun _ S=>?_
 refine OL.zf S fa78_1 fun _ S=>?_
 refine OL.za S fun _ S=>?_
 refine OL.nil ?_
 refine W.seq ?_
 refine W.seq ?_
 refine W.region ?_
 refine OL.zm S fun _ S=>?_
 refine OL.zq S (Lf.run_lens (S.ev rfl) rfl Try.underlying26) fun _ S=>?_
 refine OL.zm S fun _ S=>?_
 refine OL.nil ?_
 refine W.block ?_
 obtain⟨I,m,H,HB⟩:=H
 refine W.loopS (σ:=(Option Addr)×Int) (fun s aa ww=>St 51 [(6,Value.pointer s.1),(12,Value.slice path1.a path1.n path1.c),(13,Value.int .i64 ((path1.n:Nat):Int)),(14,Value.int .i64 s.2)] h w0 aa ww∧I s.1 s.2) (fun s=>m s.1 s.2) ((some (p10.add 1)),0) ⟨S.sub _ ⟨rfl,rfl,rfl,rfl,trivial⟩,H⟩ ?_
 clear H S
 rintro ⟨v6,x14⟩ aa ww ⟨S,HI⟩
 replace S:St 51 [(6,Value.pointer v6),(12,Value.slice path1.a path1.n path1.c),(13,Value.int .i64 ((path1.n:Nat):Int)),(14,Value.int .i64 x14)] h w0 aa ww:=S
 have H:=HB v6 x14 HI
 clear HI
 refine W.seq ?_
 refine W.region ?_
 refine OL.zq S (Lf.run_lss (S.ev rfl) (S.ev rfl)) fun _ S=>?_
 refine OL.nil ?_
 refine W.seq ?_
 refine W.cond S (b:=(decide (x14<((path1.n:Nat):Int)))) rfl (fun hb=>?_) (fun hb=>?_)
 ·
  replace H:=H.1 hb
  refine W.skip ?_
  refine W.seq ?_
  refine W.block ?_
  refine W.seq ?_
  refine W.region ?_
  obtain⟨q16,e_1,e_2,e_3,H⟩:=H
  refine OL.zq S (Lf.run_ixs (S.ev rfl) (S.ev rfl) Try.underlying26 ti3 e_1 e_2 e_3) fun _ S=>?_
  obtain⟨x17,c,H⟩:=H
  refine OL.zl S fl3 c fun _ S=>?_
  refine OL.za S fun _ S=>?_
  refine OL.nil ?_
  refine W.seq ?_
  refine W.block ?_
  refine W.seq ?_
  refine W.region ?_
  refine OL.zm S fun _ S=>?_
  obtain⟨p20,e_4,H⟩:=H
  refine OL.zq S (Lf.run_nc' (S.ev rfl) e_4) fun _ S=>?_
  refine OL.zf S fa33_0 fun _ S=>?_
  obtain⟨x22,c_1,H⟩:=H
  refine OL.zl S fl3 c_1 fun _ S=>?_
  refine OL.zq S (Lf.run_eql (S.ev rfl) (S.ev rfl)) fun _ S=>?_
  refine OL.za S fun _ S=>?_
  refine OL.nil ?_
  refine W.cond S (b:=(x22 == 0)) rfl (fun hb_1=>?_) (fun hb_1=>?_)
  ·
   replace H:=H.1 hb_1
   refine W.seq ?_
   refine W.region ?_
   refine OL.za S fun _ S=>?_
   refine OL.za S fun _ S=>?_
   refine OL.nil ?_
   refine W.ret ?_
   exact Ret.two S rfl rfl rfl H
  ·
   replace H:=H.2 hb_1
   refine W.seq ?_
   refine W.region ?_
   refine OL.zm S fun _ S=>?_
   obtain⟨p26,e_5,H⟩:=H
   refine OL.zq S (Lf.run_nc' (S.ev rfl) e_5) fun _ S=>?_
   refine OL.zf S fa33_0 fun _ S=>?_
   obtain⟨x28,c_2,H⟩:=H
   refine OL.zl S fl3 c_2 fun _ S=>?_
   refine OL.zq S (Lf.run_neq (S.ev rfl) (S.ev rfl)) fun _ S=>?_
   refine OL.zm S fun _ S=>?_
   refine OL.cutN 3 (fun aa ww=>St 51 ((33,Value.bool ((x28 != 5) || (decide (x17<0)))) :: [(6,Value.pointer v6),(8,Value.int .i64 x17),(12,Value.slice path1.a path1.n path1.c),(13,Value.int .i64 ((path1.n:Nat):Int)),(14,Value.int .i64 x14),(25,Value.pointer v6),(26,Value.pointer (some p26)),(27,Value.pointer (some p26)),(28,Value.int .i64 x28),(29,Value.bool (x28 != 5)),(30,Value.bool (x28 != 5))]) h w0 aa ww) ?_ ?_
   ·
    rcases Bool.eq_false_or_eq_true (x28 != 5) with hb_2|hb_2
    ·
     refine OL.zn S (GNo.mk rfl rfl hb_2) fun _ S=>?_
     refine OL.zn S (GNo.mk rfl rfl hb_2) fun _ S=>?_
     refine OL.zq S (Lf.run_pickT (S.ev rfl) hb_2 (S.ev rfl)) fun _ S=>?_
     refine OL.nil ?_
     exact (S.hd (by rw[hb_2,Bool.true_or])).sub _ ⟨rfl,rfl,rfl,rfl,rfl,rfl,rfl,rfl,rfl,rfl,rfl,rfl,trivial⟩
    ·
     refine OL.zm (hg:=GOk.mk rfl rfl hb_2) S fun _ S=>?_
     refine OL.zq (hg:=GOk.mk rfl rfl hb_2) S (Lf.run_lss (S.ev rfl) (S.ev rfl)) fun _ S=>?_
     refine OL.zq S (Lf.run_pickF (S.ev rfl) hb_2 (S.ev rfl)) fun _ S=>?_
     refine OL.nil ?_
     exact (S.hd (by rw[hb_2,Bool.false_or])).sub _ ⟨rfl,rfl,rfl,rfl,rfl,rfl,rfl,rfl,rfl,rfl,rfl,rfl,trivial⟩
   ·
    clear S
    intro aa ww S
    refine OL.zm S fun _ S=>?_
    obtain⟨J,H,HK⟩:=H
    refine OL.cutN 8 (fun aa ww=>∃x42,St 51 ((42,Value.bool x42) :: [(6,Value.pointer v6),(8,Value.int .i64 x17),(12,Value.slice path1.a path1.n path1.c),(13,Value.int .i64 ((path1.n:Nat):Int)),(14,Value.int .i64 x14),(25,Value.pointer v6),(26,Value.pointer (some p26)),(27,Value.pointer (some p26)),(28,Value.int .i64 x28),(29,Value.bool (x28 != 5)),(30,Value.bool (x28 != 5)),(33,Value.bool ((x28 != 5) || (decide (x17<0)))),(34,Value.bool ((x28 != 5) || (decide (x17<0))))]) h w0 aa ww∧J x42) ?_ ?_
    ·
     rcases Bool.eq_false_or_eq_true ((x28 != 5) || (decide (x17<0))) with hb_3|hb_3
     ·
      replace H:=H.1 hb_3
      refine OL.zn S (GNo.mk rfl rfl hb_3) fun _ S=>?_
      refine OL.zn S (GNo.mk rfl rfl hb_3) fun _ S=>?_
      refine OL.zn S (GNo.mk rfl rfl hb_3) fun _ S=>?_
      refine OL.zn S (GNo.mk rfl rfl hb_3) fun _ S=>?_
      refine OL.zn S (GNo.mk rfl rfl hb_3) fun _ S=>?_
      refine OL.zn S (GNo.mk rfl rfl hb_3) fun _ S=>?_
      refine OL.zn S (GNo.mk rfl rfl hb_3) fun _ S=>?_
      refine OL.zq S (Lf.run_pickT (S.ev rfl) hb_3 (S.ev rfl)) fun _ S=>?_
      refine OL.nil ?_
      exact⟨_,S.sub _ ⟨rfl,rfl,rfl,rfl,rfl,rfl,rfl,rfl,rfl,rfl,rfl,rfl,rfl,rfl,trivial⟩,H⟩
     ·
      replace H:=H.2 hb_3
      refine OL.zm (hg:=GOk.mk rfl rfl hb_3) S fun _ S=>?_
      refine OL.zm (hg:=GOk.mk rfl rfl hb_3) S fun _ S=>?_
      obtain⟨p37,e_6,H⟩:=H
      refine OL.zq (hg:=GOk.mk rfl rfl hb_3) S (Lf.run_nc' (S.ev rfl) e_6) fun _ S=>?_
      refine OL.zf (hg:=GOk.mk rfl rfl hb_3) S fa33_3 fun _ S=>?_
      obtain⟨x39,c_3,H⟩:=H
      refine OL.zl (hg:=GOk.mk rfl rfl hb_3) S fl31 c_3 fun _ S=>?_
      refine OL.zq (hg:=GOk.mk rfl rfl hb_3) S (Lf.run_lens (S.ev rfl) rfl Try.underlying31) fun _ S=>?_
      refine OL.zq (hg:=GOk.mk rfl rfl hb_3) S (Lf.run_geq (S.ev rfl) (S.ev rfl)) fun _ S=>?_
      refine OL.zq S (Lf.run_pickF (S.ev rfl) hb_3 (S.ev rfl)) fun _ S=>?_
      refine OL.nil ?_
      exact⟨_,S.sub _ ⟨rfl,rfl,rfl,rfl,rfl,rfl,rfl,rfl,rfl,rfl,rfl,rfl,rfl,rfl,trivial⟩,H⟩
    ·
     clear S
     rintro aa ww ⟨x42,S,HJ⟩
     replace H:=HK _ HJ
     clear HK HJ
     refine OL.za S fun _ S=>?_
     refine OL.nil ?_
     refine W.cond S (b:=x42) rfl (fun hb_4=>?_) (fun hb_4=>?_)
     ·
      replace H:=H.1 hb_4
      refine W.seq ?_
      refine W.region ?_
      refine OL.za S fun _ S=>?_
      refine OL.za S fun _ S=>?_
      refine OL.nil ?_
      refine W.ret ?_
      exact Ret.two S rfl rfl rfl H
     ·
      replace H:=H.2 hb_4
      refine W.skip ?_
      refine W.region ?_
      refine OL.zm S fun _ S=>?_
      obtain⟨p44,e_7,H⟩:=H
      refine OL.zq S (Lf.run_nc' (S.ev rfl) e_7) fun _ S=>?_
      refine OL.zf S fa33_3 fun _ S=>?_
      obtain⟨x46,c_4,H⟩:=H
      refine OL.zl S fl31 c_4 fun _ S=>?_
      refine OL.zm S fun _ S=>?_
      obtain⟨q48,e_8,e_9,e_10,H⟩:=H
      refine OL.zq S (Lf.run_ixs (S.ev rfl) (S.ev rfl) Try.underlying31 ti33 e_8 e_9 e_10) fun _ S=>?_
      refine OL.za S fun _ S=>?_
      refine OL.nil ?_
      refine W.region ?_
      refine OL.zq S (Lf.run_add (S.ev rfl) (S.ev rfl)) fun _ S=>?_
      refine OL.zm S fun _ S=>?_
      refine OL.nil ?_
      exact⟨((some (q48.add ((x17:Int).toNat*7))),(IntKind.i64.wrap (x14+1))),⟨S.sub _ ⟨rfl,rfl,rfl,rfl,trivial⟩,H.1⟩,H.2⟩
 ·
  replace H:=H.2 hb
  refine W.exit_ ?_
  refine xhit ?_
  refine W.seq ?_
  refine W.region ?_
  refine OL.zm S fun _ S=>?_
  refine OL.za S fun _ S=>?_
  refine OL.za S fun _ S=>?_
  refine OL.nil ?_
  refine W.ret ?_
  exact Ret.two S rfl rfl rfl H
def L44 (s0:Sv) (h:Heap) (R:Value→Heap→Prop):Prop:=
 ifb (Option.isNone s0.a) (
  R (Value.slice (⟨none,0,0⟩:Sv).a (⟨none,0,0⟩:Sv).n (⟨none,0,0⟩:Sv).c) h) (
  newS 33 #[] 0 h fun s5 h1=>
  appS 33 (Value.agg #[Value.int .i64 0,Value.int .u64 0,Value.string (⟨#[]⟩:ByteArray),Value.slice (⟨none,0,0⟩:Sv).a (⟨none,0,0⟩:Sv).n (⟨none,0,0⟩:Sv).c,Value.int .i64 0,Value.slice (⟨none,0,0⟩:Sv).a (⟨none,0,0⟩:Sv).n (⟨none,0,0⟩:Sv).c,Value.int .i64 0]).cells 7 96 h1 s5 s0 fun s7 h2=>
  R (Value.slice s7.a s7.n s7.c) h2)
set_option maxRecDepth 100000 in
theorem F44 {s0 h:_} {R:Value→Heap→Prop} (H:L44 s0 h R):CallsH Try.prog 44 #[Value.slice s0.a s0.n s0.c] h R:=by
 refine CallsH.enter (n:=8) Try.func44 rfl rfl rfl rfl ?_
 intro w0 aa ww S
 unfold L44 at H
 refine W.seq ?_
 refine W.region ?_
 refine OL.za S fun _ S=>?_
 refine OL.nil ?_
 refine W.seq ?_
 refine W.seq ?_
 refine W.region ?_
 refine OL.zm S fun _ S=>?_
 refine OL.zq S (Lf.run_eqlsn Try.underlying31 (S.ev rfl) (S.ev rfl)) fun _ S=>?_
 refine OL.nil ?_
 refine W.cond S (b:=(Option.isNone s0.a)) rfl (fun hb=>?_) (fun hb=>?_)
 ·
  replace H:=H.1 hb
  refine W.seq ?_
  refine W.region ?_
  refine OL.za S fun _ S=>?_
  refine OL.nil ?_
  refine W.ret ?_
  exact Ret.one S rfl rfl H
 ·
  replace H:=H.2 hb
  refine W.skip ?_
  refine W.seq ?_
  refine W.region ?_
  refine ol_newS0 S H Try.underlying31 ti33 rfl rfl trivial ?_
  clear S H;intro s5 aa ww h1 H S
  refine OL.zm S fun _ S=>?_
  refine ol_appS S H Try.underlying31 ti33 rfl rfl rfl trivial ?_
  clear S H;intro s7 aa ww h2 H S
  refine OL.za S fun _ S=>?_
  refine OL.nil ?_
  refine W.ret ?_
  exact Ret.one S rfl rfl H
def L45 (s0:Sv) (f1:Value) (h:Heap) (R:Value→Heap→Prop):Prop:=
 ∃(I:Int→Heap→Prop) (m:Int→Heap→Nat),I 0 h∧∀x8 h1,I x8 h1 →
 ifb (decide (x8<((s0.n:Nat):Int))) (
  ixS s0 x8 fun q14=>
  ∃(y15:Int) (y15_1:Sv) (y15_2:Bool),cl h1 (q14.add ((x8:Int).toNat*3))=some (Value.int .i64 y15)∧cl h1 ((q14.add ((x8:Int).toNat*3)).add 1)=some (Value.slice y15_1.a y15_1.n y15_1.c)∧cl h1 ((q14.add ((x8:Int).toNat*3)).add 2)=some (Value.bool y15_2) ∧
  calV Try.prog f1 #[Value.agg #[Value.int .i64 y15,Value.slice y15_1.a y15_1.n y15_1.c,Value.bool y15_2]] h1 fun u h2=>asB u fun x16=>
  ifb x16 (
   R (Value.int .i64 x8) h2) (
   I (IntKind.i64.wrap (x8+1)) h2∧m (IntKind.i64.wrap (x8+1)) h2<m x8 h1)) (
  R (Value.int .i64 (-1)) h1)
set_option maxRecDepth 100000 in
theorem F45 {s0 f1 h:_} {R:Value→Heap→Prop} (H:L45 s0 f1 h R):CallsH Try.prog 45 #[Value.slice s0.a s0.n s0.c,f1] h R:=by
 refine CallsH.enter (n:=19) Try.func45 rfl rfl rfl rfl ?_
 intro w0 aa ww S
 unfold L45 at H
 refine W.seq ?_
 refine W.region ?_
 refine OL.za S fun _ S=>?_
 refine OL.nil ?_
 refine W.seq ?_
 refine W.seq ?_
 refine W.region ?_
 refine OL.zm S fun _ S=>?_
 refine OL.zq S (Lf.run_lens (S.ev rfl) rfl Try.underlying69) fun _ S=>?_
 refine OL.zm S fun _ S=>?_
 refine OL.nil ?_
 refine W.block ?_
 obtain⟨I,m,H,HB⟩:=H
 refine W.loopS (σ:=Int×Heap) (fun s aa ww=>St 19 [(0,Value.slice s0.a s0.n s0.c),(1,f1),(7,Value.int .i64 ((s0.n:Nat):Int)),(8,Value.int .i64 s.1)] s.2 w0 aa ww∧I s.1 s.2) (fun s=>m s.1 s.2) (0,h) ⟨S.sub _ ⟨rfl,rfl,rfl,rfl,trivial⟩,H⟩ ?_
 clear H S
 rintro ⟨x8,h1⟩ aa ww ⟨S,HI⟩
 replace S:St 19 [(0,Value.slice s0.a s0.n s0.c),(1,f1),(7,Value.int .i64 ((s0.n:Nat):Int)),(8,Value.int .i64 x8)] h1 w0 aa ww:=S
 have H:=HB x8 h1 HI
 clear HI
 refine W.seq ?_
 refine W.region ?_
 refine OL.zq S (Lf.run_lss (S.ev rfl) (S.ev rfl)) fun _ S=>?_
 refine OL.nil ?_
 refine W.seq ?_
 refine W.cond S (b:=(decide (x8<((s0.n:Nat):Int)))) rfl (fun hb=>?_) (fun hb=>?_)
 ·
  replace H:=H.1 hb
  refine W.skip ?_
  refine W.seq ?_
  refine W.block ?_
  refine W.seq ?_
  refine W.region ?_
  refine OL.zm S fun _ S=>?_
  refine OL.za S fun _ S=>?_
  refine OL.nil ?_
  refine W.seq ?_
  refine W.region ?_
  refine OL.zm S fun _ S=>?_
  refine OL.zm S fun _ S=>?_
  refine OL.zm S fun _ S=>?_
  obtain⟨q14,e,e_1,e_2,H⟩:=H
  refine OL.zq S (Lf.run_ixs (S.ev rfl) (S.ev rfl) Try.underlying69 ti80 e e_1 e_2) fun _ S=>?_
  obtain⟨y15,y15_1,y15_2,c_1,c_2,c_3,H⟩:=H
  refine OL.zq S (Lf.run_ldA (cs:=[Value.int .i64 y15,Value.slice y15_1.a y15_1.n y15_1.c,Value.bool y15_2]) (S.ev rfl) ag80 ti80 (by rw[S.heap];exact RowL.toRow ⟨c_1,c_2,c_3,trivial⟩)) fun _ S=>?_
  refine ol_calV S H rfl rfl rfl trivial ?_
  clear S H;intro u aa ww h2 H S
  obtain⟨x16,rfl,H⟩:=H
  refine OL.nil ?_
  refine W.cond S (b:=x16) rfl (fun hb_1=>?_) (fun hb_1=>?_)
  ·
   replace H:=H.1 hb_1
   refine W.seq ?_
   refine W.region ?_
   refine OL.zm S fun _ S=>?_
   refine OL.za S fun _ S=>?_
   refine OL.nil ?_
   refine W.ret ?_
   exact Ret.one S rfl rfl H
  ·
   replace H:=H.2 hb_1
   refine W.skip ?_
   refine W.region ?_
   refine OL.zq S (Lf.run_add (S.ev rfl) (S.ev rfl)) fun _ S=>?_
   refine OL.zm S fun _ S=>?_
   refine OL.nil ?_
   exact⟨((IntKind.i64.wrap (x8+1)),h2),⟨S.sub _ ⟨rfl,rfl,rfl,rfl,trivial⟩,H.1⟩,H.2⟩
 ·
  replace H:=H.2 hb
  refine W.exit_ ?_
  refine xhit ?_
  refine W.seq ?_
  refine W.region ?_
  refine OL.za S fun _ S=>?_
  refine OL.nil ?_
  refine W.ret ?_
  exact Ret.one S rfl rfl H
def L46 (x0:Int) (x0_1:Sv) (x0_2:Bool) (x1:Addr) (h:Heap) (R:Value→Heap→Prop):Prop:=
 new 80 #[Value.int .i64 x0,Value.slice x0_1.a x0_1.n x0_1.c,Value.bool x0_2] h fun p2 h1=>
 ldI .i64 h1 p2 fun x5=>
 ldI .i64 h1 (x1.add 2) fun x7=>
 R (Value.bool (x5 == x7)) h1
set_option maxRecDepth 100000 in
theorem F46 {x0 x0_1 x0_2 x1 h:_} {R:Value→Heap→Prop} (H:L46 x0 x0_1 x0_2 x1 h R):CallsH Try.prog 46 #[Value.agg #[Value.int .i64 x0,Value.slice x0_1.a x0_1.n x0_1.c,Value.bool x0_2],Value.pointer (some x1)] h R:=by
 refine CallsH.enter (n:=9) Try.func46 rfl rfl rfl rfl ?_
 intro w0 aa ww S
 unfold L46 at H
 refine W.seq ?_
 refine W.region ?_
 refine ol_box S H rfl rfl rfl trivial ?_
 clear S H;intro p2 aa ww h1 H S
 refine OL.za S fun _ S=>?_
 refine OL.nil ?_
 refine W.seq ?_
 refine W.region ?_
 refine OL.zf S fa80_0 fun _ S=>?_
 obtain⟨x5,c,H⟩:=H
 refine OL.zl S fl3 c fun _ S=>?_
 refine OL.zf S fa28_2 fun _ S=>?_
 obtain⟨x7,c_1,H⟩:=H
 refine OL.zl S fl3 c_1 fun _ S=>?_
 refine OL.zq S (Lf.run_eql (S.ev rfl) (S.ev rfl)) fun _ S=>?_
 refine OL.za S fun _ S=>?_
 refine OL.nil ?_
 refine W.ret ?_
 exact Ret.one S rfl rfl H
def L47 (a0:Sv) (b1:Sv) (h:Heap) (R:Value→Heap→Prop):Prop:=
 ∃J:Bool→Heap→Prop,(andj (decide (((a0.n:Nat):Int)≤((b1.n:Nat):Int))) (fun k=>
  slS b1 1 0 ((a0.n:Nat):Int) fun s15=>
  cal Try.prog 58 #[Value.slice a0.a a0.n a0.c,Value.slice s15.a s15.n s15.c] h fun u h2=>asB u fun x16=>
  k x16 h2) h J)∧∀x17 h1,J x17 h1 →
 R (Value.bool x17) h1
set_option maxRecDepth 100000 in
theorem F47 {a0 b1 h:_} {R:Value→Heap→Prop} (H:L47 a0 b1 h R):CallsH Try.prog 47 #[Value.slice a0.a a0.n a0.c,Value.slice b1.a b1.n b1.c] h R:=by
 refine CallsH.enter (n:=18) Try.func47 rfl rfl rfl rfl ?_
 intro w0 aa ww S
 unfold L47 at H
 refine W.seq ?_
 refine W.region ?_
 refine OL.za S fun _ S=>?_
 refine OL.nil ?_
 refine W.seq ?_
 refine W.region ?_
 refine OL.zm S fun _ S=>?_
 refine OL.zq S (Lf.run_lens (S.ev rfl) rfl Try.underlying26) fun _ S=>?_
 refine OL.zm S fun _ S=>?_
 refine OL.zq S (Lf.run_lens (S.ev rfl) rfl Try.underlying26) fun _ S=>?_
 refine OL.zq S (Lf.run_leq (S.ev rfl) (S.ev rfl)) fun _ S=>?_
 refine OL.zm S fun _ S=>?_
 obtain⟨J,H,HK⟩:=H
 refine OL.cutN 7 (fun aa ww=>∃x17 h1,St 18 ((17,Value.bool x17) :: [(0,Value.slice a0.a a0.n a0.c),(1,Value.slice b1.a b1.n b1.c),(5,Value.slice a0.a a0.n a0.c),(6,Value.int .i64 ((a0.n:Nat):Int)),(7,Value.slice b1.a b1.n b1.c),(8,Value.int .i64 ((b1.n:Nat):Int)),(9,Value.bool (decide (((a0.n:Nat):Int)≤((b1.n:Nat):Int)))),(10,Value.bool (decide (((a0.n:Nat):Int)≤((b1.n:Nat):Int))))]) h1 w0 aa ww∧J x17 h1) ?_ ?_
 ·
  rcases Bool.eq_false_or_eq_true (decide (((a0.n:Nat):Int)≤((b1.n:Nat):Int))) with hb|hb
  ·
   replace H:=H.1 hb
   refine OL.zm (hg:=GOk.mk rfl rfl hb) S fun _ S=>?_
   refine OL.zm (hg:=GOk.mk rfl rfl hb) S fun _ S=>?_
   refine OL.zm (hg:=GOk.mk rfl rfl hb) S fun _ S=>?_
   refine OL.zq (hg:=GOk.mk rfl rfl hb) S (Lf.run_lens (S.ev rfl) rfl Try.underlying26) fun _ S=>?_
   obtain⟨s15,c,c_1,c_2,c_3,H⟩:=slS_ex H
   refine OL.zq (hg:=GOk.mk rfl rfl hb) S (Lf.run_slNS Try.underlying26 ti3 (S.ev rfl) (S.ev rfl) c_1 c_2 c_3) fun _ S=>?_
   refine ol_cal S H isfn58 rfl rfl (GOk.mk rfl rfl hb) ?_
   clear S H;intro u aa ww h2 H S
   obtain⟨x16,rfl,H⟩:=H
   refine OL.zq S (Lf.run_pickT (S.ev rfl) hb (S.ev rfl)) fun _ S=>?_
   refine OL.nil ?_
   exact⟨_,_,S.sub _ ⟨rfl,rfl,rfl,rfl,rfl,rfl,rfl,rfl,rfl,trivial⟩,H⟩
  ·
   replace H:=H.2 hb
   refine OL.zn S (GNo.mk rfl rfl hb) fun _ S=>?_
   refine OL.zn S (GNo.mk rfl rfl hb) fun _ S=>?_
   refine OL.zn S (GNo.mk rfl rfl hb) fun _ S=>?_
   refine OL.zn S (GNo.mk rfl rfl hb) fun _ S=>?_
   refine OL.zn S (GNo.mk rfl rfl hb) fun _ S=>?_
   refine OL.zn S (GNo.mk rfl rfl hb) fun _ S=>?_
   refine OL.zq S (Lf.run_pickF (S.ev rfl) hb (S.ev rfl)) fun _ S=>?_
   refine OL.nil ?_
   exact⟨_,_,S.sub _ ⟨rfl,rfl,rfl,rfl,rfl,rfl,rfl,rfl,rfl,trivial⟩,H⟩
 ·
  clear S
  rintro aa ww ⟨x17,h1,S,HJ⟩
  replace H:=HK _ _ HJ
  clear HK HJ
  refine OL.za S fun _ S=>?_
  refine OL.nil ?_
  refine W.ret ?_
  exact Ret.one S rfl rfl H
def L48 (a0:Sv) (b1:Sv) (h:Heap) (R:Value→Heap→Prop):Prop:=
 cal Try.prog 47 #[Value.slice a0.a a0.n a0.c,Value.slice b1.a b1.n b1.c] h fun u h1=>asB u fun x7=>
 ∃J:Bool→Heap→Prop,(orj x7 (fun k=>
  cal Try.prog 47 #[Value.slice b1.a b1.n b1.c,Value.slice a0.a a0.n a0.c] h1 fun u_1 h3=>asB u_1 fun x11=>
  k x11 h3) h1 J)∧∀x12 h2,J x12 h2 →
 R (Value.bool x12) h2
set_option maxRecDepth 100000 in
theorem F48 {a0 b1 h:_} {R:Value→Heap→Prop} (H:L48 a0 b1 h R):CallsH Try.prog 48 #[Value.slice a0.a a0.n a0.c,Value.slice b1.a b1.n b1.c] h R:=by
 refine CallsH.enter (n:=13) Try.func48 rfl rfl rfl rfl ?_
 intro w0 aa ww S
 unfold L48 at H
 refine W.seq ?_
 refine W.region ?_
 refine OL.za S fun _ S=>?_
 refine OL.nil ?_
 refine W.seq ?_
 refine W.region ?_
 refine OL.zm S fun _ S=>?_
 refine OL.zm S fun _ S=>?_
 refine ol_cal S H isfn47 rfl rfl trivial ?_
 clear S H;intro u aa ww h1 H S
 obtain⟨x7,rfl,H⟩:=H
 refine OL.zm S fun _ S=>?_
 obtain⟨J,H,HK⟩:=H
 refine OL.cutN 4 (fun aa ww=>∃x12 h2,St 13 ((12,Value.bool x12) :: [(0,Value.slice a0.a a0.n a0.c),(1,Value.slice b1.a b1.n b1.c),(5,Value.slice a0.a a0.n a0.c),(6,Value.slice b1.a b1.n b1.c),(7,Value.bool x7),(8,Value.bool x7)]) h2 w0 aa ww∧J x12 h2) ?_ ?_
 ·
  rcases Bool.eq_false_or_eq_true x7 with hb|hb
  ·
   replace H:=H.1 hb
   refine OL.zn S (GNo.mk rfl rfl hb) fun _ S=>?_
   refine OL.zn S (GNo.mk rfl rfl hb) fun _ S=>?_
   refine OL.zn S (GNo.mk rfl rfl hb) fun _ S=>?_
   refine OL.zq S (Lf.run_pickT (S.ev rfl) hb (S.ev rfl)) fun _ S=>?_
   refine OL.nil ?_
   exact⟨_,_,S.sub _ ⟨rfl,rfl,rfl,rfl,rfl,rfl,rfl,trivial⟩,H⟩
  ·
   replace H:=H.2 hb
   refine OL.zm (hg:=GOk.mk rfl rfl hb) S fun _ S=>?_
   refine OL.zm (hg:=GOk.mk rfl rfl hb) S fun _ S=>?_
   refine ol_cal S H isfn47 rfl rfl (GOk.mk rfl rfl hb) ?_
   clear S H;intro u_1 aa ww h3 H S
   obtain⟨x11,rfl,H⟩:=H
   refine OL.zq S (Lf.run_pickF (S.ev rfl) hb (S.ev rfl)) fun _ S=>?_
   refine OL.nil ?_
   exact⟨_,_,S.sub _ ⟨rfl,rfl,rfl,rfl,rfl,rfl,rfl,trivial⟩,H⟩
 ·
  clear S
  rintro aa ww ⟨x12,h2,S,HJ⟩
  replace H:=HK _ _ HJ
  clear HK HJ
  refine OL.za S fun _ S=>?_
  refine OL.nil ?_
  refine W.ret ?_
  exact Ret.one S rfl rfl H
def L49 (v0:Int) (v0_1:Int) (v0_2:ByteArray) (v0_3:Sv) (v0_4:Int) (v0_5:Sv) (v0_6:Int) (h:Heap) (R:Value→Heap→Prop):Prop:=
 new 33 #[Value.int .i64 v0,Value.int .u64 v0_1,Value.string v0_2,Value.slice v0_3.a v0_3.n v0_3.c,Value.int .i64 v0_4,Value.slice v0_5.a v0_5.n v0_5.c,Value.int .i64 v0_6] h fun p1 h1=>
 ldI .i64 h1 p1 fun x4=>
 ∃J:Bool→Heap→Prop,(andj (x4 != 0) (fun k=>
  ldS h1 (p1.add 3) fun x8=>
  cal Try.prog 59 #[Value.slice x8.a x8.n x8.c,(Value.func (.func 60) #[] #[])] h1 fun u h3=>asB u fun x9=>
  k (!x9) h3) h1 J)∧∀x11 h2,J x11 h2 →
 R (Value.bool x11) h2
set_option maxRecDepth 100000 in
theorem F49 {v0 v0_1 v0_2 v0_3 v0_4 v0_5 v0_6 h:_} {R:Value→Heap→Prop} (H:L49 v0 v0_1 v0_2 v0_3 v0_4 v0_5 v0_6 h R):CallsH Try.prog 49 #[Value.agg #[Value.int .i64 v0,Value.int .u64 v0_1,Value.string v0_2,Value.slice v0_3.a v0_3.n v0_3.c,Value.int .i64 v0_4,Value.slice v0_5.a v0_5.n v0_5.c,Value.int .i64 v0_6]] h R:=by
 refine CallsH.enter (n:=12) Try.func49 rfl rfl rfl rfl ?_
 intro w0 aa ww S
 unfold L49 at H
 refine W.seq ?_
 refine W.region ?_
 refine ol_box S H rfl rfl rfl trivial ?_
 clear S H;intro p1 aa ww h1 H S
 refine OL.za S fun _ S=>?_
 refine OL.nil ?_
 refine W.seq ?_
 refine W.region ?_
 refine OL.zf S fa33_0 fun _ S=>?_
 obtain⟨x4,c,H⟩:=H
 refine OL.zl S fl3 c fun _ S=>?_
 refine OL.zq S (Lf.run_neq (S.ev rfl) (S.ev rfl)) fun _ S=>?_
 refine OL.zm S fun _ S=>?_
 obtain⟨J,H,HK⟩:=H
 refine OL.cutN 5 (fun aa ww=>∃x11 h2,St 12 ((11,Value.bool x11) :: [(1,Value.pointer (some p1)),(3,Value.pointer (some p1)),(4,Value.int .i64 x4),(5,Value.bool (x4 != 0)),(6,Value.bool (x4 != 0))]) h2 w0 aa ww∧J x11 h2) ?_ ?_
 ·
  rcases Bool.eq_false_or_eq_true (x4 != 0) with hb|hb
  ·
   replace H:=H.1 hb
   refine OL.zf (hg:=GOk.mk rfl rfl hb) S fa33_3 fun _ S=>?_
   obtain⟨x8,c_1,H⟩:=H
   refine OL.zl (hg:=GOk.mk rfl rfl hb) S fl31 c_1 fun _ S=>?_
   refine ol_cal S H isfn59 rfl rfl (GOk.mk rfl rfl hb) ?_
   clear S H;intro u aa ww h3 H S
   obtain⟨x9,rfl,H⟩:=H
   refine OL.zq (hg:=GOk.mk rfl rfl hb) S (Lf.run_not (S.ev rfl)) fun _ S=>?_
   refine OL.zq S (Lf.run_pickT (S.ev rfl) hb (S.ev rfl)) fun _ S=>?_
   refine OL.nil ?_
   exact⟨_,_,S.sub _ ⟨rfl,rfl,rfl,rfl,rfl,rfl,trivial⟩,H⟩
  ·
   replace H:=H.2 hb
   refine OL.zn S (GNo.mk rfl rfl hb) fun _ S=>?_
   refine OL.zn S (GNo.mk rfl rfl hb) fun _ S=>?_
   refine OL.zn S (GNo.mk rfl rfl hb) fun _ S=>?_
   refine OL.zn S (GNo.mk rfl rfl hb) fun _ S=>?_
   refine OL.zq S (Lf.run_pickF (S.ev rfl) hb (S.ev rfl)) fun _ S=>?_
   refine OL.nil ?_
   exact⟨_,_,S.sub _ ⟨rfl,rfl,rfl,rfl,rfl,rfl,trivial⟩,H⟩
 ·
  clear S
  rintro aa ww ⟨x11,h2,S,HJ⟩
  replace H:=HK _ _ HJ
  clear HK HJ
  refine OL.za S fun _ S=>?_
  refine OL.nil ?_
  refine W.ret ?_
  exact Ret.one S rfl rfl H
def L58 (s10:Sv) (s21:Sv) (h:Heap) (R:Value→Heap→Prop):Prop:=
 ifb (((s10.n:Nat):Int) != ((s21.n:Nat):Int)) (
  R (Value.bool false) h) (
  ∃(I:Int→Prop) (m:Int→Nat),I 0∧∀x13,I x13 →
  ifb (decide (x13<((s10.n:Nat):Int))) (
   ixS s10 x13 fun q18=>
   ldI .i64 h (q18.add ((x13:Int).toNat*1)) fun x19=>
   ixS s21 x13 fun q22=>
   ldI .i64 h (q22.add ((x13:Int).toNat*1)) fun x23=>
   ifb (x19 != x23) (
    R (Value.bool false) h) (
    I (IntKind.i64.wrap (x13+1))∧m (IntKind.i64.wrap (x13+1))<m x13)) (
   R (Value.bool true) h))
set_option maxRecDepth 100000 in
theorem F58 {s10 s21 h:_} {R:Value→Heap→Prop} (H:L58 s10 s21 h R):CallsH Try.prog 58 #[Value.slice s10.a s10.n s10.c,Value.slice s21.a s21.n s21.c] h R:=by
 refine CallsH.enter (n:=26) Try.func58 rfl rfl rfl rfl ?_
 intro w0 aa ww S
 unfold L58 at H
 refine W.seq ?_
 refine W.region ?_
 refine OL.za S fun _ S=>?_
 refine OL.nil ?_
 refine W.seq ?_
 refine W.seq ?_
 refine W.region ?_
 refine OL.zm S fun _ S=>?_
 refine OL.zq S (Lf.run_lens (S.ev rfl) rfl Try.underlying26) fun _ S=>?_
 refine OL.zm S fun _ S=>?_
 refine OL.zq S (Lf.run_lens (S.ev rfl) rfl Try.underlying26) fun _ S=>?_
 refine OL.zq S (Lf.run_neq (S.ev rfl) (S.ev rfl)) fun _ S=>?_
 refine OL.nil ?_
 refine W.cond S (b:=(((s10.n:Nat):Int) != ((s21.n:Nat):Int))) rfl (fun hb=>?_) (fun hb=>?_)
 ·
  replace H:=H.1 hb
  refine W.seq ?_
  refine W.region ?_
  refine OL.za S fun _ S=>?_
  refine OL.nil ?_
  refine W.ret ?_
  exact Ret.one S rfl rfl H
 ·
  replace H:=H.2 hb
  refine W.skip ?_
  refine W.seq ?_
  refine W.seq ?_
  refine W.region ?_
  refine OL.zm S fun _ S=>?_
  refine OL.zq S (Lf.run_lens (S.ev rfl) rfl Try.underlying26) fun _ S=>?_
  refine OL.zm S fun _ S=>?_
  refine OL.nil ?_
  refine W.block ?_
  obtain⟨I,m,H,HB⟩:=H
  refine W.loopS (σ:=Int) (fun s aa ww=>St 26 [(0,Value.slice s10.a s10.n s10.c),(1,Value.slice s21.a s21.n s21.c),(12,Value.int .i64 ((s10.n:Nat):Int)),(13,Value.int .i64 s)] h w0 aa ww∧I s) (fun s=>m s) (0) ⟨S.sub _ ⟨rfl,rfl,rfl,rfl,trivial⟩,H⟩ ?_
  clear H S
  rintro x13 aa ww ⟨S,HI⟩
  replace S:St 26 [(0,Value.slice s10.a s10.n s10.c),(1,Value.slice s21.a s21.n s21.c),(12,Value.int .i64 ((s10.n:Nat):Int)),(13,Value.int .i64 x13)] h w0 aa ww:=S
  have H:=HB x13 HI
  clear HI
  refine W.seq ?_
  refine W.region ?_
  refine OL.zq S (Lf.run_lss (S.ev rfl) (S.ev rfl)) fun _ S=>?_
  refine OL.nil ?_
  refine W.seq ?_
  refine W.cond S (b:=(decide (x13<((s10.n:Nat):Int)))) rfl (fun hb_1=>?_) (fun hb_1=>?_)
  ·
   replace H:=H.1 hb_1
   refine W.skip ?_
   refine W.seq ?_
   refine W.block ?_
   refine W.seq ?_
   refine W.region ?_
   refine OL.zm S fun _ S=>?_
   refine OL.za S fun _ S=>?_
   refine OL.nil ?_
   refine W.seq ?_
   replace S:=S.sub [(0,Value.slice s10.a s10.n s10.c),(1,Value.slice s21.a s21.n s21.c),(5,Value.int .i64 x13),(12,Value.int .i64 ((s10.n:Nat):Int)),(13,Value.int .i64 x13)] ⟨rfl,rfl,rfl,rfl,rfl,trivial⟩
   refine W.regionD S (by kernel_rfl) ?_
   clear S;intro ww S
   refine AN.zq 0 S rfl (fun _=>Lf.run_move (S.ev rfl)) fun _ S=>?_
   refine AN.zq 1 S rfl (fun _=>Lf.run_move (S.ev rfl)) fun _ S=>?_
   obtain⟨q18,e,e_1,e_2,H⟩:=H
   refine AN.zq 2 S rfl (fun _=>Lf.run_ixs (S.ev rfl) (S.ev rfl) Try.underlying26 ti3 e e_1 e_2) fun _ S=>?_
   obtain⟨x19,c,H⟩:=H
   refine AN.zl 3 S rfl (fun _ hx=>Lf.run_ld (S.ev rfl) fl3 (hx.cell _ _ (S.cl c))) fun _ S=>?_
   refine AN.zq 4 S rfl (fun _=>Lf.run_move (S.ev rfl)) fun _ S=>?_
   refine AN.zq 5 S rfl (fun _=>Lf.run_move (S.ev rfl)) fun _ S=>?_
   obtain⟨q22,e_3,e_4,e_5,H⟩:=H
   refine AN.zq 6 S rfl (fun _=>Lf.run_ixs (S.ev rfl) (S.ev rfl) Try.underlying26 ti3 e_3 e_4 e_5) fun _ S=>?_
   obtain⟨x23,c_1,H⟩:=H
   refine AN.zl 7 S rfl (fun _ hx=>Lf.run_ld (S.ev rfl) fl3 (hx.cell _ _ (S.cl c_1))) fun _ S=>?_
   refine AN.zq 8 S rfl (fun _=>Lf.run_neq (S.ev rfl) (S.ev rfl)) fun _ S=>?_
   refine AN.done (by kernel_rfl) ?_
   refine W.cond S (b:=(x19 != x23)) rfl (fun hb_2=>?_) (fun hb_2=>?_)
   ·
    replace H:=H.1 hb_2
    refine W.seq ?_
    refine W.region ?_
    refine OL.za S fun _ S=>?_
    refine OL.nil ?_
    refine W.ret ?_
    exact Ret.one S rfl rfl H
   ·
    replace H:=H.2 hb_2
    refine W.skip ?_
    refine W.region ?_
    refine OL.zq S (Lf.run_add (S.ev rfl) (S.ev rfl)) fun _ S=>?_
    refine OL.zm S fun _ S=>?_
    refine OL.nil ?_
    exact⟨((IntKind.i64.wrap (x13+1))),⟨S.sub _ ⟨rfl,rfl,rfl,rfl,trivial⟩,H.1⟩,H.2⟩
  ·
   replace H:=H.2 hb_1
   refine W.exit_ ?_
   refine xhit ?_
   refine W.seq ?_
   refine W.region ?_
   refine OL.za S fun _ S=>?_
   refine OL.nil ?_
   refine W.ret ?_
   exact Ret.one S rfl rfl H
def L59 (s0:Sv) (f1:Value) (h:Heap) (R:Value→Heap→Prop):Prop:=
 cal Try.prog 63 #[Value.slice s0.a s0.n s0.c,f1] h fun u h1=>asI .i64 u fun x7=>
 R (Value.bool (decide (0≤x7))) h1
set_option maxRecDepth 100000 in
theorem F59 {s0 f1 h:_} {R:Value→Heap→Prop} (H:L59 s0 f1 h R):CallsH Try.prog 59 #[Value.slice s0.a s0.n s0.c,f1] h R:=by
 refine CallsH.enter (n:=9) Try.func59 rfl rfl rfl rfl ?_
 intro w0 aa ww S
 unfold L59 at H
 refine W.seq ?_
 refine W.region ?_
 refine OL.za S fun _ S=>?_
 refine OL.nil ?_
 refine W.seq ?_
 refine W.region ?_
 refine OL.zm S fun _ S=>?_
 refine OL.zm S fun _ S=>?_
 refine ol_cal S H isfn63 rfl rfl trivial ?_
 clear S H;intro u aa ww h1 H S
 obtain⟨x7,rfl,H⟩:=H
 refine OL.zq S (Lf.run_geq (S.ev rfl) (S.ev rfl)) fun _ S=>?_
 refine OL.za S fun _ S=>?_
 refine OL.nil ?_
 refine W.ret ?_
 exact Ret.one S rfl rfl H
def L60 (x0:Int) (x0_1:Int) (x0_2:ByteArray) (x0_3:Sv) (x0_4:Int) (x0_5:Sv) (x0_6:Int) (h:Heap) (R:Value→Heap→Prop):Prop:=
 new 33 #[Value.int .i64 x0,Value.int .u64 x0_1,Value.string x0_2,Value.slice x0_3.a x0_3.n x0_3.c,Value.int .i64 x0_4,Value.slice x0_5.a x0_5.n x0_5.c,Value.int .i64 x0_6] h fun p1 h1=>
 ∃(y3:Int) (y3_1:Int) (y3_2:ByteArray) (y3_3:Sv) (y3_4:Int) (y3_5:Sv) (y3_6:Int),cl h1 p1=some (Value.int .i64 y3)∧cl h1 (p1.add 1)=some (Value.int .u64 y3_1)∧cl h1 (p1.add 2)=some (Value.string y3_2)∧cl h1 (p1.add 3)=some (Value.slice y3_3.a y3_3.n y3_3.c)∧cl h1 (p1.add 4)=some (Value.int .i64 y3_4)∧cl h1 (p1.add 5)=some (Value.slice y3_5.a y3_5.n y3_5.c)∧cl h1 (p1.add 6)=some (Value.int .i64 y3_6) ∧
 cal Try.prog 49 #[Value.agg #[Value.int .i64 y3,Value.int .u64 y3_1,Value.string y3_2,Value.slice y3_3.a y3_3.n y3_3.c,Value.int .i64 y3_4,Value.slice y3_5.a y3_5.n y3_5.c,Value.int .i64 y3_6]] h1 fun u h2=>asB u fun x4=>
 R (Value.bool (!x4)) h2
set_option maxRecDepth 100000 in
theorem F60 {x0 x0_1 x0_2 x0_3 x0_4 x0_5 x0_6 h:_} {R:Value→Heap→Prop} (H:L60 x0 x0_1 x0_2 x0_3 x0_4 x0_5 x0_6 h R):CallsH Try.prog 60 #[Value.agg #[Value.int .i64 x0,Value.int .u64 x0_1,Value.string x0_2,Value.slice x0_3.a x0_3.n x0_3.c,Value.int .i64 x0_4,Value.slice x0_5.a x0_5.n x0_5.c,Value.int .i64 x0_6]] h R:=by
 refine CallsH.enter (n:=6) Try.func60 rfl rfl rfl rfl ?_
 intro w0 aa ww S
 unfold L60 at H
 refine W.seq ?_
 refine W.region ?_
 refine ol_box S H rfl rfl rfl trivial ?_
 clear S H;intro p1 aa ww h1 H S
 refine OL.za S fun _ S=>?_
 refine OL.nil ?_
 refine W.seq ?_
 refine W.region ?_
 obtain⟨y3,y3_1,y3_2,y3_3,y3_4,y3_5,y3_6,c_1,c_2,c_3,c_4,c_5,c_6,c_7,H⟩:=H
 refine OL.zq S (Lf.run_ldA (cs:=[Value.int .i64 y3,Value.int .u64 y3_1,Value.string y3_2,Value.slice y3_3.a y3_3.n y3_3.c,Value.int .i64 y3_4,Value.slice y3_5.a y3_5.n y3_5.c,Value.int .i64 y3_6]) (S.ev rfl) ag33 ti33 (by rw[S.heap];exact RowL.toRow ⟨c_1,c_2,c_3,c_4,c_5,c_6,c_7,trivial⟩)) fun _ S=>?_
 refine ol_cal S H isfn49 rfl rfl trivial ?_
 clear S H;intro u aa ww h2 H S
 obtain⟨x4,rfl,H⟩:=H
 refine OL.zq S (Lf.run_not (S.ev rfl)) fun _ S=>?_
 refine OL.za S fun _ S=>?_
 refine OL.nil ?_
 refine W.ret ?_
 exact Ret.one S rfl rfl H
end Go.Proofs.Ytggacajnmgligaa

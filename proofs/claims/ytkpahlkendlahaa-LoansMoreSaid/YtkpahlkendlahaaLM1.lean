/- LoansMore: with more points, and more loans, no clash is lost: proved for every input, with no conditions. -/
import Derived.Test.YtkpahlkendlahaaLM0
namespace Go.Proofs.Ytkpahlkendlahaa
open Go Go.Lf
set_option linter.unusedVariables false
set_option maxRecDepth 100000
def L5 (given0:Int) (given0_1:Sv) (given0_2:Sv) (given0_3:Int) (given0_4:Sv) (h:Heap) (R:Value→Heap→Prop):Prop:=
 new 54 #[Value.int .i64 given0,Value.slice given0_1.a given0_1.n given0_1.c,Value.slice given0_2.a given0_2.n given0_2.c,Value.int .u64 given0_3,Value.slice given0_4.a given0_4.n given0_4.c] h fun p1 h1=>
 ∃Sq:Heap→Prop,Sq h1∧(
  ∃(y18:Int) (y18_1:Sv),hld Sq p1 (Value.int .i64 y18)∧hld Sq (p1.add 1) (Value.slice y18_1.a y18_1.n y18_1.c) ∧
  hlS Sq (p1.add 2) fun x20=>
  hlI .u64 Sq (p1.add 3) fun x22=>
  hlS Sq (p1.add 4) fun x24=>
  new 24 #[Value.int .i64 0,Value.slice (⟨none,0,0⟩:Sv).a (⟨none,0,0⟩:Sv).n (⟨none,0,0⟩:Sv).c] h1 fun p3 h2=>
  Sq h2 ∧
  stoA h2 p3 [Value.int .i64 y18,Value.slice y18_1.a y18_1.n y18_1.c] fun h3=>
  Sq h3 ∧
  cal Try.prog 8 #[] h3 fun u h4=>asB u fun x25=>
  ∃J:Bool→Prop,(orr (!x25) (fun k=>
   ldS h4 (p3.add 1) fun x29=>
   k (decide (25<((x29.n:Nat):Int)))) J)∧∀x32,J x32 →
  ifb ((x32 || (decide (8<((x20.n:Nat):Int)))) || (decide (8<((x24.n:Nat):Int)))) (
   cal Try.prog 8 #[] h4 fun u_1 h5=>asB u_1 fun x43=>
   R (Value.bool x43) h5) (
   ∃(y44:Int) (y44_1:Sv),cl h4 p3=some (Value.int .i64 y44)∧cl h4 (p3.add 1)=some (Value.slice y44_1.a y44_1.n y44_1.c) ∧
   cal Try.prog 9 #[Value.agg #[Value.int .i64 y44,Value.slice y44_1.a y44_1.n y44_1.c]] h4 fun u_2 h6=>∃(y45:ByteArray) (y45_1:Int) (y45_2:Sv) (y45_3:Sv),u_2=Value.agg #[Value.string y45,Value.int .i64 y45_1,Value.slice y45_2.a y45_2.n y45_2.c,Value.slice y45_3.a y45_3.n y45_3.c] ∧
   new 30 #[Value.string (⟨#[]⟩:ByteArray),Value.int .i64 0,Value.slice (⟨none,0,0⟩:Sv).a (⟨none,0,0⟩:Sv).n (⟨none,0,0⟩:Sv).c,Value.slice (⟨none,0,0⟩:Sv).a (⟨none,0,0⟩:Sv).n (⟨none,0,0⟩:Sv).c] h6 fun p7 h7=>
   stoA h7 p7 [Value.string y45,Value.int .i64 y45_1,Value.slice y45_2.a y45_2.n y45_2.c,Value.slice y45_3.a y45_3.n y45_3.c] fun h8=>
   newS 56 #[] 0 h8 fun s46 h9=>
   appS 56 (Value.agg #[Value.int .i64 0,Value.int .i64 0,Value.slice (⟨none,0,0⟩:Sv).a (⟨none,0,0⟩:Sv).n (⟨none,0,0⟩:Sv).c,Value.bool false,Value.bool false,Value.int .u64 0]).cells 6 56 h9 s46 x20 fun s48 h10=>
   ∃(I:Int→Heap→Prop) (m:Int→Heap→Nat),I 0 h10∧∀i9 h11,I i9 h11 →
   ifb (decide (i9<((s48.n:Nat):Int))) (
    ixS s48 i9 fun q59=>
    ldI .u64 h11 ((q59.add ((i9:Int).toNat*6)).add 5) fun x61=>
    ixS s48 i9 fun q64=>
    sto h11 ((q64.add ((i9:Int).toNat*6)).add 5) (Value.int .u64 (bitsI .or .u64 x61 x22)) fun h12=>
    I (IntKind.i64.wrap (i9+1)) h12∧m (IntKind.i64.wrap (i9+1)) h12<m i9 h11) (
    ∃(y67:ByteArray) (y67_1:Int) (y67_2:Sv) (y67_3:Sv),cl h11 p7=some (Value.string y67)∧cl h11 (p7.add 1)=some (Value.int .i64 y67_1)∧cl h11 (p7.add 2)=some (Value.slice y67_2.a y67_2.n y67_2.c)∧cl h11 (p7.add 3)=some (Value.slice y67_3.a y67_3.n y67_3.c) ∧
    cal Try.prog 10 #[Value.agg #[Value.string y67,Value.int .i64 y67_1,Value.slice y67_2.a y67_2.n y67_2.c,Value.slice y67_3.a y67_3.n y67_3.c],Value.slice x20.a x20.n x20.c] h11 fun u_3 h13=>asS u_3 fun x69=>
    cal Try.prog 11 #[Value.pointer (some p7),Value.slice x69.a x69.n x69.c] h13 fun u_4 h14=>∃(x70:Sv) (x70_1:Int),u_4=Value.tuple #[Value.slice x70.a x70.n x70.c,Value.int .i64 x70_1] ∧
    ∃Sq_1:Heap→Prop,Sq_1 h14∧(
     ∃(y74:ByteArray) (y74_1:Int) (y74_2:Sv) (y74_3:Sv),hld Sq_1 p7 (Value.string y74)∧hld Sq_1 (p7.add 1) (Value.int .i64 y74_1)∧hld Sq_1 (p7.add 2) (Value.slice y74_2.a y74_2.n y74_2.c)∧hld Sq_1 (p7.add 3) (Value.slice y74_3.a y74_3.n y74_3.c) ∧
     appS 56 (Value.agg #[Value.int .i64 0,Value.int .i64 0,Value.slice (⟨none,0,0⟩:Sv).a (⟨none,0,0⟩:Sv).n (⟨none,0,0⟩:Sv).c,Value.bool false,Value.bool false,Value.int .u64 0]).cells 6 56 h14 s48 x24 fun s77 h15=>
     Sq_1 h15 ∧
     cal Try.prog 10 #[Value.agg #[Value.string y74,Value.int .i64 y74_1,Value.slice y74_2.a y74_2.n y74_2.c,Value.slice y74_3.a y74_3.n y74_3.c],Value.slice s77.a s77.n s77.c] h15 fun u_5 h16=>asS u_5 fun x78=>
     cal Try.prog 11 #[Value.pointer (some p7),Value.slice x78.a x78.n x78.c] h16 fun u_6 h17=>∃(x79:Sv) (x79_1:Int),u_6=Value.tuple #[Value.slice x79.a x79.n x79.c,Value.int .i64 x79_1] ∧
     ifb ((x70_1 != 0) || (x79_1 != 0)) (
      R (Value.bool false) h17) (
      ∃(I_1:Int→Prop) (m_1:Int→Nat),I_1 0∧∀i14,I_1 i14 →
      ifb (decide (i14<((x70.n:Nat):Int))) (
       ∃(I_2:Bool→Int→Prop) (m_2:Bool→Int→Nat),I_2 false 0∧∀vsome15 k16,I_2 vsome15 k16 →
       ifb (decide (k16<((x79.n:Nat):Int))) (
        ∃J_1:Bool→Prop,(
         ifb vsome15 (
          J_1 true) (
          ixS x79 k16 fun q104=>
          ∃(y105:Int) (y105_1:Int) (y105_2:Bool),cl h17 (q104.add ((k16:Int).toNat*3))=some (Value.int .i64 y105)∧cl h17 ((q104.add ((k16:Int).toNat*3)).add 1)=some (Value.int .i64 y105_1)∧cl h17 ((q104.add ((k16:Int).toNat*3)).add 2)=some (Value.bool y105_2) ∧
          ixS x70 i14 fun q108=>
          ∃(y109:Int) (y109_1:Int) (y109_2:Bool),cl h17 (q108.add ((i14:Int).toNat*3))=some (Value.int .i64 y109)∧cl h17 ((q108.add ((i14:Int).toNat*3)).add 1)=some (Value.int .i64 y109_1)∧cl h17 ((q108.add ((i14:Int).toNat*3)).add 2)=some (Value.bool y109_2) ∧
          J_1 (y105 == y109 && (y105_1 == y109_1 && y105_2 == y109_2))))∧(∀vsome15_1,J_1 vsome15_1 →
        I_2 vsome15_1 (IntKind.i64.wrap (k16+1))∧m_2 vsome15_1 (IntKind.i64.wrap (k16+1))<m_2 vsome15 k16)) (
        ifb (!vsome15) (
         R (Value.bool false) h17) (
         I_1 (IntKind.i64.wrap (i14+1))∧m_1 (IntKind.i64.wrap (i14+1))<m_1 i14))) (
       R (Value.bool true) h17))))))
set_option maxRecDepth 100000 in
theorem F5 {given0 given0_1 given0_2 given0_3 given0_4 h:_} {R:Value→Heap→Prop} (H:L5 given0 given0_1 given0_2 given0_3 given0_4 h R):CallsH Try.prog 5 #[Value.agg #[Value.int .i64 given0,Value.slice given0_1.a given0_1.n given0_1.c,Value.slice given0_2.a given0_2.n given0_2.c,Value.int .u64 given0_3,Value.slice given0_4.a given0_4.n given0_4.c]] h R:=by
 refine CallsH.enter (n:=114) Try.func5 rfl rfl rfl rfl ?_
 intro w0 aa ww S
 unfold L5 at H
 refine W.seq ?_
 refine W.region ?_
 refine ol_box S H rfl rfl rfl trivial ?_
 clear S H;intro p1 aa ww h1 H S
 refine OL.za S fun _ S=>?_
 refine OL.nil ?_
 refine W.seq ?_
 replace S:=S.sub [(1,Value.pointer (some p1))] ⟨rfl,trivial⟩
 obtain⟨Sq,HS,H⟩:=H
 refine W.regionN [1,3,5,7] [8,9] Sq S (by kernel_rfl) ?_
 clear S;intro ww S
 refine BN.pure 0 S (fun _=>HS) rfl (by kernel_rfl) (by kernel_rfl) (fun _=>Lf.run_fa (S.ev rfl) fa54_0) rfl rfl trivial fun _ S=>?_
 refine BN.pure 2 S (fun _=>HS) rfl (by kernel_rfl) (by kernel_rfl) (fun _=>Lf.run_fa (S.ev rfl) fa54_1) rfl rfl trivial fun _ S=>?_
 refine BN.pure 4 S (fun _=>HS) rfl (by kernel_rfl) (by kernel_rfl) (fun _=>Lf.run_fa (S.ev rfl) fa54_2) rfl rfl trivial fun _ S=>?_
 refine BN.pure 6 S (fun _=>HS) rfl (by kernel_rfl) (by kernel_rfl) (fun _=>Lf.run_fa (S.ev rfl) fa54_3) rfl rfl trivial fun _ S=>?_
 obtain⟨y18,y18_1,c_27,c_28,H⟩:=H
 refine BN.held 1 S HS rfl (by kernel_rfl) (fun _ hq=>Lf.run_ldA (cs:=[Value.int .i64 y18,Value.slice y18_1.a y18_1.n y18_1.c]) (S.ev rfl) ag24 ti24 (hlRow hq fun h_ hs_=>⟨c_27 h_ hs_,c_28 h_ hs_,trivial⟩)) rfl rfl trivial fun _ S=>?_
 obtain⟨x20,c_1,H⟩:=H
 refine BN.held 3 S HS rfl (by kernel_rfl) (fun _ hq=>Lf.run_ld (S.ev rfl) fl25 (c_1 _ hq)) rfl rfl trivial fun _ S=>?_
 obtain⟨x22,c_2,H⟩:=H
 refine BN.held 5 S HS rfl (by kernel_rfl) (fun _ hq=>Lf.run_ld (S.ev rfl) fl52 (c_2 _ hq)) rfl rfl trivial fun _ S=>?_
 obtain⟨x24,c_3,H⟩:=H
 refine BN.held 7 S HS rfl (by kernel_rfl) (fun _ hq=>Lf.run_ld (S.ev rfl) fl25 (c_3 _ hq)) rfl rfl trivial fun _ S=>?_
 refine BN.eff 8 rfl (by kernel_rfl) ?_
 refine ol_alloc S H ti24 rfl rfl trivial ?_
 clear S H;intro p3 aa ww h2 H S
 refine OL.nil ?_
 clear HS;obtain⟨HS,H⟩:=H
 refine⟨fun _=>by rw[S.heap];exact HS,?_⟩
 refine BN.eff 9 rfl (by kernel_rfl) ?_
 refine ol_stoA S H rfl rfl ti24 trivial ?_
 clear S H;intro aa ww h3 H S
 refine OL.nil ?_
 clear HS;obtain⟨HS,H⟩:=H
 refine⟨fun _=>by rw[S.heap];exact HS,?_⟩
 refine BN.pure 10 S (fun _=>HS) rfl (by kernel_rfl) (by kernel_rfl) (fun _=>Lf.run_assign (S.ev rfl)) rfl rfl trivial fun _ S=>?_
 refine BN.pure 11 S (fun _=>HS) rfl (by kernel_rfl) (by kernel_rfl) (fun _=>Lf.run_assign (S.ev rfl)) rfl rfl trivial fun _ S=>?_
 refine BN.pure 12 S (fun _=>HS) rfl (by kernel_rfl) (by kernel_rfl) (fun _=>Lf.run_assign (S.ev rfl)) rfl rfl trivial fun _ S=>?_
 refine BN.done (by kernel_rfl) ?_
 refine W.seq ?_
 refine W.seq ?_
 refine W.region ?_
 refine ol_cal S H isfn8 rfl rfl trivial ?_
 clear S H;intro u aa ww h4 H S
 obtain⟨x25,rfl,H⟩:=H
 refine OL.zq S (Lf.run_not (S.ev rfl)) fun _ S=>?_
 refine OL.zm S fun _ S=>?_
 obtain⟨J,H,HK⟩:=H
 refine OL.cutN 5 (fun aa ww=>∃x32,St 114 ((32,Value.bool x32) :: [(3,Value.pointer (some p3)),(4,Value.slice x20.a x20.n x20.c),(5,Value.int .u64 x22),(6,Value.slice x24.a x24.n x24.c),(25,Value.bool x25),(26,Value.bool (!x25)),(27,Value.bool (!x25))]) h4 w0 aa ww∧J x32) ?_ ?_
 ·
  rcases Bool.eq_false_or_eq_true (!x25) with hb|hb
  ·
   replace H:=H.1 hb
   refine OL.zn S (GNo.mk rfl rfl hb) fun _ S=>?_
   refine OL.zn S (GNo.mk rfl rfl hb) fun _ S=>?_
   refine OL.zn S (GNo.mk rfl rfl hb) fun _ S=>?_
   refine OL.zn S (GNo.mk rfl rfl hb) fun _ S=>?_
   refine OL.zq S (Lf.run_pickT (S.ev rfl) hb (S.ev rfl)) fun _ S=>?_
   refine OL.nil ?_
   exact⟨_,S.sub _ ⟨rfl,rfl,rfl,rfl,rfl,rfl,rfl,rfl,trivial⟩,H⟩
  ·
   replace H:=H.2 hb
   refine OL.zf (hg:=GOk.mk rfl rfl hb) S fa24_1 fun _ S=>?_
   obtain⟨x29,c_4,H⟩:=H
   refine OL.zl (hg:=GOk.mk rfl rfl hb) S fl22 c_4 fun _ S=>?_
   refine OL.zq (hg:=GOk.mk rfl rfl hb) S (Lf.run_lens (S.ev rfl) rfl Try.underlying22) fun _ S=>?_
   refine OL.zq (hg:=GOk.mk rfl rfl hb) S (Lf.run_gtr (S.ev rfl) (S.ev rfl)) fun _ S=>?_
   refine OL.zq S (Lf.run_pickF (S.ev rfl) hb (S.ev rfl)) fun _ S=>?_
   refine OL.nil ?_
   exact⟨_,S.sub _ ⟨rfl,rfl,rfl,rfl,rfl,rfl,rfl,rfl,trivial⟩,H⟩
 ·
  clear S
  rintro aa ww ⟨x32,S,HJ⟩
  replace H:=HK _ HJ
  clear HK HJ
  refine OL.zm S fun _ S=>?_
  refine OL.cutN 4 (fun aa ww=>St 114 ((37,Value.bool (x32 || (decide (8<((x20.n:Nat):Int))))) :: [(3,Value.pointer (some p3)),(4,Value.slice x20.a x20.n x20.c),(5,Value.int .u64 x22),(6,Value.slice x24.a x24.n x24.c),(25,Value.bool x25),(26,Value.bool (!x25)),(27,Value.bool (!x25)),(32,Value.bool x32),(33,Value.bool x32)]) h4 w0 aa ww) ?_ ?_
  ·
   rcases Bool.eq_false_or_eq_true x32 with hb_1|hb_1
   ·
    refine OL.zn S (GNo.mk rfl rfl hb_1) fun _ S=>?_
    refine OL.zn S (GNo.mk rfl rfl hb_1) fun _ S=>?_
    refine OL.zn S (GNo.mk rfl rfl hb_1) fun _ S=>?_
    refine OL.zq S (Lf.run_pickT (S.ev rfl) hb_1 (S.ev rfl)) fun _ S=>?_
    refine OL.nil ?_
    exact (S.hd (by rw[hb_1,Bool.true_or])).sub _ ⟨rfl,rfl,rfl,rfl,rfl,rfl,rfl,rfl,rfl,rfl,trivial⟩
   ·
    refine OL.zm (hg:=GOk.mk rfl rfl hb_1) S fun _ S=>?_
    refine OL.zq (hg:=GOk.mk rfl rfl hb_1) S (Lf.run_lens (S.ev rfl) rfl Try.underlying25) fun _ S=>?_
    refine OL.zq (hg:=GOk.mk rfl rfl hb_1) S (Lf.run_gtr (S.ev rfl) (S.ev rfl)) fun _ S=>?_
    refine OL.zq S (Lf.run_pickF (S.ev rfl) hb_1 (S.ev rfl)) fun _ S=>?_
    refine OL.nil ?_
    exact (S.hd (by rw[hb_1,Bool.false_or])).sub _ ⟨rfl,rfl,rfl,rfl,rfl,rfl,rfl,rfl,rfl,rfl,trivial⟩
  ·
   clear S
   intro aa ww S
   refine OL.zm S fun _ S=>?_
   refine OL.cutN 4 (fun aa ww=>St 114 ((42,Value.bool ((x32 || (decide (8<((x20.n:Nat):Int)))) || (decide (8<((x24.n:Nat):Int))))) :: [(3,Value.pointer (some p3)),(4,Value.slice x20.a x20.n x20.c),(5,Value.int .u64 x22),(6,Value.slice x24.a x24.n x24.c),(25,Value.bool x25),(26,Value.bool (!x25)),(27,Value.bool (!x25)),(32,Value.bool x32),(33,Value.bool x32),(37,Value.bool (x32 || (decide (8<((x20.n:Nat):Int))))),(38,Value.bool (x32 || (decide (8<((x20.n:Nat):Int)))))]) h4 w0 aa ww) ?_ ?_
   ·
    rcases Bool.eq_false_or_eq_true (x32 || (decide (8<((x20.n:Nat):Int)))) with hb_2|hb_2
    ·
     refine OL.zn S (GNo.mk rfl rfl hb_2) fun _ S=>?_
     refine OL.zn S (GNo.mk rfl rfl hb_2) fun _ S=>?_
     refine OL.zn S (GNo.mk rfl rfl hb_2) fun _ S=>?_
     refine OL.zq S (Lf.run_pickT (S.ev rfl) hb_2 (S.ev rfl)) fun _ S=>?_
     refine OL.nil ?_
     exact (S.hd (by rw[hb_2,Bool.true_or])).sub _ ⟨rfl,rfl,rfl,rfl,rfl,rfl,rfl,rfl,rfl,rfl,rfl,rfl,trivial⟩
    ·
     refine OL.zm (hg:=GOk.mk rfl rfl hb_2) S fun _ S=>?_
     refine OL.zq (hg:=GOk.mk rfl rfl hb_2) S (Lf.run_lens (S.ev rfl) rfl Try.underlying25) fun _ S=>?_
     refine OL.zq (hg:=GOk.mk rfl rfl hb_2) S (Lf.run_gtr (S.ev rfl) (S.ev rfl)) fun _ S=>?_
     refine OL.zq S (Lf.run_pickF (S.ev rfl) hb_2 (S.ev rfl)) fun _ S=>?_
     refine OL.nil ?_
     exact (S.hd (by rw[hb_2,Bool.false_or])).sub _ ⟨rfl,rfl,rfl,rfl,rfl,rfl,rfl,rfl,rfl,rfl,rfl,rfl,trivial⟩
   ·
    clear S
    intro aa ww S
    refine OL.nil ?_
    refine W.cond S (b:=((x32 || (decide (8<((x20.n:Nat):Int)))) || (decide (8<((x24.n:Nat):Int))))) rfl (fun hb_3=>?_) (fun hb_3=>?_)
    ·
     replace H:=H.1 hb_3
     refine W.seq ?_
     refine W.region ?_
     refine ol_cal S H isfn8 rfl rfl trivial ?_
     clear S H;intro u_1 aa ww h5 H S
     obtain⟨x43,rfl,H⟩:=H
     refine OL.za S fun _ S=>?_
     refine OL.nil ?_
     refine W.ret ?_
     exact Ret.one S rfl rfl H
    ·
     replace H:=H.2 hb_3
     refine W.skip ?_
     refine W.seq ?_
     refine W.region ?_
     obtain⟨y44,y44_1,c_25,c_26,H⟩:=H
     refine OL.zq S (Lf.run_ldA (cs:=[Value.int .i64 y44,Value.slice y44_1.a y44_1.n y44_1.c]) (S.ev rfl) ag24 ti24 (by rw[S.heap];exact RowL.toRow ⟨c_25,c_26,trivial⟩)) fun _ S=>?_
     refine ol_cal S H isfn9 rfl rfl trivial ?_
     clear S H;intro u_2 aa ww h6 H S
     obtain⟨y45,y45_1,y45_2,y45_3,rfl,H⟩:=H
     refine ol_alloc S H ti30 rfl rfl trivial ?_
     clear S H;intro p7 aa ww h7 H S
     refine ol_stoA S H rfl rfl ti30 trivial ?_
     clear S H;intro aa ww h8 H S
     refine OL.nil ?_
     refine W.seq ?_
     refine W.region ?_
     refine ol_newS0 S H Try.underlying25 ti56 rfl rfl trivial ?_
     clear S H;intro s46 aa ww h9 H S
     refine OL.zm S fun _ S=>?_
     refine ol_appS S H Try.underlying25 ti56 rfl rfl rfl trivial ?_
     clear S H;intro s48 aa ww h10 H S
     refine OL.za S fun _ S=>?_
     refine OL.nil ?_
     refine W.seq ?_
     refine W.seq ?_
     refine W.region ?_
     refine OL.za S fun _ S=>?_
     refine OL.nil ?_
     refine W.block ?_
     obtain⟨I,m,H,HB_2⟩:=H
     refine W.loopS (σ:=Int×Heap) (fun s aa ww=>St 114 [(4,Value.slice x20.a x20.n x20.c),(5,Value.int .u64 x22),(6,Value.slice x24.a x24.n x24.c),(7,Value.pointer (some p7)),(8,Value.slice s48.a s48.n s48.c),(9,Value.int .i64 s.1)] s.2 w0 aa ww∧I s.1 s.2) (fun s=>m s.1 s.2) (0,h10) ⟨S.sub _ ⟨rfl,rfl,rfl,rfl,rfl,rfl,trivial⟩,H⟩ ?_
     clear H S
     rintro ⟨i9,h11⟩ aa ww ⟨S,HI⟩
     replace S:St 114 [(4,Value.slice x20.a x20.n x20.c),(5,Value.int .u64 x22),(6,Value.slice x24.a x24.n x24.c),(7,Value.pointer (some p7)),(8,Value.slice s48.a s48.n s48.c),(9,Value.int .i64 i9)] h11 w0 aa ww:=S
     have H:=HB_2 i9 h11 HI
     clear HI
     refine W.seq ?_
     refine W.seq ?_
     refine W.region ?_
     refine OL.zm S fun _ S=>?_
     refine OL.zm S fun _ S=>?_
     refine OL.zq S (Lf.run_lens (S.ev rfl) rfl Try.underlying25) fun _ S=>?_
     refine OL.zq S (Lf.run_lss (S.ev rfl) (S.ev rfl)) fun _ S=>?_
     refine OL.nil ?_
     refine W.cond S (b:=(decide (i9<((s48.n:Nat):Int)))) rfl (fun hb_4=>?_) (fun hb_4=>?_)
     ·
      replace H:=H.1 hb_4
      refine W.skip ?_
      refine W.seq ?_
      refine W.block ?_
      refine W.region ?_
      refine OL.zm S fun _ S=>?_
      refine OL.zm S fun _ S=>?_
      refine OL.zm S fun _ S=>?_
      refine OL.zm S fun _ S=>?_
      obtain⟨q59,e,e_1,e_2,H⟩:=H
      refine OL.zq S (Lf.run_ixs (S.ev rfl) (S.ev rfl) Try.underlying25 ti56 e e_1 e_2) fun _ S=>?_
      refine OL.zf S fa56_5 fun _ S=>?_
      obtain⟨x61,c_6,H⟩:=H
      refine OL.zl S fl52 c_6 fun _ S=>?_
      refine OL.zm S fun _ S=>?_
      refine OL.zq S (Lf.run_bits (op:=.or) (by simp) (S.ev rfl) (S.ev rfl)) fun _ S=>?_
      obtain⟨q64,e_3,e_4,e_5,H⟩:=H
      refine OL.zq S (Lf.run_ixs (S.ev rfl) (S.ev rfl) Try.underlying25 ti56 e_3 e_4 e_5) fun _ S=>?_
      refine OL.zf S fa56_5 fun _ S=>?_
      refine ol_sto S H rfl rfl rfl ti52 trivial ?_
      clear S H;intro aa ww h12 H S
      refine OL.nil ?_
      refine W.region ?_
      refine OL.zm S fun _ S=>?_
      refine OL.zq S (Lf.run_add (S.ev rfl) (S.ev rfl)) fun _ S=>?_
      refine OL.za S fun _ S=>?_
      refine OL.nil ?_
      exact⟨((IntKind.i64.wrap (i9+1)),h12),⟨S.sub _ ⟨rfl,rfl,rfl,rfl,rfl,rfl,trivial⟩,H.1⟩,H.2⟩
     ·
      replace H:=H.2 hb_4
      refine W.exit_ ?_
      refine xhit ?_
      refine W.seq ?_
      refine W.region ?_
      obtain⟨y67,y67_1,y67_2,y67_3,c_21,c_22,c_23,c_24,H⟩:=H
      refine OL.zq S (Lf.run_ldA (cs:=[Value.string y67,Value.int .i64 y67_1,Value.slice y67_2.a y67_2.n y67_2.c,Value.slice y67_3.a y67_3.n y67_3.c]) (S.ev rfl) ag30 ti30 (by rw[S.heap];exact RowL.toRow ⟨c_21,c_22,c_23,c_24,trivial⟩)) fun _ S=>?_
      refine OL.zm S fun _ S=>?_
      refine ol_cal S H isfn10 rfl rfl trivial ?_
      clear S H;intro u_3 aa ww h13 H S
      obtain⟨x69,rfl,H⟩:=H
      refine ol_cal S H isfn11 rfl rfl trivial ?_
      clear S H;intro u_4 aa ww h14 H S
      obtain⟨x70,x70_1,rfl,H⟩:=H
      refine OL.zm S fun _ S=>?_
      refine OL.zq S (Lf.run_ex (S.ev rfl) rfl) fun _ S=>?_
      refine OL.zq S (Lf.run_ex (S.ev rfl) rfl) fun _ S=>?_
      refine OL.za S fun _ S=>?_
      refine OL.za S fun _ S=>?_
      refine OL.nil ?_
      refine W.seq ?_
      replace S:=S.sub [(6,Value.slice x24.a x24.n x24.c),(7,Value.pointer (some p7)),(8,Value.slice s48.a s48.n s48.c),(10,Value.slice x70.a x70.n x70.c),(11,Value.int .i64 x70_1)] ⟨rfl,rfl,rfl,rfl,rfl,trivial⟩
      obtain⟨Sq_1,HS_1,H⟩:=H
      refine W.regionN [0] [3,4,5] Sq_1 S (by kernel_rfl) ?_
      clear S;intro ww S
      refine BN.pure 1 S (fun _=>HS_1) rfl (by kernel_rfl) (by kernel_rfl) (fun _=>Lf.run_move (S.ev rfl)) rfl rfl trivial fun _ S=>?_
      refine BN.pure 2 S (fun _=>HS_1) rfl (by kernel_rfl) (by kernel_rfl) (fun _=>Lf.run_move (S.ev rfl)) rfl rfl trivial fun _ S=>?_
      obtain⟨y74,y74_1,y74_2,y74_3,c_17,c_18,c_19,c_20,H⟩:=H
      refine BN.held 0 S HS_1 rfl (by kernel_rfl) (fun _ hq=>Lf.run_ldA (cs:=[Value.string y74,Value.int .i64 y74_1,Value.slice y74_2.a y74_2.n y74_2.c,Value.slice y74_3.a y74_3.n y74_3.c]) (S.ev rfl) ag30 ti30 (hlRow hq fun h_ hs_=>⟨c_17 h_ hs_,c_18 h_ hs_,c_19 h_ hs_,c_20 h_ hs_,trivial⟩)) rfl rfl trivial fun _ S=>?_
      refine BN.eff 3 rfl (by kernel_rfl) ?_
      refine ol_appS S H Try.underlying25 ti56 rfl rfl rfl trivial ?_
      clear S H;intro s77 aa ww h15 H S
      refine OL.nil ?_
      clear HS_1;obtain⟨HS_1,H⟩:=H
      refine⟨fun _=>by rw[S.heap];exact HS_1,?_⟩
      refine BN.eff 4 rfl (by kernel_rfl) ?_
      refine ol_cal S H isfn10 rfl rfl trivial ?_
      clear S H;intro u_5 aa ww h16 H S
      obtain⟨x78,rfl,H⟩:=H
      refine OL.nil ?_
      refine⟨noNeed (by kernel_rfl),?_⟩
      refine BN.eff 5 rfl (by kernel_rfl) ?_
      refine ol_cal S H isfn11 rfl rfl trivial ?_
      clear S H;intro u_6 aa ww h17 H S
      obtain⟨x79,x79_1,rfl,H⟩:=H
      refine OL.nil ?_
      refine⟨noNeed (by kernel_rfl),?_⟩
      refine BN.pure 6 S (noNeed (by kernel_rfl)) rfl (by kernel_rfl) (by kernel_rfl) (fun _=>Lf.run_move (S.ev rfl)) rfl rfl trivial fun _ S=>?_
      refine BN.pure 7 S (noNeed (by kernel_rfl)) rfl (by kernel_rfl) (by kernel_rfl) (fun _=>Lf.run_ex (S.ev rfl) rfl) rfl rfl trivial fun _ S=>?_
      refine BN.pure 8 S (noNeed (by kernel_rfl)) rfl (by kernel_rfl) (by kernel_rfl) (fun _=>Lf.run_ex (S.ev rfl) rfl) rfl rfl trivial fun _ S=>?_
      refine BN.pure 9 S (noNeed (by kernel_rfl)) rfl (by kernel_rfl) (by kernel_rfl) (fun _=>Lf.run_assign (S.ev rfl)) rfl rfl trivial fun _ S=>?_
      refine BN.pure 10 S (noNeed (by kernel_rfl)) rfl (by kernel_rfl) (by kernel_rfl) (fun _=>Lf.run_assign (S.ev rfl)) rfl rfl trivial fun _ S=>?_
      refine BN.done (by kernel_rfl) ?_
      refine W.seq ?_
      refine W.seq ?_
      refine W.region ?_
      refine OL.zm S fun _ S=>?_
      refine OL.zq S (Lf.run_neq (S.ev rfl) (S.ev rfl)) fun _ S=>?_
      refine OL.zm S fun _ S=>?_
      refine OL.cutN 3 (fun aa ww=>St 114 ((87,Value.bool ((x70_1 != 0) || (x79_1 != 0))) :: [(10,Value.slice x70.a x70.n x70.c),(11,Value.int .i64 x70_1),(12,Value.slice x79.a x79.n x79.c),(13,Value.int .i64 x79_1),(82,Value.int .i64 x70_1),(83,Value.bool (x70_1 != 0)),(84,Value.bool (x70_1 != 0))]) h17 w0 aa ww) ?_ ?_
      ·
       rcases Bool.eq_false_or_eq_true (x70_1 != 0) with hb_5|hb_5
       ·
        refine OL.zn S (GNo.mk rfl rfl hb_5) fun _ S=>?_
        refine OL.zn S (GNo.mk rfl rfl hb_5) fun _ S=>?_
        refine OL.zq S (Lf.run_pickT (S.ev rfl) hb_5 (S.ev rfl)) fun _ S=>?_
        refine OL.nil ?_
        exact (S.hd (by rw[hb_5,Bool.true_or])).sub _ ⟨rfl,rfl,rfl,rfl,rfl,rfl,rfl,rfl,trivial⟩
       ·
        refine OL.zm (hg:=GOk.mk rfl rfl hb_5) S fun _ S=>?_
        refine OL.zq (hg:=GOk.mk rfl rfl hb_5) S (Lf.run_neq (S.ev rfl) (S.ev rfl)) fun _ S=>?_
        refine OL.zq S (Lf.run_pickF (S.ev rfl) hb_5 (S.ev rfl)) fun _ S=>?_
        refine OL.nil ?_
        exact (S.hd (by rw[hb_5,Bool.false_or])).sub _ ⟨rfl,rfl,rfl,rfl,rfl,rfl,rfl,rfl,trivial⟩
      ·
       clear S
       intro aa ww S
       refine OL.nil ?_
       refine W.cond S (b:=((x70_1 != 0) || (x79_1 != 0))) rfl (fun hb_6=>?_) (fun hb_6=>?_)
       ·
        replace H:=H.1 hb_6
        refine W.seq ?_
        refine W.region ?_
        refine OL.za S fun _ S=>?_
        refine OL.nil ?_
        refine W.ret ?_
        exact Ret.one S rfl rfl H
       ·
        replace H:=H.2 hb_6
        refine W.skip ?_
        refine W.seq ?_
        refine W.seq ?_
        refine W.region ?_
        refine OL.za S fun _ S=>?_
        refine OL.nil ?_
        refine W.block ?_
        obtain⟨I_1,m_1,H,HB_1⟩:=H
        refine W.loopS (σ:=Int) (fun s aa ww=>St 114 [(10,Value.slice x70.a x70.n x70.c),(12,Value.slice x79.a x79.n x79.c),(14,Value.int .i64 s)] h17 w0 aa ww∧I_1 s) (fun s=>m_1 s) (0) ⟨S.sub _ ⟨rfl,rfl,rfl,trivial⟩,H⟩ ?_
        clear H S
        rintro i14 aa ww ⟨S,HI⟩
        replace S:St 114 [(10,Value.slice x70.a x70.n x70.c),(12,Value.slice x79.a x79.n x79.c),(14,Value.int .i64 i14)] h17 w0 aa ww:=S
        have H:=HB_1 i14 HI
        clear HI
        refine W.seq ?_
        refine W.seq ?_
        refine W.region ?_
        refine OL.zm S fun _ S=>?_
        refine OL.zm S fun _ S=>?_
        refine OL.zq S (Lf.run_lens (S.ev rfl) rfl Try.underlying34) fun _ S=>?_
        refine OL.zq S (Lf.run_lss (S.ev rfl) (S.ev rfl)) fun _ S=>?_
        refine OL.nil ?_
        refine W.cond S (b:=(decide (i14<((x70.n:Nat):Int)))) rfl (fun hb_7=>?_) (fun hb_7=>?_)
        ·
         replace H:=H.1 hb_7
         refine W.skip ?_
         refine W.seq ?_
         refine W.block ?_
         refine W.seq ?_
         refine W.region ?_
         refine OL.za S fun _ S=>?_
         refine OL.nil ?_
         refine W.seq ?_
         refine W.seq ?_
         refine W.region ?_
         refine OL.za S fun _ S=>?_
         refine OL.nil ?_
         refine W.block ?_
         obtain⟨I_2,m_2,H,HB⟩:=H
         refine W.loopS (σ:=Bool×Int) (fun s aa ww=>St 114 [(10,Value.slice x70.a x70.n x70.c),(12,Value.slice x79.a x79.n x79.c),(14,Value.int .i64 i14),(15,Value.bool s.1),(16,Value.int .i64 s.2)] h17 w0 aa ww∧I_2 s.1 s.2) (fun s=>m_2 s.1 s.2) (false,0) ⟨S.sub _ ⟨rfl,rfl,rfl,rfl,rfl,trivial⟩,H⟩ ?_
         clear H S
         rintro ⟨vsome15,k16⟩ aa ww ⟨S,HI⟩
         replace S:St 114 [(10,Value.slice x70.a x70.n x70.c),(12,Value.slice x79.a x79.n x79.c),(14,Value.int .i64 i14),(15,Value.bool vsome15),(16,Value.int .i64 k16)] h17 w0 aa ww:=S
         have H:=HB vsome15 k16 HI
         clear HI
         refine W.seq ?_
         refine W.seq ?_
         refine W.region ?_
         refine OL.zm S fun _ S=>?_
         refine OL.zm S fun _ S=>?_
         refine OL.zq S (Lf.run_lens (S.ev rfl) rfl Try.underlying34) fun _ S=>?_
         refine OL.zq S (Lf.run_lss (S.ev rfl) (S.ev rfl)) fun _ S=>?_
         refine OL.nil ?_
         refine W.cond S (b:=(decide (k16<((x79.n:Nat):Int)))) rfl (fun hb_8=>?_) (fun hb_8=>?_)
         ·
          replace H:=H.1 hb_8
          refine W.skip ?_
          refine W.seq ?_
          refine W.block ?_
          replace S:=S.sub [(10,Value.slice x70.a x70.n x70.c),(12,Value.slice x79.a x79.n x79.c),(14,Value.int .i64 i14),(15,Value.bool vsome15),(16,Value.int .i64 k16)] ⟨rfl,rfl,rfl,rfl,rfl,trivial⟩
          obtain⟨J_1,H,HK_1⟩:=H
          refine W.mono (N':=fun aa ww=>∃vsome15_1,St 114 [(10,Value.slice x70.a x70.n x70.c),(12,Value.slice x79.a x79.n x79.c),(14,Value.int .i64 i14),(15,Value.bool vsome15_1),(16,Value.int .i64 k16)] h17 w0 aa ww∧J_1 vsome15_1) ?_ ?_
          ·
           refine W.regionD S (by kernel_rfl) ?_
           clear S;intro ww S
           refine AN.zq 0 S rfl (fun _=>Lf.run_move (S.ev rfl)) fun _ S=>?_
           refine AN.zq 1 S rfl (fun _=>Lf.run_move (S.ev rfl)) fun _ S=>?_
           rcases Bool.eq_false_or_eq_true vsome15 with hb_9|hb_9
           ·
            replace H:=H.1 hb_9
            refine AN.zn 2 S rfl (GNo.mk rfl rfl hb_9) fun _ S=>?_
            refine AN.zn 3 S rfl (GNo.mk rfl rfl hb_9) fun _ S=>?_
            refine AN.zn 4 S rfl (GNo.mk rfl rfl hb_9) fun _ S=>?_
            refine AN.zn 5 S rfl (GNo.mk rfl rfl hb_9) fun _ S=>?_
            refine AN.zn 6 S rfl (GNo.mk rfl rfl hb_9) fun _ S=>?_
            refine AN.zn 7 S rfl (GNo.mk rfl rfl hb_9) fun _ S=>?_
            refine AN.zn 8 S rfl (GNo.mk rfl rfl hb_9) fun _ S=>?_
            refine AN.zn 9 S rfl (GNo.mk rfl rfl hb_9) fun _ S=>?_
            refine AN.zn 10 S rfl (GNo.mk rfl rfl hb_9) fun _ S=>?_
            refine AN.zq 11 S rfl (fun _=>run_pickT (S.ev rfl) hb_9 (S.ev rfl)) fun _ S=>?_
            refine AN.zq 12 S rfl (fun _=>Lf.run_assign (S.ev rfl)) fun _ S=>?_
            refine AN.done (by kernel_rfl) ?_
            exact⟨true,S.sub _ ⟨rfl,rfl,rfl,rfl,rfl,trivial⟩,H⟩
           ·
            replace H:=H.2 hb_9
            refine AN.zq (hg:=GOk.mk rfl rfl hb_9) 2 S rfl (fun _=>Lf.run_move (S.ev rfl)) fun _ S=>?_
            refine AN.zq (hg:=GOk.mk rfl rfl hb_9) 3 S rfl (fun _=>Lf.run_move (S.ev rfl)) fun _ S=>?_
            obtain⟨q104,e_6,e_7,e_8,H⟩:=H
            refine AN.zq (hg:=GOk.mk rfl rfl hb_9) 4 S rfl (fun _=>Lf.run_ixs (S.ev rfl) (S.ev rfl) Try.underlying34 ti58 e_6 e_7 e_8) fun _ S=>?_
            obtain⟨y105,y105_1,y105_2,c_14,c_15,c_16,H⟩:=H
            refine AN.zl (hg:=GOk.mk rfl rfl hb_9) 5 S rfl (fun _ hx=>Lf.run_ldA (cs:=[Value.int .i64 y105,Value.int .i64 y105_1,Value.bool y105_2]) (S.ev rfl) ag58 ti58 (hx.row (S.row ⟨c_14,c_15,c_16,trivial⟩))) fun _ S=>?_
            refine AN.zq (hg:=GOk.mk rfl rfl hb_9) 6 S rfl (fun _=>Lf.run_move (S.ev rfl)) fun _ S=>?_
            refine AN.zq (hg:=GOk.mk rfl rfl hb_9) 7 S rfl (fun _=>Lf.run_move (S.ev rfl)) fun _ S=>?_
            obtain⟨q108,e_9,e_10,e_11,H⟩:=H
            refine AN.zq (hg:=GOk.mk rfl rfl hb_9) 8 S rfl (fun _=>Lf.run_ixs (S.ev rfl) (S.ev rfl) Try.underlying34 ti58 e_9 e_10 e_11) fun _ S=>?_
            obtain⟨y109,y109_1,y109_2,c_11,c_12,c_13,H⟩:=H
            refine AN.zl (hg:=GOk.mk rfl rfl hb_9) 9 S rfl (fun _ hx=>Lf.run_ldA (cs:=[Value.int .i64 y109,Value.int .i64 y109_1,Value.bool y109_2]) (S.ev rfl) ag58 ti58 (hx.row (S.row ⟨c_11,c_12,c_13,trivial⟩))) fun _ S=>?_
            refine AN.zq (hg:=GOk.mk rfl rfl hb_9) 10 S rfl (fun _=>Lf.run_eqlC3 Try.underlying58 (by kernel_rfl) (by decide) rfl Try.underlying3 Try.underlying3 Try.underlying4 (by kernel_rfl) (S.ev rfl) (S.ev rfl)) fun _ S=>?_
            refine AN.zq 11 S rfl (fun _=>run_pickF (S.ev rfl) hb_9 (S.ev rfl)) fun _ S=>?_
            refine AN.zq 12 S rfl (fun _=>Lf.run_assign (S.ev rfl)) fun _ S=>?_
            refine AN.done (by kernel_rfl) ?_
            exact⟨(y105 == y109 && (y105_1 == y109_1 && y105_2 == y109_2)),S.sub _ ⟨rfl,rfl,rfl,rfl,rfl,trivial⟩,H⟩
          ·
           clear H S
           rintro aa ww ⟨vsome15_1,S,HJ⟩
           have H:=HK_1 _ HJ
           clear HK_1 HJ
           refine W.region ?_
           refine OL.zm S fun _ S=>?_
           refine OL.zq S (Lf.run_add (S.ev rfl) (S.ev rfl)) fun _ S=>?_
           refine OL.za S fun _ S=>?_
           refine OL.nil ?_
           exact⟨(vsome15_1,(IntKind.i64.wrap (k16+1))),⟨S.sub _ ⟨rfl,rfl,rfl,rfl,rfl,trivial⟩,H.1⟩,H.2⟩
         ·
          replace H:=H.2 hb_8
          refine W.exit_ ?_
          refine xhit ?_
          refine W.seq ?_
          refine W.region ?_
          refine OL.zm S fun _ S=>?_
          refine OL.zq S (Lf.run_not (S.ev rfl)) fun _ S=>?_
          refine OL.nil ?_
          refine W.cond S (b:=(!vsome15)) rfl (fun hb_10=>?_) (fun hb_10=>?_)
          ·
           replace H:=H.1 hb_10
           refine W.seq ?_
           refine W.region ?_
           refine OL.za S fun _ S=>?_
           refine OL.nil ?_
           refine W.ret ?_
           exact Ret.one S rfl rfl H
          ·
           replace H:=H.2 hb_10
           refine W.skip ?_
           refine W.region ?_
           refine OL.zm S fun _ S=>?_
           refine OL.zq S (Lf.run_add (S.ev rfl) (S.ev rfl)) fun _ S=>?_
           refine OL.za S fun _ S=>?_
           refine OL.nil ?_
           exact⟨((IntKind.i64.wrap (i14+1))),⟨S.sub _ ⟨rfl,rfl,rfl,trivial⟩,H.1⟩,H.2⟩
        ·
         replace H:=H.2 hb_7
         refine W.exit_ ?_
         refine xhit ?_
         refine W.seq ?_
         refine W.region ?_
         refine OL.za S fun _ S=>?_
         refine OL.nil ?_
         refine W.ret ?_
         exact Ret.one S rfl rfl H
def L8  (h:Heap) (R:Value→Heap→Prop):Prop:=
 new 66 #[Value.int .i64 0,Value.int .i64 0,Value.slice (⟨none,0,0⟩:Sv).a (⟨none,0,0⟩:Sv).n (⟨none,0,0⟩:Sv).c,Value.int .i64 0,Value.int .u64 0] h fun p1 h1=>
 stoA h1 p1 [Value.int .i64 2,Value.int .i64 1,Value.slice (⟨none,0,0⟩:Sv).a (⟨none,0,0⟩:Sv).n (⟨none,0,0⟩:Sv).c,Value.int .i64 0,Value.int .u64 0] fun h2=>
 ∃(y11:Int) (y11_1:Int) (y11_2:Sv) (y11_3:Int) (y11_4:Int),cl h2 p1=some (Value.int .i64 y11)∧cl h2 (p1.add 1)=some (Value.int .i64 y11_1)∧cl h2 (p1.add 2)=some (Value.slice y11_2.a y11_2.n y11_2.c)∧cl h2 (p1.add 3)=some (Value.int .i64 y11_3)∧cl h2 (p1.add 4)=some (Value.int .u64 y11_4) ∧
 newS 66 #[Value.int .i64 y11,Value.int .i64 y11_1,Value.slice y11_2.a y11_2.n y11_2.c,Value.int .i64 y11_3,Value.int .u64 y11_4] 1 h2 fun s12 h3=>
 new 74 #[Value.int .i64 0,Value.int .i64 0,Value.int .i64 0,Value.slice (⟨none,0,0⟩:Sv).a (⟨none,0,0⟩:Sv).n (⟨none,0,0⟩:Sv).c,Value.int .i64 0,Value.slice (⟨none,0,0⟩:Sv).a (⟨none,0,0⟩:Sv).n (⟨none,0,0⟩:Sv).c,Value.int .i64 0,Value.slice (⟨none,0,0⟩:Sv).a (⟨none,0,0⟩:Sv).n (⟨none,0,0⟩:Sv).c,Value.bool false,Value.string (⟨#[]⟩:ByteArray),Value.int .i64 0,Value.slice (⟨none,0,0⟩:Sv).a (⟨none,0,0⟩:Sv).n (⟨none,0,0⟩:Sv).c,Value.int .i64 0,Value.int .i64 0,Value.slice (⟨none,0,0⟩:Sv).a (⟨none,0,0⟩:Sv).n (⟨none,0,0⟩:Sv).c,Value.int .i64 0,Value.int .u64 0,Value.int .i64 0,Value.int .i64 0,Value.int .i64 0,Value.int .i64 0] h3 fun p2 h4=>
 stoA h4 p2 [Value.int .i64 3,Value.int .i64 0,Value.int .i64 0,Value.slice (⟨none,0,0⟩:Sv).a (⟨none,0,0⟩:Sv).n (⟨none,0,0⟩:Sv).c,Value.int .i64 1,Value.slice s12.a s12.n s12.c,Value.int .i64 0,Value.slice (⟨none,0,0⟩:Sv).a (⟨none,0,0⟩:Sv).n (⟨none,0,0⟩:Sv).c,Value.bool false,Value.string (⟨#[]⟩:ByteArray),Value.int .i64 0,Value.slice (⟨none,0,0⟩:Sv).a (⟨none,0,0⟩:Sv).n (⟨none,0,0⟩:Sv).c,Value.int .i64 0,Value.int .i64 0,Value.slice (⟨none,0,0⟩:Sv).a (⟨none,0,0⟩:Sv).n (⟨none,0,0⟩:Sv).c,Value.int .i64 0,Value.int .u64 0,Value.int .i64 0,Value.int .i64 0,Value.int .i64 0,Value.int .i64 0] fun h5=>
 new 74 #[Value.int .i64 0,Value.int .i64 0,Value.int .i64 0,Value.slice (⟨none,0,0⟩:Sv).a (⟨none,0,0⟩:Sv).n (⟨none,0,0⟩:Sv).c,Value.int .i64 0,Value.slice (⟨none,0,0⟩:Sv).a (⟨none,0,0⟩:Sv).n (⟨none,0,0⟩:Sv).c,Value.int .i64 0,Value.slice (⟨none,0,0⟩:Sv).a (⟨none,0,0⟩:Sv).n (⟨none,0,0⟩:Sv).c,Value.bool false,Value.string (⟨#[]⟩:ByteArray),Value.int .i64 0,Value.slice (⟨none,0,0⟩:Sv).a (⟨none,0,0⟩:Sv).n (⟨none,0,0⟩:Sv).c,Value.int .i64 0,Value.int .i64 0,Value.slice (⟨none,0,0⟩:Sv).a (⟨none,0,0⟩:Sv).n (⟨none,0,0⟩:Sv).c,Value.int .i64 0,Value.int .u64 0,Value.int .i64 0,Value.int .i64 0,Value.int .i64 0,Value.int .i64 0] h5 fun p3 h6=>
 stoA h6 p3 [Value.int .i64 3,Value.int .i64 0,Value.int .i64 2,Value.slice (⟨none,0,0⟩:Sv).a (⟨none,0,0⟩:Sv).n (⟨none,0,0⟩:Sv).c,Value.int .i64 2,Value.slice (⟨none,0,0⟩:Sv).a (⟨none,0,0⟩:Sv).n (⟨none,0,0⟩:Sv).c,Value.int .i64 1,Value.slice (⟨none,0,0⟩:Sv).a (⟨none,0,0⟩:Sv).n (⟨none,0,0⟩:Sv).c,Value.bool true,Value.string (⟨#[]⟩:ByteArray),Value.int .i64 0,Value.slice (⟨none,0,0⟩:Sv).a (⟨none,0,0⟩:Sv).n (⟨none,0,0⟩:Sv).c,Value.int .i64 0,Value.int .i64 0,Value.slice (⟨none,0,0⟩:Sv).a (⟨none,0,0⟩:Sv).n (⟨none,0,0⟩:Sv).c,Value.int .i64 0,Value.int .u64 0,Value.int .i64 0,Value.int .i64 0,Value.int .i64 0,Value.int .i64 0] fun h7=>
 ∃T:Heap→Heap→Prop,Pre T ∧
 ∃(y20:Int) (y20_1:Int) (y20_2:Int) (y20_3:Sv) (y20_4:Int) (y20_5:Sv) (y20_6:Int) (y20_7:Sv) (y20_8:Bool) (y20_9:ByteArray) (y20_10:Int) (y20_11:Sv) (y20_12:Int) (y20_13:Int) (y20_14:Sv) (y20_15:Int) (y20_16:Int) (y20_17:Int) (y20_18:Int) (y20_19:Int) (y20_20:Int),hld (T h7) p3 (Value.int .i64 y20)∧hld (T h7) (p3.add 1) (Value.int .i64 y20_1)∧hld (T h7) (p3.add 2) (Value.int .i64 y20_2)∧hld (T h7) (p3.add 3) (Value.slice y20_3.a y20_3.n y20_3.c)∧hld (T h7) (p3.add 4) (Value.int .i64 y20_4)∧hld (T h7) (p3.add 5) (Value.slice y20_5.a y20_5.n y20_5.c)∧hld (T h7) (p3.add 6) (Value.int .i64 y20_6)∧hld (T h7) (p3.add 7) (Value.slice y20_7.a y20_7.n y20_7.c)∧hld (T h7) (p3.add 8) (Value.bool y20_8)∧hld (T h7) (p3.add 9) (Value.string y20_9)∧hld (T h7) (p3.add 10) (Value.int .i64 y20_10)∧hld (T h7) (p3.add 11) (Value.slice y20_11.a y20_11.n y20_11.c)∧hld (T h7) (p3.add 12) (Value.int .i64 y20_12)∧hld (T h7) (p3.add 13) (Value.int .i64 y20_13)∧hld (T h7) (p3.add 14) (Value.slice y20_14.a y20_14.n y20_14.c)∧hld (T h7) (p3.add 15) (Value.int .i64 y20_15)∧hld (T h7) (p3.add 16) (Value.int .u64 y20_16)∧hld (T h7) (p3.add 17) (Value.int .i64 y20_17)∧hld (T h7) (p3.add 18) (Value.int .i64 y20_18)∧hld (T h7) (p3.add 19) (Value.int .i64 y20_19)∧hld (T h7) (p3.add 20) (Value.int .i64 y20_20) ∧
 ∃(y21:Int) (y21_1:Int) (y21_2:Int) (y21_3:Sv) (y21_4:Int) (y21_5:Sv) (y21_6:Int) (y21_7:Sv) (y21_8:Bool) (y21_9:ByteArray) (y21_10:Int) (y21_11:Sv) (y21_12:Int) (y21_13:Int) (y21_14:Sv) (y21_15:Int) (y21_16:Int) (y21_17:Int) (y21_18:Int) (y21_19:Int) (y21_20:Int),hld (T h7) p2 (Value.int .i64 y21)∧hld (T h7) (p2.add 1) (Value.int .i64 y21_1)∧hld (T h7) (p2.add 2) (Value.int .i64 y21_2)∧hld (T h7) (p2.add 3) (Value.slice y21_3.a y21_3.n y21_3.c)∧hld (T h7) (p2.add 4) (Value.int .i64 y21_4)∧hld (T h7) (p2.add 5) (Value.slice y21_5.a y21_5.n y21_5.c)∧hld (T h7) (p2.add 6) (Value.int .i64 y21_6)∧hld (T h7) (p2.add 7) (Value.slice y21_7.a y21_7.n y21_7.c)∧hld (T h7) (p2.add 8) (Value.bool y21_8)∧hld (T h7) (p2.add 9) (Value.string y21_9)∧hld (T h7) (p2.add 10) (Value.int .i64 y21_10)∧hld (T h7) (p2.add 11) (Value.slice y21_11.a y21_11.n y21_11.c)∧hld (T h7) (p2.add 12) (Value.int .i64 y21_12)∧hld (T h7) (p2.add 13) (Value.int .i64 y21_13)∧hld (T h7) (p2.add 14) (Value.slice y21_14.a y21_14.n y21_14.c)∧hld (T h7) (p2.add 15) (Value.int .i64 y21_15)∧hld (T h7) (p2.add 16) (Value.int .u64 y21_16)∧hld (T h7) (p2.add 17) (Value.int .i64 y21_17)∧hld (T h7) (p2.add 18) (Value.int .i64 y21_18)∧hld (T h7) (p2.add 19) (Value.int .i64 y21_19)∧hld (T h7) (p2.add 20) (Value.int .i64 y21_20) ∧
 ∃Fq0:Sv→Nat→Nat→Heap→Prop,(∀s19 lo hi h h',T h h'→Fq0 s19 lo hi h→Fq0 s19 lo hi h') ∧
 ∃Fq4:Sv→Nat→Nat→Heap→Prop,(∀s23 lo hi h h',T h h'→Fq4 s23 lo hi h→Fq4 s23 lo hi h') ∧
 (∀(h8:Heap),T h7 h8 →
  mkS 149 (Value.agg #[Value.string (⟨#[]⟩:ByteArray),Value.int .i64 0,Value.string (⟨#[]⟩:ByteArray),Value.bool false,Value.int .i64 0,Value.slice (⟨none,0,0⟩:Sv).a (⟨none,0,0⟩:Sv).n (⟨none,0,0⟩:Sv).c,Value.slice (⟨none,0,0⟩:Sv).a (⟨none,0,0⟩:Sv).n (⟨none,0,0⟩:Sv).c,Value.int .i64 0,Value.int .i64 0]).cells 9 120 3 3 h8 fun s19 h9=>
  T h8 h9∧Fq0 s19 h8.size h9.size h9) ∧
 (∀(h12:Heap),T h7 h12 →
  newS 74 #[Value.int .i64 y20,Value.int .i64 y20_1,Value.int .i64 y20_2,Value.slice y20_3.a y20_3.n y20_3.c,Value.int .i64 y20_4,Value.slice y20_5.a y20_5.n y20_5.c,Value.int .i64 y20_6,Value.slice y20_7.a y20_7.n y20_7.c,Value.bool y20_8,Value.string y20_9,Value.int .i64 y20_10,Value.slice y20_11.a y20_11.n y20_11.c,Value.int .i64 y20_12,Value.int .i64 y20_13,Value.slice y20_14.a y20_14.n y20_14.c,Value.int .i64 y20_15,Value.int .u64 y20_16,Value.int .i64 y20_17,Value.int .i64 y20_18,Value.int .i64 y20_19,Value.int .i64 y20_20,Value.int .i64 y21,Value.int .i64 y21_1,Value.int .i64 y21_2,Value.slice y21_3.a y21_3.n y21_3.c,Value.int .i64 y21_4,Value.slice y21_5.a y21_5.n y21_5.c,Value.int .i64 y21_6,Value.slice y21_7.a y21_7.n y21_7.c,Value.bool y21_8,Value.string y21_9,Value.int .i64 y21_10,Value.slice y21_11.a y21_11.n y21_11.c,Value.int .i64 y21_12,Value.int .i64 y21_13,Value.slice y21_14.a y21_14.n y21_14.c,Value.int .i64 y21_15,Value.int .u64 y21_16,Value.int .i64 y21_17,Value.int .i64 y21_18,Value.int .i64 y21_19,Value.int .i64 y21_20,Value.int .i64 7,Value.int .i64 0,Value.int .i64 0,Value.slice (⟨none,0,0⟩:Sv).a (⟨none,0,0⟩:Sv).n (⟨none,0,0⟩:Sv).c,Value.int .i64 0,Value.slice (⟨none,0,0⟩:Sv).a (⟨none,0,0⟩:Sv).n (⟨none,0,0⟩:Sv).c,Value.int .i64 0,Value.slice (⟨none,0,0⟩:Sv).a (⟨none,0,0⟩:Sv).n (⟨none,0,0⟩:Sv).c,Value.bool false,Value.string (⟨#[]⟩:ByteArray),Value.int .i64 0,Value.slice (⟨none,0,0⟩:Sv).a (⟨none,0,0⟩:Sv).n (⟨none,0,0⟩:Sv).c,Value.int .i64 0,Value.int .i64 0,Value.slice (⟨none,0,0⟩:Sv).a (⟨none,0,0⟩:Sv).n (⟨none,0,0⟩:Sv).c,Value.int .i64 0,Value.int .u64 0,Value.int .i64 0,Value.int .i64 0,Value.int .i64 0,Value.int .i64 0] 3 h12 fun s23 h13=>
  T h12 h13∧Fq4 s23 h12.size h13.size h13) ∧
 (∀(s19:Sv) (lo0 hi0:Nat) (s23:Sv) (lo4 hi4:Nat) (h16:Heap),T h7 h16→Dis h7.size h16.size [(lo0,hi0),(lo4,hi4)]→Fq0 s19 lo0 hi0 h16→Fq4 s23 lo4 hi4 h16 →
 new 30 #[Value.string (⟨#[]⟩:ByteArray),Value.int .i64 0,Value.slice s19.a s19.n s19.c,Value.slice s23.a s23.n s23.c] h16 fun p25 h17=>
 newS 3 #[Value.int .i64 1] 1 h17 fun s29 h18=>
 newS 51 #[Value.int .i64 0,Value.int .i64 1,Value.slice (⟨none,0,0⟩:Sv).a (⟨none,0,0⟩:Sv).n (⟨none,0,0⟩:Sv).c,Value.bool true,Value.bool false,Value.slice s29.a s29.n s29.c] 1 h18 fun s31 h19=>
 cal Try.prog 11 #[Value.pointer (some p25),Value.slice s31.a s31.n s31.c] h19 fun u h20=>∃(x32:Sv) (x32_1:Int),u=Value.tuple #[Value.slice x32.a x32.n x32.c,Value.int .i64 x32_1] ∧
 newS 51 #[Value.int .i64 0,Value.int .i64 1,Value.slice (⟨none,0,0⟩:Sv).a (⟨none,0,0⟩:Sv).n (⟨none,0,0⟩:Sv).c,Value.bool true,Value.bool false,Value.slice (⟨none,0,0⟩:Sv).a (⟨none,0,0⟩:Sv).n (⟨none,0,0⟩:Sv).c] 1 h20 fun s39 h21=>
 cal Try.prog 11 #[Value.pointer (some p25),Value.slice s39.a s39.n s39.c] h21 fun u_1 h22=>∃(x40:Sv) (x40_1:Int),u_1=Value.tuple #[Value.slice x40.a x40.n x40.c,Value.int .i64 x40_1] ∧
 ∃J:Bool→Prop,(andr (((x32_1 == 0) && (x40_1 == 0)) && (((x32.n:Nat):Int) == 1)) (fun k=>
  ixS x32 0 fun q56=>
  ∃(y57:Int) (y57_1:Int) (y57_2:Bool),cl h22 q56=some (Value.int .i64 y57)∧cl h22 (q56.add 1)=some (Value.int .i64 y57_1)∧cl h22 (q56.add 2)=some (Value.bool y57_2) ∧
  k (y57 == 1 && (y57_1 == 0 && y57_2 == false))) J)∧∀x60,J x60 →
 R (Value.bool (x60 && (((x40.n:Nat):Int) == 0))) h22)
set_option maxRecDepth 100000 in
theorem F8 {h:_} {R:Value→Heap→Prop} (H:L8 h R):CallsH Try.prog 8 #[] h R:=by
 refine CallsH.enter (n:=66) Try.func8 rfl rfl rfl rfl ?_
 intro w0 aa ww S
 unfold L8 at H
 refine W.seq ?_
 refine W.region ?_
 refine OL.za S fun _ S=>?_
 refine OL.nil ?_
 refine W.seq ?_
 refine W.region ?_
 refine OL.zq S (Lf.run_build (cs:=#[Value.int .i64 1,Value.slice (⟨none,0,0⟩:Sv).a (⟨none,0,0⟩:Sv).n (⟨none,0,0⟩:Sv).c]) pl49 ti49 (parts_map S rfl) (by kernel_rfl)) fun _ S=>?_
 refine OL.zq S (Lf.run_build (cs:=#[Value.int .i64 2,Value.int .i64 1,Value.slice (⟨none,0,0⟩:Sv).a (⟨none,0,0⟩:Sv).n (⟨none,0,0⟩:Sv).c,Value.int .i64 0,Value.int .u64 0]) pl66 ti66 (parts_map S rfl) (by kernel_rfl)) fun _ S=>?_
 refine ol_alloc S H ti66 rfl rfl trivial ?_
 clear S H;intro p1 aa ww h1 H S
 refine ol_stoA S H rfl rfl ti66 trivial ?_
 clear S H;intro aa ww h2 H S
 refine OL.nil ?_
 refine W.seq ?_
 refine W.region ?_
 obtain⟨y11,y11_1,y11_2,y11_3,y11_4,c_47,c_48,c_49,c_50,c_51,H⟩:=H
 refine OL.zq S (Lf.run_ldA (cs:=[Value.int .i64 y11,Value.int .i64 y11_1,Value.slice y11_2.a y11_2.n y11_2.c,Value.int .i64 y11_3,Value.int .u64 y11_4]) (S.ev rfl) ag66 ti66 (by rw[S.heap];exact RowL.toRow ⟨c_47,c_48,c_49,c_50,c_51,trivial⟩)) fun _ S=>?_
 refine ol_newS S H Try.underlying67 ti66 (by decide) (parts_map S rfl) (by kernel_rfl) (by decide) rfl trivial ?_
 clear S H;intro s12 aa ww h3 H S
 refine OL.zq S (Lf.run_build (cs:=#[Value.int .i64 1,Value.slice s12.a s12.n s12.c,Value.int .i64 0,Value.slice (⟨none,0,0⟩:Sv).a (⟨none,0,0⟩:Sv).n (⟨none,0,0⟩:Sv).c,Value.bool false,Value.string (⟨#[]⟩:ByteArray),Value.int .i64 0,Value.slice (⟨none,0,0⟩:Sv).a (⟨none,0,0⟩:Sv).n (⟨none,0,0⟩:Sv).c]) pl70 ti70 (parts_map S rfl) (by kernel_rfl)) fun _ S=>?_
 refine OL.zq S (Lf.run_build (cs:=#[Value.int .i64 3,Value.int .i64 0,Value.int .i64 0,Value.slice (⟨none,0,0⟩:Sv).a (⟨none,0,0⟩:Sv).n (⟨none,0,0⟩:Sv).c,Value.int .i64 1,Value.slice s12.a s12.n s12.c,Value.int .i64 0,Value.slice (⟨none,0,0⟩:Sv).a (⟨none,0,0⟩:Sv).n (⟨none,0,0⟩:Sv).c,Value.bool false,Value.string (⟨#[]⟩:ByteArray),Value.int .i64 0,Value.slice (⟨none,0,0⟩:Sv).a (⟨none,0,0⟩:Sv).n (⟨none,0,0⟩:Sv).c,Value.int .i64 0,Value.int .i64 0,Value.slice (⟨none,0,0⟩:Sv).a (⟨none,0,0⟩:Sv).n (⟨none,0,0⟩:Sv).c,Value.int .i64 0,Value.int .u64 0,Value.int .i64 0,Value.int .i64 0,Value.int .i64 0,Value.int .i64 0]) pl74 ti74 (parts_map S rfl) (by kernel_rfl)) fun _ S=>?_
 refine ol_alloc S H ti74 rfl rfl trivial ?_
 clear S H;intro p2 aa ww h4 H S
 refine ol_stoA S H rfl rfl ti74 trivial ?_
 clear S H;intro aa ww h5 H S
 refine OL.nil ?_
 refine W.seq ?_
 refine W.region ?_
 refine OL.zq S (Lf.run_build (cs:=#[Value.int .i64 2,Value.slice (⟨none,0,0⟩:Sv).a (⟨none,0,0⟩:Sv).n (⟨none,0,0⟩:Sv).c]) pl49 ti49 (parts_map S rfl) (by kernel_rfl)) fun _ S=>?_
 refine OL.zq S (Lf.run_build (cs:=#[Value.int .i64 1,Value.slice (⟨none,0,0⟩:Sv).a (⟨none,0,0⟩:Sv).n (⟨none,0,0⟩:Sv).c]) pl49 ti49 (parts_map S rfl) (by kernel_rfl)) fun _ S=>?_
 refine OL.zq S (Lf.run_build (cs:=#[Value.int .i64 2,Value.slice (⟨none,0,0⟩:Sv).a (⟨none,0,0⟩:Sv).n (⟨none,0,0⟩:Sv).c,Value.int .i64 1,Value.slice (⟨none,0,0⟩:Sv).a (⟨none,0,0⟩:Sv).n (⟨none,0,0⟩:Sv).c,Value.bool true,Value.string (⟨#[]⟩:ByteArray),Value.int .i64 0,Value.slice (⟨none,0,0⟩:Sv).a (⟨none,0,0⟩:Sv).n (⟨none,0,0⟩:Sv).c]) pl70 ti70 (parts_map S rfl) (by kernel_rfl)) fun _ S=>?_
 refine OL.zq S (Lf.run_build (cs:=#[Value.int .i64 3,Value.int .i64 0,Value.int .i64 2,Value.slice (⟨none,0,0⟩:Sv).a (⟨none,0,0⟩:Sv).n (⟨none,0,0⟩:Sv).c,Value.int .i64 2,Value.slice (⟨none,0,0⟩:Sv).a (⟨none,0,0⟩:Sv).n (⟨none,0,0⟩:Sv).c,Value.int .i64 1,Value.slice (⟨none,0,0⟩:Sv).a (⟨none,0,0⟩:Sv).n (⟨none,0,0⟩:Sv).c,Value.bool true,Value.string (⟨#[]⟩:ByteArray),Value.int .i64 0,Value.slice (⟨none,0,0⟩:Sv).a (⟨none,0,0⟩:Sv).n (⟨none,0,0⟩:Sv).c,Value.int .i64 0,Value.int .i64 0,Value.slice (⟨none,0,0⟩:Sv).a (⟨none,0,0⟩:Sv).n (⟨none,0,0⟩:Sv).c,Value.int .i64 0,Value.int .u64 0,Value.int .i64 0,Value.int .i64 0,Value.int .i64 0,Value.int .i64 0]) pl74 ti74 (parts_map S rfl) (by kernel_rfl)) fun _ S=>?_
 refine ol_alloc S H ti74 rfl rfl trivial ?_
 clear S H;intro p3 aa ww h6 H S
 refine ol_stoA S H rfl rfl ti74 trivial ?_
 clear S H;intro aa ww h7 H S
 refine OL.nil ?_
 refine W.seq ?_
 replace S:=S.sub [(2,Value.pointer (some p2)),(3,Value.pointer (some p3))] ⟨rfl,rfl,trivial⟩
 refine W.regionD S (by kernel_rfl) ?_
 clear S;intro ww S
 refine AN.zq 3 S rfl (fun _=>Lf.run_build (cs:=#[Value.int .i64 7,Value.int .i64 0,Value.int .i64 0,Value.slice (⟨none,0,0⟩:Sv).a (⟨none,0,0⟩:Sv).n (⟨none,0,0⟩:Sv).c,Value.int .i64 0,Value.slice (⟨none,0,0⟩:Sv).a (⟨none,0,0⟩:Sv).n (⟨none,0,0⟩:Sv).c,Value.int .i64 0,Value.slice (⟨none,0,0⟩:Sv).a (⟨none,0,0⟩:Sv).n (⟨none,0,0⟩:Sv).c,Value.bool false,Value.string (⟨#[]⟩:ByteArray),Value.int .i64 0,Value.slice (⟨none,0,0⟩:Sv).a (⟨none,0,0⟩:Sv).n (⟨none,0,0⟩:Sv).c,Value.int .i64 0,Value.int .i64 0,Value.slice (⟨none,0,0⟩:Sv).a (⟨none,0,0⟩:Sv).n (⟨none,0,0⟩:Sv).c,Value.int .i64 0,Value.int .u64 0,Value.int .i64 0,Value.int .i64 0,Value.int .i64 0,Value.int .i64 0]) pl74 ti74 (parts_map S rfl) (by kernel_rfl)) fun _ S=>?_
 obtain⟨T,hT,H⟩:=H
 obtain⟨y20,y20_1,y20_2,y20_3,y20_4,y20_5,y20_6,y20_7,y20_8,y20_9,y20_10,y20_11,y20_12,y20_13,y20_14,y20_15,y20_16,y20_17,y20_18,y20_19,y20_20,c_1,c_2,c_3,c_4,c_5,c_6,c_7,c_8,c_9,c_10,c_11,c_12,c_13,c_14,c_15,c_16,c_17,c_18,c_19,c_20,c_21,H⟩:=H
 obtain⟨y21,y21_1,y21_2,y21_3,y21_4,y21_5,y21_6,y21_7,y21_8,y21_9,y21_10,y21_11,y21_12,y21_13,y21_14,y21_15,y21_16,y21_17,y21_18,y21_19,y21_20,c_22,c_23,c_24,c_25,c_26,c_27,c_28,c_29,c_30,c_31,c_32,c_33,c_34,c_35,c_36,c_37,c_38,c_39,c_40,c_41,c_42,H⟩:=H
 obtain⟨Fq0,sq,H⟩:=H
 obtain⟨Fq4,sq_1,H⟩:=H
 obtain⟨Oq,Oq_1,H⟩:=H
 let gq0:GOp:=⟨0,19,true,[0],fun lq=>Value.slice (pS (nth lq 0)).a (pS (nth lq 0)).n (pS (nth lq 0)).c,fun lq lo hi h=>Fq0 (pS (nth lq 0)) lo hi h⟩
 let gq1:GOp:=⟨1,20,false,[1],fun lq=>Value.agg #[Value.int .i64 y20,Value.int .i64 y20_1,Value.int .i64 y20_2,Value.slice y20_3.a y20_3.n y20_3.c,Value.int .i64 y20_4,Value.slice y20_5.a y20_5.n y20_5.c,Value.int .i64 y20_6,Value.slice y20_7.a y20_7.n y20_7.c,Value.bool y20_8,Value.string y20_9,Value.int .i64 y20_10,Value.slice y20_11.a y20_11.n y20_11.c,Value.int .i64 y20_12,Value.int .i64 y20_13,Value.slice y20_14.a y20_14.n y20_14.c,Value.int .i64 y20_15,Value.int .u64 y20_16,Value.int .i64 y20_17,Value.int .i64 y20_18,Value.int .i64 y20_19,Value.int .i64 y20_20],fun _ _ _ _=>True⟩
 let gq2:GOp:=⟨2,21,false,[2],fun lq=>Value.agg #[Value.int .i64 y21,Value.int .i64 y21_1,Value.int .i64 y21_2,Value.slice y21_3.a y21_3.n y21_3.c,Value.int .i64 y21_4,Value.slice y21_5.a y21_5.n y21_5.c,Value.int .i64 y21_6,Value.slice y21_7.a y21_7.n y21_7.c,Value.bool y21_8,Value.string y21_9,Value.int .i64 y21_10,Value.slice y21_11.a y21_11.n y21_11.c,Value.int .i64 y21_12,Value.int .i64 y21_13,Value.slice y21_14.a y21_14.n y21_14.c,Value.int .i64 y21_15,Value.int .u64 y21_16,Value.int .i64 y21_17,Value.int .i64 y21_18,Value.int .i64 y21_19,Value.int .i64 y21_20],fun _ _ _ _=>True⟩
 let gq4:GOp:=⟨4,23,true,[4],fun lq=>Value.slice (pS (nth lq 0)).a (pS (nth lq 0)).n (pS (nth lq 0)).c,fun lq lo hi h=>Fq4 (pS (nth lq 0)) lo hi h⟩
 replace S:=S.sub [(2,Value.pointer (some p2)),(3,Value.pointer (some p3)),(22,Value.agg #[Value.int .i64 7,Value.int .i64 0,Value.int .i64 0,Value.slice (⟨none,0,0⟩:Sv).a (⟨none,0,0⟩:Sv).n (⟨none,0,0⟩:Sv).c,Value.int .i64 0,Value.slice (⟨none,0,0⟩:Sv).a (⟨none,0,0⟩:Sv).n (⟨none,0,0⟩:Sv).c,Value.int .i64 0,Value.slice (⟨none,0,0⟩:Sv).a (⟨none,0,0⟩:Sv).n (⟨none,0,0⟩:Sv).c,Value.bool false,Value.string (⟨#[]⟩:ByteArray),Value.int .i64 0,Value.slice (⟨none,0,0⟩:Sv).a (⟨none,0,0⟩:Sv).n (⟨none,0,0⟩:Sv).c,Value.int .i64 0,Value.int .i64 0,Value.slice (⟨none,0,0⟩:Sv).a (⟨none,0,0⟩:Sv).n (⟨none,0,0⟩:Sv).c,Value.int .i64 0,Value.int .u64 0,Value.int .i64 0,Value.int .i64 0,Value.int .i64 0,Value.int .i64 0])] ⟨rfl,rfl,rfl,trivial⟩
 refine AN.group (fuel:=3) T hT [(gq0,[]),(gq1,[]),(gq2,[]),(gq4,[gq1,gq2])] [(0,19,[0],[]),(1,20,[1],[]),(2,21,[2],[]),(4,23,[4],[1,2])] [2,3,22] S rfl rfl (by kernel_rfl) (by simp) ⟨?_,?_,?_,?_,trivial⟩ ?_
 ·
  refine⟨_,rfl,rfl,fun _ _ _ _ _ ht hf=>sq _ _ _ _ _ ht hf,?_⟩
  intro Xg Bg aa ww h10 Ef S hTg hok
  replace S:St 66 ((2,Value.pointer (some p2)) :: (3,Value.pointer (some p3)) :: (22,Value.agg #[Value.int .i64 7,Value.int .i64 0,Value.int .i64 0,Value.slice (⟨none,0,0⟩:Sv).a (⟨none,0,0⟩:Sv).n (⟨none,0,0⟩:Sv).c,Value.int .i64 0,Value.slice (⟨none,0,0⟩:Sv).a (⟨none,0,0⟩:Sv).n (⟨none,0,0⟩:Sv).c,Value.int .i64 0,Value.slice (⟨none,0,0⟩:Sv).a (⟨none,0,0⟩:Sv).n (⟨none,0,0⟩:Sv).c,Value.bool false,Value.string (⟨#[]⟩:ByteArray),Value.int .i64 0,Value.slice (⟨none,0,0⟩:Sv).a (⟨none,0,0⟩:Sv).n (⟨none,0,0⟩:Sv).c,Value.int .i64 0,Value.int .i64 0,Value.slice (⟨none,0,0⟩:Sv).a (⟨none,0,0⟩:Sv).n (⟨none,0,0⟩:Sv).c,Value.int .i64 0,Value.int .u64 0,Value.int .i64 0,Value.int .i64 0,Value.int .i64 0,Value.int .i64 0]) :: Ef) h10 w0 aa ww:=S
  have H:=Oq h10 hTg
  refine ol_mkS S H Try.underlying27 ti149 rfl rfl rfl trivial ?_
  clear S H;intro s19_1 aa ww h11 H S
  refine OL.nil ?_
  exact⟨Value.slice s19_1.a s19_1.n s19_1.c,_,S,H.1,H.2⟩
 ·
  refine⟨_,rfl,rfl,fun _ _ _ _ _ _ _=>trivial,?_⟩
  intro Xg Bg aa ww h23 Ef S hTg hok
  replace S:St 66 ((2,Value.pointer (some p2)) :: (3,Value.pointer (some p3)) :: (22,Value.agg #[Value.int .i64 7,Value.int .i64 0,Value.int .i64 0,Value.slice (⟨none,0,0⟩:Sv).a (⟨none,0,0⟩:Sv).n (⟨none,0,0⟩:Sv).c,Value.int .i64 0,Value.slice (⟨none,0,0⟩:Sv).a (⟨none,0,0⟩:Sv).n (⟨none,0,0⟩:Sv).c,Value.int .i64 0,Value.slice (⟨none,0,0⟩:Sv).a (⟨none,0,0⟩:Sv).n (⟨none,0,0⟩:Sv).c,Value.bool false,Value.string (⟨#[]⟩:ByteArray),Value.int .i64 0,Value.slice (⟨none,0,0⟩:Sv).a (⟨none,0,0⟩:Sv).n (⟨none,0,0⟩:Sv).c,Value.int .i64 0,Value.int .i64 0,Value.slice (⟨none,0,0⟩:Sv).a (⟨none,0,0⟩:Sv).n (⟨none,0,0⟩:Sv).c,Value.int .i64 0,Value.int .u64 0,Value.int .i64 0,Value.int .i64 0,Value.int .i64 0,Value.int .i64 0]) :: Ef) h23 w0 aa ww:=S
  refine OL.zq S (Lf.run_ldA (cs:=[Value.int .i64 y20,Value.int .i64 y20_1,Value.int .i64 y20_2,Value.slice y20_3.a y20_3.n y20_3.c,Value.int .i64 y20_4,Value.slice y20_5.a y20_5.n y20_5.c,Value.int .i64 y20_6,Value.slice y20_7.a y20_7.n y20_7.c,Value.bool y20_8,Value.string y20_9,Value.int .i64 y20_10,Value.slice y20_11.a y20_11.n y20_11.c,Value.int .i64 y20_12,Value.int .i64 y20_13,Value.slice y20_14.a y20_14.n y20_14.c,Value.int .i64 y20_15,Value.int .u64 y20_16,Value.int .i64 y20_17,Value.int .i64 y20_18,Value.int .i64 y20_19,Value.int .i64 y20_20]) (S.ev rfl) ag74 ti74 (by rw[S.heap];exact RowL.toRow ⟨c_1 _ hTg,c_2 _ hTg,c_3 _ hTg,c_4 _ hTg,c_5 _ hTg,c_6 _ hTg,c_7 _ hTg,c_8 _ hTg,c_9 _ hTg,c_10 _ hTg,c_11 _ hTg,c_12 _ hTg,c_13 _ hTg,c_14 _ hTg,c_15 _ hTg,c_16 _ hTg,c_17 _ hTg,c_18 _ hTg,c_19 _ hTg,c_20 _ hTg,c_21 _ hTg,trivial⟩)) fun _ S=>?_
  refine OL.nil ?_
  exact⟨undef,_,S,hT.refl _,trivial⟩
 ·
  refine⟨_,rfl,rfl,fun _ _ _ _ _ _ _=>trivial,?_⟩
  intro Xg Bg aa ww h24 Ef S hTg hok
  replace S:St 66 ((2,Value.pointer (some p2)) :: (3,Value.pointer (some p3)) :: (22,Value.agg #[Value.int .i64 7,Value.int .i64 0,Value.int .i64 0,Value.slice (⟨none,0,0⟩:Sv).a (⟨none,0,0⟩:Sv).n (⟨none,0,0⟩:Sv).c,Value.int .i64 0,Value.slice (⟨none,0,0⟩:Sv).a (⟨none,0,0⟩:Sv).n (⟨none,0,0⟩:Sv).c,Value.int .i64 0,Value.slice (⟨none,0,0⟩:Sv).a (⟨none,0,0⟩:Sv).n (⟨none,0,0⟩:Sv).c,Value.bool false,Value.string (⟨#[]⟩:ByteArray),Value.int .i64 0,Value.slice (⟨none,0,0⟩:Sv).a (⟨none,0,0⟩:Sv).n (⟨none,0,0⟩:Sv).c,Value.int .i64 0,Value.int .i64 0,Value.slice (⟨none,0,0⟩:Sv).a (⟨none,0,0⟩:Sv).n (⟨none,0,0⟩:Sv).c,Value.int .i64 0,Value.int .u64 0,Value.int .i64 0,Value.int .i64 0,Value.int .i64 0,Value.int .i64 0]) :: Ef) h24 w0 aa ww:=S
  refine OL.zq S (Lf.run_ldA (cs:=[Value.int .i64 y21,Value.int .i64 y21_1,Value.int .i64 y21_2,Value.slice y21_3.a y21_3.n y21_3.c,Value.int .i64 y21_4,Value.slice y21_5.a y21_5.n y21_5.c,Value.int .i64 y21_6,Value.slice y21_7.a y21_7.n y21_7.c,Value.bool y21_8,Value.string y21_9,Value.int .i64 y21_10,Value.slice y21_11.a y21_11.n y21_11.c,Value.int .i64 y21_12,Value.int .i64 y21_13,Value.slice y21_14.a y21_14.n y21_14.c,Value.int .i64 y21_15,Value.int .u64 y21_16,Value.int .i64 y21_17,Value.int .i64 y21_18,Value.int .i64 y21_19,Value.int .i64 y21_20]) (S.ev rfl) ag74 ti74 (by rw[S.heap];exact RowL.toRow ⟨c_22 _ hTg,c_23 _ hTg,c_24 _ hTg,c_25 _ hTg,c_26 _ hTg,c_27 _ hTg,c_28 _ hTg,c_29 _ hTg,c_30 _ hTg,c_31 _ hTg,c_32 _ hTg,c_33 _ hTg,c_34 _ hTg,c_35 _ hTg,c_36 _ hTg,c_37 _ hTg,c_38 _ hTg,c_39 _ hTg,c_40 _ hTg,c_41 _ hTg,c_42 _ hTg,trivial⟩)) fun _ S=>?_
  refine OL.nil ?_
  exact⟨undef,_,S,hT.refl _,trivial⟩
 ·
  refine⟨_,rfl,rfl,fun _ _ _ _ _ ht hf=>sq_1 _ _ _ _ _ ht hf,?_⟩
  intro Xg Bg aa ww h14 Ef S hTg hok
  obtain⟨kq1,kq2,-⟩:=hok
  replace S:St 66 ((20,Value.agg #[Value.int .i64 y20,Value.int .i64 y20_1,Value.int .i64 y20_2,Value.slice y20_3.a y20_3.n y20_3.c,Value.int .i64 y20_4,Value.slice y20_5.a y20_5.n y20_5.c,Value.int .i64 y20_6,Value.slice y20_7.a y20_7.n y20_7.c,Value.bool y20_8,Value.string y20_9,Value.int .i64 y20_10,Value.slice y20_11.a y20_11.n y20_11.c,Value.int .i64 y20_12,Value.int .i64 y20_13,Value.slice y20_14.a y20_14.n y20_14.c,Value.int .i64 y20_15,Value.int .u64 y20_16,Value.int .i64 y20_17,Value.int .i64 y20_18,Value.int .i64 y20_19,Value.int .i64 y20_20]) :: (21,Value.agg #[Value.int .i64 y21,Value.int .i64 y21_1,Value.int .i64 y21_2,Value.slice y21_3.a y21_3.n y21_3.c,Value.int .i64 y21_4,Value.slice y21_5.a y21_5.n y21_5.c,Value.int .i64 y21_6,Value.slice y21_7.a y21_7.n y21_7.c,Value.bool y21_8,Value.string y21_9,Value.int .i64 y21_10,Value.slice y21_11.a y21_11.n y21_11.c,Value.int .i64 y21_12,Value.int .i64 y21_13,Value.slice y21_14.a y21_14.n y21_14.c,Value.int .i64 y21_15,Value.int .u64 y21_16,Value.int .i64 y21_17,Value.int .i64 y21_18,Value.int .i64 y21_19,Value.int .i64 y21_20]) :: (2,Value.pointer (some p2)) :: (3,Value.pointer (some p3)) :: (22,Value.agg #[Value.int .i64 7,Value.int .i64 0,Value.int .i64 0,Value.slice (⟨none,0,0⟩:Sv).a (⟨none,0,0⟩:Sv).n (⟨none,0,0⟩:Sv).c,Value.int .i64 0,Value.slice (⟨none,0,0⟩:Sv).a (⟨none,0,0⟩:Sv).n (⟨none,0,0⟩:Sv).c,Value.int .i64 0,Value.slice (⟨none,0,0⟩:Sv).a (⟨none,0,0⟩:Sv).n (⟨none,0,0⟩:Sv).c,Value.bool false,Value.string (⟨#[]⟩:ByteArray),Value.int .i64 0,Value.slice (⟨none,0,0⟩:Sv).a (⟨none,0,0⟩:Sv).n (⟨none,0,0⟩:Sv).c,Value.int .i64 0,Value.int .i64 0,Value.slice (⟨none,0,0⟩:Sv).a (⟨none,0,0⟩:Sv).n (⟨none,0,0⟩:Sv).c,Value.int .i64 0,Value.int .u64 0,Value.int .i64 0,Value.int .i64 0,Value.int .i64 0,Value.int .i64 0]) :: Ef) h14 w0 aa ww:=S
  have H:=Oq_1 h14 hTg
  refine ol_newS S H Try.underlying28 ti74 (by decide) (parts_map S rfl) (by kernel_rfl) (by decide) rfl trivial ?_
  clear S H;intro s23_1 aa ww h15 H S
  refine OL.nil ?_
  exact⟨Value.slice s23_1.a s23_1.n s23_1.c,_,S,H.1,H.2⟩
 clear S
 intro Xg Bg aa ww h16 S hTg hok hdis
 obtain⟨kq0,kq1,kq2,kq4,-⟩:=hok
 replace H:=H (pS (Xg 0)) (Bg 0).1 (Bg 0).2 (pS (Xg 4)) (Bg 4).1 (Bg 4).2 h16 hTg hdis kq0 kq4
 replace S:=S.sub [(2,Value.pointer (some p2)),(3,Value.pointer (some p3)),(19,Value.slice (pS (Xg 0)).a (pS (Xg 0)).n (pS (Xg 0)).c),(20,Value.agg #[Value.int .i64 y20,Value.int .i64 y20_1,Value.int .i64 y20_2,Value.slice y20_3.a y20_3.n y20_3.c,Value.int .i64 y20_4,Value.slice y20_5.a y20_5.n y20_5.c,Value.int .i64 y20_6,Value.slice y20_7.a y20_7.n y20_7.c,Value.bool y20_8,Value.string y20_9,Value.int .i64 y20_10,Value.slice y20_11.a y20_11.n y20_11.c,Value.int .i64 y20_12,Value.int .i64 y20_13,Value.slice y20_14.a y20_14.n y20_14.c,Value.int .i64 y20_15,Value.int .u64 y20_16,Value.int .i64 y20_17,Value.int .i64 y20_18,Value.int .i64 y20_19,Value.int .i64 y20_20]),(21,Value.agg #[Value.int .i64 y21,Value.int .i64 y21_1,Value.int .i64 y21_2,Value.slice y21_3.a y21_3.n y21_3.c,Value.int .i64 y21_4,Value.slice y21_5.a y21_5.n y21_5.c,Value.int .i64 y21_6,Value.slice y21_7.a y21_7.n y21_7.c,Value.bool y21_8,Value.string y21_9,Value.int .i64 y21_10,Value.slice y21_11.a y21_11.n y21_11.c,Value.int .i64 y21_12,Value.int .i64 y21_13,Value.slice y21_14.a y21_14.n y21_14.c,Value.int .i64 y21_15,Value.int .u64 y21_16,Value.int .i64 y21_17,Value.int .i64 y21_18,Value.int .i64 y21_19,Value.int .i64 y21_20]),(22,Value.agg #[Value.int .i64 7,Value.int .i64 0,Value.int .i64 0,Value.slice (⟨none,0,0⟩:Sv).a (⟨none,0,0⟩:Sv).n (⟨none,0,0⟩:Sv).c,Value.int .i64 0,Value.slice (⟨none,0,0⟩:Sv).a (⟨none,0,0⟩:Sv).n (⟨none,0,0⟩:Sv).c,Value.int .i64 0,Value.slice (⟨none,0,0⟩:Sv).a (⟨none,0,0⟩:Sv).n (⟨none,0,0⟩:Sv).c,Value.bool false,Value.string (⟨#[]⟩:ByteArray),Value.int .i64 0,Value.slice (⟨none,0,0⟩:Sv).a (⟨none,0,0⟩:Sv).n (⟨none,0,0⟩:Sv).c,Value.int .i64 0,Value.int .i64 0,Value.slice (⟨none,0,0⟩:Sv).a (⟨none,0,0⟩:Sv).n (⟨none,0,0⟩:Sv).c,Value.int .i64 0,Value.int .u64 0,Value.int .i64 0,Value.int .i64 0,Value.int .i64 0,Value.int .i64 0]),(23,Value.slice (pS (Xg 4)).a (pS (Xg 4)).n (pS (Xg 4)).c)] ⟨rfl,rfl,rfl,rfl,rfl,rfl,rfl,trivial⟩
 generalize (pS (Xg 0))=s19 at H S
 generalize (pS (Xg 4))=s23 at H S
 generalize Bg 0=bq0 at H
 generalize Bg 4=bq4 at H
 clear hTg hdis kq4 kq2 kq1 kq0 gq4 gq2 gq1 gq0 Oq Oq_1 sq sq_1
 refine AN.zq 5 S rfl (fun _=>Lf.run_build (cs:=#[Value.string (⟨#[]⟩:ByteArray),Value.int .i64 0,Value.slice s19.a s19.n s19.c,Value.slice s23.a s23.n s23.c]) pl30 ti30 (parts_map S rfl) (by kernel_rfl)) fun _ S=>?_
 refine AN.eff 6 rfl (by kernel_rfl) ?_
 refine ol_box S H rfl rfl rfl trivial ?_
 clear S H;intro p25 aa ww h17 H S
 refine OL.nil ?_
 refine AN.zq 7 S rfl (fun _=>Lf.run_assign (S.ev rfl)) fun _ S=>?_
 refine AN.done (by kernel_rfl) ?_
 refine W.seq ?_
 refine W.region ?_
 refine OL.zm S fun _ S=>?_
 refine OL.zq S (Lf.run_build (cs:=#[Value.int .i64 1,Value.slice (⟨none,0,0⟩:Sv).a (⟨none,0,0⟩:Sv).n (⟨none,0,0⟩:Sv).c]) pl49 ti49 (parts_map S rfl) (by kernel_rfl)) fun _ S=>?_
 refine ol_newS S H Try.underlying47 ti3 (by decide) (parts_map S rfl) (by kernel_rfl) (by decide) rfl trivial ?_
 clear S H;intro s29 aa ww h18 H S
 refine OL.zq S (Lf.run_build (cs:=#[Value.int .i64 0,Value.int .i64 1,Value.slice (⟨none,0,0⟩:Sv).a (⟨none,0,0⟩:Sv).n (⟨none,0,0⟩:Sv).c,Value.bool true,Value.bool false,Value.slice s29.a s29.n s29.c]) pl51 ti51 (parts_map S rfl) (by kernel_rfl)) fun _ S=>?_
 refine ol_newS S H Try.underlying32 ti51 (by decide) (parts_map S rfl) (by kernel_rfl) (by decide) rfl trivial ?_
 clear S H;intro s31 aa ww h19 H S
 refine ol_cal S H isfn11 rfl rfl trivial ?_
 clear S H;intro u aa ww h20 H S
 obtain⟨x32,x32_1,rfl,H⟩:=H
 refine OL.zm S fun _ S=>?_
 refine OL.zq S (Lf.run_ex (S.ev rfl) rfl) fun _ S=>?_
 refine OL.zq S (Lf.run_ex (S.ev rfl) rfl) fun _ S=>?_
 refine OL.za S fun _ S=>?_
 refine OL.za S fun _ S=>?_
 refine OL.nil ?_
 refine W.seq ?_
 refine W.region ?_
 refine OL.zm S fun _ S=>?_
 refine OL.zq S (Lf.run_build (cs:=#[Value.int .i64 1,Value.slice (⟨none,0,0⟩:Sv).a (⟨none,0,0⟩:Sv).n (⟨none,0,0⟩:Sv).c]) pl49 ti49 (parts_map S rfl) (by kernel_rfl)) fun _ S=>?_
 refine OL.zq S (Lf.run_build (cs:=#[Value.int .i64 0,Value.int .i64 1,Value.slice (⟨none,0,0⟩:Sv).a (⟨none,0,0⟩:Sv).n (⟨none,0,0⟩:Sv).c,Value.bool true,Value.bool false,Value.slice (⟨none,0,0⟩:Sv).a (⟨none,0,0⟩:Sv).n (⟨none,0,0⟩:Sv).c]) pl51 ti51 (parts_map S rfl) (by kernel_rfl)) fun _ S=>?_
 refine ol_newS S H Try.underlying32 ti51 (by decide) (parts_map S rfl) (by kernel_rfl) (by decide) rfl trivial ?_
 clear S H;intro s39 aa ww h21 H S
 refine ol_cal S H isfn11 rfl rfl trivial ?_
 clear S H;intro u_1 aa ww h22 H S
 obtain⟨x40,x40_1,rfl,H⟩:=H
 refine OL.zm S fun _ S=>?_
 refine OL.zq S (Lf.run_ex (S.ev rfl) rfl) fun _ S=>?_
 refine OL.zq S (Lf.run_ex (S.ev rfl) rfl) fun _ S=>?_
 refine OL.za S fun _ S=>?_
 refine OL.za S fun _ S=>?_
 refine OL.nil ?_
 refine W.seq ?_
 refine W.region ?_
 refine OL.zm S fun _ S=>?_
 refine OL.zq S (Lf.run_eql (S.ev rfl) (S.ev rfl)) fun _ S=>?_
 refine OL.zm S fun _ S=>?_
 refine OL.cutN 3 (fun aa ww=>St 66 ((48,Value.bool ((x32_1 == 0) && (x40_1 == 0))) :: [(5,Value.slice x32.a x32.n x32.c),(6,Value.int .i64 x32_1),(7,Value.slice x40.a x40.n x40.c),(8,Value.int .i64 x40_1),(43,Value.int .i64 x32_1),(44,Value.bool (x32_1 == 0)),(45,Value.bool (x32_1 == 0))]) h22 w0 aa ww) ?_ ?_
 ·
  rcases Bool.eq_false_or_eq_true (x32_1 == 0) with hb|hb
  ·
   refine OL.zm (hg:=GOk.mk rfl rfl hb) S fun _ S=>?_
   refine OL.zq (hg:=GOk.mk rfl rfl hb) S (Lf.run_eql (S.ev rfl) (S.ev rfl)) fun _ S=>?_
   refine OL.zq S (Lf.run_pickT (S.ev rfl) hb (S.ev rfl)) fun _ S=>?_
   refine OL.nil ?_
   exact (S.hd (by rw[hb,Bool.true_and])).sub _ ⟨rfl,rfl,rfl,rfl,rfl,rfl,rfl,rfl,trivial⟩
  ·
   refine OL.zn S (GNo.mk rfl rfl hb) fun _ S=>?_
   refine OL.zn S (GNo.mk rfl rfl hb) fun _ S=>?_
   refine OL.zq S (Lf.run_pickF (S.ev rfl) hb (S.ev rfl)) fun _ S=>?_
   refine OL.nil ?_
   exact (S.hd (by rw[hb,Bool.false_and])).sub _ ⟨rfl,rfl,rfl,rfl,rfl,rfl,rfl,rfl,trivial⟩
 ·
  clear S
  intro aa ww S
  refine OL.zm S fun _ S=>?_
  refine OL.cutN 4 (fun aa ww=>St 66 ((53,Value.bool (((x32_1 == 0) && (x40_1 == 0)) && (((x32.n:Nat):Int) == 1))) :: [(5,Value.slice x32.a x32.n x32.c),(6,Value.int .i64 x32_1),(7,Value.slice x40.a x40.n x40.c),(8,Value.int .i64 x40_1),(43,Value.int .i64 x32_1),(44,Value.bool (x32_1 == 0)),(45,Value.bool (x32_1 == 0)),(48,Value.bool ((x32_1 == 0) && (x40_1 == 0))),(49,Value.bool ((x32_1 == 0) && (x40_1 == 0)))]) h22 w0 aa ww) ?_ ?_
  ·
   rcases Bool.eq_false_or_eq_true ((x32_1 == 0) && (x40_1 == 0)) with hb_1|hb_1
   ·
    refine OL.zm (hg:=GOk.mk rfl rfl hb_1) S fun _ S=>?_
    refine OL.zq (hg:=GOk.mk rfl rfl hb_1) S (Lf.run_lens (S.ev rfl) rfl Try.underlying34) fun _ S=>?_
    refine OL.zq (hg:=GOk.mk rfl rfl hb_1) S (Lf.run_eql (S.ev rfl) (S.ev rfl)) fun _ S=>?_
    refine OL.zq S (Lf.run_pickT (S.ev rfl) hb_1 (S.ev rfl)) fun _ S=>?_
    refine OL.nil ?_
    exact (S.hd (by rw[hb_1,Bool.true_and])).sub _ ⟨rfl,rfl,rfl,rfl,rfl,rfl,rfl,rfl,rfl,rfl,trivial⟩
   ·
    refine OL.zn S (GNo.mk rfl rfl hb_1) fun _ S=>?_
    refine OL.zn S (GNo.mk rfl rfl hb_1) fun _ S=>?_
    refine OL.zn S (GNo.mk rfl rfl hb_1) fun _ S=>?_
    refine OL.zq S (Lf.run_pickF (S.ev rfl) hb_1 (S.ev rfl)) fun _ S=>?_
    refine OL.nil ?_
    exact (S.hd (by rw[hb_1,Bool.false_and])).sub _ ⟨rfl,rfl,rfl,rfl,rfl,rfl,rfl,rfl,rfl,rfl,trivial⟩
  ·
   clear S
   intro aa ww S
   refine OL.zm S fun _ S=>?_
   obtain⟨J,H,HK⟩:=H
   refine OL.cutN 6 (fun aa ww=>∃x60,St 66 ((60,Value.bool x60) :: [(5,Value.slice x32.a x32.n x32.c),(6,Value.int .i64 x32_1),(7,Value.slice x40.a x40.n x40.c),(8,Value.int .i64 x40_1),(43,Value.int .i64 x32_1),(44,Value.bool (x32_1 == 0)),(45,Value.bool (x32_1 == 0)),(48,Value.bool ((x32_1 == 0) && (x40_1 == 0))),(49,Value.bool ((x32_1 == 0) && (x40_1 == 0))),(53,Value.bool (((x32_1 == 0) && (x40_1 == 0)) && (((x32.n:Nat):Int) == 1))),(54,Value.bool (((x32_1 == 0) && (x40_1 == 0)) && (((x32.n:Nat):Int) == 1)))]) h22 w0 aa ww∧J x60) ?_ ?_
   ·
    rcases Bool.eq_false_or_eq_true (((x32_1 == 0) && (x40_1 == 0)) && (((x32.n:Nat):Int) == 1)) with hb_2|hb_2
    ·
     replace H:=H.1 hb_2
     refine OL.zm (hg:=GOk.mk rfl rfl hb_2) S fun _ S=>?_
     obtain⟨q56,e,e_1,e_2,H⟩:=H
     refine OL.zq (hg:=GOk.mk rfl rfl hb_2) S (Lf.run_ixs (S.ev rfl) (S.ev rfl) Try.underlying34 ti58 e e_1 e_2) fun _ S=>?_
     obtain⟨y57,y57_1,y57_2,c_44,c_45,c_46,H⟩:=H
     refine OL.zq (hg:=GOk.mk rfl rfl hb_2) S (Lf.run_ldA (cs:=[Value.int .i64 y57,Value.int .i64 y57_1,Value.bool y57_2]) (S.ev rfl) ag58 ti58 (by rw[S.heap];exact RowL.toRow ⟨c_44,c_45,c_46,trivial⟩)) fun _ S=>?_
     refine OL.zq (hg:=GOk.mk rfl rfl hb_2) S (Lf.run_build (cs:=#[Value.int .i64 1,Value.int .i64 0,Value.bool false]) pl58 ti58 (parts_map S rfl) (by kernel_rfl)) fun _ S=>?_
     refine OL.zq (hg:=GOk.mk rfl rfl hb_2) S (Lf.run_eqlC3 Try.underlying58 (by kernel_rfl) (by decide) rfl Try.underlying3 Try.underlying3 Try.underlying4 (by kernel_rfl) (S.ev rfl) (S.ev rfl)) fun _ S=>?_
     refine OL.zq S (Lf.run_pickT (S.ev rfl) hb_2 (S.ev rfl)) fun _ S=>?_
     refine OL.nil ?_
     exact⟨_,S.sub _ ⟨rfl,rfl,rfl,rfl,rfl,rfl,rfl,rfl,rfl,rfl,rfl,rfl,trivial⟩,H⟩
    ·
     replace H:=H.2 hb_2
     refine OL.zn S (GNo.mk rfl rfl hb_2) fun _ S=>?_
     refine OL.zn S (GNo.mk rfl rfl hb_2) fun _ S=>?_
     refine OL.zn S (GNo.mk rfl rfl hb_2) fun _ S=>?_
     refine OL.zn S (GNo.mk rfl rfl hb_2) fun _ S=>?_
     refine OL.zn S (GNo.mk rfl rfl hb_2) fun _ S=>?_
     refine OL.zq S (Lf.run_pickF (S.ev rfl) hb_2 (S.ev rfl)) fun _ S=>?_
     refine OL.nil ?_
     exact⟨_,S.sub _ ⟨rfl,rfl,rfl,rfl,rfl,rfl,rfl,rfl,rfl,rfl,rfl,rfl,trivial⟩,H⟩
   ·
    clear S
    rintro aa ww ⟨x60,S,HJ⟩
    replace H:=HK _ HJ
    clear HK HJ
    refine OL.zm S fun _ S=>?_
    refine OL.cutN 4 (fun aa ww=>St 66 ((65,Value.bool (x60 && (((x40.n:Nat):Int) == 0))) :: [(5,Value.slice x32.a x32.n x32.c),(6,Value.int .i64 x32_1),(7,Value.slice x40.a x40.n x40.c),(8,Value.int .i64 x40_1),(43,Value.int .i64 x32_1),(44,Value.bool (x32_1 == 0)),(45,Value.bool (x32_1 == 0)),(48,Value.bool ((x32_1 == 0) && (x40_1 == 0))),(49,Value.bool ((x32_1 == 0) && (x40_1 == 0))),(53,Value.bool (((x32_1 == 0) && (x40_1 == 0)) && (((x32.n:Nat):Int) == 1))),(54,Value.bool (((x32_1 == 0) && (x40_1 == 0)) && (((x32.n:Nat):Int) == 1))),(60,Value.bool x60),(61,Value.bool x60)]) h22 w0 aa ww) ?_ ?_
    ·
     rcases Bool.eq_false_or_eq_true x60 with hb_3|hb_3
     ·
      refine OL.zm (hg:=GOk.mk rfl rfl hb_3) S fun _ S=>?_
      refine OL.zq (hg:=GOk.mk rfl rfl hb_3) S (Lf.run_lens (S.ev rfl) rfl Try.underlying34) fun _ S=>?_
      refine OL.zq (hg:=GOk.mk rfl rfl hb_3) S (Lf.run_eql (S.ev rfl) (S.ev rfl)) fun _ S=>?_
      refine OL.zq S (Lf.run_pickT (S.ev rfl) hb_3 (S.ev rfl)) fun _ S=>?_
      refine OL.nil ?_
      exact (S.hd (by rw[hb_3,Bool.true_and])).sub _ ⟨rfl,rfl,rfl,rfl,rfl,rfl,rfl,rfl,rfl,rfl,rfl,rfl,rfl,rfl,trivial⟩
     ·
      refine OL.zn S (GNo.mk rfl rfl hb_3) fun _ S=>?_
      refine OL.zn S (GNo.mk rfl rfl hb_3) fun _ S=>?_
      refine OL.zn S (GNo.mk rfl rfl hb_3) fun _ S=>?_
      refine OL.zq S (Lf.run_pickF (S.ev rfl) hb_3 (S.ev rfl)) fun _ S=>?_
      refine OL.nil ?_
      exact (S.hd (by rw[hb_3,Bool.false_and])).sub _ ⟨rfl,rfl,rfl,rfl,rfl,rfl,rfl,rfl,rfl,rfl,rfl,rfl,rfl,rfl,trivial⟩
    ·
     clear S
     intro aa ww S
     refine OL.za S fun _ S=>?_
     refine OL.nil ?_
     refine W.ret ?_
     exact Ret.one S rfl rfl H
end Go.Proofs.Ytkpahlkendlahaa
namespace Go.Proofs.Ytkpahlkendlahaa
open Go Go.Lf
set_option linter.unusedVariables false
set_option maxRecDepth 100000
def L9 (s0:Int) (s0_1:Sv) (h:Heap) (R:Value→Heap→Prop):Prop:=
 new 24 #[Value.int .i64 s0,Value.slice s0_1.a s0_1.n s0_1.c] h fun p1 h1=>
 new 30 #[Value.string (⟨#[]⟩:ByteArray),Value.int .i64 0,Value.slice (⟨none,0,0⟩:Sv).a (⟨none,0,0⟩:Sv).n (⟨none,0,0⟩:Sv).c,Value.slice (⟨none,0,0⟩:Sv).a (⟨none,0,0⟩:Sv).n (⟨none,0,0⟩:Sv).c] h1 fun p2 h2=>
 ∃(IJ:Bool→Bool→Sv→Addr→Heap→Prop) (Sq:Heap→Prop),(∀(b5 b7:Bool) (s16:Sv) (p3:Addr) (hz:Heap),IJ b5 b7 s16 p3 hz→Sq hz)∧(∀(s16:Sv) (p3:Addr),IJ false false s16 p3 h2) ∧
 hlI .i64 Sq p1 fun x12=>
 (∀(b5 b7:Bool) (s16_o:Sv) (p3:Addr) (h6:Heap),IJ b5 b7 s16_o p3 h6→b5=false →
  mkS 149 (Value.agg #[Value.string (⟨#[]⟩:ByteArray),Value.int .i64 0,Value.string (⟨#[]⟩:ByteArray),Value.bool false,Value.int .i64 0,Value.slice (⟨none,0,0⟩:Sv).a (⟨none,0,0⟩:Sv).n (⟨none,0,0⟩:Sv).c,Value.slice (⟨none,0,0⟩:Sv).a (⟨none,0,0⟩:Sv).n (⟨none,0,0⟩:Sv).c,Value.int .i64 0,Value.int .i64 0]).cells 9 120 4 4 h6 fun s16 h7=>
  IJ true b7 s16 p3 h7) ∧
 (∀(b5 b7:Bool) (s16:Sv) (p3_o:Addr) (h11:Heap),IJ b5 b7 s16 p3_o h11→b7=false →
  new 30 #[Value.string (⟨#[]⟩:ByteArray),Value.int .i64 0,Value.slice (⟨none,0,0⟩:Sv).a (⟨none,0,0⟩:Sv).n (⟨none,0,0⟩:Sv).c,Value.slice (⟨none,0,0⟩:Sv).a (⟨none,0,0⟩:Sv).n (⟨none,0,0⟩:Sv).c] h11 fun p3 h12=>
  IJ b5 true s16 p3 h12) ∧
 (∀(s16:Sv) (p3:Addr) (h15:Heap),IJ true true s16 p3 h15 →
 stoA h15 p3 [Value.string (⟨#[]⟩:ByteArray),Value.int .i64 (IntKind.i64.wrap (((IntKind.u64.wrap x12):Int).tmod 4)),Value.slice s16.a s16.n s16.c,Value.slice (⟨none,0,0⟩:Sv).a (⟨none,0,0⟩:Sv).n (⟨none,0,0⟩:Sv).c] fun h16=>
 ldS h16 (p1.add 1) fun x19=>
 new 3 #[Value.int .i64 0] h16 fun p4 h17=>
 sto h17 p4 (Value.int .i64 (IntKind.i64.wrap (((x19.n:Nat):Int)+1))) fun h18=>
 ∃(I:Int→Heap→Prop) (m:Int→Heap→Nat),I 0 h18∧∀i6 h19,I i6 h19 →
 ldS h19 (p1.add 1) fun x25=>
 ifb (decide (i6<((x25.n:Nat):Int))) (
  ldS h19 (p1.add 1) fun x31=>
  ixS x31 i6 fun q33=>
  ∃(y34:Int) (y34_1:Int) (y34_2:Int) (y34_3:Int) (y34_4:Int) (y34_5:Sv) (y34_6:Sv),cl h19 (q33.add ((i6:Int).toNat*7))=some (Value.int .i64 y34)∧cl h19 ((q33.add ((i6:Int).toNat*7)).add 1)=some (Value.int .i64 y34_1)∧cl h19 ((q33.add ((i6:Int).toNat*7)).add 2)=some (Value.int .i64 y34_2)∧cl h19 ((q33.add ((i6:Int).toNat*7)).add 3)=some (Value.int .i64 y34_3)∧cl h19 ((q33.add ((i6:Int).toNat*7)).add 4)=some (Value.int .i64 y34_4)∧cl h19 ((q33.add ((i6:Int).toNat*7)).add 5)=some (Value.slice y34_5.a y34_5.n y34_5.c)∧cl h19 ((q33.add ((i6:Int).toNat*7)).add 6)=some (Value.slice y34_6.a y34_6.n y34_6.c) ∧
  new 77 #[Value.int .i64 0,Value.int .i64 0,Value.int .i64 0,Value.int .i64 0,Value.int .i64 0,Value.slice (⟨none,0,0⟩:Sv).a (⟨none,0,0⟩:Sv).n (⟨none,0,0⟩:Sv).c,Value.slice (⟨none,0,0⟩:Sv).a (⟨none,0,0⟩:Sv).n (⟨none,0,0⟩:Sv).c] h19 fun p7 h20=>
  stoA h20 p7 [Value.int .i64 y34,Value.int .i64 y34_1,Value.int .i64 y34_2,Value.int .i64 y34_3,Value.int .i64 y34_4,Value.slice y34_5.a y34_5.n y34_5.c,Value.slice y34_6.a y34_6.n y34_6.c] fun h21=>
  ∃(IJ_1:Bool→Bool→Bool→Bool→Bool→Bool→Bool→Int→Sv→Int→Sv→Addr→Addr→Heap→Prop) (Sq_1:Heap→Prop),(∀(b2 b5 b9 b12 b14 b15 b16:Bool) (x37:Int) (x40:Sv) (x44:Int) (x47:Sv) (p8:Addr) (p9:Addr) (hz:Heap),IJ_1 b2 b5 b9 b12 b14 b15 b16 x37 x40 x44 x47 p8 p9 hz→Sq_1 hz)∧(∀(x37:Int) (x40:Sv) (x44:Int) (x47:Sv) (p8:Addr) (p9:Addr),IJ_1 false false false false false false false x37 x40 x44 x47 p8 p9 h21) ∧
  hlI .i64 Sq_1 (p7.add 1) fun x36=>
  hlS Sq_1 (p7.add 5) fun x39=>
  hlI .i64 Sq_1 (p7.add 2) fun x43=>
  hlS Sq_1 (p7.add 6) fun x46=>
  (∀(b2 b5 b9 b12 b14 b15 b16:Bool) (x37_o:Int) (x40:Sv) (x44:Int) (x47:Sv) (p8:Addr) (p9:Addr) (h22:Heap),IJ_1 b2 b5 b9 b12 b14 b15 b16 x37_o x40 x44 x47 p8 p9 h22→b2=false →
   cal Try.prog 18 #[Value.int .i64 x36] h22 fun u h23=>asI .i64 u fun x37=>
   IJ_1 true b5 b9 b12 b14 b15 b16 x37 x40 x44 x47 p8 p9 h23) ∧
  (∀(b2 b5 b9 b12 b14 b15 b16:Bool) (x37:Int) (x40_o:Sv) (x44:Int) (x47:Sv) (p8:Addr) (p9:Addr) (h26:Heap),IJ_1 b2 b5 b9 b12 b14 b15 b16 x37 x40_o x44 x47 p8 p9 h26→b5=false→b2=true →
   cal Try.prog 19 #[Value.slice x39.a x39.n x39.c] h26 fun u_2 h27=>asS u_2 fun x40=>
   IJ_1 b2 true b9 b12 b14 b15 b16 x37 x40 x44 x47 p8 p9 h27) ∧
  (∀(b2 b5 b9 b12 b14 b15 b16:Bool) (x37:Int) (x40:Sv) (x44_o:Int) (x47:Sv) (p8:Addr) (p9:Addr) (h31:Heap),IJ_1 b2 b5 b9 b12 b14 b15 b16 x37 x40 x44_o x47 p8 p9 h31→b9=false→b2=true→b5=true →
   cal Try.prog 18 #[Value.int .i64 x43] h31 fun u_4 h32=>asI .i64 u_4 fun x44=>
   IJ_1 b2 b5 true b12 b14 b15 b16 x37 x40 x44 x47 p8 p9 h32) ∧
  (∀(b2 b5 b9 b12 b14 b15 b16:Bool) (x37:Int) (x40:Sv) (x44:Int) (x47_o:Sv) (p8:Addr) (p9:Addr) (h35:Heap),IJ_1 b2 b5 b9 b12 b14 b15 b16 x37 x40 x44 x47_o p8 p9 h35→b12=false→b2=true→b5=true→b9=true →
   cal Try.prog 19 #[Value.slice x46.a x46.n x46.c] h35 fun u_6 h36=>asS u_6 fun x47=>
   IJ_1 b2 b5 b9 true b14 b15 b16 x37 x40 x44 x47 p8 p9 h36) ∧
  (∀(b2 b5 b9 b12 b14 b15 b16:Bool) (x37:Int) (x40:Sv) (x44:Int) (x47:Sv) (p8_o:Addr) (p9:Addr) (h40:Heap),IJ_1 b2 b5 b9 b12 b14 b15 b16 x37 x40 x44 x47 p8_o p9 h40→b14=false →
   new 49 #[Value.int .i64 0,Value.slice (⟨none,0,0⟩:Sv).a (⟨none,0,0⟩:Sv).n (⟨none,0,0⟩:Sv).c] h40 fun p8 h41=>
   IJ_1 b2 b5 b9 b12 true b15 b16 x37 x40 x44 x47 p8 p9 h41) ∧
  (∀(b2 b5 b9 b12 b14 b15 b16:Bool) (x37:Int) (x40:Sv) (x44:Int) (x47:Sv) (p8:Addr) (p9_o:Addr) (h44:Heap),IJ_1 b2 b5 b9 b12 b14 b15 b16 x37 x40 x44 x47 p8 p9_o h44→b15=false →
   new 49 #[Value.int .i64 0,Value.slice (⟨none,0,0⟩:Sv).a (⟨none,0,0⟩:Sv).n (⟨none,0,0⟩:Sv).c] h44 fun p9 h45=>
   IJ_1 b2 b5 b9 b12 b14 true b16 x37 x40 x44 x47 p8 p9 h45) ∧
  (∀(b2 b5 b9 b12 b14 b15 b16:Bool) (x37:Int) (x40:Sv) (x44:Int) (x47:Sv) (p8:Addr) (p9:Addr) (h48:Heap),IJ_1 b2 b5 b9 b12 b14 b15 b16 x37 x40 x44 x47 p8 p9 h48→b16=false→b2=true→b5=true→b9=true→b12=true→b14=true→b15=true →
   stoA h48 p8 [Value.int .i64 x37,Value.slice x40.a x40.n x40.c] fun h49=>
   IJ_1 b2 b5 b9 b12 b14 b15 true x37 x40 x44 x47 p8 p9 h49) ∧
  (∀(x37:Int) (x40:Sv) (x44:Int) (x47:Sv) (p8:Addr) (p9:Addr) (h52:Heap),IJ_1 true true true true true true true x37 x40 x44 x47 p8 p9 h52 →
  stoA h52 p9 [Value.int .i64 x44,Value.slice x47.a x47.n x47.c] fun h53=>
  ∃(y49:Int) (y49_1:Sv),cl h53 p9=some (Value.int .i64 y49)∧cl h53 (p9.add 1)=some (Value.slice y49_1.a y49_1.n y49_1.c) ∧
  ∃(y50:Int) (y50_1:Sv),cl h53 p8=some (Value.int .i64 y50)∧cl h53 (p8.add 1)=some (Value.slice y50_1.a y50_1.n y50_1.c) ∧
  newS 66 #[Value.int .i64 3,Value.int .i64 y50,Value.slice y50_1.a y50_1.n y50_1.c,Value.int .i64 0,Value.int .u64 0] 1 h53 fun s52 h54=>
  new 74 #[Value.int .i64 0,Value.int .i64 0,Value.int .i64 0,Value.slice (⟨none,0,0⟩:Sv).a (⟨none,0,0⟩:Sv).n (⟨none,0,0⟩:Sv).c,Value.int .i64 0,Value.slice (⟨none,0,0⟩:Sv).a (⟨none,0,0⟩:Sv).n (⟨none,0,0⟩:Sv).c,Value.int .i64 0,Value.slice (⟨none,0,0⟩:Sv).a (⟨none,0,0⟩:Sv).n (⟨none,0,0⟩:Sv).c,Value.bool false,Value.string (⟨#[]⟩:ByteArray),Value.int .i64 0,Value.slice (⟨none,0,0⟩:Sv).a (⟨none,0,0⟩:Sv).n (⟨none,0,0⟩:Sv).c,Value.int .i64 0,Value.int .i64 0,Value.slice (⟨none,0,0⟩:Sv).a (⟨none,0,0⟩:Sv).n (⟨none,0,0⟩:Sv).c,Value.int .i64 0,Value.int .u64 0,Value.int .i64 0,Value.int .i64 0,Value.int .i64 0,Value.int .i64 0] h54 fun p10 h55=>
  stoA h55 p10 [Value.int .i64 3,Value.int .i64 0,Value.int .i64 y49,Value.slice y49_1.a y49_1.n y49_1.c,Value.int .i64 1,Value.slice s52.a s52.n s52.c,Value.int .i64 0,Value.slice (⟨none,0,0⟩:Sv).a (⟨none,0,0⟩:Sv).n (⟨none,0,0⟩:Sv).c,Value.bool false,Value.string (⟨#[]⟩:ByteArray),Value.int .i64 0,Value.slice (⟨none,0,0⟩:Sv).a (⟨none,0,0⟩:Sv).n (⟨none,0,0⟩:Sv).c,Value.int .i64 0,Value.int .i64 0,Value.slice (⟨none,0,0⟩:Sv).a (⟨none,0,0⟩:Sv).n (⟨none,0,0⟩:Sv).c,Value.int .i64 0,Value.int .u64 0,Value.int .i64 0,Value.int .i64 0,Value.int .i64 0,Value.int .i64 0] fun h56=>
  ∃J:Heap→Prop,(
   ldI .i64 h56 p7 fun x56=>
   ifb ((((IntKind.u64.wrap x56):Int).tmod 9) == 1) (
    ldS h56 ((p10.add 4).add 1) fun x63=>
    ixS x63 0 fun q64=>
    sto h56 q64 (Value.int .i64 2) fun h57=>
    J h57) (
    ifb ((((IntKind.u64.wrap x56):Int).tmod 9) == 2) (
     ∃(y68:Int) (y68_1:Sv),cl h56 p8=some (Value.int .i64 y68)∧cl h56 (p8.add 1)=some (Value.slice y68_1.a y68_1.n y68_1.c) ∧
     ldI .i64 h56 (p7.add 3) fun x70=>
     stoA h56 (p10.add 4) [Value.int .i64 2,Value.slice (⟨none,0,0⟩:Sv).a (⟨none,0,0⟩:Sv).n (⟨none,0,0⟩:Sv).c,Value.int .i64 y68,Value.slice y68_1.a y68_1.n y68_1.c,Value.bool (((x70:Int).tmod 2) == 0),Value.string (⟨#[]⟩:ByteArray),Value.int .i64 0,Value.slice (⟨none,0,0⟩:Sv).a (⟨none,0,0⟩:Sv).n (⟨none,0,0⟩:Sv).c] fun h58=>
     J h58) (
     ifb ((((IntKind.u64.wrap x56):Int).tmod 9) == 3) (
      ldI .i64 h56 (p7.add 1) fun x78=>
      cal Try.prog 18 #[Value.int .i64 x78] h56 fun u_8 h59=>asI .i64 u_8 fun x79=>
      stoA h59 p10 [Value.int .i64 1,Value.int .i64 x79,Value.int .i64 0,Value.slice (⟨none,0,0⟩:Sv).a (⟨none,0,0⟩:Sv).n (⟨none,0,0⟩:Sv).c,Value.int .i64 0,Value.slice (⟨none,0,0⟩:Sv).a (⟨none,0,0⟩:Sv).n (⟨none,0,0⟩:Sv).c,Value.int .i64 0,Value.slice (⟨none,0,0⟩:Sv).a (⟨none,0,0⟩:Sv).n (⟨none,0,0⟩:Sv).c,Value.bool false,Value.string (⟨#[]⟩:ByteArray),Value.int .i64 0,Value.slice (⟨none,0,0⟩:Sv).a (⟨none,0,0⟩:Sv).n (⟨none,0,0⟩:Sv).c,Value.int .i64 0,Value.int .i64 0,Value.slice (⟨none,0,0⟩:Sv).a (⟨none,0,0⟩:Sv).n (⟨none,0,0⟩:Sv).c,Value.int .i64 0,Value.int .u64 0,Value.int .i64 0,Value.int .i64 0,Value.int .i64 0,Value.int .i64 0] fun h60=>
      J h60) (
      ifb ((((IntKind.u64.wrap x56):Int).tmod 9) == 4) (
       ldI .i64 h56 (p7.add 1) fun x84=>
       cal Try.prog 18 #[Value.int .i64 x84] h56 fun u_9 h61=>asI .i64 u_9 fun x85=>
       stoA h61 p10 [Value.int .i64 2,Value.int .i64 x85,Value.int .i64 0,Value.slice (⟨none,0,0⟩:Sv).a (⟨none,0,0⟩:Sv).n (⟨none,0,0⟩:Sv).c,Value.int .i64 0,Value.slice (⟨none,0,0⟩:Sv).a (⟨none,0,0⟩:Sv).n (⟨none,0,0⟩:Sv).c,Value.int .i64 0,Value.slice (⟨none,0,0⟩:Sv).a (⟨none,0,0⟩:Sv).n (⟨none,0,0⟩:Sv).c,Value.bool false,Value.string (⟨#[]⟩:ByteArray),Value.int .i64 0,Value.slice (⟨none,0,0⟩:Sv).a (⟨none,0,0⟩:Sv).n (⟨none,0,0⟩:Sv).c,Value.int .i64 0,Value.int .i64 0,Value.slice (⟨none,0,0⟩:Sv).a (⟨none,0,0⟩:Sv).n (⟨none,0,0⟩:Sv).c,Value.int .i64 0,Value.int .u64 0,Value.int .i64 0,Value.int .i64 0,Value.int .i64 0,Value.int .i64 0] fun h62=>
       J h62) (
       ifb ((((IntKind.u64.wrap x56):Int).tmod 9) == 5) (
        ldI .i64 h56 (p7.add 3) fun x91=>
        calV Try.prog (Value.func (.func 17) #[] #[Value.pointer (some p4)]) #[Value.int .i64 x91] h56 fun u_10 h63=>asI .i64 u_10 fun x92=>
        stoA h63 p10 [Value.int .i64 4,Value.int .i64 0,Value.int .i64 0,Value.slice (⟨none,0,0⟩:Sv).a (⟨none,0,0⟩:Sv).n (⟨none,0,0⟩:Sv).c,Value.int .i64 0,Value.slice (⟨none,0,0⟩:Sv).a (⟨none,0,0⟩:Sv).n (⟨none,0,0⟩:Sv).c,Value.int .i64 0,Value.slice (⟨none,0,0⟩:Sv).a (⟨none,0,0⟩:Sv).n (⟨none,0,0⟩:Sv).c,Value.bool false,Value.string (⟨#[]⟩:ByteArray),Value.int .i64 0,Value.slice (⟨none,0,0⟩:Sv).a (⟨none,0,0⟩:Sv).n (⟨none,0,0⟩:Sv).c,Value.int .i64 0,Value.int .i64 0,Value.slice (⟨none,0,0⟩:Sv).a (⟨none,0,0⟩:Sv).n (⟨none,0,0⟩:Sv).c,Value.int .i64 0,Value.int .u64 0,Value.int .i64 x92,Value.int .i64 0,Value.int .i64 0,Value.int .i64 0] fun h64=>
        J h64) (
        ifb ((((IntKind.u64.wrap x56):Int).tmod 9) == 6) (
         ∃Sq_2:Heap→Prop,Sq_2 h56∧(
          ∃(y96:Int) (y96_1:Sv),hld Sq_2 p8 (Value.int .i64 y96)∧hld Sq_2 (p8.add 1) (Value.slice y96_1.a y96_1.n y96_1.c) ∧
          ldI .i64 h56 (p7.add 3) fun x100=>
          hlI .i64 Sq_2 (p7.add 4) fun x104=>
          calV Try.prog (Value.func (.func 17) #[] #[Value.pointer (some p4)]) #[Value.int .i64 x100] h56 fun u_11 h65=>asI .i64 u_11 fun x101=>
          Sq_2 h65 ∧
          calV Try.prog (Value.func (.func 17) #[] #[Value.pointer (some p4)]) #[Value.int .i64 x104] h65 fun u_12 h66=>asI .i64 u_12 fun x105=>
          Sq_2 h66 ∧
          stoA h66 p10 [Value.int .i64 5,Value.int .i64 0,Value.int .i64 0,Value.slice (⟨none,0,0⟩:Sv).a (⟨none,0,0⟩:Sv).n (⟨none,0,0⟩:Sv).c,Value.int .i64 0,Value.slice (⟨none,0,0⟩:Sv).a (⟨none,0,0⟩:Sv).n (⟨none,0,0⟩:Sv).c,Value.int .i64 0,Value.slice (⟨none,0,0⟩:Sv).a (⟨none,0,0⟩:Sv).n (⟨none,0,0⟩:Sv).c,Value.bool false,Value.string (⟨#[]⟩:ByteArray),Value.int .i64 0,Value.slice (⟨none,0,0⟩:Sv).a (⟨none,0,0⟩:Sv).n (⟨none,0,0⟩:Sv).c,Value.int .i64 2,Value.int .i64 y96,Value.slice y96_1.a y96_1.n y96_1.c,Value.int .i64 0,Value.int .u64 0,Value.int .i64 x101,Value.int .i64 x105,Value.int .i64 0,Value.int .i64 0] fun h67=>
          J h67)) (
         ifb ((((IntKind.u64.wrap x56):Int).tmod 9) == 7) (
          stoA h56 (p10.add 4) [Value.int .i64 10,Value.slice (⟨none,0,0⟩:Sv).a (⟨none,0,0⟩:Sv).n (⟨none,0,0⟩:Sv).c,Value.int .i64 0,Value.slice (⟨none,0,0⟩:Sv).a (⟨none,0,0⟩:Sv).n (⟨none,0,0⟩:Sv).c,Value.bool false,Value.string (⟨#[]⟩:ByteArray),Value.int .i64 0,Value.slice (⟨none,0,0⟩:Sv).a (⟨none,0,0⟩:Sv).n (⟨none,0,0⟩:Sv).c] fun h68=>
          J h68) (
          ifb ((((IntKind.u64.wrap x56):Int).tmod 9) == 8) (
           stoA h56 p10 [Value.int .i64 7,Value.int .i64 0,Value.int .i64 0,Value.slice (⟨none,0,0⟩:Sv).a (⟨none,0,0⟩:Sv).n (⟨none,0,0⟩:Sv).c,Value.int .i64 0,Value.slice (⟨none,0,0⟩:Sv).a (⟨none,0,0⟩:Sv).n (⟨none,0,0⟩:Sv).c,Value.int .i64 0,Value.slice (⟨none,0,0⟩:Sv).a (⟨none,0,0⟩:Sv).n (⟨none,0,0⟩:Sv).c,Value.bool false,Value.string (⟨#[]⟩:ByteArray),Value.int .i64 0,Value.slice (⟨none,0,0⟩:Sv).a (⟨none,0,0⟩:Sv).n (⟨none,0,0⟩:Sv).c,Value.int .i64 0,Value.int .i64 0,Value.slice (⟨none,0,0⟩:Sv).a (⟨none,0,0⟩:Sv).n (⟨none,0,0⟩:Sv).c,Value.int .i64 0,Value.int .u64 0,Value.int .i64 0,Value.int .i64 0,Value.int .i64 0,Value.int .i64 0] fun h69=>
           J h69) (
           J h56)))))))))∧(∀h70,J h70 →
  ldS h70 (p3.add 3) fun x115=>
  ∃(y116:Int) (y116_1:Int) (y116_2:Int) (y116_3:Sv) (y116_4:Int) (y116_5:Sv) (y116_6:Int) (y116_7:Sv) (y116_8:Bool) (y116_9:ByteArray) (y116_10:Int) (y116_11:Sv) (y116_12:Int) (y116_13:Int) (y116_14:Sv) (y116_15:Int) (y116_16:Int) (y116_17:Int) (y116_18:Int) (y116_19:Int) (y116_20:Int),cl h70 p10=some (Value.int .i64 y116)∧cl h70 (p10.add 1)=some (Value.int .i64 y116_1)∧cl h70 (p10.add 2)=some (Value.int .i64 y116_2)∧cl h70 (p10.add 3)=some (Value.slice y116_3.a y116_3.n y116_3.c)∧cl h70 (p10.add 4)=some (Value.int .i64 y116_4)∧cl h70 (p10.add 5)=some (Value.slice y116_5.a y116_5.n y116_5.c)∧cl h70 (p10.add 6)=some (Value.int .i64 y116_6)∧cl h70 (p10.add 7)=some (Value.slice y116_7.a y116_7.n y116_7.c)∧cl h70 (p10.add 8)=some (Value.bool y116_8)∧cl h70 (p10.add 9)=some (Value.string y116_9)∧cl h70 (p10.add 10)=some (Value.int .i64 y116_10)∧cl h70 (p10.add 11)=some (Value.slice y116_11.a y116_11.n y116_11.c)∧cl h70 (p10.add 12)=some (Value.int .i64 y116_12)∧cl h70 (p10.add 13)=some (Value.int .i64 y116_13)∧cl h70 (p10.add 14)=some (Value.slice y116_14.a y116_14.n y116_14.c)∧cl h70 (p10.add 15)=some (Value.int .i64 y116_15)∧cl h70 (p10.add 16)=some (Value.int .u64 y116_16)∧cl h70 (p10.add 17)=some (Value.int .i64 y116_17)∧cl h70 (p10.add 18)=some (Value.int .i64 y116_18)∧cl h70 (p10.add 19)=some (Value.int .i64 y116_19)∧cl h70 (p10.add 20)=some (Value.int .i64 y116_20) ∧
  newS 74 #[Value.int .i64 y116,Value.int .i64 y116_1,Value.int .i64 y116_2,Value.slice y116_3.a y116_3.n y116_3.c,Value.int .i64 y116_4,Value.slice y116_5.a y116_5.n y116_5.c,Value.int .i64 y116_6,Value.slice y116_7.a y116_7.n y116_7.c,Value.bool y116_8,Value.string y116_9,Value.int .i64 y116_10,Value.slice y116_11.a y116_11.n y116_11.c,Value.int .i64 y116_12,Value.int .i64 y116_13,Value.slice y116_14.a y116_14.n y116_14.c,Value.int .i64 y116_15,Value.int .u64 y116_16,Value.int .i64 y116_17,Value.int .i64 y116_18,Value.int .i64 y116_19,Value.int .i64 y116_20] 1 h70 fun s117 h71=>
  appS 74 (Value.agg #[Value.int .i64 0,Value.int .i64 0,Value.int .i64 0,Value.slice (⟨none,0,0⟩:Sv).a (⟨none,0,0⟩:Sv).n (⟨none,0,0⟩:Sv).c,Value.int .i64 0,Value.slice (⟨none,0,0⟩:Sv).a (⟨none,0,0⟩:Sv).n (⟨none,0,0⟩:Sv).c,Value.int .i64 0,Value.slice (⟨none,0,0⟩:Sv).a (⟨none,0,0⟩:Sv).n (⟨none,0,0⟩:Sv).c,Value.bool false,Value.string (⟨#[]⟩:ByteArray),Value.int .i64 0,Value.slice (⟨none,0,0⟩:Sv).a (⟨none,0,0⟩:Sv).n (⟨none,0,0⟩:Sv).c,Value.int .i64 0,Value.int .i64 0,Value.slice (⟨none,0,0⟩:Sv).a (⟨none,0,0⟩:Sv).n (⟨none,0,0⟩:Sv).c,Value.int .i64 0,Value.int .u64 0,Value.int .i64 0,Value.int .i64 0,Value.int .i64 0,Value.int .i64 0]).cells 21 256 h71 x115 s117 fun s118 h72=>
  sto h72 (p3.add 3) (Value.slice s118.a s118.n s118.c) fun h73=>
  I (IntKind.i64.wrap (i6+1)) h73∧m (IntKind.i64.wrap (i6+1)) h73<m i6 h19))) (
  ldS h19 (p3.add 3) fun x121=>
  newS 74 #[Value.int .i64 6,Value.int .i64 0,Value.int .i64 0,Value.slice (⟨none,0,0⟩:Sv).a (⟨none,0,0⟩:Sv).n (⟨none,0,0⟩:Sv).c,Value.int .i64 0,Value.slice (⟨none,0,0⟩:Sv).a (⟨none,0,0⟩:Sv).n (⟨none,0,0⟩:Sv).c,Value.int .i64 0,Value.slice (⟨none,0,0⟩:Sv).a (⟨none,0,0⟩:Sv).n (⟨none,0,0⟩:Sv).c,Value.bool false,Value.string (⟨#[]⟩:ByteArray),Value.int .i64 0,Value.slice (⟨none,0,0⟩:Sv).a (⟨none,0,0⟩:Sv).n (⟨none,0,0⟩:Sv).c,Value.int .i64 0,Value.int .i64 0,Value.slice (⟨none,0,0⟩:Sv).a (⟨none,0,0⟩:Sv).n (⟨none,0,0⟩:Sv).c,Value.int .i64 0,Value.int .u64 0,Value.int .i64 0,Value.int .i64 0,Value.int .i64 0,Value.int .i64 0] 1 h19 fun s123 h78=>
  appS 74 (Value.agg #[Value.int .i64 0,Value.int .i64 0,Value.int .i64 0,Value.slice (⟨none,0,0⟩:Sv).a (⟨none,0,0⟩:Sv).n (⟨none,0,0⟩:Sv).c,Value.int .i64 0,Value.slice (⟨none,0,0⟩:Sv).a (⟨none,0,0⟩:Sv).n (⟨none,0,0⟩:Sv).c,Value.int .i64 0,Value.slice (⟨none,0,0⟩:Sv).a (⟨none,0,0⟩:Sv).n (⟨none,0,0⟩:Sv).c,Value.bool false,Value.string (⟨#[]⟩:ByteArray),Value.int .i64 0,Value.slice (⟨none,0,0⟩:Sv).a (⟨none,0,0⟩:Sv).n (⟨none,0,0⟩:Sv).c,Value.int .i64 0,Value.int .i64 0,Value.slice (⟨none,0,0⟩:Sv).a (⟨none,0,0⟩:Sv).n (⟨none,0,0⟩:Sv).c,Value.int .i64 0,Value.int .u64 0,Value.int .i64 0,Value.int .i64 0,Value.int .i64 0,Value.int .i64 0]).cells 21 256 h78 x121 s123 fun s124 h79=>
  sto h79 (p3.add 3) (Value.slice s124.a s124.n s124.c) fun h80=>
  ∃(y126:ByteArray) (y126_1:Int) (y126_2:Sv) (y126_3:Sv),cl h80 p3=some (Value.string y126)∧cl h80 (p3.add 1)=some (Value.int .i64 y126_1)∧cl h80 (p3.add 2)=some (Value.slice y126_2.a y126_2.n y126_2.c)∧cl h80 (p3.add 3)=some (Value.slice y126_3.a y126_3.n y126_3.c) ∧
  stoA h80 p2 [Value.string y126,Value.int .i64 y126_1,Value.slice y126_2.a y126_2.n y126_2.c,Value.slice y126_3.a y126_3.n y126_3.c] fun h81=>
  ∃(y:ByteArray) (y_1:Int) (y_2:Sv) (y_3:Sv),cl h81 p2=some (Value.string y)∧cl h81 (p2.add 1)=some (Value.int .i64 y_1)∧cl h81 (p2.add 2)=some (Value.slice y_2.a y_2.n y_2.c)∧cl h81 (p2.add 3)=some (Value.slice y_3.a y_3.n y_3.c) ∧
  R (Value.agg #[Value.string y,Value.int .i64 y_1,Value.slice y_2.a y_2.n y_2.c,Value.slice y_3.a y_3.n y_3.c]) h81))
set_option maxRecDepth 100000 in
theorem F9 {s0 s0_1 h:_} {R:Value→Heap→Prop} (H:L9 s0 s0_1 h R):CallsH Try.prog 9 #[Value.agg #[Value.int .i64 s0,Value.slice s0_1.a s0_1.n s0_1.c]] h R:=by
 refine CallsH.enter (n:=127) Try.func9 rfl rfl rfl rfl ?_
 intro w0 aa ww S
 unfold L9 at H
 refine W.seq ?_
 refine W.region ?_
 refine ol_box S H rfl rfl rfl trivial ?_
 clear S H;intro p1 aa ww h1 H S
 refine ol_alloc S H ti30 rfl rfl trivial ?_
 clear S H;intro p2 aa ww h2 H S
 refine OL.nil ?_
 refine W.seq ?_
 replace S:=S.sub [(1,Value.pointer (some p1)),(2,Value.pointer (some p2))] ⟨rfl,rfl,trivial⟩
 refine W.regionD S (by kernel_rfl) ?_
 clear S;intro ww S
 refine AN.zq 0 S rfl (fun _=>Lf.run_fa (S.ev rfl) fa24_0) fun _ S=>?_
 obtain⟨IJ,Sq,hSq,hini,H⟩:=H
 obtain⟨x12,c,H⟩:=H
 obtain⟨Oq,Oq_1,H⟩:=H
 let gq1:IOp:=⟨1,12,true,[],fun lq=>Value.int .i64 x12⟩
 let gq2:IOp:=⟨2,13,true,[],fun lq=>Value.int .u64 (IntKind.u64.wrap x12)⟩
 let gq3:IOp:=⟨3,14,true,[],fun lq=>Value.int .u64 (((IntKind.u64.wrap x12):Int).tmod 4)⟩
 let gq4:IOp:=⟨4,15,true,[],fun lq=>Value.int .i64 (IntKind.i64.wrap (((IntKind.u64.wrap x12):Int).tmod 4))⟩
 let gq5:IOp:=⟨5,16,true,[5],fun lq=>Value.slice (pS (nth lq 0)).a (pS (nth lq 0)).n (pS (nth lq 0)).c⟩
 let gq6:IOp:=⟨6,17,true,[5],fun lq=>Value.agg #[Value.string (⟨#[]⟩:ByteArray),Value.int .i64 (IntKind.i64.wrap (((IntKind.u64.wrap x12):Int).tmod 4)),Value.slice (pS (nth lq 0)).a (pS (nth lq 0)).n (pS (nth lq 0)).c,Value.slice (⟨none,0,0⟩:Sv).a (⟨none,0,0⟩:Sv).n (⟨none,0,0⟩:Sv).c]⟩
 let gq7:IOp:=⟨7,3,true,[7],fun lq=>Value.pointer (some (pA (nth lq 0)))⟩
 replace S:=S.sub [(1,Value.pointer (some p1)),(2,Value.pointer (some p2)),(11,Value.pointer (some p1))] ⟨rfl,rfl,rfl,trivial⟩
 refine AN.inv (fuel:=1) (fun Lg Xg hz=>IJ (Lg 5) (Lg 7) (pS (Xg 5)) (pA (Xg 7)) hz) (fun _=>undef) [(gq1,[]),(gq2,[gq1]),(gq3,[gq2]),(gq4,[gq3]),(gq5,[]),(gq6,[gq4,gq5]),(gq7,[])] [(1,12,true,[],[]),(2,13,true,[],[1]),(3,14,true,[],[2]),(4,15,true,[],[3]),(5,16,true,[5],[]),(6,17,true,[5],[4,5]),(7,3,true,[7],[])] [1,2,11] S rfl rfl (by kernel_rfl) (by simp) ?_ ⟨?_,?_,?_,?_,?_,?_,?_,trivial⟩ ?_
 ·
  intro Lg hLg
  have hz:=hini (pS undef) (pA undef)
  have hl5:Lg 5=false:=hLg (5,16,true,[5],[]) (by simp)
  have hl7:Lg 7=false:=hLg (7,3,true,[7],[]) (by simp)
  show IJ (Lg 5) (Lg 7) (pS undef) (pA undef) h2
  rw[hl5,hl7]
  exact hz
 ·
  refine⟨_,rfl,rfl,?_⟩
  intro Lg Xg aa ww h82 Ef S hinv hl0 hok
  replace hinv:IJ (Lg 5) (Lg 7) (pS (Xg 5)) (pA (Xg 7)) h82:=hinv
  replace S:St 127 ((1,Value.pointer (some p1)) :: (2,Value.pointer (some p2)) :: (11,Value.pointer (some p1)) :: Ef) h82 w0 aa ww:=S
  have hTg:=hSq (Lg 5) (Lg 7) (pS (Xg 5)) (pA (Xg 7)) _ hinv
  refine OL.zq S (Lf.run_ld (S.ev rfl) fl3 (S.cl (c _ hTg))) fun _ S=>?_
  refine OL.nil ?_
  exact⟨undef,_,S,hinv⟩
 ·
  refine⟨_,rfl,rfl,?_⟩
  intro Lg Xg aa ww h3 Ef S hinv hl0 hok
  obtain⟨kq1,-⟩:=hok
  replace hinv:IJ (Lg 5) (Lg 7) (pS (Xg 5)) (pA (Xg 7)) h3:=hinv
  replace S:St 127 ((12,Value.int .i64 x12) :: (1,Value.pointer (some p1)) :: (2,Value.pointer (some p2)) :: (11,Value.pointer (some p1)) :: Ef) h3 w0 aa ww:=S
  refine OL.zq S (Lf.run_cvi Try.underlying3 Try.underlying52 (S.ev rfl)) fun _ S=>?_
  refine OL.nil ?_
  exact⟨undef,_,S,hinv⟩
 ·
  refine⟨_,rfl,rfl,?_⟩
  intro Lg Xg aa ww h4 Ef S hinv hl0 hok
  obtain⟨kq2,-⟩:=hok
  replace hinv:IJ (Lg 5) (Lg 7) (pS (Xg 5)) (pA (Xg 7)) h4:=hinv
  replace S:St 127 ((13,Value.int .u64 (IntKind.u64.wrap x12)) :: (1,Value.pointer (some p1)) :: (2,Value.pointer (some p2)) :: (11,Value.pointer (some p1)) :: Ef) h4 w0 aa ww:=S
  refine OL.zq S (Lf.run_rem (S.ev rfl) (S.ev rfl) (by decide)) fun _ S=>?_
  refine OL.nil ?_
  exact⟨undef,_,S,hinv⟩
 ·
  refine⟨_,rfl,rfl,?_⟩
  intro Lg Xg aa ww h5 Ef S hinv hl0 hok
  obtain⟨kq3,-⟩:=hok
  replace hinv:IJ (Lg 5) (Lg 7) (pS (Xg 5)) (pA (Xg 7)) h5:=hinv
  replace S:St 127 ((14,Value.int .u64 (((IntKind.u64.wrap x12):Int).tmod 4)) :: (1,Value.pointer (some p1)) :: (2,Value.pointer (some p2)) :: (11,Value.pointer (some p1)) :: Ef) h5 w0 aa ww:=S
  refine OL.zq S (Lf.run_cvi Try.underlying52 Try.underlying3 (S.ev rfl)) fun _ S=>?_
  refine OL.nil ?_
  exact⟨undef,_,S,hinv⟩
 ·
  refine⟨_,rfl,rfl,?_⟩
  intro Lg Xg aa ww h8 Ef S hinv hl0 hok
  replace hinv:IJ (Lg 5) (Lg 7) (pS (Xg 5)) (pA (Xg 7)) h8:=hinv
  replace S:St 127 ((1,Value.pointer (some p1)) :: (2,Value.pointer (some p2)) :: (11,Value.pointer (some p1)) :: Ef) h8 w0 aa ww:=S
  have H:=Oq (Lg 5) (Lg 7) (pS (Xg 5)) (pA (Xg 7)) h8 hinv hl0
  clear hinv
  refine ol_mkS S H Try.underlying27 ti149 rfl rfl rfl trivial ?_
  clear S H;intro s16_1 aa ww h9 H S
  refine OL.nil ?_
  exact⟨Value.slice s16_1.a s16_1.n s16_1.c,_,S,H⟩
 ·
  refine⟨_,rfl,rfl,?_⟩
  intro Lg Xg aa ww h10 Ef S hinv hl0 hok
  obtain⟨kq4,kq5,-⟩:=hok
  replace hinv:IJ (Lg 5) (Lg 7) (pS (Xg 5)) (pA (Xg 7)) h10:=hinv
  replace S:St 127 ((15,Value.int .i64 (IntKind.i64.wrap (((IntKind.u64.wrap x12):Int).tmod 4))) :: (16,Value.slice (pS (Xg 5)).a (pS (Xg 5)).n (pS (Xg 5)).c) :: (1,Value.pointer (some p1)) :: (2,Value.pointer (some p2)) :: (11,Value.pointer (some p1)) :: Ef) h10 w0 aa ww:=S
  refine OL.zq S (Lf.run_build (cs:=#[Value.string (⟨#[]⟩:ByteArray),Value.int .i64 (IntKind.i64.wrap (((IntKind.u64.wrap x12):Int).tmod 4)),Value.slice (pS (Xg 5)).a (pS (Xg 5)).n (pS (Xg 5)).c,Value.slice (⟨none,0,0⟩:Sv).a (⟨none,0,0⟩:Sv).n (⟨none,0,0⟩:Sv).c]) pl30 ti30 (parts_map S rfl) (by kernel_rfl)) fun _ S=>?_
  refine OL.nil ?_
  exact⟨undef,_,S,hinv⟩
 ·
  refine⟨_,rfl,rfl,?_⟩
  intro Lg Xg aa ww h13 Ef S hinv hl0 hok
  replace hinv:IJ (Lg 5) (Lg 7) (pS (Xg 5)) (pA (Xg 7)) h13:=hinv
  replace S:St 127 ((1,Value.pointer (some p1)) :: (2,Value.pointer (some p2)) :: (11,Value.pointer (some p1)) :: Ef) h13 w0 aa ww:=S
  have H:=Oq_1 (Lg 5) (Lg 7) (pS (Xg 5)) (pA (Xg 7)) h13 hinv hl0
  clear hinv
  refine ol_alloc S H ti30 rfl rfl trivial ?_
  clear S H;intro p3_1 aa ww h14 H S
  refine OL.nil ?_
  exact⟨Value.pointer (some p3_1),_,S,H⟩
 clear S
 intro Lg Xg aa ww h15 S hinv hok
 obtain⟨kq1,kq2,kq3,kq4,kq5,kq6,kq7,-⟩:=hok
 replace hinv:IJ (Lg 5) (Lg 7) (pS (Xg 5)) (pA (Xg 7)) h15:=hinv
 replace kq5:Lg 5=true:=kq5
 replace kq7:Lg 7=true:=kq7
 rw[kq5,kq7] at hinv
 replace H:=H (pS (Xg 5)) (pA (Xg 7)) h15 hinv
 replace S:=S.sub [(1,Value.pointer (some p1)),(2,Value.pointer (some p2)),(3,Value.pointer (some (pA (Xg 7)))),(11,Value.pointer (some p1)),(12,Value.int .i64 x12),(13,Value.int .u64 (IntKind.u64.wrap x12)),(14,Value.int .u64 (((IntKind.u64.wrap x12):Int).tmod 4)),(15,Value.int .i64 (IntKind.i64.wrap (((IntKind.u64.wrap x12):Int).tmod 4))),(16,Value.slice (pS (Xg 5)).a (pS (Xg 5)).n (pS (Xg 5)).c),(17,Value.agg #[Value.string (⟨#[]⟩:ByteArray),Value.int .i64 (IntKind.i64.wrap (((IntKind.u64.wrap x12):Int).tmod 4)),Value.slice (pS (Xg 5)).a (pS (Xg 5)).n (pS (Xg 5)).c,Value.slice (⟨none,0,0⟩:Sv).a (⟨none,0,0⟩:Sv).n (⟨none,0,0⟩:Sv).c])] ⟨rfl,rfl,rfl,rfl,rfl,rfl,rfl,rfl,rfl,rfl,trivial⟩
 generalize (pS (Xg 5))=s16 at H S
 generalize (pA (Xg 7))=p3 at H S
 clear hinv kq7 kq6 kq5 kq4 kq3 kq2 kq1 gq7 gq6 gq5 gq4 gq3 gq2 gq1 Oq Oq_1
 refine AN.eff 8 rfl (by kernel_rfl) ?_
 refine ol_stoA S H rfl rfl ti30 trivial ?_
 clear S H;intro aa ww h16 H S
 refine OL.nil ?_
 refine AN.done (by kernel_rfl) ?_
 refine W.seq ?_
 refine W.region ?_
 refine OL.zf S fa24_1 fun _ S=>?_
 obtain⟨x19,c_3,H⟩:=H
 refine OL.zl S fl22 c_3 fun _ S=>?_
 refine OL.zq S (Lf.run_lens (S.ev rfl) rfl Try.underlying22) fun _ S=>?_
 refine OL.zq S (Lf.run_add (S.ev rfl) (S.ev rfl)) fun _ S=>?_
 refine ol_alloc S H ti3 rfl rfl trivial ?_
 clear S H;intro p4 aa ww h17 H S
 refine ol_sto S H rfl rfl rfl ti3 trivial ?_
 clear S H;intro aa ww h18 H S
 refine OL.nil ?_
 refine W.seq ?_
 refine W.region ?_
 refine OL.zq S (Lf.run_mf (evs_map S rfl)) fun _ S=>?_
 refine OL.za S fun _ S=>?_
 refine OL.nil ?_
 refine W.seq ?_
 refine W.seq ?_
 refine W.region ?_
 refine OL.za S fun _ S=>?_
 refine OL.nil ?_
 refine W.block ?_
 obtain⟨I,m,H,HB⟩:=H
 refine W.loopS (σ:=Int×Heap) (fun s aa ww=>St 127 [(1,Value.pointer (some p1)),(2,Value.pointer (some p2)),(3,Value.pointer (some p3)),(5,(Value.func (.func 17) #[] #[Value.pointer (some p4)])),(6,Value.int .i64 s.1)] s.2 w0 aa ww∧I s.1 s.2) (fun s=>m s.1 s.2) (0,h18) ⟨S.sub _ ⟨rfl,rfl,rfl,rfl,rfl,trivial⟩,H⟩ ?_
 clear H S
 rintro ⟨i6,h19⟩ aa ww ⟨S,HI⟩
 replace S:St 127 [(1,Value.pointer (some p1)),(2,Value.pointer (some p2)),(3,Value.pointer (some p3)),(5,(Value.func (.func 17) #[] #[Value.pointer (some p4)])),(6,Value.int .i64 i6)] h19 w0 aa ww:=S
 have H:=HB i6 h19 HI
 clear HI
 refine W.seq ?_
 refine W.seq ?_
 refine W.region ?_
 refine OL.zm S fun _ S=>?_
 refine OL.zf S fa24_1 fun _ S=>?_
 obtain⟨x25,c_4,H⟩:=H
 refine OL.zl S fl22 c_4 fun _ S=>?_
 refine OL.zq S (Lf.run_lens (S.ev rfl) rfl Try.underlying22) fun _ S=>?_
 refine OL.zq S (Lf.run_lss (S.ev rfl) (S.ev rfl)) fun _ S=>?_
 refine OL.nil ?_
 refine W.cond S (b:=(decide (i6<((x25.n:Nat):Int)))) rfl (fun hb=>?_) (fun hb=>?_)
 ·
  replace H:=H.1 hb
  refine W.skip ?_
  refine W.seq ?_
  refine W.block ?_
  refine W.seq ?_
  refine W.region ?_
  refine OL.zf S fa24_1 fun _ S=>?_
  obtain⟨x31,c_5,H⟩:=H
  refine OL.zl S fl22 c_5 fun _ S=>?_
  refine OL.zm S fun _ S=>?_
  obtain⟨q33,e,e_1,e_2,H⟩:=H
  refine OL.zq S (Lf.run_ixs (S.ev rfl) (S.ev rfl) Try.underlying22 ti77 e e_1 e_2) fun _ S=>?_
  obtain⟨y34,y34_1,y34_2,y34_3,y34_4,y34_5,y34_6,c_56,c_57,c_58,c_59,c_60,c_61,c_62,H⟩:=H
  refine OL.zq S (Lf.run_ldA (cs:=[Value.int .i64 y34,Value.int .i64 y34_1,Value.int .i64 y34_2,Value.int .i64 y34_3,Value.int .i64 y34_4,Value.slice y34_5.a y34_5.n y34_5.c,Value.slice y34_6.a y34_6.n y34_6.c]) (S.ev rfl) ag77 ti77 (by rw[S.heap];exact RowL.toRow ⟨c_56,c_57,c_58,c_59,c_60,c_61,c_62,trivial⟩)) fun _ S=>?_
  refine ol_alloc S H ti77 rfl rfl trivial ?_
  clear S H;intro p7 aa ww h20 H S
  refine ol_stoA S H rfl rfl ti77 trivial ?_
  clear S H;intro aa ww h21 H S
  refine OL.nil ?_
  refine W.seq ?_
  replace S:=S.sub [(1,Value.pointer (some p1)),(2,Value.pointer (some p2)),(3,Value.pointer (some p3)),(5,(Value.func (.func 17) #[] #[Value.pointer (some p4)])),(6,Value.int .i64 i6),(7,Value.pointer (some p7))] ⟨rfl,rfl,rfl,rfl,rfl,rfl,trivial⟩
  refine W.regionD S (by kernel_rfl) ?_
  clear S;intro ww S
  refine AN.zq 0 S rfl (fun _=>Lf.run_fa (S.ev rfl) fa77_1) fun _ S=>?_
  refine AN.zq 3 S rfl (fun _=>Lf.run_fa (S.ev rfl) fa77_5) fun _ S=>?_
  refine AN.zq 7 S rfl (fun _=>Lf.run_fa (S.ev rfl) fa77_2) fun _ S=>?_
  refine AN.zq 10 S rfl (fun _=>Lf.run_fa (S.ev rfl) fa77_6) fun _ S=>?_
  obtain⟨IJ_1,Sq_1,hSq_1,hini_1,H⟩:=H
  obtain⟨x36,c_7,H⟩:=H
  obtain⟨x39,c_8,H⟩:=H
  obtain⟨x43,c_9,H⟩:=H
  obtain⟨x46,c_10,H⟩:=H
  obtain⟨Oq_2,Oq_3,Oq_4,Oq_5,Oq_6,Oq_7,Oq_8,H⟩:=H
  let gq1:IOp:=⟨1,36,true,[],fun lq=>Value.int .i64 x36⟩
  let gq2:IOp:=⟨2,37,true,[2],fun lq=>Value.int .i64 (pI (nth lq 0))⟩
  let gq4:IOp:=⟨4,39,true,[],fun lq=>Value.slice x39.a x39.n x39.c⟩
  let gq5:IOp:=⟨5,40,true,[5],fun lq=>Value.slice (pS (nth lq 0)).a (pS (nth lq 0)).n (pS (nth lq 0)).c⟩
  let gq6:IOp:=⟨6,41,true,[2,5],fun lq=>Value.agg #[Value.int .i64 (pI (nth lq 0)),Value.slice (pS (nth lq 1)).a (pS (nth lq 1)).n (pS (nth lq 1)).c]⟩
  let gq8:IOp:=⟨8,43,true,[],fun lq=>Value.int .i64 x43⟩
  let gq9:IOp:=⟨9,44,true,[9],fun lq=>Value.int .i64 (pI (nth lq 0))⟩
  let gq11:IOp:=⟨11,46,true,[],fun lq=>Value.slice x46.a x46.n x46.c⟩
  let gq12:IOp:=⟨12,47,true,[12],fun lq=>Value.slice (pS (nth lq 0)).a (pS (nth lq 0)).n (pS (nth lq 0)).c⟩
  let gq13:IOp:=⟨13,48,true,[9,12],fun lq=>Value.agg #[Value.int .i64 (pI (nth lq 0)),Value.slice (pS (nth lq 1)).a (pS (nth lq 1)).n (pS (nth lq 1)).c]⟩
  let gq14:IOp:=⟨14,8,true,[14],fun lq=>Value.pointer (some (pA (nth lq 0)))⟩
  let gq15:IOp:=⟨15,9,true,[15],fun lq=>Value.pointer (some (pA (nth lq 0)))⟩
  let gq16:IOp:=⟨16,100016,false,[],fun lq=>undef⟩
  replace S:=S.sub [(1,Value.pointer (some p1)),(2,Value.pointer (some p2)),(3,Value.pointer (some p3)),(5,(Value.func (.func 17) #[] #[Value.pointer (some p4)])),(6,Value.int .i64 i6),(7,Value.pointer (some p7)),(35,Value.pointer (some (p7.add 1))),(38,Value.pointer (some (p7.add 5))),(42,Value.pointer (some (p7.add 2))),(45,Value.pointer (some (p7.add 6)))] ⟨rfl,rfl,rfl,rfl,rfl,rfl,rfl,rfl,rfl,rfl,trivial⟩
  refine AN.inv (fuel:=1) (fun Lg Xg hz=>IJ_1 (Lg 2) (Lg 5) (Lg 9) (Lg 12) (Lg 14) (Lg 15) (Lg 16) (pI (Xg 2)) (pS (Xg 5)) (pI (Xg 9)) (pS (Xg 12)) (pA (Xg 14)) (pA (Xg 15)) hz) (fun _=>undef) [(gq1,[]),(gq2,[gq1]),(gq4,[]),(gq5,[gq2,gq4]),(gq6,[gq2,gq5]),(gq8,[]),(gq9,[gq2,gq5,gq8]),(gq11,[]),(gq12,[gq2,gq5,gq9,gq11]),(gq13,[gq2,gq5,gq9,gq12]),(gq14,[]),(gq15,[]),(gq16,[gq2,gq5,gq6,gq9,gq12,gq14,gq15])] [(1,36,true,[],[]),(2,37,true,[2],[1]),(4,39,true,[],[]),(5,40,true,[5],[2,4]),(6,41,true,[2,5],[2,5]),(8,43,true,[],[]),(9,44,true,[9],[2,5,8]),(11,46,true,[],[]),(12,47,true,[12],[2,5,9,11]),(13,48,true,[9,12],[2,5,9,12]),(14,8,true,[14],[]),(15,9,true,[15],[]),(16,100016,false,[],[2,5,6,9,12,14,15])] [1,2,3,5,6,7,35,38,42,45] S rfl rfl (by kernel_rfl) (by simp) ?_ ⟨?_,?_,?_,?_,?_,?_,?_,?_,?_,?_,?_,?_,?_,trivial⟩ ?_
  ·
   intro Lg hLg
   have hz:=hini_1 (pI undef) (pS undef) (pI undef) (pS undef) (pA undef) (pA undef)
   have hl2:Lg 2=false:=hLg (2,37,true,[2],[1]) (by simp)
   have hl5:Lg 5=false:=hLg (5,40,true,[5],[2,4]) (by simp)
   have hl9:Lg 9=false:=hLg (9,44,true,[9],[2,5,8]) (by simp)
   have hl12:Lg 12=false:=hLg (12,47,true,[12],[2,5,9,11]) (by simp)
   have hl14:Lg 14=false:=hLg (14,8,true,[14],[]) (by simp)
   have hl15:Lg 15=false:=hLg (15,9,true,[15],[]) (by simp)
   have hl16:Lg 16=false:=hLg (16,100016,false,[],[2,5,6,9,12,14,15]) (by simp)
   show IJ_1 (Lg 2) (Lg 5) (Lg 9) (Lg 12) (Lg 14) (Lg 15) (Lg 16) (pI undef) (pS undef) (pI undef) (pS undef) (pA undef) (pA undef) h21
   rw[hl2,hl5,hl9,hl12,hl14,hl15,hl16]
   exact hz
  ·
   refine⟨_,rfl,rfl,?_⟩
   intro Lg Xg aa ww h74 Ef S hinv hl0 hok
   replace hinv:IJ_1 (Lg 2) (Lg 5) (Lg 9) (Lg 12) (Lg 14) (Lg 15) (Lg 16) (pI (Xg 2)) (pS (Xg 5)) (pI (Xg 9)) (pS (Xg 12)) (pA (Xg 14)) (pA (Xg 15)) h74:=hinv
   replace S:St 127 ((1,Value.pointer (some p1)) :: (2,Value.pointer (some p2)) :: (3,Value.pointer (some p3)) :: (5,(Value.func (.func 17) #[] #[Value.pointer (some p4)])) :: (6,Value.int .i64 i6) :: (7,Value.pointer (some p7)) :: (35,Value.pointer (some (p7.add 1))) :: (38,Value.pointer (some (p7.add 5))) :: (42,Value.pointer (some (p7.add 2))) :: (45,Value.pointer (some (p7.add 6))) :: Ef) h74 w0 aa ww:=S
   have hTg:=hSq_1 (Lg 2) (Lg 5) (Lg 9) (Lg 12) (Lg 14) (Lg 15) (Lg 16) (pI (Xg 2)) (pS (Xg 5)) (pI (Xg 9)) (pS (Xg 12)) (pA (Xg 14)) (pA (Xg 15)) _ hinv
   refine OL.zq S (Lf.run_ld (S.ev rfl) fl3 (S.cl (c_7 _ hTg))) fun _ S=>?_
   refine OL.nil ?_
   exact⟨undef,_,S,hinv⟩
  ·
   refine⟨_,rfl,rfl,?_⟩
   intro Lg Xg aa ww h24 Ef S hinv hl0 hok
   obtain⟨kq1,-⟩:=hok
   replace hinv:IJ_1 (Lg 2) (Lg 5) (Lg 9) (Lg 12) (Lg 14) (Lg 15) (Lg 16) (pI (Xg 2)) (pS (Xg 5)) (pI (Xg 9)) (pS (Xg 12)) (pA (Xg 14)) (pA (Xg 15)) h24:=hinv
   replace S:St 127 ((36,Value.int .i64 x36) :: (1,Value.pointer (some p1)) :: (2,Value.pointer (some p2)) :: (3,Value.pointer (some p3)) :: (5,(Value.func (.func 17) #[] #[Value.pointer (some p4)])) :: (6,Value.int .i64 i6) :: (7,Value.pointer (some p7)) :: (35,Value.pointer (some (p7.add 1))) :: (38,Value.pointer (some (p7.add 5))) :: (42,Value.pointer (some (p7.add 2))) :: (45,Value.pointer (some (p7.add 6))) :: Ef) h24 w0 aa ww:=S
   have H:=Oq_2 (Lg 2) (Lg 5) (Lg 9) (Lg 12) (Lg 14) (Lg 15) (Lg 16) (pI (Xg 2)) (pS (Xg 5)) (pI (Xg 9)) (pS (Xg 12)) (pA (Xg 14)) (pA (Xg 15)) h24 hinv hl0
   clear hinv
   refine ol_cal S H isfn18 rfl rfl trivial ?_
   clear S H;intro u_1 aa ww h25 H S
   obtain⟨x37_1,rfl,H⟩:=H
   refine OL.nil ?_
   exact⟨Value.int .i64 x37_1,_,S,H⟩
  ·
   refine⟨_,rfl,rfl,?_⟩
   intro Lg Xg aa ww h75 Ef S hinv hl0 hok
   replace hinv:IJ_1 (Lg 2) (Lg 5) (Lg 9) (Lg 12) (Lg 14) (Lg 15) (Lg 16) (pI (Xg 2)) (pS (Xg 5)) (pI (Xg 9)) (pS (Xg 12)) (pA (Xg 14)) (pA (Xg 15)) h75:=hinv
   replace S:St 127 ((1,Value.pointer (some p1)) :: (2,Value.pointer (some p2)) :: (3,Value.pointer (some p3)) :: (5,(Value.func (.func 17) #[] #[Value.pointer (some p4)])) :: (6,Value.int .i64 i6) :: (7,Value.pointer (some p7)) :: (35,Value.pointer (some (p7.add 1))) :: (38,Value.pointer (some (p7.add 5))) :: (42,Value.pointer (some (p7.add 2))) :: (45,Value.pointer (some (p7.add 6))) :: Ef) h75 w0 aa ww:=S
   have hTg:=hSq_1 (Lg 2) (Lg 5) (Lg 9) (Lg 12) (Lg 14) (Lg 15) (Lg 16) (pI (Xg 2)) (pS (Xg 5)) (pI (Xg 9)) (pS (Xg 12)) (pA (Xg 14)) (pA (Xg 15)) _ hinv
   refine OL.zq S (Lf.run_ld (S.ev rfl) fl47 (S.cl (c_8 _ hTg))) fun _ S=>?_
   refine OL.nil ?_
   exact⟨undef,_,S,hinv⟩
  ·
   refine⟨_,rfl,rfl,?_⟩
   intro Lg Xg aa ww h28 Ef S hinv hl0 hok
   obtain⟨kq2,kq4,-⟩:=hok
   replace hinv:IJ_1 (Lg 2) (Lg 5) (Lg 9) (Lg 12) (Lg 14) (Lg 15) (Lg 16) (pI (Xg 2)) (pS (Xg 5)) (pI (Xg 9)) (pS (Xg 12)) (pA (Xg 14)) (pA (Xg 15)) h28:=hinv
   replace S:St 127 ((37,Value.int .i64 (pI (Xg 2))) :: (39,Value.slice x39.a x39.n x39.c) :: (1,Value.pointer (some p1)) :: (2,Value.pointer (some p2)) :: (3,Value.pointer (some p3)) :: (5,(Value.func (.func 17) #[] #[Value.pointer (some p4)])) :: (6,Value.int .i64 i6) :: (7,Value.pointer (some p7)) :: (35,Value.pointer (some (p7.add 1))) :: (38,Value.pointer (some (p7.add 5))) :: (42,Value.pointer (some (p7.add 2))) :: (45,Value.pointer (some (p7.add 6))) :: Ef) h28 w0 aa ww:=S
   have H:=Oq_3 (Lg 2) (Lg 5) (Lg 9) (Lg 12) (Lg 14) (Lg 15) (Lg 16) (pI (Xg 2)) (pS (Xg 5)) (pI (Xg 9)) (pS (Xg 12)) (pA (Xg 14)) (pA (Xg 15)) h28 hinv hl0 kq2
   clear hinv
   refine ol_cal S H isfn19 rfl rfl trivial ?_
   clear S H;intro u_3 aa ww h29 H S
   obtain⟨x40_1,rfl,H⟩:=H
   refine OL.nil ?_
   exact⟨Value.slice x40_1.a x40_1.n x40_1.c,_,S,H⟩
  ·
   refine⟨_,rfl,rfl,?_⟩
   intro Lg Xg aa ww h30 Ef S hinv hl0 hok
   obtain⟨kq2,kq5,-⟩:=hok
   replace hinv:IJ_1 (Lg 2) (Lg 5) (Lg 9) (Lg 12) (Lg 14) (Lg 15) (Lg 16) (pI (Xg 2)) (pS (Xg 5)) (pI (Xg 9)) (pS (Xg 12)) (pA (Xg 14)) (pA (Xg 15)) h30:=hinv
   replace S:St 127 ((37,Value.int .i64 (pI (Xg 2))) :: (40,Value.slice (pS (Xg 5)).a (pS (Xg 5)).n (pS (Xg 5)).c) :: (1,Value.pointer (some p1)) :: (2,Value.pointer (some p2)) :: (3,Value.pointer (some p3)) :: (5,(Value.func (.func 17) #[] #[Value.pointer (some p4)])) :: (6,Value.int .i64 i6) :: (7,Value.pointer (some p7)) :: (35,Value.pointer (some (p7.add 1))) :: (38,Value.pointer (some (p7.add 5))) :: (42,Value.pointer (some (p7.add 2))) :: (45,Value.pointer (some (p7.add 6))) :: Ef) h30 w0 aa ww:=S
   refine OL.zq S (Lf.run_build (cs:=#[Value.int .i64 (pI (Xg 2)),Value.slice (pS (Xg 5)).a (pS (Xg 5)).n (pS (Xg 5)).c]) pl49 ti49 (parts_map S rfl) (by kernel_rfl)) fun _ S=>?_
   refine OL.nil ?_
   exact⟨undef,_,S,hinv⟩
  ·
   refine⟨_,rfl,rfl,?_⟩
   intro Lg Xg aa ww h76 Ef S hinv hl0 hok
   replace hinv:IJ_1 (Lg 2) (Lg 5) (Lg 9) (Lg 12) (Lg 14) (Lg 15) (Lg 16) (pI (Xg 2)) (pS (Xg 5)) (pI (Xg 9)) (pS (Xg 12)) (pA (Xg 14)) (pA (Xg 15)) h76:=hinv
   replace S:St 127 ((1,Value.pointer (some p1)) :: (2,Value.pointer (some p2)) :: (3,Value.pointer (some p3)) :: (5,(Value.func (.func 17) #[] #[Value.pointer (some p4)])) :: (6,Value.int .i64 i6) :: (7,Value.pointer (some p7)) :: (35,Value.pointer (some (p7.add 1))) :: (38,Value.pointer (some (p7.add 5))) :: (42,Value.pointer (some (p7.add 2))) :: (45,Value.pointer (some (p7.add 6))) :: Ef) h76 w0 aa ww:=S
   have hTg:=hSq_1 (Lg 2) (Lg 5) (Lg 9) (Lg 12) (Lg 14) (Lg 15) (Lg 16) (pI (Xg 2)) (pS (Xg 5)) (pI (Xg 9)) (pS (Xg 12)) (pA (Xg 14)) (pA (Xg 15)) _ hinv
   refine OL.zq S (Lf.run_ld (S.ev rfl) fl3 (S.cl (c_9 _ hTg))) fun _ S=>?_
   refine OL.nil ?_
   exact⟨undef,_,S,hinv⟩
  ·
   refine⟨_,rfl,rfl,?_⟩
   intro Lg Xg aa ww h33 Ef S hinv hl0 hok
   obtain⟨kq2,kq5,kq8,-⟩:=hok
   replace hinv:IJ_1 (Lg 2) (Lg 5) (Lg 9) (Lg 12) (Lg 14) (Lg 15) (Lg 16) (pI (Xg 2)) (pS (Xg 5)) (pI (Xg 9)) (pS (Xg 12)) (pA (Xg 14)) (pA (Xg 15)) h33:=hinv
   replace S:St 127 ((37,Value.int .i64 (pI (Xg 2))) :: (40,Value.slice (pS (Xg 5)).a (pS (Xg 5)).n (pS (Xg 5)).c) :: (43,Value.int .i64 x43) :: (1,Value.pointer (some p1)) :: (2,Value.pointer (some p2)) :: (3,Value.pointer (some p3)) :: (5,(Value.func (.func 17) #[] #[Value.pointer (some p4)])) :: (6,Value.int .i64 i6) :: (7,Value.pointer (some p7)) :: (35,Value.pointer (some (p7.add 1))) :: (38,Value.pointer (some (p7.add 5))) :: (42,Value.pointer (some (p7.add 2))) :: (45,Value.pointer (some (p7.add 6))) :: Ef) h33 w0 aa ww:=S
   have H:=Oq_4 (Lg 2) (Lg 5) (Lg 9) (Lg 12) (Lg 14) (Lg 15) (Lg 16) (pI (Xg 2)) (pS (Xg 5)) (pI (Xg 9)) (pS (Xg 12)) (pA (Xg 14)) (pA (Xg 15)) h33 hinv hl0 kq2 kq5
   clear hinv
   refine ol_cal S H isfn18 rfl rfl trivial ?_
   clear S H;intro u_5 aa ww h34 H S
   obtain⟨x44_1,rfl,H⟩:=H
   refine OL.nil ?_
   exact⟨Value.int .i64 x44_1,_,S,H⟩
  ·
   refine⟨_,rfl,rfl,?_⟩
   intro Lg Xg aa ww h77 Ef S hinv hl0 hok
   replace hinv:IJ_1 (Lg 2) (Lg 5) (Lg 9) (Lg 12) (Lg 14) (Lg 15) (Lg 16) (pI (Xg 2)) (pS (Xg 5)) (pI (Xg 9)) (pS (Xg 12)) (pA (Xg 14)) (pA (Xg 15)) h77:=hinv
   replace S:St 127 ((1,Value.pointer (some p1)) :: (2,Value.pointer (some p2)) :: (3,Value.pointer (some p3)) :: (5,(Value.func (.func 17) #[] #[Value.pointer (some p4)])) :: (6,Value.int .i64 i6) :: (7,Value.pointer (some p7)) :: (35,Value.pointer (some (p7.add 1))) :: (38,Value.pointer (some (p7.add 5))) :: (42,Value.pointer (some (p7.add 2))) :: (45,Value.pointer (some (p7.add 6))) :: Ef) h77 w0 aa ww:=S
   have hTg:=hSq_1 (Lg 2) (Lg 5) (Lg 9) (Lg 12) (Lg 14) (Lg 15) (Lg 16) (pI (Xg 2)) (pS (Xg 5)) (pI (Xg 9)) (pS (Xg 12)) (pA (Xg 14)) (pA (Xg 15)) _ hinv
   refine OL.zq S (Lf.run_ld (S.ev rfl) fl47 (S.cl (c_10 _ hTg))) fun _ S=>?_
   refine OL.nil ?_
   exact⟨undef,_,S,hinv⟩
  ·
   refine⟨_,rfl,rfl,?_⟩
   intro Lg Xg aa ww h37 Ef S hinv hl0 hok
   obtain⟨kq2,kq5,kq9,kq11,-⟩:=hok
   replace hinv:IJ_1 (Lg 2) (Lg 5) (Lg 9) (Lg 12) (Lg 14) (Lg 15) (Lg 16) (pI (Xg 2)) (pS (Xg 5)) (pI (Xg 9)) (pS (Xg 12)) (pA (Xg 14)) (pA (Xg 15)) h37:=hinv
   replace S:St 127 ((37,Value.int .i64 (pI (Xg 2))) :: (40,Value.slice (pS (Xg 5)).a (pS (Xg 5)).n (pS (Xg 5)).c) :: (44,Value.int .i64 (pI (Xg 9))) :: (46,Value.slice x46.a x46.n x46.c) :: (1,Value.pointer (some p1)) :: (2,Value.pointer (some p2)) :: (3,Value.pointer (some p3)) :: (5,(Value.func (.func 17) #[] #[Value.pointer (some p4)])) :: (6,Value.int .i64 i6) :: (7,Value.pointer (some p7)) :: (35,Value.pointer (some (p7.add 1))) :: (38,Value.pointer (some (p7.add 5))) :: (42,Value.pointer (some (p7.add 2))) :: (45,Value.pointer (some (p7.add 6))) :: Ef) h37 w0 aa ww:=S
   have H:=Oq_5 (Lg 2) (Lg 5) (Lg 9) (Lg 12) (Lg 14) (Lg 15) (Lg 16) (pI (Xg 2)) (pS (Xg 5)) (pI (Xg 9)) (pS (Xg 12)) (pA (Xg 14)) (pA (Xg 15)) h37 hinv hl0 kq2 kq5 kq9
   clear hinv
   refine ol_cal S H isfn19 rfl rfl trivial ?_
   clear S H;intro u_7 aa ww h38 H S
   obtain⟨x47_1,rfl,H⟩:=H
   refine OL.nil ?_
   exact⟨Value.slice x47_1.a x47_1.n x47_1.c,_,S,H⟩
  ·
   refine⟨_,rfl,rfl,?_⟩
   intro Lg Xg aa ww h39 Ef S hinv hl0 hok
   obtain⟨kq2,kq5,kq9,kq12,-⟩:=hok
   replace hinv:IJ_1 (Lg 2) (Lg 5) (Lg 9) (Lg 12) (Lg 14) (Lg 15) (Lg 16) (pI (Xg 2)) (pS (Xg 5)) (pI (Xg 9)) (pS (Xg 12)) (pA (Xg 14)) (pA (Xg 15)) h39:=hinv
   replace S:St 127 ((37,Value.int .i64 (pI (Xg 2))) :: (40,Value.slice (pS (Xg 5)).a (pS (Xg 5)).n (pS (Xg 5)).c) :: (44,Value.int .i64 (pI (Xg 9))) :: (47,Value.slice (pS (Xg 12)).a (pS (Xg 12)).n (pS (Xg 12)).c) :: (1,Value.pointer (some p1)) :: (2,Value.pointer (some p2)) :: (3,Value.pointer (some p3)) :: (5,(Value.func (.func 17) #[] #[Value.pointer (some p4)])) :: (6,Value.int .i64 i6) :: (7,Value.pointer (some p7)) :: (35,Value.pointer (some (p7.add 1))) :: (38,Value.pointer (some (p7.add 5))) :: (42,Value.pointer (some (p7.add 2))) :: (45,Value.pointer (some (p7.add 6))) :: Ef) h39 w0 aa ww:=S
   refine OL.zq S (Lf.run_build (cs:=#[Value.int .i64 (pI (Xg 9)),Value.slice (pS (Xg 12)).a (pS (Xg 12)).n (pS (Xg 12)).c]) pl49 ti49 (parts_map S rfl) (by kernel_rfl)) fun _ S=>?_
   refine OL.nil ?_
   exact⟨undef,_,S,hinv⟩
  ·
   refine⟨_,rfl,rfl,?_⟩
   intro Lg Xg aa ww h42 Ef S hinv hl0 hok
   replace hinv:IJ_1 (Lg 2) (Lg 5) (Lg 9) (Lg 12) (Lg 14) (Lg 15) (Lg 16) (pI (Xg 2)) (pS (Xg 5)) (pI (Xg 9)) (pS (Xg 12)) (pA (Xg 14)) (pA (Xg 15)) h42:=hinv
   replace S:St 127 ((1,Value.pointer (some p1)) :: (2,Value.pointer (some p2)) :: (3,Value.pointer (some p3)) :: (5,(Value.func (.func 17) #[] #[Value.pointer (some p4)])) :: (6,Value.int .i64 i6) :: (7,Value.pointer (some p7)) :: (35,Value.pointer (some (p7.add 1))) :: (38,Value.pointer (some (p7.add 5))) :: (42,Value.pointer (some (p7.add 2))) :: (45,Value.pointer (some (p7.add 6))) :: Ef) h42 w0 aa ww:=S
   have H:=Oq_6 (Lg 2) (Lg 5) (Lg 9) (Lg 12) (Lg 14) (Lg 15) (Lg 16) (pI (Xg 2)) (pS (Xg 5)) (pI (Xg 9)) (pS (Xg 12)) (pA (Xg 14)) (pA (Xg 15)) h42 hinv hl0
   clear hinv
   refine ol_alloc S H ti49 rfl rfl trivial ?_
   clear S H;intro p8_1 aa ww h43 H S
   refine OL.nil ?_
   exact⟨Value.pointer (some p8_1),_,S,H⟩
  ·
   refine⟨_,rfl,rfl,?_⟩
   intro Lg Xg aa ww h46 Ef S hinv hl0 hok
   replace hinv:IJ_1 (Lg 2) (Lg 5) (Lg 9) (Lg 12) (Lg 14) (Lg 15) (Lg 16) (pI (Xg 2)) (pS (Xg 5)) (pI (Xg 9)) (pS (Xg 12)) (pA (Xg 14)) (pA (Xg 15)) h46:=hinv
   replace S:St 127 ((1,Value.pointer (some p1)) :: (2,Value.pointer (some p2)) :: (3,Value.pointer (some p3)) :: (5,(Value.func (.func 17) #[] #[Value.pointer (some p4)])) :: (6,Value.int .i64 i6) :: (7,Value.pointer (some p7)) :: (35,Value.pointer (some (p7.add 1))) :: (38,Value.pointer (some (p7.add 5))) :: (42,Value.pointer (some (p7.add 2))) :: (45,Value.pointer (some (p7.add 6))) :: Ef) h46 w0 aa ww:=S
   have H:=Oq_7 (Lg 2) (Lg 5) (Lg 9) (Lg 12) (Lg 14) (Lg 15) (Lg 16) (pI (Xg 2)) (pS (Xg 5)) (pI (Xg 9)) (pS (Xg 12)) (pA (Xg 14)) (pA (Xg 15)) h46 hinv hl0
   clear hinv
   refine ol_alloc S H ti49 rfl rfl trivial ?_
   clear S H;intro p9_1 aa ww h47 H S
   refine OL.nil ?_
   exact⟨Value.pointer (some p9_1),_,S,H⟩
  ·
   refine⟨_,rfl,rfl,?_⟩
   intro Lg Xg aa ww h50 Ef S hinv hl0 hok
   obtain⟨kq2,kq5,kq6,kq9,kq12,kq14,kq15,-⟩:=hok
   replace hinv:IJ_1 (Lg 2) (Lg 5) (Lg 9) (Lg 12) (Lg 14) (Lg 15) (Lg 16) (pI (Xg 2)) (pS (Xg 5)) (pI (Xg 9)) (pS (Xg 12)) (pA (Xg 14)) (pA (Xg 15)) h50:=hinv
   replace S:St 127 ((37,Value.int .i64 (pI (Xg 2))) :: (40,Value.slice (pS (Xg 5)).a (pS (Xg 5)).n (pS (Xg 5)).c) :: (41,Value.agg #[Value.int .i64 (pI (Xg 2)),Value.slice (pS (Xg 5)).a (pS (Xg 5)).n (pS (Xg 5)).c]) :: (44,Value.int .i64 (pI (Xg 9))) :: (47,Value.slice (pS (Xg 12)).a (pS (Xg 12)).n (pS (Xg 12)).c) :: (8,Value.pointer (some (pA (Xg 14)))) :: (9,Value.pointer (some (pA (Xg 15)))) :: (1,Value.pointer (some p1)) :: (2,Value.pointer (some p2)) :: (3,Value.pointer (some p3)) :: (5,(Value.func (.func 17) #[] #[Value.pointer (some p4)])) :: (6,Value.int .i64 i6) :: (7,Value.pointer (some p7)) :: (35,Value.pointer (some (p7.add 1))) :: (38,Value.pointer (some (p7.add 5))) :: (42,Value.pointer (some (p7.add 2))) :: (45,Value.pointer (some (p7.add 6))) :: Ef) h50 w0 aa ww:=S
   have H:=Oq_8 (Lg 2) (Lg 5) (Lg 9) (Lg 12) (Lg 14) (Lg 15) (Lg 16) (pI (Xg 2)) (pS (Xg 5)) (pI (Xg 9)) (pS (Xg 12)) (pA (Xg 14)) (pA (Xg 15)) h50 hinv hl0 kq2 kq5 kq9 kq12 kq14 kq15
   clear hinv
   refine ol_stoA S H rfl rfl ti49 trivial ?_
   clear S H;intro aa ww h51 H S
   refine OL.nil ?_
   exact⟨undef,_,S,H⟩
  clear S
  intro Lg Xg aa ww h52 S hinv hok
  obtain⟨kq1,kq2,kq4,kq5,kq6,kq8,kq9,kq11,kq12,kq13,kq14,kq15,kq16,-⟩:=hok
  replace hinv:IJ_1 (Lg 2) (Lg 5) (Lg 9) (Lg 12) (Lg 14) (Lg 15) (Lg 16) (pI (Xg 2)) (pS (Xg 5)) (pI (Xg 9)) (pS (Xg 12)) (pA (Xg 14)) (pA (Xg 15)) h52:=hinv
  replace kq2:Lg 2=true:=kq2
  replace kq5:Lg 5=true:=kq5
  replace kq9:Lg 9=true:=kq9
  replace kq12:Lg 12=true:=kq12
  replace kq14:Lg 14=true:=kq14
  replace kq15:Lg 15=true:=kq15
  replace kq16:Lg 16=true:=kq16
  rw[kq2,kq5,kq9,kq12,kq14,kq15,kq16] at hinv
  replace H:=H (pI (Xg 2)) (pS (Xg 5)) (pI (Xg 9)) (pS (Xg 12)) (pA (Xg 14)) (pA (Xg 15)) h52 hinv
  replace S:=S.sub [(1,Value.pointer (some p1)),(2,Value.pointer (some p2)),(3,Value.pointer (some p3)),(5,(Value.func (.func 17) #[] #[Value.pointer (some p4)])),(6,Value.int .i64 i6),(7,Value.pointer (some p7)),(8,Value.pointer (some (pA (Xg 14)))),(9,Value.pointer (some (pA (Xg 15)))),(35,Value.pointer (some (p7.add 1))),(36,Value.int .i64 x36),(37,Value.int .i64 (pI (Xg 2))),(38,Value.pointer (some (p7.add 5))),(39,Value.slice x39.a x39.n x39.c),(40,Value.slice (pS (Xg 5)).a (pS (Xg 5)).n (pS (Xg 5)).c),(41,Value.agg #[Value.int .i64 (pI (Xg 2)),Value.slice (pS (Xg 5)).a (pS (Xg 5)).n (pS (Xg 5)).c]),(42,Value.pointer (some (p7.add 2))),(43,Value.int .i64 x43),(44,Value.int .i64 (pI (Xg 9))),(45,Value.pointer (some (p7.add 6))),(46,Value.slice x46.a x46.n x46.c),(47,Value.slice (pS (Xg 12)).a (pS (Xg 12)).n (pS (Xg 12)).c),(48,Value.agg #[Value.int .i64 (pI (Xg 9)),Value.slice (pS (Xg 12)).a (pS (Xg 12)).n (pS (Xg 12)).c])] ⟨rfl,rfl,rfl,rfl,rfl,rfl,rfl,rfl,rfl,rfl,rfl,rfl,rfl,rfl,rfl,rfl,rfl,rfl,rfl,rfl,rfl,rfl,trivial⟩
  generalize (pI (Xg 2))=x37 at H S
  generalize (pS (Xg 5))=x40 at H S
  generalize (pI (Xg 9))=x44 at H S
  generalize (pS (Xg 12))=x47 at H S
  generalize (pA (Xg 14))=p8 at H S
  generalize (pA (Xg 15))=p9 at H S
  clear hinv kq16 kq15 kq14 kq13 kq12 kq11 kq9 kq8 kq6 kq5 kq4 kq2 kq1 gq16 gq15 gq14 gq13 gq12 gq11 gq9 gq8 gq6 gq5 gq4 gq2 gq1 Oq_2 Oq_3 Oq_4 Oq_5 Oq_6 Oq_7 Oq_8
  refine AN.eff 17 rfl (by kernel_rfl) ?_
  refine ol_stoA S H rfl rfl ti49 trivial ?_
  clear S H;intro aa ww h53 H S
  refine OL.nil ?_
  refine AN.done (by kernel_rfl) ?_
  refine W.seq ?_
  refine W.region ?_
  obtain⟨y49,y49_1,c_54,c_55,H⟩:=H
  refine OL.zq S (Lf.run_ldA (cs:=[Value.int .i64 y49,Value.slice y49_1.a y49_1.n y49_1.c]) (S.ev rfl) ag49 ti49 (by rw[S.heap];exact RowL.toRow ⟨c_54,c_55,trivial⟩)) fun _ S=>?_
  obtain⟨y50,y50_1,c_52,c_53,H⟩:=H
  refine OL.zq S (Lf.run_ldA (cs:=[Value.int .i64 y50,Value.slice y50_1.a y50_1.n y50_1.c]) (S.ev rfl) ag49 ti49 (by rw[S.heap];exact RowL.toRow ⟨c_52,c_53,trivial⟩)) fun _ S=>?_
  refine OL.zq S (Lf.run_build (cs:=#[Value.int .i64 3,Value.int .i64 y50,Value.slice y50_1.a y50_1.n y50_1.c,Value.int .i64 0,Value.int .u64 0]) pl66 ti66 (parts_map S rfl) (by kernel_rfl)) fun _ S=>?_
  refine ol_newS S H Try.underlying67 ti66 (by decide) (parts_map S rfl) (by kernel_rfl) (by decide) rfl trivial ?_
  clear S H;intro s52 aa ww h54 H S
  refine OL.zq S (Lf.run_build (cs:=#[Value.int .i64 1,Value.slice s52.a s52.n s52.c,Value.int .i64 0,Value.slice (⟨none,0,0⟩:Sv).a (⟨none,0,0⟩:Sv).n (⟨none,0,0⟩:Sv).c,Value.bool false,Value.string (⟨#[]⟩:ByteArray),Value.int .i64 0,Value.slice (⟨none,0,0⟩:Sv).a (⟨none,0,0⟩:Sv).n (⟨none,0,0⟩:Sv).c]) pl70 ti70 (parts_map S rfl) (by kernel_rfl)) fun _ S=>?_
  refine OL.zq S (Lf.run_build (cs:=#[Value.int .i64 3,Value.int .i64 0,Value.int .i64 y49,Value.slice y49_1.a y49_1.n y49_1.c,Value.int .i64 1,Value.slice s52.a s52.n s52.c,Value.int .i64 0,Value.slice (⟨none,0,0⟩:Sv).a (⟨none,0,0⟩:Sv).n (⟨none,0,0⟩:Sv).c,Value.bool false,Value.string (⟨#[]⟩:ByteArray),Value.int .i64 0,Value.slice (⟨none,0,0⟩:Sv).a (⟨none,0,0⟩:Sv).n (⟨none,0,0⟩:Sv).c,Value.int .i64 0,Value.int .i64 0,Value.slice (⟨none,0,0⟩:Sv).a (⟨none,0,0⟩:Sv).n (⟨none,0,0⟩:Sv).c,Value.int .i64 0,Value.int .u64 0,Value.int .i64 0,Value.int .i64 0,Value.int .i64 0,Value.int .i64 0]) pl74 ti74 (parts_map S rfl) (by kernel_rfl)) fun _ S=>?_
  refine ol_alloc S H ti74 rfl rfl trivial ?_
  clear S H;intro p10 aa ww h55 H S
  refine ol_stoA S H rfl rfl ti74 trivial ?_
  clear S H;intro aa ww h56 H S
  refine OL.nil ?_
  obtain⟨J,H,HK⟩:=H
  refine W.seqJ (fun aa ww=>∃h70,St 127 [(1,Value.pointer (some p1)),(2,Value.pointer (some p2)),(3,Value.pointer (some p3)),(5,(Value.func (.func 17) #[] #[Value.pointer (some p4)])),(6,Value.int .i64 i6),(10,Value.pointer (some p10))] h70 w0 aa ww∧J h70) ?_ ?_
  ·
   clear HK
   refine W.seq ?_
   refine W.region ?_
   refine OL.zf S fa77_0 fun _ S=>?_
   obtain⟨x56,c_13,H⟩:=H
   refine OL.zl S fl3 c_13 fun _ S=>?_
   refine OL.zq S (Lf.run_cvi Try.underlying3 Try.underlying52 (S.ev rfl)) fun _ S=>?_
   refine OL.zq S (Lf.run_rem (S.ev rfl) (S.ev rfl) (by decide)) fun _ S=>?_
   refine OL.nil ?_
   refine W.block ?_
   refine W.seq ?_
   refine W.region ?_
   refine OL.zq S (Lf.run_eql (S.ev rfl) (S.ev rfl)) fun _ S=>?_
   refine OL.za S fun _ S=>?_
   refine OL.nil ?_
   refine W.cond S (b:=((((IntKind.u64.wrap x56):Int).tmod 9) == 1)) rfl (fun hb_1=>?_) (fun hb_1=>?_)
   ·
    replace H:=H.1 hb_1
    refine W.region ?_
    refine OL.zf S fa74_3 fun _ S=>?_
    refine OL.zf S fa70_1 fun _ S=>?_
    obtain⟨x63,c_14,H⟩:=H
    refine OL.zl S fl67 c_14 fun _ S=>?_
    obtain⟨q64,e_3,e_4,e_5,H⟩:=H
    refine OL.zq S (Lf.run_ixs (S.ev rfl) (S.ev rfl) Try.underlying67 ti66 e_3 e_4 e_5) fun _ S=>?_
    refine OL.zf S fa66_0 fun _ S=>?_
    refine ol_sto S H rfl rfl rfl ti3 trivial ?_
    clear S H;intro aa ww h57 H S
    refine OL.nil ?_
    exact⟨h57,S.sub _ ⟨rfl,rfl,rfl,rfl,rfl,rfl,trivial⟩,H⟩
   ·
    replace H:=H.2 hb_1
    refine W.seq ?_
    refine W.region ?_
    refine OL.zq S (Lf.run_eql (S.ev rfl) (S.ev rfl)) fun _ S=>?_
    refine OL.za S fun _ S=>?_
    refine OL.nil ?_
    refine W.cond S (b:=((((IntKind.u64.wrap x56):Int).tmod 9) == 2)) rfl (fun hb_2=>?_) (fun hb_2=>?_)
    ·
     replace H:=H.1 hb_2
     refine W.region ?_
     obtain⟨y68,y68_1,c_18,c_19,H⟩:=H
     refine OL.zq S (Lf.run_ldA (cs:=[Value.int .i64 y68,Value.slice y68_1.a y68_1.n y68_1.c]) (S.ev rfl) ag49 ti49 (by rw[S.heap];exact RowL.toRow ⟨c_18,c_19,trivial⟩)) fun _ S=>?_
     refine OL.zf S fa77_3 fun _ S=>?_
     obtain⟨x70,c_16,H⟩:=H
     refine OL.zl S fl3 c_16 fun _ S=>?_
     refine OL.zq S (Lf.run_rem (S.ev rfl) (S.ev rfl) (by decide)) fun _ S=>?_
     refine OL.zq S (Lf.run_eql (S.ev rfl) (S.ev rfl)) fun _ S=>?_
     refine OL.zq S (Lf.run_build (cs:=#[Value.int .i64 2,Value.slice (⟨none,0,0⟩:Sv).a (⟨none,0,0⟩:Sv).n (⟨none,0,0⟩:Sv).c,Value.int .i64 y68,Value.slice y68_1.a y68_1.n y68_1.c,Value.bool (((x70:Int).tmod 2) == 0),Value.string (⟨#[]⟩:ByteArray),Value.int .i64 0,Value.slice (⟨none,0,0⟩:Sv).a (⟨none,0,0⟩:Sv).n (⟨none,0,0⟩:Sv).c]) pl70 ti70 (parts_map S rfl) (by kernel_rfl)) fun _ S=>?_
     refine OL.zf S fa74_3 fun _ S=>?_
     refine ol_stoA S H rfl rfl ti70 trivial ?_
     clear S H;intro aa ww h58 H S
     refine OL.nil ?_
     exact⟨h58,S.sub _ ⟨rfl,rfl,rfl,rfl,rfl,rfl,trivial⟩,H⟩
    ·
     replace H:=H.2 hb_2
     refine W.seq ?_
     refine W.region ?_
     refine OL.zq S (Lf.run_eql (S.ev rfl) (S.ev rfl)) fun _ S=>?_
     refine OL.za S fun _ S=>?_
     refine OL.nil ?_
     refine W.cond S (b:=((((IntKind.u64.wrap x56):Int).tmod 9) == 3)) rfl (fun hb_3=>?_) (fun hb_3=>?_)
     ·
      replace H:=H.1 hb_3
      refine W.region ?_
      refine OL.zf S fa77_1 fun _ S=>?_
      obtain⟨x78,c_20,H⟩:=H
      refine OL.zl S fl3 c_20 fun _ S=>?_
      refine ol_cal S H isfn18 rfl rfl trivial ?_
      clear S H;intro u_8 aa ww h59 H S
      obtain⟨x79,rfl,H⟩:=H
      refine OL.zq S (Lf.run_build (cs:=#[Value.int .i64 1,Value.int .i64 x79,Value.int .i64 0,Value.slice (⟨none,0,0⟩:Sv).a (⟨none,0,0⟩:Sv).n (⟨none,0,0⟩:Sv).c,Value.int .i64 0,Value.slice (⟨none,0,0⟩:Sv).a (⟨none,0,0⟩:Sv).n (⟨none,0,0⟩:Sv).c,Value.int .i64 0,Value.slice (⟨none,0,0⟩:Sv).a (⟨none,0,0⟩:Sv).n (⟨none,0,0⟩:Sv).c,Value.bool false,Value.string (⟨#[]⟩:ByteArray),Value.int .i64 0,Value.slice (⟨none,0,0⟩:Sv).a (⟨none,0,0⟩:Sv).n (⟨none,0,0⟩:Sv).c,Value.int .i64 0,Value.int .i64 0,Value.slice (⟨none,0,0⟩:Sv).a (⟨none,0,0⟩:Sv).n (⟨none,0,0⟩:Sv).c,Value.int .i64 0,Value.int .u64 0,Value.int .i64 0,Value.int .i64 0,Value.int .i64 0,Value.int .i64 0]) pl74 ti74 (parts_map S rfl) (by kernel_rfl)) fun _ S=>?_
      refine ol_stoA S H rfl rfl ti74 trivial ?_
      clear S H;intro aa ww h60 H S
      refine OL.nil ?_
      exact⟨h60,S.sub _ ⟨rfl,rfl,rfl,rfl,rfl,rfl,trivial⟩,H⟩
     ·
      replace H:=H.2 hb_3
      refine W.seq ?_
      refine W.region ?_
      refine OL.zq S (Lf.run_eql (S.ev rfl) (S.ev rfl)) fun _ S=>?_
      refine OL.za S fun _ S=>?_
      refine OL.nil ?_
      refine W.cond S (b:=((((IntKind.u64.wrap x56):Int).tmod 9) == 4)) rfl (fun hb_4=>?_) (fun hb_4=>?_)
      ·
       replace H:=H.1 hb_4
       refine W.region ?_
       refine OL.zf S fa77_1 fun _ S=>?_
       obtain⟨x84,c_21,H⟩:=H
       refine OL.zl S fl3 c_21 fun _ S=>?_
       refine ol_cal S H isfn18 rfl rfl trivial ?_
       clear S H;intro u_9 aa ww h61 H S
       obtain⟨x85,rfl,H⟩:=H
       refine OL.zq S (Lf.run_build (cs:=#[Value.int .i64 2,Value.int .i64 x85,Value.int .i64 0,Value.slice (⟨none,0,0⟩:Sv).a (⟨none,0,0⟩:Sv).n (⟨none,0,0⟩:Sv).c,Value.int .i64 0,Value.slice (⟨none,0,0⟩:Sv).a (⟨none,0,0⟩:Sv).n (⟨none,0,0⟩:Sv).c,Value.int .i64 0,Value.slice (⟨none,0,0⟩:Sv).a (⟨none,0,0⟩:Sv).n (⟨none,0,0⟩:Sv).c,Value.bool false,Value.string (⟨#[]⟩:ByteArray),Value.int .i64 0,Value.slice (⟨none,0,0⟩:Sv).a (⟨none,0,0⟩:Sv).n (⟨none,0,0⟩:Sv).c,Value.int .i64 0,Value.int .i64 0,Value.slice (⟨none,0,0⟩:Sv).a (⟨none,0,0⟩:Sv).n (⟨none,0,0⟩:Sv).c,Value.int .i64 0,Value.int .u64 0,Value.int .i64 0,Value.int .i64 0,Value.int .i64 0,Value.int .i64 0]) pl74 ti74 (parts_map S rfl) (by kernel_rfl)) fun _ S=>?_
       refine ol_stoA S H rfl rfl ti74 trivial ?_
       clear S H;intro aa ww h62 H S
       refine OL.nil ?_
       exact⟨h62,S.sub _ ⟨rfl,rfl,rfl,rfl,rfl,rfl,trivial⟩,H⟩
      ·
       replace H:=H.2 hb_4
       refine W.seq ?_
       refine W.region ?_
       refine OL.zq S (Lf.run_eql (S.ev rfl) (S.ev rfl)) fun _ S=>?_
       refine OL.za S fun _ S=>?_
       refine OL.nil ?_
       refine W.cond S (b:=((((IntKind.u64.wrap x56):Int).tmod 9) == 5)) rfl (fun hb_5=>?_) (fun hb_5=>?_)
       ·
        replace H:=H.1 hb_5
        refine W.region ?_
        refine OL.zm S fun _ S=>?_
        refine OL.zf S fa77_3 fun _ S=>?_
        obtain⟨x91,c_22,H⟩:=H
        refine OL.zl S fl3 c_22 fun _ S=>?_
        refine ol_calV S H rfl rfl rfl trivial ?_
        clear S H;intro u_10 aa ww h63 H S
        obtain⟨x92,rfl,H⟩:=H
        refine OL.zq S (Lf.run_build (cs:=#[Value.int .i64 4,Value.int .i64 0,Value.int .i64 0,Value.slice (⟨none,0,0⟩:Sv).a (⟨none,0,0⟩:Sv).n (⟨none,0,0⟩:Sv).c,Value.int .i64 0,Value.slice (⟨none,0,0⟩:Sv).a (⟨none,0,0⟩:Sv).n (⟨none,0,0⟩:Sv).c,Value.int .i64 0,Value.slice (⟨none,0,0⟩:Sv).a (⟨none,0,0⟩:Sv).n (⟨none,0,0⟩:Sv).c,Value.bool false,Value.string (⟨#[]⟩:ByteArray),Value.int .i64 0,Value.slice (⟨none,0,0⟩:Sv).a (⟨none,0,0⟩:Sv).n (⟨none,0,0⟩:Sv).c,Value.int .i64 0,Value.int .i64 0,Value.slice (⟨none,0,0⟩:Sv).a (⟨none,0,0⟩:Sv).n (⟨none,0,0⟩:Sv).c,Value.int .i64 0,Value.int .u64 0,Value.int .i64 x92,Value.int .i64 0,Value.int .i64 0,Value.int .i64 0]) pl74 ti74 (parts_map S rfl) (by kernel_rfl)) fun _ S=>?_
        refine ol_stoA S H rfl rfl ti74 trivial ?_
        clear S H;intro aa ww h64 H S
        refine OL.nil ?_
        exact⟨h64,S.sub _ ⟨rfl,rfl,rfl,rfl,rfl,rfl,trivial⟩,H⟩
       ·
        replace H:=H.2 hb_5
        refine W.seq ?_
        refine W.region ?_
        refine OL.zq S (Lf.run_eql (S.ev rfl) (S.ev rfl)) fun _ S=>?_
        refine OL.za S fun _ S=>?_
        refine OL.nil ?_
        refine W.cond S (b:=((((IntKind.u64.wrap x56):Int).tmod 9) == 6)) rfl (fun hb_6=>?_) (fun hb_6=>?_)
        ·
         replace H:=H.1 hb_6
         replace S:=S.sub [(1,Value.pointer (some p1)),(2,Value.pointer (some p2)),(3,Value.pointer (some p3)),(5,(Value.func (.func 17) #[] #[Value.pointer (some p4)])),(6,Value.int .i64 i6),(7,Value.pointer (some p7)),(8,Value.pointer (some p8)),(10,Value.pointer (some p10))] ⟨rfl,rfl,rfl,rfl,rfl,rfl,rfl,rfl,trivial⟩
         obtain⟨Sq_2,HS,H⟩:=H
         refine W.regionN [0,8] [5,9,11] Sq_2 S (by kernel_rfl) ?_
         clear S;intro ww S
         refine BN.pure 2 S (fun _=>HS) rfl (by kernel_rfl) (by kernel_rfl) (fun _=>Lf.run_move (S.ev rfl)) rfl rfl trivial fun _ S=>?_
         refine BN.pure 3 S (fun _=>HS) rfl (by kernel_rfl) (by kernel_rfl) (fun _=>Lf.run_fa (S.ev rfl) fa77_3) rfl rfl trivial fun _ S=>?_
         refine BN.pure 6 S (fun _=>HS) rfl (by kernel_rfl) (by kernel_rfl) (fun _=>Lf.run_move (S.ev rfl)) rfl rfl trivial fun _ S=>?_
         refine BN.pure 7 S (fun _=>HS) rfl (by kernel_rfl) (by kernel_rfl) (fun _=>Lf.run_fa (S.ev rfl) fa77_4) rfl rfl trivial fun _ S=>?_
         obtain⟨y96,y96_1,c_26,c_27,H⟩:=H
         refine BN.held 0 S HS rfl (by kernel_rfl) (fun _ hq=>Lf.run_ldA (cs:=[Value.int .i64 y96,Value.slice y96_1.a y96_1.n y96_1.c]) (S.ev rfl) ag49 ti49 (hlRow hq fun h_ hs_=>⟨c_26 h_ hs_,c_27 h_ hs_,trivial⟩)) rfl rfl trivial fun _ S=>?_
         refine BN.pure 1 S (fun _=>HS) rfl (by kernel_rfl) (by kernel_rfl) (fun _=>Lf.run_build (cs:=#[Value.int .i64 2,Value.int .i64 y96,Value.slice y96_1.a y96_1.n y96_1.c,Value.int .i64 0,Value.int .u64 0]) pl66 ti66 (parts_map S rfl) (by kernel_rfl)) rfl rfl trivial fun _ S=>?_
         obtain⟨x100,c_24,H⟩:=H
         refine BN.load 4 S (fun _=>HS) rfl (by kernel_rfl) (by kernel_rfl) (fun _ hx=>Lf.run_ld (S.ev rfl) fl3 (hx.cell _ _ (S.cl c_24))) rfl rfl trivial fun _ S=>?_
         obtain⟨x104,c_25,H⟩:=H
         refine BN.held 8 S HS rfl (by kernel_rfl) (fun _ hq=>Lf.run_ld (S.ev rfl) fl3 (c_25 _ hq)) rfl rfl trivial fun _ S=>?_
         refine BN.eff 5 rfl (by kernel_rfl) ?_
         refine ol_calV S H rfl rfl rfl trivial ?_
         clear S H;intro u_11 aa ww h65 H S
         obtain⟨x101,rfl,H⟩:=H
         refine OL.nil ?_
         clear HS;obtain⟨HS,H⟩:=H
         refine⟨fun _=>by rw[S.heap];exact HS,?_⟩
         refine BN.eff 9 rfl (by kernel_rfl) ?_
         refine ol_calV S H rfl rfl rfl trivial ?_
         clear S H;intro u_12 aa ww h66 H S
         obtain⟨x105,rfl,H⟩:=H
         refine OL.nil ?_
         clear HS;obtain⟨HS,H⟩:=H
         refine⟨fun _=>by rw[S.heap];exact HS,?_⟩
         refine BN.pure 10 S (fun _=>HS) rfl (by kernel_rfl) (by kernel_rfl) (fun _=>Lf.run_build (cs:=#[Value.int .i64 5,Value.int .i64 0,Value.int .i64 0,Value.slice (⟨none,0,0⟩:Sv).a (⟨none,0,0⟩:Sv).n (⟨none,0,0⟩:Sv).c,Value.int .i64 0,Value.slice (⟨none,0,0⟩:Sv).a (⟨none,0,0⟩:Sv).n (⟨none,0,0⟩:Sv).c,Value.int .i64 0,Value.slice (⟨none,0,0⟩:Sv).a (⟨none,0,0⟩:Sv).n (⟨none,0,0⟩:Sv).c,Value.bool false,Value.string (⟨#[]⟩:ByteArray),Value.int .i64 0,Value.slice (⟨none,0,0⟩:Sv).a (⟨none,0,0⟩:Sv).n (⟨none,0,0⟩:Sv).c,Value.int .i64 2,Value.int .i64 y96,Value.slice y96_1.a y96_1.n y96_1.c,Value.int .i64 0,Value.int .u64 0,Value.int .i64 x101,Value.int .i64 x105,Value.int .i64 0,Value.int .i64 0]) pl74 ti74 (parts_map S rfl) (by kernel_rfl)) rfl rfl trivial fun _ S=>?_
         refine BN.eff 11 rfl (by kernel_rfl) ?_
         refine ol_stoA S H rfl rfl ti74 trivial ?_
         clear S H;intro aa ww h67 H S
         refine OL.nil ?_
         refine⟨noNeed (by kernel_rfl),?_⟩
         refine BN.done (by kernel_rfl) ?_
         exact⟨h67,S.sub _ ⟨rfl,rfl,rfl,rfl,rfl,rfl,trivial⟩,H⟩
        ·
         replace H:=H.2 hb_6
         refine W.seq ?_
         refine W.region ?_
         refine OL.zq S (Lf.run_eql (S.ev rfl) (S.ev rfl)) fun _ S=>?_
         refine OL.za S fun _ S=>?_
         refine OL.nil ?_
         refine W.cond S (b:=((((IntKind.u64.wrap x56):Int).tmod 9) == 7)) rfl (fun hb_7=>?_) (fun hb_7=>?_)
         ·
          replace H:=H.1 hb_7
          refine W.region ?_
          refine OL.zq S (Lf.run_build (cs:=#[Value.int .i64 10,Value.slice (⟨none,0,0⟩:Sv).a (⟨none,0,0⟩:Sv).n (⟨none,0,0⟩:Sv).c,Value.int .i64 0,Value.slice (⟨none,0,0⟩:Sv).a (⟨none,0,0⟩:Sv).n (⟨none,0,0⟩:Sv).c,Value.bool false,Value.string (⟨#[]⟩:ByteArray),Value.int .i64 0,Value.slice (⟨none,0,0⟩:Sv).a (⟨none,0,0⟩:Sv).n (⟨none,0,0⟩:Sv).c]) pl70 ti70 (parts_map S rfl) (by kernel_rfl)) fun _ S=>?_
          refine OL.zf S fa74_3 fun _ S=>?_
          refine ol_stoA S H rfl rfl ti70 trivial ?_
          clear S H;intro aa ww h68 H S
          refine OL.nil ?_
          exact⟨h68,S.sub _ ⟨rfl,rfl,rfl,rfl,rfl,rfl,trivial⟩,H⟩
         ·
          replace H:=H.2 hb_7
          refine W.seq ?_
          refine W.region ?_
          refine OL.zq S (Lf.run_eql (S.ev rfl) (S.ev rfl)) fun _ S=>?_
          refine OL.za S fun _ S=>?_
          refine OL.nil ?_
          refine W.cond S (b:=((((IntKind.u64.wrap x56):Int).tmod 9) == 8)) rfl (fun hb_8=>?_) (fun hb_8=>?_)
          ·
           replace H:=H.1 hb_8
           refine W.region ?_
           refine OL.zq S (Lf.run_build (cs:=#[Value.int .i64 7,Value.int .i64 0,Value.int .i64 0,Value.slice (⟨none,0,0⟩:Sv).a (⟨none,0,0⟩:Sv).n (⟨none,0,0⟩:Sv).c,Value.int .i64 0,Value.slice (⟨none,0,0⟩:Sv).a (⟨none,0,0⟩:Sv).n (⟨none,0,0⟩:Sv).c,Value.int .i64 0,Value.slice (⟨none,0,0⟩:Sv).a (⟨none,0,0⟩:Sv).n (⟨none,0,0⟩:Sv).c,Value.bool false,Value.string (⟨#[]⟩:ByteArray),Value.int .i64 0,Value.slice (⟨none,0,0⟩:Sv).a (⟨none,0,0⟩:Sv).n (⟨none,0,0⟩:Sv).c,Value.int .i64 0,Value.int .i64 0,Value.slice (⟨none,0,0⟩:Sv).a (⟨none,0,0⟩:Sv).n (⟨none,0,0⟩:Sv).c,Value.int .i64 0,Value.int .u64 0,Value.int .i64 0,Value.int .i64 0,Value.int .i64 0,Value.int .i64 0]) pl74 ti74 (parts_map S rfl) (by kernel_rfl)) fun _ S=>?_
           refine ol_stoA S H rfl rfl ti74 trivial ?_
           clear S H;intro aa ww h69 H S
           refine OL.nil ?_
           exact⟨h69,S.sub _ ⟨rfl,rfl,rfl,rfl,rfl,rfl,trivial⟩,H⟩
          ·
           replace H:=H.2 hb_8
           refine W.skip ?_
           exact⟨h56,S.sub _ ⟨rfl,rfl,rfl,rfl,rfl,rfl,trivial⟩,H⟩
  ·
   clear H S
   rintro aa ww ⟨h70,S,HJ⟩
   have H:=HK _ HJ
   clear HK HJ
   refine W.region ?_
   refine OL.zf S fa30_3 fun _ S=>?_
   obtain⟨x115,c_29,H⟩:=H
   refine OL.zl S fl28 c_29 fun _ S=>?_
   obtain⟨y116,y116_1,y116_2,y116_3,y116_4,y116_5,y116_6,y116_7,y116_8,y116_9,y116_10,y116_11,y116_12,y116_13,y116_14,y116_15,y116_16,y116_17,y116_18,y116_19,y116_20,c_31,c_32,c_33,c_34,c_35,c_36,c_37,c_38,c_39,c_40,c_41,c_42,c_43,c_44,c_45,c_46,c_47,c_48,c_49,c_50,c_51,H⟩:=H
   refine OL.zq S (Lf.run_ldA (cs:=[Value.int .i64 y116,Value.int .i64 y116_1,Value.int .i64 y116_2,Value.slice y116_3.a y116_3.n y116_3.c,Value.int .i64 y116_4,Value.slice y116_5.a y116_5.n y116_5.c,Value.int .i64 y116_6,Value.slice y116_7.a y116_7.n y116_7.c,Value.bool y116_8,Value.string y116_9,Value.int .i64 y116_10,Value.slice y116_11.a y116_11.n y116_11.c,Value.int .i64 y116_12,Value.int .i64 y116_13,Value.slice y116_14.a y116_14.n y116_14.c,Value.int .i64 y116_15,Value.int .u64 y116_16,Value.int .i64 y116_17,Value.int .i64 y116_18,Value.int .i64 y116_19,Value.int .i64 y116_20]) (S.ev rfl) ag74 ti74 (by rw[S.heap];exact RowL.toRow ⟨c_31,c_32,c_33,c_34,c_35,c_36,c_37,c_38,c_39,c_40,c_41,c_42,c_43,c_44,c_45,c_46,c_47,c_48,c_49,c_50,c_51,trivial⟩)) fun _ S=>?_
   refine ol_newS S H Try.underlying28 ti74 (by decide) (parts_map S rfl) (by kernel_rfl) (by decide) rfl trivial ?_
   clear S H;intro s117 aa ww h71 H S
   refine ol_appS S H Try.underlying28 ti74 rfl rfl rfl trivial ?_
   clear S H;intro s118 aa ww h72 H S
   refine OL.zf S fa30_3 fun _ S=>?_
   refine ol_sto S H rfl rfl rfl ti28 trivial ?_
   clear S H;intro aa ww h73 H S
   refine OL.nil ?_
   refine W.region ?_
   refine OL.zm S fun _ S=>?_
   refine OL.zq S (Lf.run_add (S.ev rfl) (S.ev rfl)) fun _ S=>?_
   refine OL.za S fun _ S=>?_
   refine OL.nil ?_
   exact⟨((IntKind.i64.wrap (i6+1)),h73),⟨S.sub _ ⟨rfl,rfl,rfl,rfl,rfl,trivial⟩,H.1⟩,H.2⟩
 ·
  replace H:=H.2 hb
  refine W.exit_ ?_
  refine xhit ?_
  refine W.seq ?_
  refine W.region ?_
  refine OL.zf S fa30_3 fun _ S=>?_
  obtain⟨x121,c_63,H⟩:=H
  refine OL.zl S fl28 c_63 fun _ S=>?_
  refine OL.zq S (Lf.run_build (cs:=#[Value.int .i64 6,Value.int .i64 0,Value.int .i64 0,Value.slice (⟨none,0,0⟩:Sv).a (⟨none,0,0⟩:Sv).n (⟨none,0,0⟩:Sv).c,Value.int .i64 0,Value.slice (⟨none,0,0⟩:Sv).a (⟨none,0,0⟩:Sv).n (⟨none,0,0⟩:Sv).c,Value.int .i64 0,Value.slice (⟨none,0,0⟩:Sv).a (⟨none,0,0⟩:Sv).n (⟨none,0,0⟩:Sv).c,Value.bool false,Value.string (⟨#[]⟩:ByteArray),Value.int .i64 0,Value.slice (⟨none,0,0⟩:Sv).a (⟨none,0,0⟩:Sv).n (⟨none,0,0⟩:Sv).c,Value.int .i64 0,Value.int .i64 0,Value.slice (⟨none,0,0⟩:Sv).a (⟨none,0,0⟩:Sv).n (⟨none,0,0⟩:Sv).c,Value.int .i64 0,Value.int .u64 0,Value.int .i64 0,Value.int .i64 0,Value.int .i64 0,Value.int .i64 0]) pl74 ti74 (parts_map S rfl) (by kernel_rfl)) fun _ S=>?_
  refine ol_newS S H Try.underlying28 ti74 (by decide) (parts_map S rfl) (by kernel_rfl) (by decide) rfl trivial ?_
  clear S H;intro s123 aa ww h78 H S
  refine ol_appS S H Try.underlying28 ti74 rfl rfl rfl trivial ?_
  clear S H;intro s124 aa ww h79 H S
  refine OL.zf S fa30_3 fun _ S=>?_
  refine ol_sto S H rfl rfl rfl ti28 trivial ?_
  clear S H;intro aa ww h80 H S
  refine OL.nil ?_
  refine W.seq ?_
  refine W.region ?_
  obtain⟨y126,y126_1,y126_2,y126_3,c_69,c_70,c_71,c_72,H⟩:=H
  refine OL.zq S (Lf.run_ldA (cs:=[Value.string y126,Value.int .i64 y126_1,Value.slice y126_2.a y126_2.n y126_2.c,Value.slice y126_3.a y126_3.n y126_3.c]) (S.ev rfl) ag30 ti30 (by rw[S.heap];exact RowL.toRow ⟨c_69,c_70,c_71,c_72,trivial⟩)) fun _ S=>?_
  refine ol_stoA S H rfl rfl ti30 trivial ?_
  clear S H;intro aa ww h81 H S
  refine OL.nil ?_
  refine W.ret ?_
  obtain⟨y,y_1,y_2,y_3,c_65,c_66,c_67,c_68,H⟩:=H
  exact Ret.gen S rfl (RV.cellA (cs:=[Value.string y,Value.int .i64 y_1,Value.slice y_2.a y_2.n y_2.c,Value.slice y_3.a y_3.n y_3.c]) rfl ag30 ti30 ⟨c_65,c_66,c_67,c_68,trivial⟩ RV.nil) rfl H
def L10 (b0:ByteArray) (b0_1:Int) (b0_2:Sv) (b0_3:Sv) (l1:Sv) (h:Heap) (R:Value→Heap→Prop):Prop:=
 new 30 #[Value.string b0,Value.int .i64 b0_1,Value.slice b0_2.a b0_2.n b0_2.c,Value.slice b0_3.a b0_3.n b0_3.c] h fun p2 h1=>
 ∃(I:Sv→Int→Heap→Prop) (m:Sv→Int→Heap→Nat),I (⟨none,0,0⟩:Sv) 0 h1∧∀out5 i6 h2,I out5 i6 h2 →
 ifb (decide (i6<((l1.n:Nat):Int))) (
  ∃Sq:Heap→Prop,Sq h2∧(
   ixS l1 i6 fun q18=>
   ixS l1 i6 fun q30=>
   ixS l1 i6 fun q35=>
   ixS l1 i6 fun q40=>
   hlI .i64 Sq (q18.add ((i6:Int).toNat*6)) fun x20=>
   hlS Sq (p2.add 3) fun x23=>
   ((IntKind.u64.wrap ((x23.n:Nat):Int))≠0) ∧
   hlB Sq ((q30.add ((i6:Int).toNat*6)).add 3) fun x32=>
   hlB Sq ((q35.add ((i6:Int).toNat*6)).add 4) fun x37=>
   hlI .i64 Sq ((q40.add ((i6:Int).toNat*6)).add 1) fun x42=>
   new 51 #[Value.int .i64 0,Value.int .i64 0,Value.slice (⟨none,0,0⟩:Sv).a (⟨none,0,0⟩:Sv).n (⟨none,0,0⟩:Sv).c,Value.bool false,Value.bool false,Value.slice (⟨none,0,0⟩:Sv).a (⟨none,0,0⟩:Sv).n (⟨none,0,0⟩:Sv).c] h2 fun p7 h3=>
   Sq h3 ∧
   stoA h3 p7 [Value.int .i64 (IntKind.i64.wrap (((IntKind.u64.wrap x20):Int).tmod (IntKind.u64.wrap ((x23.n:Nat):Int)))),Value.int .i64 (IntKind.i64.wrap (((IntKind.u64.wrap x42):Int).tmod 4)),Value.slice (⟨none,0,0⟩:Sv).a (⟨none,0,0⟩:Sv).n (⟨none,0,0⟩:Sv).c,Value.bool x32,Value.bool x37,Value.slice (⟨none,0,0⟩:Sv).a (⟨none,0,0⟩:Sv).n (⟨none,0,0⟩:Sv).c] fun h4=>
   ∃(I_1:Int→Heap→Prop) (m_1:Int→Heap→Nat),I_1 0 h4∧∀k8 h5,I_1 k8 h5 →
   ixS l1 i6 fun q51=>
   ldS h5 ((q51.add ((i6:Int).toNat*6)).add 2) fun x53=>
   ifb ((decide (k8<((x53.n:Nat):Int))) && (decide (k8<3))) (
    ldS h5 ((p7.add 1).add 1) fun x64=>
    ixS l1 i6 fun q67=>
    ldS h5 ((q67.add ((i6:Int).toNat*6)).add 2) fun x69=>
    ixS x69 k8 fun q71=>
    ldI .i64 h5 (q71.add ((k8:Int).toNat*1)) fun x72=>
    newS 3 #[Value.int .i64 (IntKind.i64.wrap ((IntKind.i64.wrap (((IntKind.u64.wrap x72):Int).tmod 3)) - 1))] 1 h5 fun s77 h6=>
    appS 3 (Value.int .i64 0).cells 1 8 h6 x64 s77 fun s78 h7=>
    sto h7 ((p7.add 1).add 1) (Value.slice s78.a s78.n s78.c) fun h8=>
    I_1 (IntKind.i64.wrap (k8+1)) h8∧m_1 (IntKind.i64.wrap (k8+1)) h8<m_1 k8 h5) (
    ∃(I_2:Int→Heap→Prop) (m_2:Int→Heap→Nat),I_2 0 h5∧∀k9 h9,I_2 k9 h9 →
    ldS h9 (p2.add 3) fun x83=>
    ifb (decide (k9<((x83.n:Nat):Int))) (
     ∃J:Heap→Prop,(
      ixS l1 i6 fun q90=>
      ldI .u64 h9 ((q90.add ((i6:Int).toNat*6)).add 5) fun x92=>
      (0≤((k9:Int).tmod 64)) ∧
      ifb ((bitsI .and .u64 ((x92:Int).fdiv (2 ^ (min (((k9:Int).tmod 64):Int).toNat IntKind.u64.bits))) 1) == 1) (
       ldS h9 (p7.add 5) fun x99=>
       newS 3 #[Value.int .i64 k9] 1 h9 fun s101 h10=>
       appS 3 (Value.int .i64 0).cells 1 8 h10 x99 s101 fun s102 h11=>
       sto h11 (p7.add 5) (Value.slice s102.a s102.n s102.c) fun h12=>
       J h12) (
       J h9))∧(∀h13,J h13 →
     I_2 (IntKind.i64.wrap (k9+1)) h13∧m_2 (IntKind.i64.wrap (k9+1)) h13<m_2 k9 h9)) (
     ∃(y105:Int) (y105_1:Int) (y105_2:Sv) (y105_3:Bool) (y105_4:Bool) (y105_5:Sv),cl h9 p7=some (Value.int .i64 y105)∧cl h9 (p7.add 1)=some (Value.int .i64 y105_1)∧cl h9 (p7.add 2)=some (Value.slice y105_2.a y105_2.n y105_2.c)∧cl h9 (p7.add 3)=some (Value.bool y105_3)∧cl h9 (p7.add 4)=some (Value.bool y105_4)∧cl h9 (p7.add 5)=some (Value.slice y105_5.a y105_5.n y105_5.c) ∧
     newS 51 #[Value.int .i64 y105,Value.int .i64 y105_1,Value.slice y105_2.a y105_2.n y105_2.c,Value.bool y105_3,Value.bool y105_4,Value.slice y105_5.a y105_5.n y105_5.c] 1 h9 fun s106 h14=>
     appS 51 (Value.agg #[Value.int .i64 0,Value.int .i64 0,Value.slice (⟨none,0,0⟩:Sv).a (⟨none,0,0⟩:Sv).n (⟨none,0,0⟩:Sv).c,Value.bool false,Value.bool false,Value.slice (⟨none,0,0⟩:Sv).a (⟨none,0,0⟩:Sv).n (⟨none,0,0⟩:Sv).c]).cells 6 72 h14 out5 s106 fun s107 h15=>
     I s107 (IntKind.i64.wrap (i6+1)) h15∧m s107 (IntKind.i64.wrap (i6+1)) h15<m out5 i6 h2)))) (
  R (Value.slice out5.a out5.n out5.c) h2)
set_option maxRecDepth 100000 in
theorem F10 {b0 b0_1 b0_2 b0_3 l1 h:_} {R:Value→Heap→Prop} (H:L10 b0 b0_1 b0_2 b0_3 l1 h R):CallsH Try.prog 10 #[Value.agg #[Value.string b0,Value.int .i64 b0_1,Value.slice b0_2.a b0_2.n b0_2.c,Value.slice b0_3.a b0_3.n b0_3.c],Value.slice l1.a l1.n l1.c] h R:=by
 refine CallsH.enter (n:=109) Try.func10 rfl rfl rfl rfl ?_
 intro w0 aa ww S
 unfold L10 at H
 refine W.seq ?_
 refine W.region ?_
 refine ol_box S H rfl rfl rfl trivial ?_
 clear S H;intro p2 aa ww h1 H S
 refine OL.za S fun _ S=>?_
 refine OL.nil ?_
 refine W.seq ?_
 refine W.region ?_
 refine OL.za S fun _ S=>?_
 refine OL.nil ?_
 refine W.seq ?_
 refine W.seq ?_
 refine W.region ?_
 refine OL.za S fun _ S=>?_
 refine OL.nil ?_
 refine W.block ?_
 obtain⟨I,m,H,HB_2⟩:=H
 refine W.loopS (σ:=Sv×Int×Heap) (fun s aa ww=>St 109 [(1,Value.slice l1.a l1.n l1.c),(2,Value.pointer (some p2)),(5,Value.slice s.1.a s.1.n s.1.c),(6,Value.int .i64 s.2.1)] s.2.2 w0 aa ww∧I s.1 s.2.1 s.2.2) (fun s=>m s.1 s.2.1 s.2.2) ((⟨none,0,0⟩:Sv),0,h1) ⟨S.sub _ ⟨rfl,rfl,rfl,rfl,trivial⟩,H⟩ ?_
 clear H S
 rintro ⟨out5,i6,h2⟩ aa ww ⟨S,HI⟩
 replace S:St 109 [(1,Value.slice l1.a l1.n l1.c),(2,Value.pointer (some p2)),(5,Value.slice out5.a out5.n out5.c),(6,Value.int .i64 i6)] h2 w0 aa ww:=S
 have H:=HB_2 out5 i6 h2 HI
 clear HI
 refine W.seq ?_
 refine W.seq ?_
 refine W.region ?_
 refine OL.zm S fun _ S=>?_
 refine OL.zm S fun _ S=>?_
 refine OL.zq S (Lf.run_lens (S.ev rfl) rfl Try.underlying25) fun _ S=>?_
 refine OL.zq S (Lf.run_lss (S.ev rfl) (S.ev rfl)) fun _ S=>?_
 refine OL.nil ?_
 refine W.cond S (b:=(decide (i6<((l1.n:Nat):Int)))) rfl (fun hb=>?_) (fun hb=>?_)
 ·
  replace H:=H.1 hb
  refine W.skip ?_
  refine W.seq ?_
  refine W.block ?_
  refine W.seq ?_
  replace S:=S.sub [(1,Value.slice l1.a l1.n l1.c),(2,Value.pointer (some p2)),(5,Value.slice out5.a out5.n out5.c),(6,Value.int .i64 i6)] ⟨rfl,rfl,rfl,rfl,trivial⟩
  obtain⟨Sq,HS,H⟩:=H
  refine W.regionN [4,7,16,21,26] [32,33] Sq S (by kernel_rfl) ?_
  clear S;intro ww S
  refine BN.pure 0 S (fun _=>HS) rfl (by kernel_rfl) (by kernel_rfl) (fun _=>Lf.run_move (S.ev rfl)) rfl rfl trivial fun _ S=>?_
  refine BN.pure 1 S (fun _=>HS) rfl (by kernel_rfl) (by kernel_rfl) (fun _=>Lf.run_move (S.ev rfl)) rfl rfl trivial fun _ S=>?_
  obtain⟨q18,e,e_1,e_2,H⟩:=H
  refine BN.pure 2 S (fun _=>HS) rfl (by kernel_rfl) (by kernel_rfl) (fun _=>Lf.run_ixs (S.ev rfl) (S.ev rfl) Try.underlying25 ti56 e e_1 e_2) rfl rfl trivial fun _ S=>?_
  refine BN.pure 3 S (fun _=>HS) rfl (by kernel_rfl) (by kernel_rfl) (fun _=>Lf.run_fa (S.ev rfl) fa56_0) rfl rfl trivial fun _ S=>?_
  refine BN.pure 6 S (fun _=>HS) rfl (by kernel_rfl) (by kernel_rfl) (fun _=>Lf.run_fa (S.ev rfl) fa30_3) rfl rfl trivial fun _ S=>?_
  refine BN.pure 12 S (fun _=>HS) rfl (by kernel_rfl) (by kernel_rfl) (fun _=>Lf.run_move (S.ev rfl)) rfl rfl trivial fun _ S=>?_
  refine BN.pure 13 S (fun _=>HS) rfl (by kernel_rfl) (by kernel_rfl) (fun _=>Lf.run_move (S.ev rfl)) rfl rfl trivial fun _ S=>?_
  obtain⟨q30,e_3,e_4,e_5,H⟩:=H
  refine BN.pure 14 S (fun _=>HS) rfl (by kernel_rfl) (by kernel_rfl) (fun _=>Lf.run_ixs (S.ev rfl) (S.ev rfl) Try.underlying25 ti56 e_3 e_4 e_5) rfl rfl trivial fun _ S=>?_
  refine BN.pure 15 S (fun _=>HS) rfl (by kernel_rfl) (by kernel_rfl) (fun _=>Lf.run_fa (S.ev rfl) fa56_3) rfl rfl trivial fun _ S=>?_
  refine BN.pure 17 S (fun _=>HS) rfl (by kernel_rfl) (by kernel_rfl) (fun _=>Lf.run_move (S.ev rfl)) rfl rfl trivial fun _ S=>?_
  refine BN.pure 18 S (fun _=>HS) rfl (by kernel_rfl) (by kernel_rfl) (fun _=>Lf.run_move (S.ev rfl)) rfl rfl trivial fun _ S=>?_
  obtain⟨q35,e_6,e_7,e_8,H⟩:=H
  refine BN.pure 19 S (fun _=>HS) rfl (by kernel_rfl) (by kernel_rfl) (fun _=>Lf.run_ixs (S.ev rfl) (S.ev rfl) Try.underlying25 ti56 e_6 e_7 e_8) rfl rfl trivial fun _ S=>?_
  refine BN.pure 20 S (fun _=>HS) rfl (by kernel_rfl) (by kernel_rfl) (fun _=>Lf.run_fa (S.ev rfl) fa56_4) rfl rfl trivial fun _ S=>?_
  refine BN.pure 22 S (fun _=>HS) rfl (by kernel_rfl) (by kernel_rfl) (fun _=>Lf.run_move (S.ev rfl)) rfl rfl trivial fun _ S=>?_
  refine BN.pure 23 S (fun _=>HS) rfl (by kernel_rfl) (by kernel_rfl) (fun _=>Lf.run_move (S.ev rfl)) rfl rfl trivial fun _ S=>?_
  obtain⟨q40,e_9,e_10,e_11,H⟩:=H
  refine BN.pure 24 S (fun _=>HS) rfl (by kernel_rfl) (by kernel_rfl) (fun _=>Lf.run_ixs (S.ev rfl) (S.ev rfl) Try.underlying25 ti56 e_9 e_10 e_11) rfl rfl trivial fun _ S=>?_
  refine BN.pure 25 S (fun _=>HS) rfl (by kernel_rfl) (by kernel_rfl) (fun _=>Lf.run_fa (S.ev rfl) fa56_1) rfl rfl trivial fun _ S=>?_
  obtain⟨x20,c,H⟩:=H
  refine BN.held 4 S HS rfl (by kernel_rfl) (fun _ hq=>Lf.run_ld (S.ev rfl) fl3 (c _ hq)) rfl rfl trivial fun _ S=>?_
  refine BN.pure 5 S (fun _=>HS) rfl (by kernel_rfl) (by kernel_rfl) (fun _=>Lf.run_cvi Try.underlying3 Try.underlying52 (S.ev rfl)) rfl rfl trivial fun _ S=>?_
  obtain⟨x23,c_1,H⟩:=H
  refine BN.held 7 S HS rfl (by kernel_rfl) (fun _ hq=>Lf.run_ld (S.ev rfl) fl28 (c_1 _ hq)) rfl rfl trivial fun _ S=>?_
  refine BN.pure 8 S (fun _=>HS) rfl (by kernel_rfl) (by kernel_rfl) (fun _=>Lf.run_lens (S.ev rfl) rfl Try.underlying28) rfl rfl trivial fun _ S=>?_
  refine BN.pure 9 S (fun _=>HS) rfl (by kernel_rfl) (by kernel_rfl) (fun _=>Lf.run_cvi Try.underlying3 Try.underlying52 (S.ev rfl)) rfl rfl trivial fun _ S=>?_
  obtain⟨c_23,H⟩:=H
  refine BN.pure 10 S (fun _=>HS) rfl (by kernel_rfl) (by kernel_rfl) (fun _=>Lf.run_rem (S.ev rfl) (S.ev rfl) c_23) rfl rfl trivial fun _ S=>?_
  refine BN.pure 11 S (fun _=>HS) rfl (by kernel_rfl) (by kernel_rfl) (fun _=>Lf.run_cvi Try.underlying52 Try.underlying3 (S.ev rfl)) rfl rfl trivial fun _ S=>?_
  obtain⟨x32,c_2,H⟩:=H
  refine BN.held 16 S HS rfl (by kernel_rfl) (fun _ hq=>Lf.run_ld (S.ev rfl) fl4 (c_2 _ hq)) rfl rfl trivial fun _ S=>?_
  obtain⟨x37,c_3,H⟩:=H
  refine BN.held 21 S HS rfl (by kernel_rfl) (fun _ hq=>Lf.run_ld (S.ev rfl) fl4 (c_3 _ hq)) rfl rfl trivial fun _ S=>?_
  obtain⟨x42,c_4,H⟩:=H
  refine BN.held 26 S HS rfl (by kernel_rfl) (fun _ hq=>Lf.run_ld (S.ev rfl) fl3 (c_4 _ hq)) rfl rfl trivial fun _ S=>?_
  refine BN.pure 27 S (fun _=>HS) rfl (by kernel_rfl) (by kernel_rfl) (fun _=>Lf.run_cvi Try.underlying3 Try.underlying52 (S.ev rfl)) rfl rfl trivial fun _ S=>?_
  refine BN.pure 28 S (fun _=>HS) rfl (by kernel_rfl) (by kernel_rfl) (fun _=>Lf.run_rem (S.ev rfl) (S.ev rfl) (by decide)) rfl rfl trivial fun _ S=>?_
  refine BN.pure 29 S (fun _=>HS) rfl (by kernel_rfl) (by kernel_rfl) (fun _=>Lf.run_cvi Try.underlying52 Try.underlying3 (S.ev rfl)) rfl rfl trivial fun _ S=>?_
  refine BN.pure 30 S (fun _=>HS) rfl (by kernel_rfl) (by kernel_rfl) (fun _=>Lf.run_build (cs:=#[Value.int .i64 (IntKind.i64.wrap (((IntKind.u64.wrap x42):Int).tmod 4)),Value.slice (⟨none,0,0⟩:Sv).a (⟨none,0,0⟩:Sv).n (⟨none,0,0⟩:Sv).c]) pl49 ti49 (parts_map S rfl) (by kernel_rfl)) rfl rfl trivial fun _ S=>?_
  refine BN.pure 31 S (fun _=>HS) rfl (by kernel_rfl) (by kernel_rfl) (fun _=>Lf.run_build (cs:=#[Value.int .i64 (IntKind.i64.wrap (((IntKind.u64.wrap x20):Int).tmod (IntKind.u64.wrap ((x23.n:Nat):Int)))),Value.int .i64 (IntKind.i64.wrap (((IntKind.u64.wrap x42):Int).tmod 4)),Value.slice (⟨none,0,0⟩:Sv).a (⟨none,0,0⟩:Sv).n (⟨none,0,0⟩:Sv).c,Value.bool x32,Value.bool x37,Value.slice (⟨none,0,0⟩:Sv).a (⟨none,0,0⟩:Sv).n (⟨none,0,0⟩:Sv).c]) pl51 ti51 (parts_map S rfl) (by kernel_rfl)) rfl rfl trivial fun _ S=>?_
  refine BN.eff 32 rfl (by kernel_rfl) ?_
  refine ol_alloc S H ti51 rfl rfl trivial ?_
  clear S H;intro p7 aa ww h3 H S
  refine OL.nil ?_
  clear HS;obtain⟨HS,H⟩:=H
  refine⟨fun _=>by rw[S.heap];exact HS,?_⟩
  refine BN.eff 33 rfl (by kernel_rfl) ?_
  refine ol_stoA S H rfl rfl ti51 trivial ?_
  clear S H;intro aa ww h4 H S
  refine OL.nil ?_
  refine⟨noNeed (by kernel_rfl),?_⟩
  refine BN.done (by kernel_rfl) ?_
  refine W.seq ?_
  refine W.seq ?_
  refine W.region ?_
  refine OL.za S fun _ S=>?_
  refine OL.nil ?_
  refine W.block ?_
  obtain⟨I_1,m_1,H,HB_1⟩:=H
  refine W.loopS (σ:=Int×Heap) (fun s aa ww=>St 109 [(1,Value.slice l1.a l1.n l1.c),(2,Value.pointer (some p2)),(5,Value.slice out5.a out5.n out5.c),(6,Value.int .i64 i6),(7,Value.pointer (some p7)),(8,Value.int .i64 s.1)] s.2 w0 aa ww∧I_1 s.1 s.2) (fun s=>m_1 s.1 s.2) (0,h4) ⟨S.sub _ ⟨rfl,rfl,rfl,rfl,rfl,rfl,trivial⟩,H⟩ ?_
  clear H S
  rintro ⟨k8,h5⟩ aa ww ⟨S,HI⟩
  replace S:St 109 [(1,Value.slice l1.a l1.n l1.c),(2,Value.pointer (some p2)),(5,Value.slice out5.a out5.n out5.c),(6,Value.int .i64 i6),(7,Value.pointer (some p7)),(8,Value.int .i64 k8)] h5 w0 aa ww:=S
  have H:=HB_1 k8 h5 HI
  clear HI
  refine W.seq ?_
  refine W.seq ?_
  refine W.region ?_
  refine OL.zm S fun _ S=>?_
  refine OL.zm S fun _ S=>?_
  refine OL.zm S fun _ S=>?_
  obtain⟨q51,e_12,e_13,e_14,H⟩:=H
  refine OL.zq S (Lf.run_ixs (S.ev rfl) (S.ev rfl) Try.underlying25 ti56 e_12 e_13 e_14) fun _ S=>?_
  refine OL.zf S fa56_2 fun _ S=>?_
  obtain⟨x53,c_5,H⟩:=H
  refine OL.zl S fl47 c_5 fun _ S=>?_
  refine OL.zq S (Lf.run_lens (S.ev rfl) rfl Try.underlying47) fun _ S=>?_
  refine OL.zq S (Lf.run_lss (S.ev rfl) (S.ev rfl)) fun _ S=>?_
  refine OL.zm S fun _ S=>?_
  refine OL.cutN 3 (fun aa ww=>St 109 ((59,Value.bool ((decide (k8<((x53.n:Nat):Int))) && (decide (k8<3)))) :: [(1,Value.slice l1.a l1.n l1.c),(2,Value.pointer (some p2)),(5,Value.slice out5.a out5.n out5.c),(6,Value.int .i64 i6),(7,Value.pointer (some p7)),(8,Value.int .i64 k8),(48,Value.int .i64 k8),(49,Value.slice l1.a l1.n l1.c),(50,Value.int .i64 i6),(51,Value.pointer (some (q51.add ((i6:Int).toNat*6)))),(52,Value.pointer (some ((q51.add ((i6:Int).toNat*6)).add 2))),(53,Value.slice x53.a x53.n x53.c),(54,Value.int .i64 ((x53.n:Nat):Int)),(55,Value.bool (decide (k8<((x53.n:Nat):Int)))),(56,Value.bool (decide (k8<((x53.n:Nat):Int))))]) h5 w0 aa ww) ?_ ?_
  ·
   rcases Bool.eq_false_or_eq_true (decide (k8<((x53.n:Nat):Int))) with hb_1|hb_1
   ·
    refine OL.zm (hg:=GOk.mk rfl rfl hb_1) S fun _ S=>?_
    refine OL.zq (hg:=GOk.mk rfl rfl hb_1) S (Lf.run_lss (S.ev rfl) (S.ev rfl)) fun _ S=>?_
    refine OL.zq S (Lf.run_pickT (S.ev rfl) hb_1 (S.ev rfl)) fun _ S=>?_
    refine OL.nil ?_
    exact (S.hd (by rw[hb_1,Bool.true_and])).sub _ ⟨rfl,rfl,rfl,rfl,rfl,rfl,rfl,rfl,rfl,rfl,rfl,rfl,rfl,rfl,rfl,rfl,trivial⟩
   ·
    refine OL.zn S (GNo.mk rfl rfl hb_1) fun _ S=>?_
    refine OL.zn S (GNo.mk rfl rfl hb_1) fun _ S=>?_
    refine OL.zq S (Lf.run_pickF (S.ev rfl) hb_1 (S.ev rfl)) fun _ S=>?_
    refine OL.nil ?_
    exact (S.hd (by rw[hb_1,Bool.false_and])).sub _ ⟨rfl,rfl,rfl,rfl,rfl,rfl,rfl,rfl,rfl,rfl,rfl,rfl,rfl,rfl,rfl,rfl,trivial⟩
  ·
   clear S
   intro aa ww S
   refine OL.nil ?_
   refine W.cond S (b:=((decide (k8<((x53.n:Nat):Int))) && (decide (k8<3)))) rfl (fun hb_2=>?_) (fun hb_2=>?_)
   ·
    replace H:=H.1 hb_2
    refine W.skip ?_
    refine W.seq ?_
    refine W.block ?_
    replace S:=S.sub [(1,Value.slice l1.a l1.n l1.c),(2,Value.pointer (some p2)),(5,Value.slice out5.a out5.n out5.c),(6,Value.int .i64 i6),(7,Value.pointer (some p7)),(8,Value.int .i64 k8)] ⟨rfl,rfl,rfl,rfl,rfl,rfl,trivial⟩
    refine W.regionD S (by kernel_rfl) ?_
    clear S;intro ww S
    refine AN.zq 0 S rfl (fun _=>Lf.run_fa (S.ev rfl) fa51_1) fun _ S=>?_
    refine AN.zq 1 S rfl (fun _=>Lf.run_fa (S.ev rfl) fa49_1) fun _ S=>?_
    obtain⟨x64,c_6,H⟩:=H
    refine AN.zl 2 S rfl (fun _ hx=>Lf.run_ld (S.ev rfl) fl47 (hx.cell _ _ (S.cl c_6))) fun _ S=>?_
    refine AN.zq 3 S rfl (fun _=>Lf.run_move (S.ev rfl)) fun _ S=>?_
    refine AN.zq 4 S rfl (fun _=>Lf.run_move (S.ev rfl)) fun _ S=>?_
    obtain⟨q67,e_15,e_16,e_17,H⟩:=H
    refine AN.zq 5 S rfl (fun _=>Lf.run_ixs (S.ev rfl) (S.ev rfl) Try.underlying25 ti56 e_15 e_16 e_17) fun _ S=>?_
    refine AN.zq 6 S rfl (fun _=>Lf.run_fa (S.ev rfl) fa56_2) fun _ S=>?_
    obtain⟨x69,c_7,H⟩:=H
    refine AN.zl 7 S rfl (fun _ hx=>Lf.run_ld (S.ev rfl) fl47 (hx.cell _ _ (S.cl c_7))) fun _ S=>?_
    refine AN.zq 8 S rfl (fun _=>Lf.run_move (S.ev rfl)) fun _ S=>?_
    obtain⟨q71,e_18,e_19,e_20,H⟩:=H
    refine AN.zq 9 S rfl (fun _=>Lf.run_ixs (S.ev rfl) (S.ev rfl) Try.underlying47 ti3 e_18 e_19 e_20) fun _ S=>?_
    obtain⟨x72,c_8,H⟩:=H
    refine AN.zl 10 S rfl (fun _ hx=>Lf.run_ld (S.ev rfl) fl3 (hx.cell _ _ (S.cl c_8))) fun _ S=>?_
    refine AN.zq 11 S rfl (fun _=>Lf.run_cvi Try.underlying3 Try.underlying52 (S.ev rfl)) fun _ S=>?_
    refine AN.zq 12 S rfl (fun _=>Lf.run_rem (S.ev rfl) (S.ev rfl) (by decide)) fun _ S=>?_
    refine AN.zq 13 S rfl (fun _=>Lf.run_cvi Try.underlying52 Try.underlying3 (S.ev rfl)) fun _ S=>?_
    refine AN.zq 14 S rfl (fun _=>Lf.run_sub (S.ev rfl) (S.ev rfl)) fun _ S=>?_
    refine AN.eff 15 rfl (by kernel_rfl) ?_
    refine ol_newS S H Try.underlying47 ti3 (by decide) (parts_map S rfl) (by kernel_rfl) (by decide) rfl trivial ?_
    clear S H;intro s77 aa ww h6 H S
    refine OL.nil ?_
    refine AN.eff 16 rfl (by kernel_rfl) ?_
    refine ol_appS S H Try.underlying47 ti3 rfl rfl rfl trivial ?_
    clear S H;intro s78 aa ww h7 H S
    refine OL.nil ?_
    refine AN.zq 17 S rfl (fun _=>Lf.run_fa (S.ev rfl) fa51_1) fun _ S=>?_
    refine AN.zq 18 S rfl (fun _=>Lf.run_fa (S.ev rfl) fa49_1) fun _ S=>?_
    refine AN.eff 19 rfl (by kernel_rfl) ?_
    refine ol_sto S H rfl rfl rfl ti47 trivial ?_
    clear S H;intro aa ww h8 H S
    refine OL.nil ?_
    refine AN.done (by kernel_rfl) ?_
    refine W.region ?_
    refine OL.zm S fun _ S=>?_
    refine OL.zq S (Lf.run_add (S.ev rfl) (S.ev rfl)) fun _ S=>?_
    refine OL.za S fun _ S=>?_
    refine OL.nil ?_
    exact⟨((IntKind.i64.wrap (k8+1)),h8),⟨S.sub _ ⟨rfl,rfl,rfl,rfl,rfl,rfl,trivial⟩,H.1⟩,H.2⟩
   ·
    replace H:=H.2 hb_2
    refine W.exit_ ?_
    refine xhit ?_
    refine W.seq ?_
    refine W.seq ?_
    refine W.region ?_
    refine OL.za S fun _ S=>?_
    refine OL.nil ?_
    refine W.block ?_
    obtain⟨I_2,m_2,H,HB⟩:=H
    refine W.loopS (σ:=Int×Heap) (fun s aa ww=>St 109 [(1,Value.slice l1.a l1.n l1.c),(2,Value.pointer (some p2)),(5,Value.slice out5.a out5.n out5.c),(6,Value.int .i64 i6),(7,Value.pointer (some p7)),(9,Value.int .i64 s.1)] s.2 w0 aa ww∧I_2 s.1 s.2) (fun s=>m_2 s.1 s.2) (0,h5) ⟨S.sub _ ⟨rfl,rfl,rfl,rfl,rfl,rfl,trivial⟩,H⟩ ?_
    clear H S
    rintro ⟨k9,h9⟩ aa ww ⟨S,HI⟩
    replace S:St 109 [(1,Value.slice l1.a l1.n l1.c),(2,Value.pointer (some p2)),(5,Value.slice out5.a out5.n out5.c),(6,Value.int .i64 i6),(7,Value.pointer (some p7)),(9,Value.int .i64 k9)] h9 w0 aa ww:=S
    have H:=HB k9 h9 HI
    clear HI
    refine W.seq ?_
    refine W.seq ?_
    refine W.region ?_
    refine OL.zm S fun _ S=>?_
    refine OL.zf S fa30_3 fun _ S=>?_
    obtain⟨x83,c_10,H⟩:=H
    refine OL.zl S fl28 c_10 fun _ S=>?_
    refine OL.zq S (Lf.run_lens (S.ev rfl) rfl Try.underlying28) fun _ S=>?_
    refine OL.zq S (Lf.run_lss (S.ev rfl) (S.ev rfl)) fun _ S=>?_
    refine OL.nil ?_
    refine W.cond S (b:=(decide (k9<((x83.n:Nat):Int)))) rfl (fun hb_3=>?_) (fun hb_3=>?_)
    ·
     replace H:=H.1 hb_3
     refine W.skip ?_
     obtain⟨J,H,HK⟩:=H
     refine W.seqJ (fun aa ww=>∃h13,St 109 [(1,Value.slice l1.a l1.n l1.c),(2,Value.pointer (some p2)),(5,Value.slice out5.a out5.n out5.c),(6,Value.int .i64 i6),(7,Value.pointer (some p7)),(9,Value.int .i64 k9)] h13 w0 aa ww∧J h13) ?_ ?_
     ·
      clear HK
      refine W.block ?_
      refine W.seq ?_
      refine W.region ?_
      refine OL.zm S fun _ S=>?_
      refine OL.zm S fun _ S=>?_
      obtain⟨q90,e_21,e_22,e_23,H⟩:=H
      refine OL.zq S (Lf.run_ixs (S.ev rfl) (S.ev rfl) Try.underlying25 ti56 e_21 e_22 e_23) fun _ S=>?_
      refine OL.zf S fa56_5 fun _ S=>?_
      obtain⟨x92,c_11,H⟩:=H
      refine OL.zl S fl52 c_11 fun _ S=>?_
      refine OL.zm S fun _ S=>?_
      refine OL.zq S (Lf.run_rem (S.ev rfl) (S.ev rfl) (by decide)) fun _ S=>?_
      obtain⟨c_13,H⟩:=H
      refine OL.zq S (Lf.run_shr (S.ev rfl) (S.ev rfl) c_13) fun _ S=>?_
      refine OL.zq S (Lf.run_bits (op:=.and) (by simp) (S.ev rfl) (S.ev rfl)) fun _ S=>?_
      refine OL.zq S (Lf.run_eql (S.ev rfl) (S.ev rfl)) fun _ S=>?_
      refine OL.nil ?_
      refine W.cond S (b:=((bitsI .and .u64 ((x92:Int).fdiv (2 ^ (min (((k9:Int).tmod 64):Int).toNat IntKind.u64.bits))) 1) == 1)) rfl (fun hb_4=>?_) (fun hb_4=>?_)
      ·
       replace H:=H.1 hb_4
       refine W.region ?_
       refine OL.zf S fa51_4 fun _ S=>?_
       obtain⟨x99,c_12,H⟩:=H
       refine OL.zl S fl47 c_12 fun _ S=>?_
       refine OL.zm S fun _ S=>?_
       refine ol_newS S H Try.underlying47 ti3 (by decide) (parts_map S rfl) (by kernel_rfl) (by decide) rfl trivial ?_
       clear S H;intro s101 aa ww h10 H S
       refine ol_appS S H Try.underlying47 ti3 rfl rfl rfl trivial ?_
       clear S H;intro s102 aa ww h11 H S
       refine OL.zf S fa51_4 fun _ S=>?_
       refine ol_sto S H rfl rfl rfl ti47 trivial ?_
       clear S H;intro aa ww h12 H S
       refine OL.nil ?_
       exact⟨h12,S.sub _ ⟨rfl,rfl,rfl,rfl,rfl,rfl,trivial⟩,H⟩
      ·
       replace H:=H.2 hb_4
       refine W.skip ?_
       exact⟨h9,S.sub _ ⟨rfl,rfl,rfl,rfl,rfl,rfl,trivial⟩,H⟩
     ·
      clear H S
      rintro aa ww ⟨h13,S,HJ⟩
      have H:=HK _ HJ
      clear HK HJ
      refine W.region ?_
      refine OL.zm S fun _ S=>?_
      refine OL.zq S (Lf.run_add (S.ev rfl) (S.ev rfl)) fun _ S=>?_
      refine OL.za S fun _ S=>?_
      refine OL.nil ?_
      exact⟨((IntKind.i64.wrap (k9+1)),h13),⟨S.sub _ ⟨rfl,rfl,rfl,rfl,rfl,rfl,trivial⟩,H.1⟩,H.2⟩
    ·
     replace H:=H.2 hb_3
     refine W.exit_ ?_
     refine xhit ?_
     refine W.region ?_
     refine OL.zm S fun _ S=>?_
     obtain⟨y105,y105_1,y105_2,y105_3,y105_4,y105_5,c_16,c_17,c_18,c_19,c_20,c_21,H⟩:=H
     refine OL.zq S (Lf.run_ldA (cs:=[Value.int .i64 y105,Value.int .i64 y105_1,Value.slice y105_2.a y105_2.n y105_2.c,Value.bool y105_3,Value.bool y105_4,Value.slice y105_5.a y105_5.n y105_5.c]) (S.ev rfl) ag51 ti51 (by rw[S.heap];exact RowL.toRow ⟨c_16,c_17,c_18,c_19,c_20,c_21,trivial⟩)) fun _ S=>?_
     refine ol_newS S H Try.underlying32 ti51 (by decide) (parts_map S rfl) (by kernel_rfl) (by decide) rfl trivial ?_
     clear S H;intro s106 aa ww h14 H S
     refine ol_appS S H Try.underlying32 ti51 rfl rfl rfl trivial ?_
     clear S H;intro s107 aa ww h15 H S
     refine OL.za S fun _ S=>?_
     refine OL.nil ?_
     refine W.region ?_
     refine OL.zm S fun _ S=>?_
     refine OL.zq S (Lf.run_add (S.ev rfl) (S.ev rfl)) fun _ S=>?_
     refine OL.za S fun _ S=>?_
     refine OL.nil ?_
     exact⟨(s107,(IntKind.i64.wrap (i6+1)),h15),⟨S.sub _ ⟨rfl,rfl,rfl,rfl,trivial⟩,H.1⟩,H.2⟩
 ·
  replace H:=H.2 hb
  refine W.exit_ ?_
  refine xhit ?_
  refine W.seq ?_
  refine W.region ?_
  refine OL.zm S fun _ S=>?_
  refine OL.za S fun _ S=>?_
  refine OL.nil ?_
  refine W.ret ?_
  exact Ret.one S rfl rfl H
def L11 (b0:Option Addr) (l1:Sv) (h:Heap) (R:Value→Heap→Prop):Prop:=
 new 32 #[Value.slice l1.a l1.n l1.c] h fun p3 h1=>
 ldS h1 p3 fun x17=>
 cal Try.prog 14 #[Value.pointer b0,Value.slice x17.a x17.n x17.c] h1 fun u h2=>∃(x18:Sv) (x18_1:Int),u=Value.tuple #[Value.slice x18.a x18.n x18.c,Value.int .i64 x18_1] ∧
 ifb (x18_1 != 0) (
  R (.tuple #[Value.slice (⟨none,0,0⟩:Sv).a (⟨none,0,0⟩:Sv).n (⟨none,0,0⟩:Sv).c,Value.int .i64 x18_1]) h2) (
  cal Try.prog 20 #[Value.pointer b0] h2 fun u_1 h3=>asS u_1 fun x25=>
  ∃(I:Sv→Int→Heap→Prop) (m:Sv→Int→Heap→Nat),I (⟨none,0,0⟩:Sv) 0 h3∧∀out8 x27 h4,I out8 x27 h4 →
  ifb (decide (x27<((x25.n:Nat):Int))) (
   ∃J:Sv→Heap→Prop,(
    ixS x25 x27 fun q30=>
    ldB h4 (q30.add ((x27:Int).toNat*1)) fun x31=>
    ifb (!x31) (
     J out8 h4) (
     ixS x18 x27 fun q36=>
     ldS h4 (q36.add ((x27:Int).toNat*1)) fun x37=>
     ∃(I_1:Sv→Int→Heap→Prop) (m_1:Sv→Int→Heap→Nat),I_1 out8 0 h4∧∀out8_1 x39 h5,I_1 out8_1 x39 h5 →
     ifb (decide (x39<((x37.n:Nat):Int))) (
      ∃J_1:Sv→Heap→Prop,(
       ixS x37 x39 fun q41=>
       ldI .i64 h5 (q41.add ((x39:Int).toNat*1)) fun x42=>
       new 3 #[Value.int .i64 0] h5 fun p12 h6=>
       sto h6 p12 (Value.int .i64 x42) fun h7=>
       cal Try.prog 22 #[Value.pointer b0,Value.int .i64 x27] h7 fun u_2 h8=>asS u_2 fun x45=>
       cal Try.prog 21 #[Value.slice x45.a x45.n x45.c,(Value.func (.func 23) #[] #[Value.pointer (some p3),Value.pointer (some p12)])] h8 fun u_3 h9=>asI .i64 u_3 fun x47=>
       ifb (decide (0≤x47)) (
        cal Try.prog 22 #[Value.pointer b0,Value.int .i64 x27] h9 fun u_4 h10=>asS u_4 fun x52=>
        ixS x52 x47 fun q54=>
        ldI .i64 h10 ((q54.add ((x47:Int).toNat*3)).add 2) fun x56=>
        ldI .i64 h10 p12 fun x59=>
        newS 58 #[Value.int .i64 x27,Value.int .i64 x59,Value.bool ((x56 == 5) || (x56 == 6))] 1 h10 fun s67 h11=>
        appS 58 (Value.agg #[Value.int .i64 0,Value.int .i64 0,Value.bool false]).cells 3 24 h11 out8_1 s67 fun s68 h12=>
        J_1 s68 h12) (
        J_1 out8_1 h9))∧(∀out8_2 h13,J_1 out8_2 h13 →
      I_1 out8_2 (IntKind.i64.wrap (x39+1)) h13∧m_1 out8_2 (IntKind.i64.wrap (x39+1)) h13<m_1 out8_1 x39 h5)) (
      J out8_1 h5)))∧(∀out8_3 h14,J out8_3 h14 →
   I out8_3 (IntKind.i64.wrap (x27+1)) h14∧m out8_3 (IntKind.i64.wrap (x27+1)) h14<m out8 x27 h4)) (
   R (.tuple #[Value.slice out8.a out8.n out8.c,Value.int .i64 0]) h4))
set_option maxRecDepth 100000 in
theorem F11 {b0 l1 h:_} {R:Value→Heap→Prop} (H:L11 b0 l1 h R):CallsH Try.prog 11 #[Value.pointer b0,Value.slice l1.a l1.n l1.c] h R:=by
 refine CallsH.enter (n:=72) Try.func11 rfl rfl rfl rfl ?_
 intro w0 aa ww S
 unfold L11 at H
 refine W.seq ?_
 refine W.region ?_
 refine ol_box S H rfl rfl rfl trivial ?_
 clear S H;intro p3 aa ww h1 H S
 refine OL.za S fun _ S=>?_
 refine OL.za S fun _ S=>?_
 refine OL.nil ?_
 refine W.seq ?_
 refine W.region ?_
 refine OL.zm S fun _ S=>?_
 obtain⟨x17,c,H⟩:=H
 refine OL.zl S fl32 c fun _ S=>?_
 refine ol_cal S H isfn14 rfl rfl trivial ?_
 clear S H;intro u aa ww h2 H S
 obtain⟨x18,x18_1,rfl,H⟩:=H
 refine OL.zm S fun _ S=>?_
 refine OL.zq S (Lf.run_ex (S.ev rfl) rfl) fun _ S=>?_
 refine OL.zq S (Lf.run_ex (S.ev rfl) rfl) fun _ S=>?_
 refine OL.za S fun _ S=>?_
 refine OL.za S fun _ S=>?_
 refine OL.nil ?_
 refine W.seq ?_
 refine W.seq ?_
 refine W.region ?_
 refine OL.zm S fun _ S=>?_
 refine OL.zq S (Lf.run_neq (S.ev rfl) (S.ev rfl)) fun _ S=>?_
 refine OL.nil ?_
 refine W.cond S (b:=(x18_1 != 0)) rfl (fun hb=>?_) (fun hb=>?_)
 ·
  replace H:=H.1 hb
  refine W.seq ?_
  refine W.region ?_
  refine OL.zm S fun _ S=>?_
  refine OL.za S fun _ S=>?_
  refine OL.za S fun _ S=>?_
  refine OL.nil ?_
  refine W.ret ?_
  exact Ret.two S rfl rfl rfl H
 ·
  replace H:=H.2 hb
  refine W.skip ?_
  refine W.seq ?_
  refine W.region ?_
  refine OL.za S fun _ S=>?_
  refine OL.nil ?_
  refine W.seq ?_
  refine W.seq ?_
  refine W.region ?_
  refine OL.zm S fun _ S=>?_
  refine ol_cal S H isfn20 rfl rfl trivial ?_
  clear S H;intro u_1 aa ww h3 H S
  obtain⟨x25,rfl,H⟩:=H
  refine OL.zq S (Lf.run_lens (S.ev rfl) rfl Try.underlying45) fun _ S=>?_
  refine OL.zm S fun _ S=>?_
  refine OL.nil ?_
  refine W.block ?_
  obtain⟨I,m,H,HB_1⟩:=H
  refine W.loopS (σ:=Sv×Int×Heap) (fun s aa ww=>St 72 [(0,Value.pointer b0),(3,Value.pointer (some p3)),(6,Value.slice x18.a x18.n x18.c),(8,Value.slice s.1.a s.1.n s.1.c),(25,Value.slice x25.a x25.n x25.c),(26,Value.int .i64 ((x25.n:Nat):Int)),(27,Value.int .i64 s.2.1)] s.2.2 w0 aa ww∧I s.1 s.2.1 s.2.2) (fun s=>m s.1 s.2.1 s.2.2) ((⟨none,0,0⟩:Sv),0,h3) ⟨S.sub _ ⟨rfl,rfl,rfl,rfl,rfl,rfl,rfl,trivial⟩,H⟩ ?_
  clear H S
  rintro ⟨out8,x27,h4⟩ aa ww ⟨S,HI⟩
  replace S:St 72 [(0,Value.pointer b0),(3,Value.pointer (some p3)),(6,Value.slice x18.a x18.n x18.c),(8,Value.slice out8.a out8.n out8.c),(25,Value.slice x25.a x25.n x25.c),(26,Value.int .i64 ((x25.n:Nat):Int)),(27,Value.int .i64 x27)] h4 w0 aa ww:=S
  have H:=HB_1 out8 x27 h4 HI
  clear HI
  refine W.seq ?_
  refine W.region ?_
  refine OL.zq S (Lf.run_lss (S.ev rfl) (S.ev rfl)) fun _ S=>?_
  refine OL.nil ?_
  refine W.seq ?_
  refine W.cond S (b:=(decide (x27<((x25.n:Nat):Int)))) rfl (fun hb_1=>?_) (fun hb_1=>?_)
  ·
   replace H:=H.1 hb_1
   refine W.skip ?_
   obtain⟨J,H,HK⟩:=H
   refine W.seqJ (fun aa ww=>∃out8_3 h14,St 72 [(0,Value.pointer b0),(3,Value.pointer (some p3)),(6,Value.slice x18.a x18.n x18.c),(8,Value.slice out8_3.a out8_3.n out8_3.c),(25,Value.slice x25.a x25.n x25.c),(26,Value.int .i64 ((x25.n:Nat):Int)),(27,Value.int .i64 x27)] h14 w0 aa ww∧J out8_3 h14) ?_ ?_
   ·
    clear HK
    refine W.block ?_
    refine W.seq ?_
    refine W.region ?_
    refine OL.zm S fun _ S=>?_
    obtain⟨q30,e,e_1,e_2,H⟩:=H
    refine OL.zq S (Lf.run_ixs (S.ev rfl) (S.ev rfl) Try.underlying45 ti4 e e_1 e_2) fun _ S=>?_
    obtain⟨x31,c_1,H⟩:=H
    refine OL.zl S fl4 c_1 fun _ S=>?_
    refine OL.za S fun _ S=>?_
    refine OL.za S fun _ S=>?_
    refine OL.nil ?_
    refine W.seq ?_
    refine W.seq ?_
    refine W.region ?_
    refine OL.zm S fun _ S=>?_
    refine OL.zq S (Lf.run_not (S.ev rfl)) fun _ S=>?_
    refine OL.nil ?_
    refine W.cond S (b:=(!x31)) rfl (fun hb_2=>?_) (fun hb_2=>?_)
    ·
     replace H:=H.1 hb_2
     refine W.exit_ ?_
     refine xhit ?_
     exact⟨out8,h4,S.sub _ ⟨rfl,rfl,rfl,rfl,rfl,rfl,rfl,trivial⟩,H⟩
    ·
     replace H:=H.2 hb_2
     refine W.skip ?_
     refine W.seq ?_
     refine W.region ?_
     refine OL.zm S fun _ S=>?_
     refine OL.zm S fun _ S=>?_
     obtain⟨q36,e_3,e_4,e_5,H⟩:=H
     refine OL.zq S (Lf.run_ixs (S.ev rfl) (S.ev rfl) Try.underlying42 ti47 e_3 e_4 e_5) fun _ S=>?_
     obtain⟨x37,c_2,H⟩:=H
     refine OL.zl S fl47 c_2 fun _ S=>?_
     refine OL.zq S (Lf.run_lens (S.ev rfl) rfl Try.underlying47) fun _ S=>?_
     refine OL.zm S fun _ S=>?_
     refine OL.nil ?_
     refine W.block ?_
     obtain⟨I_1,m_1,H,HB⟩:=H
     refine W.loopS (σ:=Sv×Int×Heap) (fun s aa ww=>St 72 [(0,Value.pointer b0),(3,Value.pointer (some p3)),(6,Value.slice x18.a x18.n x18.c),(8,Value.slice s.1.a s.1.n s.1.c),(9,Value.int .i64 x27),(25,Value.slice x25.a x25.n x25.c),(26,Value.int .i64 ((x25.n:Nat):Int)),(27,Value.int .i64 x27),(37,Value.slice x37.a x37.n x37.c),(38,Value.int .i64 ((x37.n:Nat):Int)),(39,Value.int .i64 s.2.1)] s.2.2 w0 aa ww∧I_1 s.1 s.2.1 s.2.2) (fun s=>m_1 s.1 s.2.1 s.2.2) (out8,0,h4) ⟨S.sub _ ⟨rfl,rfl,rfl,rfl,rfl,rfl,rfl,rfl,rfl,rfl,rfl,trivial⟩,H⟩ ?_
     clear H S
     rintro ⟨out8_1,x39,h5⟩ aa ww ⟨S,HI⟩
     replace S:St 72 [(0,Value.pointer b0),(3,Value.pointer (some p3)),(6,Value.slice x18.a x18.n x18.c),(8,Value.slice out8_1.a out8_1.n out8_1.c),(9,Value.int .i64 x27),(25,Value.slice x25.a x25.n x25.c),(26,Value.int .i64 ((x25.n:Nat):Int)),(27,Value.int .i64 x27),(37,Value.slice x37.a x37.n x37.c),(38,Value.int .i64 ((x37.n:Nat):Int)),(39,Value.int .i64 x39)] h5 w0 aa ww:=S
     have H:=HB out8_1 x39 h5 HI
     clear HI
     refine W.seq ?_
     refine W.region ?_
     refine OL.zq S (Lf.run_lss (S.ev rfl) (S.ev rfl)) fun _ S=>?_
     refine OL.nil ?_
     refine W.seq ?_
     refine W.cond S (b:=(decide (x39<((x37.n:Nat):Int)))) rfl (fun hb_3=>?_) (fun hb_3=>?_)
     ·
      replace H:=H.1 hb_3
      refine W.skip ?_
      obtain⟨J_1,H,HK_1⟩:=H
      refine W.seqJ (fun aa ww=>∃out8_2 h13,St 72 [(0,Value.pointer b0),(3,Value.pointer (some p3)),(6,Value.slice x18.a x18.n x18.c),(8,Value.slice out8_2.a out8_2.n out8_2.c),(9,Value.int .i64 x27),(25,Value.slice x25.a x25.n x25.c),(26,Value.int .i64 ((x25.n:Nat):Int)),(27,Value.int .i64 x27),(37,Value.slice x37.a x37.n x37.c),(38,Value.int .i64 ((x37.n:Nat):Int)),(39,Value.int .i64 x39)] h13 w0 aa ww∧J_1 out8_2 h13) ?_ ?_
      ·
       clear HK_1
       refine W.block ?_
       refine W.seq ?_
       refine W.region ?_
       obtain⟨q41,e_6,e_7,e_8,H⟩:=H
       refine OL.zq S (Lf.run_ixs (S.ev rfl) (S.ev rfl) Try.underlying47 ti3 e_6 e_7 e_8) fun _ S=>?_
       obtain⟨x42,c_3,H⟩:=H
       refine OL.zl S fl3 c_3 fun _ S=>?_
       refine ol_alloc S H ti3 rfl rfl trivial ?_
       clear S H;intro p12 aa ww h6 H S
       refine ol_sto S H rfl rfl rfl ti3 trivial ?_
       clear S H;intro aa ww h7 H S
       refine OL.nil ?_
       refine W.seq ?_
       refine W.region ?_
       refine OL.zm S fun _ S=>?_
       refine OL.zm S fun _ S=>?_
       refine ol_cal S H isfn22 rfl rfl trivial ?_
       clear S H;intro u_2 aa ww h8 H S
       obtain⟨x45,rfl,H⟩:=H
       refine OL.zq S (Lf.run_mf (evs_map S rfl)) fun _ S=>?_
       refine ol_cal S H isfn21 rfl rfl trivial ?_
       clear S H;intro u_3 aa ww h9 H S
       obtain⟨x47,rfl,H⟩:=H
       refine OL.za S fun _ S=>?_
       refine OL.nil ?_
       refine W.seq ?_
       refine W.region ?_
       refine OL.zm S fun _ S=>?_
       refine OL.zq S (Lf.run_geq (S.ev rfl) (S.ev rfl)) fun _ S=>?_
       refine OL.nil ?_
       refine W.cond S (b:=(decide (0≤x47))) rfl (fun hb_4=>?_) (fun hb_4=>?_)
       ·
        replace H:=H.1 hb_4
        refine W.seq ?_
        refine W.region ?_
        refine OL.zm S fun _ S=>?_
        refine OL.zm S fun _ S=>?_
        refine ol_cal S H isfn22 rfl rfl trivial ?_
        clear S H;intro u_4 aa ww h10 H S
        obtain⟨x52,rfl,H⟩:=H
        refine OL.zm S fun _ S=>?_
        obtain⟨q54,e_9,e_10,e_11,H⟩:=H
        refine OL.zq S (Lf.run_ixs (S.ev rfl) (S.ev rfl) Try.underlying60 ti63 e_9 e_10 e_11) fun _ S=>?_
        refine OL.zf S fa63_1 fun _ S=>?_
        obtain⟨x56,c_4,H⟩:=H
        refine OL.zl S fl3 c_4 fun _ S=>?_
        refine OL.za S fun _ S=>?_
        refine OL.nil ?_
        refine W.region ?_
        refine OL.zm S fun _ S=>?_
        refine OL.zm S fun _ S=>?_
        obtain⟨x59,c_5,H⟩:=H
        refine OL.zl S fl3 c_5 fun _ S=>?_
        refine OL.zm S fun _ S=>?_
        refine OL.zq S (Lf.run_eql (S.ev rfl) (S.ev rfl)) fun _ S=>?_
        refine OL.zm S fun _ S=>?_
        refine OL.cutN 3 (fun aa ww=>St 72 ((65,Value.bool ((x56 == 5) || (x56 == 6))) :: [(0,Value.pointer b0),(3,Value.pointer (some p3)),(6,Value.slice x18.a x18.n x18.c),(8,Value.slice out8_1.a out8_1.n out8_1.c),(9,Value.int .i64 x27),(12,Value.pointer (some p12)),(14,Value.int .i64 x56),(25,Value.slice x25.a x25.n x25.c),(26,Value.int .i64 ((x25.n:Nat):Int)),(27,Value.int .i64 x27),(37,Value.slice x37.a x37.n x37.c),(38,Value.int .i64 ((x37.n:Nat):Int)),(39,Value.int .i64 x39),(57,Value.slice out8_1.a out8_1.n out8_1.c),(58,Value.int .i64 x27),(59,Value.int .i64 x59),(60,Value.int .i64 x56),(61,Value.bool (x56 == 5)),(62,Value.bool (x56 == 5))]) h10 w0 aa ww) ?_ ?_
        ·
         rcases Bool.eq_false_or_eq_true (x56 == 5) with hb_5|hb_5
         ·
          refine OL.zn S (GNo.mk rfl rfl hb_5) fun _ S=>?_
          refine OL.zn S (GNo.mk rfl rfl hb_5) fun _ S=>?_
          refine OL.zq S (Lf.run_pickT (S.ev rfl) hb_5 (S.ev rfl)) fun _ S=>?_
          refine OL.nil ?_
          exact (S.hd (by rw[hb_5,Bool.true_or])).sub _ ⟨rfl,rfl,rfl,rfl,rfl,rfl,rfl,rfl,rfl,rfl,rfl,rfl,rfl,rfl,rfl,rfl,rfl,rfl,rfl,rfl,trivial⟩
         ·
          refine OL.zm (hg:=GOk.mk rfl rfl hb_5) S fun _ S=>?_
          refine OL.zq (hg:=GOk.mk rfl rfl hb_5) S (Lf.run_eql (S.ev rfl) (S.ev rfl)) fun _ S=>?_
          refine OL.zq S (Lf.run_pickF (S.ev rfl) hb_5 (S.ev rfl)) fun _ S=>?_
          refine OL.nil ?_
          exact (S.hd (by rw[hb_5,Bool.false_or])).sub _ ⟨rfl,rfl,rfl,rfl,rfl,rfl,rfl,rfl,rfl,rfl,rfl,rfl,rfl,rfl,rfl,rfl,rfl,rfl,rfl,rfl,trivial⟩
        ·
         clear S
         intro aa ww S
         refine OL.zq S (Lf.run_build (cs:=#[Value.int .i64 x27,Value.int .i64 x59,Value.bool ((x56 == 5) || (x56 == 6))]) pl58 ti58 (parts_map S rfl) (by kernel_rfl)) fun _ S=>?_
         refine ol_newS S H Try.underlying34 ti58 (by decide) (parts_map S rfl) (by kernel_rfl) (by decide) rfl trivial ?_
         clear S H;intro s67 aa ww h11 H S
         refine ol_appS S H Try.underlying34 ti58 rfl rfl rfl trivial ?_
         clear S H;intro s68 aa ww h12 H S
         refine OL.za S fun _ S=>?_
         refine OL.nil ?_
         exact⟨s68,h12,S.sub _ ⟨rfl,rfl,rfl,rfl,rfl,rfl,rfl,rfl,rfl,rfl,rfl,trivial⟩,H⟩
       ·
        replace H:=H.2 hb_4
        refine W.skip ?_
        exact⟨out8_1,h9,S.sub _ ⟨rfl,rfl,rfl,rfl,rfl,rfl,rfl,rfl,rfl,rfl,rfl,trivial⟩,H⟩
      ·
       clear H S
       rintro aa ww ⟨out8_2,h13,S,HJ⟩
       have H:=HK_1 _ _ HJ
       clear HK_1 HJ
       refine W.region ?_
       refine OL.zq S (Lf.run_add (S.ev rfl) (S.ev rfl)) fun _ S=>?_
       refine OL.zm S fun _ S=>?_
       refine OL.nil ?_
       exact⟨(out8_2,(IntKind.i64.wrap (x39+1)),h13),⟨S.sub _ ⟨rfl,rfl,rfl,rfl,rfl,rfl,rfl,rfl,rfl,rfl,rfl,trivial⟩,H.1⟩,H.2⟩
     ·
      replace H:=H.2 hb_3
      refine W.exit_ ?_
      refine xhit ?_
      exact⟨out8_1,h5,S.sub _ ⟨rfl,rfl,rfl,rfl,rfl,rfl,rfl,trivial⟩,H⟩
   ·
    clear H S
    rintro aa ww ⟨out8_3,h14,S,HJ⟩
    have H:=HK _ _ HJ
    clear HK HJ
    refine W.region ?_
    refine OL.zq S (Lf.run_add (S.ev rfl) (S.ev rfl)) fun _ S=>?_
    refine OL.zm S fun _ S=>?_
    refine OL.nil ?_
    exact⟨(out8_3,(IntKind.i64.wrap (x27+1)),h14),⟨S.sub _ ⟨rfl,rfl,rfl,rfl,rfl,rfl,rfl,trivial⟩,H.1⟩,H.2⟩
  ·
   replace H:=H.2 hb_1
   refine W.exit_ ?_
   refine xhit ?_
   refine W.seq ?_
   refine W.region ?_
   refine OL.zm S fun _ S=>?_
   refine OL.za S fun _ S=>?_
   refine OL.za S fun _ S=>?_
   refine OL.nil ?_
   refine W.ret ?_
   exact Ret.two S rfl rfl rfl H
def L14 (b0:Option Addr) (l1:Sv) (h:Heap) (R:Value→Heap→Prop):Prop:=
 cal Try.prog 27 #[Value.pointer b0,Value.slice l1.a l1.n l1.c] h fun u h1=>asI .i64 u fun x22=>
 ifb (x22 != 0) (
  R (.tuple #[Value.slice (⟨none,0,0⟩:Sv).a (⟨none,0,0⟩:Sv).n (⟨none,0,0⟩:Sv).c,Value.int .i64 x22]) h1) (
  new 88 #[Value.slice (⟨none,0,0⟩:Sv).a (⟨none,0,0⟩:Sv).n (⟨none,0,0⟩:Sv).c,Value.int .i64 0,Value.slice (⟨none,0,0⟩:Sv).a (⟨none,0,0⟩:Sv).n (⟨none,0,0⟩:Sv).c,Value.slice (⟨none,0,0⟩:Sv).a (⟨none,0,0⟩:Sv).n (⟨none,0,0⟩:Sv).c,Value.slice (⟨none,0,0⟩:Sv).a (⟨none,0,0⟩:Sv).n (⟨none,0,0⟩:Sv).c] h1 fun p7 h2=>
  stoA h2 p7 [Value.slice (⟨none,0,0⟩:Sv).a (⟨none,0,0⟩:Sv).n (⟨none,0,0⟩:Sv).c,Value.int .i64 ((l1.n:Nat):Int),Value.slice (⟨none,0,0⟩:Sv).a (⟨none,0,0⟩:Sv).n (⟨none,0,0⟩:Sv).c,Value.slice (⟨none,0,0⟩:Sv).a (⟨none,0,0⟩:Sv).n (⟨none,0,0⟩:Sv).c,Value.slice (⟨none,0,0⟩:Sv).a (⟨none,0,0⟩:Sv).n (⟨none,0,0⟩:Sv).c] fun h3=>
  nn b0 fun p30=>
  ldS h3 (p30.add 3) fun x32=>
  ∃(I:Int→Heap→Prop) (m:Int→Heap→Nat),I 0 h3∧∀x34 h4,I x34 h4 →
  ifb (decide (x34<((x32.n:Nat):Int))) (
   ∃(I_1:Sv→Sv→Int→Heap→Prop) (m_1:Sv→Sv→Int→Heap→Nat),I_1 (⟨none,0,0⟩:Sv) (⟨none,0,0⟩:Sv) 0 h4∧∀gen9 kill10 x39 h5,I_1 gen9 kill10 x39 h5 →
   ifb (decide (x39<((l1.n:Nat):Int))) (
    ∃J:Sv→Sv→Heap→Prop,(
     ixS l1 x39 fun q42=>
     ∃(y43:Int) (y43_1:Int) (y43_2:Sv) (y43_3:Bool) (y43_4:Bool) (y43_5:Sv),cl h5 (q42.add ((x39:Int).toNat*6))=some (Value.int .i64 y43)∧cl h5 ((q42.add ((x39:Int).toNat*6)).add 1)=some (Value.int .i64 y43_1)∧cl h5 ((q42.add ((x39:Int).toNat*6)).add 2)=some (Value.slice y43_2.a y43_2.n y43_2.c)∧cl h5 ((q42.add ((x39:Int).toNat*6)).add 3)=some (Value.bool y43_3)∧cl h5 ((q42.add ((x39:Int).toNat*6)).add 4)=some (Value.bool y43_4)∧cl h5 ((q42.add ((x39:Int).toNat*6)).add 5)=some (Value.slice y43_5.a y43_5.n y43_5.c) ∧
     new 51 #[Value.int .i64 0,Value.int .i64 0,Value.slice (⟨none,0,0⟩:Sv).a (⟨none,0,0⟩:Sv).n (⟨none,0,0⟩:Sv).c,Value.bool false,Value.bool false,Value.slice (⟨none,0,0⟩:Sv).a (⟨none,0,0⟩:Sv).n (⟨none,0,0⟩:Sv).c] h5 fun p12 h6=>
     stoA h6 p12 [Value.int .i64 y43,Value.int .i64 y43_1,Value.slice y43_2.a y43_2.n y43_2.c,Value.bool y43_3,Value.bool y43_4,Value.slice y43_5.a y43_5.n y43_5.c] fun h7=>
     ∃J_1:Sv→Heap→Prop,(
      ldI .i64 h7 p12 fun x45=>
      ifb (x45 == x34) (
       newS 3 #[Value.int .i64 x39] 1 h7 fun s50 h8=>
       appS 3 (Value.int .i64 0).cells 1 8 h8 gen9 s50 fun s51 h9=>
       J_1 s51 h9) (
       J_1 gen9 h7))∧(∀gen9_1 h10,J_1 gen9_1 h10 →
     ∃(y52:Int) (y52_1:Int) (y52_2:Sv) (y52_3:Bool) (y52_4:Bool) (y52_5:Sv),cl h10 p12=some (Value.int .i64 y52)∧cl h10 (p12.add 1)=some (Value.int .i64 y52_1)∧cl h10 (p12.add 2)=some (Value.slice y52_2.a y52_2.n y52_2.c)∧cl h10 (p12.add 3)=some (Value.bool y52_3)∧cl h10 (p12.add 4)=some (Value.bool y52_4)∧cl h10 (p12.add 5)=some (Value.slice y52_5.a y52_5.n y52_5.c) ∧
     cal Try.prog 28 #[Value.agg #[Value.int .i64 y52,Value.int .i64 y52_1,Value.slice y52_2.a y52_2.n y52_2.c,Value.bool y52_3,Value.bool y52_4,Value.slice y52_5.a y52_5.n y52_5.c],Value.int .i64 x34] h10 fun u_1 h11=>asB u_1 fun x54=>
     ifb (!x54) (
      newS 3 #[Value.int .i64 x39] 1 h11 fun s58 h12=>
      appS 3 (Value.int .i64 0).cells 1 8 h12 kill10 s58 fun s59 h13=>
      J gen9_1 s59 h13) (
      J gen9_1 kill10 h11)))∧(∀gen9_2 kill10_1 h14,J gen9_2 kill10_1 h14 →
    I_1 gen9_2 kill10_1 (IntKind.i64.wrap (x39+1)) h14∧m_1 gen9_2 kill10_1 (IntKind.i64.wrap (x39+1)) h14<m_1 gen9 kill10 x39 h5)) (
    ∃Sq:Heap→Prop,Sq h5∧(
     hlS Sq p7 fun x62=>
     cal Try.prog 29 #[Value.pointer b0,Value.int .i64 x34] h5 fun u_2 h15=>asS u_2 fun x65=>
     Sq h15 ∧
     newS 47 #[Value.slice x65.a x65.n x65.c] 1 h15 fun s66 h16=>
     Sq h16 ∧
     appS 47 (Value.slice (⟨none,0,0⟩:Sv).a (⟨none,0,0⟩:Sv).n (⟨none,0,0⟩:Sv).c).cells 1 24 h16 x62 s66 fun s67 h17=>
     sto h17 p7 (Value.slice s67.a s67.n s67.c) fun h18=>
     ldS h18 (p7.add 2) fun x70=>
     ∃(IJ:Bool→Bool→Bool→Bool→Sv→Sv→Sv→Sv→Heap→Prop) (Sq_1:Heap→Prop),(∀(b3 b4 b8 b9:Bool) (s72:Sv) (s73:Sv) (s77:Sv) (s78:Sv) (hz:Heap),IJ b3 b4 b8 b9 s72 s73 s77 s78 hz→Sq_1 hz)∧(∀(s72:Sv) (s73:Sv) (s77:Sv) (s78:Sv),IJ false false false false s72 s73 s77 s78 h18) ∧
     hlS Sq_1 (p7.add 3) fun x75=>
     (∀(b3 b4 b8 b9:Bool) (s72_o:Sv) (s73:Sv) (s77:Sv) (s78:Sv) (h19:Heap),IJ b3 b4 b8 b9 s72_o s73 s77 s78 h19→b3=false →
      newS 47 #[Value.slice gen9.a gen9.n gen9.c] 1 h19 fun s72 h20=>
      IJ true b4 b8 b9 s72 s73 s77 s78 h20) ∧
     (∀(b3 b4 b8 b9:Bool) (s72:Sv) (s73_o:Sv) (s77:Sv) (s78:Sv) (h23:Heap),IJ b3 b4 b8 b9 s72 s73_o s77 s78 h23→b4=false→b3=true →
      appS 47 (Value.slice (⟨none,0,0⟩:Sv).a (⟨none,0,0⟩:Sv).n (⟨none,0,0⟩:Sv).c).cells 1 24 h23 x70 s72 fun s73 h24=>
      IJ b3 true b8 b9 s72 s73 s77 s78 h24) ∧
     (∀(b3 b4 b8 b9:Bool) (s72:Sv) (s73:Sv) (s77_o:Sv) (s78:Sv) (h27:Heap),IJ b3 b4 b8 b9 s72 s73 s77_o s78 h27→b8=false →
      newS 47 #[Value.slice kill10.a kill10.n kill10.c] 1 h27 fun s77 h28=>
      IJ b3 b4 true b9 s72 s73 s77 s78 h28) ∧
     (∀(b3 b4 b8 b9:Bool) (s72:Sv) (s73:Sv) (s77:Sv) (s78_o:Sv) (h31:Heap),IJ b3 b4 b8 b9 s72 s73 s77 s78_o h31→b9=false→b3=true→b4=true→b8=true →
      appS 47 (Value.slice (⟨none,0,0⟩:Sv).a (⟨none,0,0⟩:Sv).n (⟨none,0,0⟩:Sv).c).cells 1 24 h31 x75 s77 fun s78 h32=>
      IJ b3 b4 b8 true s72 s73 s77 s78 h32) ∧
     (∀(s72:Sv) (s73:Sv) (s77:Sv) (s78:Sv) (h36:Heap),IJ true true true true s72 s73 s77 s78 h36 →
     sto h36 (p7.add 2) (Value.slice s73.a s73.n s73.c) fun h37=>
     sto h37 (p7.add 3) (Value.slice s78.a s78.n s78.c) fun h38=>
     I (IntKind.i64.wrap (x34+1)) h38∧m (IntKind.i64.wrap (x34+1)) h38<m x34 h4)))) (
   ∃(y83:Sv) (y83_1:Int) (y83_2:Sv) (y83_3:Sv) (y83_4:Sv),cl h4 p7=some (Value.slice y83.a y83.n y83.c)∧cl h4 (p7.add 1)=some (Value.int .i64 y83_1)∧cl h4 (p7.add 2)=some (Value.slice y83_2.a y83_2.n y83_2.c)∧cl h4 (p7.add 3)=some (Value.slice y83_3.a y83_3.n y83_3.c)∧cl h4 (p7.add 4)=some (Value.slice y83_4.a y83_4.n y83_4.c) ∧
   cal Try.prog 30 #[Value.agg #[Value.slice y83.a y83.n y83.c,Value.int .i64 y83_1,Value.slice y83_2.a y83_2.n y83_2.c,Value.slice y83_3.a y83_3.n y83_3.c,Value.slice y83_4.a y83_4.n y83_4.c]] h4 fun u_3 h40=>∃(x84:Option Addr) (x84_1:Int),u_3=Value.tuple #[Value.pointer x84,Value.int .i64 x84_1] ∧
   ifb (x84_1 != 0) (
    R (.tuple #[Value.slice (⟨none,0,0⟩:Sv).a (⟨none,0,0⟩:Sv).n (⟨none,0,0⟩:Sv).c,Value.int .i64 x84_1]) h40) (
    nn b0 fun p91=>
    ldS h40 (p91.add 3) fun x93=>
    ∃(I_2:Sv→Int→Heap→Prop) (m_2:Sv→Int→Heap→Nat),I_2 (⟨none,0,0⟩:Sv) 0 h40∧∀out15 x95 h41,I_2 out15 x95 h41 →
    ifb (decide (x95<((x93.n:Nat):Int))) (
     cal Try.prog 31 #[Value.pointer x84,Value.int .i64 x95] h41 fun u_4 h42=>asS u_4 fun x100=>
     ∃(I_3:Sv→Int→Heap→Prop) (m_3:Sv→Int→Heap→Nat),I_3 (⟨none,0,0⟩:Sv) 0 h42∧∀s17 x102 h43,I_3 s17 x102 h43 →
     ifb (decide (x102<((x100.n:Nat):Int))) (
      ∃J_2:Sv→Heap→Prop,(
       ixS x100 x102 fun q104=>
       ldI .i64 h43 (q104.add ((x102:Int).toNat*1)) fun x105=>
       ixS l1 x105 fun q108=>
       ∃(y109:Int) (y109_1:Int) (y109_2:Sv) (y109_3:Bool) (y109_4:Bool) (y109_5:Sv),cl h43 (q108.add ((x105:Int).toNat*6))=some (Value.int .i64 y109)∧cl h43 ((q108.add ((x105:Int).toNat*6)).add 1)=some (Value.int .i64 y109_1)∧cl h43 ((q108.add ((x105:Int).toNat*6)).add 2)=some (Value.slice y109_2.a y109_2.n y109_2.c)∧cl h43 ((q108.add ((x105:Int).toNat*6)).add 3)=some (Value.bool y109_3)∧cl h43 ((q108.add ((x105:Int).toNat*6)).add 4)=some (Value.bool y109_4)∧cl h43 ((q108.add ((x105:Int).toNat*6)).add 5)=some (Value.slice y109_5.a y109_5.n y109_5.c) ∧
       cal Try.prog 28 #[Value.agg #[Value.int .i64 y109,Value.int .i64 y109_1,Value.slice y109_2.a y109_2.n y109_2.c,Value.bool y109_3,Value.bool y109_4,Value.slice y109_5.a y109_5.n y109_5.c],Value.int .i64 x95] h43 fun u_5 h44=>asB u_5 fun x111=>
       ifb x111 (
        newS 3 #[Value.int .i64 x105] 1 h44 fun s114 h45=>
        appS 3 (Value.int .i64 0).cells 1 8 h45 s17 s114 fun s115 h46=>
        J_2 s115 h46) (
        J_2 s17 h44))∧(∀s17_1 h47,J_2 s17_1 h47 →
      I_3 s17_1 (IntKind.i64.wrap (x102+1)) h47∧m_3 s17_1 (IntKind.i64.wrap (x102+1)) h47<m_3 s17 x102 h43)) (
      newS 47 #[Value.slice s17.a s17.n s17.c] 1 h43 fun s119 h48=>
      appS 47 (Value.slice (⟨none,0,0⟩:Sv).a (⟨none,0,0⟩:Sv).n (⟨none,0,0⟩:Sv).c).cells 1 24 h48 out15 s119 fun s120 h49=>
      I_2 s120 (IntKind.i64.wrap (x95+1)) h49∧m_2 s120 (IntKind.i64.wrap (x95+1)) h49<m_2 out15 x95 h41)) (
     R (.tuple #[Value.slice out15.a out15.n out15.c,Value.int .i64 0]) h41))))
set_option maxRecDepth 100000 in
theorem F14 {b0 l1 h:_} {R:Value→Heap→Prop} (H:L14 b0 l1 h R):CallsH Try.prog 14 #[Value.pointer b0,Value.slice l1.a l1.n l1.c] h R:=by
 refine CallsH.enter (n:=123) Try.func14 rfl rfl rfl rfl ?_
 intro w0 aa ww S
 unfold L14 at H
 refine W.seq ?_
 refine W.region ?_
 refine OL.za S fun _ S=>?_
 refine OL.za S fun _ S=>?_
 refine OL.nil ?_
 refine W.seq ?_
 refine W.seq ?_
 refine W.region ?_
 refine OL.zm S fun _ S=>?_
 refine OL.zm S fun _ S=>?_
 refine ol_cal S H isfn27 rfl rfl trivial ?_
 clear S H;intro u aa ww h1 H S
 obtain⟨x22,rfl,H⟩:=H
 refine OL.za S fun _ S=>?_
 refine OL.nil ?_
 refine W.seq ?_
 refine W.region ?_
 refine OL.zm S fun _ S=>?_
 refine OL.zq S (Lf.run_neq (S.ev rfl) (S.ev rfl)) fun _ S=>?_
 refine OL.nil ?_
 refine W.cond S (b:=(x22 != 0)) rfl (fun hb=>?_) (fun hb=>?_)
 ·
  replace H:=H.1 hb
  refine W.seq ?_
  refine W.region ?_
  refine OL.zm S fun _ S=>?_
  refine OL.za S fun _ S=>?_
  refine OL.za S fun _ S=>?_
  refine OL.nil ?_
  refine W.ret ?_
  exact Ret.two S rfl rfl rfl H
 ·
  replace H:=H.2 hb
  refine W.skip ?_
  refine W.seq ?_
  refine W.region ?_
  refine OL.zm S fun _ S=>?_
  refine OL.zq S (Lf.run_lens (S.ev rfl) rfl Try.underlying32) fun _ S=>?_
  refine OL.zq S (Lf.run_build (cs:=#[Value.slice (⟨none,0,0⟩:Sv).a (⟨none,0,0⟩:Sv).n (⟨none,0,0⟩:Sv).c,Value.int .i64 ((l1.n:Nat):Int),Value.slice (⟨none,0,0⟩:Sv).a (⟨none,0,0⟩:Sv).n (⟨none,0,0⟩:Sv).c,Value.slice (⟨none,0,0⟩:Sv).a (⟨none,0,0⟩:Sv).n (⟨none,0,0⟩:Sv).c,Value.slice (⟨none,0,0⟩:Sv).a (⟨none,0,0⟩:Sv).n (⟨none,0,0⟩:Sv).c]) pl88 ti88 (parts_map S rfl) (by kernel_rfl)) fun _ S=>?_
  refine ol_alloc S H ti88 rfl rfl trivial ?_
  clear S H;intro p7 aa ww h2 H S
  refine ol_stoA S H rfl rfl ti88 trivial ?_
  clear S H;intro aa ww h3 H S
  refine OL.nil ?_
  refine W.seq ?_
  refine W.seq ?_
  refine W.region ?_
  refine OL.zm S fun _ S=>?_
  obtain⟨p30,e,H⟩:=H
  refine OL.zq S (Lf.run_nc' (S.ev rfl) e) fun _ S=>?_
  refine OL.zf S fa30_3 fun _ S=>?_
  obtain⟨x32,c,H⟩:=H
  refine OL.zl S fl28 c fun _ S=>?_
  refine OL.zq S (Lf.run_lens (S.ev rfl) rfl Try.underlying28) fun _ S=>?_
  refine OL.zm S fun _ S=>?_
  refine OL.nil ?_
  refine W.block ?_
  obtain⟨I,m,H,HB_3⟩:=H
  refine W.loopS (σ:=Int×Heap) (fun s aa ww=>St 123 [(0,Value.pointer b0),(1,Value.slice l1.a l1.n l1.c),(7,Value.pointer (some p7)),(33,Value.int .i64 ((x32.n:Nat):Int)),(34,Value.int .i64 s.1)] s.2 w0 aa ww∧I s.1 s.2) (fun s=>m s.1 s.2) (0,h3) ⟨S.sub _ ⟨rfl,rfl,rfl,rfl,rfl,trivial⟩,H⟩ ?_
  clear H S
  rintro ⟨x34,h4⟩ aa ww ⟨S,HI⟩
  replace S:St 123 [(0,Value.pointer b0),(1,Value.slice l1.a l1.n l1.c),(7,Value.pointer (some p7)),(33,Value.int .i64 ((x32.n:Nat):Int)),(34,Value.int .i64 x34)] h4 w0 aa ww:=S
  have H:=HB_3 x34 h4 HI
  clear HI
  refine W.seq ?_
  refine W.region ?_
  refine OL.zq S (Lf.run_lss (S.ev rfl) (S.ev rfl)) fun _ S=>?_
  refine OL.nil ?_
  refine W.seq ?_
  refine W.cond S (b:=(decide (x34<((x32.n:Nat):Int)))) rfl (fun hb_1=>?_) (fun hb_1=>?_)
  ·
   replace H:=H.1 hb_1
   refine W.skip ?_
   refine W.seq ?_
   refine W.block ?_
   refine W.seq ?_
   refine W.region ?_
   refine OL.zm S fun _ S=>?_
   refine OL.za S fun _ S=>?_
   refine OL.nil ?_
   refine W.seq ?_
   refine W.region ?_
   refine OL.za S fun _ S=>?_
   refine OL.za S fun _ S=>?_
   refine OL.nil ?_
   refine W.seq ?_
   refine W.seq ?_
   refine W.region ?_
   refine OL.zm S fun _ S=>?_
   refine OL.zq S (Lf.run_lens (S.ev rfl) rfl Try.underlying32) fun _ S=>?_
   refine OL.zm S fun _ S=>?_
   refine OL.nil ?_
   refine W.block ?_
   obtain⟨I_1,m_1,H,HB⟩:=H
   refine W.loopS (σ:=Sv×Sv×Int×Heap) (fun s aa ww=>St 123 [(0,Value.pointer b0),(1,Value.slice l1.a l1.n l1.c),(7,Value.pointer (some p7)),(8,Value.int .i64 x34),(9,Value.slice s.1.a s.1.n s.1.c),(10,Value.slice s.2.1.a s.2.1.n s.2.1.c),(33,Value.int .i64 ((x32.n:Nat):Int)),(34,Value.int .i64 x34),(37,Value.slice l1.a l1.n l1.c),(38,Value.int .i64 ((l1.n:Nat):Int)),(39,Value.int .i64 s.2.2.1)] s.2.2.2 w0 aa ww∧I_1 s.1 s.2.1 s.2.2.1 s.2.2.2) (fun s=>m_1 s.1 s.2.1 s.2.2.1 s.2.2.2) ((⟨none,0,0⟩:Sv),(⟨none,0,0⟩:Sv),0,h4) ⟨S.sub _ ⟨rfl,rfl,rfl,rfl,rfl,rfl,rfl,rfl,rfl,rfl,rfl,trivial⟩,H⟩ ?_
   clear H S
   rintro ⟨gen9,kill10,x39,h5⟩ aa ww ⟨S,HI⟩
   replace S:St 123 [(0,Value.pointer b0),(1,Value.slice l1.a l1.n l1.c),(7,Value.pointer (some p7)),(8,Value.int .i64 x34),(9,Value.slice gen9.a gen9.n gen9.c),(10,Value.slice kill10.a kill10.n kill10.c),(33,Value.int .i64 ((x32.n:Nat):Int)),(34,Value.int .i64 x34),(37,Value.slice l1.a l1.n l1.c),(38,Value.int .i64 ((l1.n:Nat):Int)),(39,Value.int .i64 x39)] h5 w0 aa ww:=S
   have H:=HB gen9 kill10 x39 h5 HI
   clear HI
   refine W.seq ?_
   refine W.region ?_
   refine OL.zq S (Lf.run_lss (S.ev rfl) (S.ev rfl)) fun _ S=>?_
   refine OL.nil ?_
   refine W.seq ?_
   refine W.cond S (b:=(decide (x39<((l1.n:Nat):Int)))) rfl (fun hb_2=>?_) (fun hb_2=>?_)
   ·
    replace H:=H.1 hb_2
    refine W.skip ?_
    obtain⟨J,H,HK⟩:=H
    refine W.seqJ (fun aa ww=>∃gen9_2 kill10_1 h14,St 123 [(0,Value.pointer b0),(1,Value.slice l1.a l1.n l1.c),(7,Value.pointer (some p7)),(8,Value.int .i64 x34),(9,Value.slice gen9_2.a gen9_2.n gen9_2.c),(10,Value.slice kill10_1.a kill10_1.n kill10_1.c),(33,Value.int .i64 ((x32.n:Nat):Int)),(34,Value.int .i64 x34),(37,Value.slice l1.a l1.n l1.c),(38,Value.int .i64 ((l1.n:Nat):Int)),(39,Value.int .i64 x39)] h14 w0 aa ww∧J gen9_2 kill10_1 h14) ?_ ?_
    ·
     clear HK
     refine W.block ?_
     refine W.seq ?_
     refine W.region ?_
     refine OL.zm S fun _ S=>?_
     obtain⟨q42,e_1,e_2,e_3,H⟩:=H
     refine OL.zq S (Lf.run_ixs (S.ev rfl) (S.ev rfl) Try.underlying32 ti51 e_1 e_2 e_3) fun _ S=>?_
     obtain⟨y43,y43_1,y43_2,y43_3,y43_4,y43_5,c_10,c_11,c_12,c_13,c_14,c_15,H⟩:=H
     refine OL.zq S (Lf.run_ldA (cs:=[Value.int .i64 y43,Value.int .i64 y43_1,Value.slice y43_2.a y43_2.n y43_2.c,Value.bool y43_3,Value.bool y43_4,Value.slice y43_5.a y43_5.n y43_5.c]) (S.ev rfl) ag51 ti51 (by rw[S.heap];exact RowL.toRow ⟨c_10,c_11,c_12,c_13,c_14,c_15,trivial⟩)) fun _ S=>?_
     refine ol_alloc S H ti51 rfl rfl trivial ?_
     clear S H;intro p12 aa ww h6 H S
     refine OL.za S fun _ S=>?_
     refine ol_stoA S H rfl rfl ti51 trivial ?_
     clear S H;intro aa ww h7 H S
     refine OL.nil ?_
     obtain⟨J_1,H,HK_1⟩:=H
     refine W.seqJ (fun aa ww=>∃gen9_1 h10,St 123 [(0,Value.pointer b0),(1,Value.slice l1.a l1.n l1.c),(7,Value.pointer (some p7)),(8,Value.int .i64 x34),(9,Value.slice gen9_1.a gen9_1.n gen9_1.c),(10,Value.slice kill10.a kill10.n kill10.c),(11,Value.int .i64 x39),(12,Value.pointer (some p12)),(33,Value.int .i64 ((x32.n:Nat):Int)),(34,Value.int .i64 x34),(37,Value.slice l1.a l1.n l1.c),(38,Value.int .i64 ((l1.n:Nat):Int)),(39,Value.int .i64 x39)] h10 w0 aa ww∧J_1 gen9_1 h10) ?_ ?_
     ·
      clear HK_1
      refine W.seq ?_
      refine W.region ?_
      refine OL.zf S fa51_0 fun _ S=>?_
      obtain⟨x45,c_2,H⟩:=H
      refine OL.zl S fl3 c_2 fun _ S=>?_
      refine OL.zm S fun _ S=>?_
      refine OL.zq S (Lf.run_eql (S.ev rfl) (S.ev rfl)) fun _ S=>?_
      refine OL.nil ?_
      refine W.cond S (b:=(x45 == x34)) rfl (fun hb_3=>?_) (fun hb_3=>?_)
      ·
       replace H:=H.1 hb_3
       refine W.region ?_
       refine OL.zm S fun _ S=>?_
       refine OL.zm S fun _ S=>?_
       refine ol_newS S H Try.underlying47 ti3 (by decide) (parts_map S rfl) (by kernel_rfl) (by decide) rfl trivial ?_
       clear S H;intro s50 aa ww h8 H S
       refine ol_appS S H Try.underlying47 ti3 rfl rfl rfl trivial ?_
       clear S H;intro s51 aa ww h9 H S
       refine OL.za S fun _ S=>?_
       refine OL.nil ?_
       exact⟨s51,h9,S.sub _ ⟨rfl,rfl,rfl,rfl,rfl,rfl,rfl,rfl,rfl,rfl,rfl,rfl,rfl,trivial⟩,H⟩
      ·
       replace H:=H.2 hb_3
       refine W.skip ?_
       exact⟨gen9,h7,S.sub _ ⟨rfl,rfl,rfl,rfl,rfl,rfl,rfl,rfl,rfl,rfl,rfl,rfl,rfl,trivial⟩,H⟩
     ·
      clear H S
      rintro aa ww ⟨gen9_1,h10,S,HJ⟩
      have H:=HK_1 _ _ HJ
      clear HK_1 HJ
      refine W.seq ?_
      refine W.region ?_
      obtain⟨y52,y52_1,y52_2,y52_3,y52_4,y52_5,c_4,c_5,c_6,c_7,c_8,c_9,H⟩:=H
      refine OL.zq S (Lf.run_ldA (cs:=[Value.int .i64 y52,Value.int .i64 y52_1,Value.slice y52_2.a y52_2.n y52_2.c,Value.bool y52_3,Value.bool y52_4,Value.slice y52_5.a y52_5.n y52_5.c]) (S.ev rfl) ag51 ti51 (by rw[S.heap];exact RowL.toRow ⟨c_4,c_5,c_6,c_7,c_8,c_9,trivial⟩)) fun _ S=>?_
      refine OL.zm S fun _ S=>?_
      refine ol_cal S H isfn28 rfl rfl trivial ?_
      clear S H;intro u_1 aa ww h11 H S
      obtain⟨x54,rfl,H⟩:=H
      refine OL.zq S (Lf.run_not (S.ev rfl)) fun _ S=>?_
      refine OL.nil ?_
      refine W.cond S (b:=(!x54)) rfl (fun hb_4=>?_) (fun hb_4=>?_)
      ·
       replace H:=H.1 hb_4
       refine W.region ?_
       refine OL.zm S fun _ S=>?_
       refine OL.zm S fun _ S=>?_
       refine ol_newS S H Try.underlying47 ti3 (by decide) (parts_map S rfl) (by kernel_rfl) (by decide) rfl trivial ?_
       clear S H;intro s58 aa ww h12 H S
       refine ol_appS S H Try.underlying47 ti3 rfl rfl rfl trivial ?_
       clear S H;intro s59 aa ww h13 H S
       refine OL.za S fun _ S=>?_
       refine OL.nil ?_
       exact⟨gen9_1,s59,h13,S.sub _ ⟨rfl,rfl,rfl,rfl,rfl,rfl,rfl,rfl,rfl,rfl,rfl,trivial⟩,H⟩
      ·
       replace H:=H.2 hb_4
       refine W.skip ?_
       exact⟨gen9_1,kill10,h11,S.sub _ ⟨rfl,rfl,rfl,rfl,rfl,rfl,rfl,rfl,rfl,rfl,rfl,trivial⟩,H⟩
    ·
     clear H S
     rintro aa ww ⟨gen9_2,kill10_1,h14,S,HJ⟩
     have H:=HK _ _ _ HJ
     clear HK HJ
     refine W.region ?_
     refine OL.zq S (Lf.run_add (S.ev rfl) (S.ev rfl)) fun _ S=>?_
     refine OL.zm S fun _ S=>?_
     refine OL.nil ?_
     exact⟨(gen9_2,kill10_1,(IntKind.i64.wrap (x39+1)),h14),⟨S.sub _ ⟨rfl,rfl,rfl,rfl,rfl,rfl,rfl,rfl,rfl,rfl,rfl,trivial⟩,H.1⟩,H.2⟩
   ·
    replace H:=H.2 hb_2
    refine W.exit_ ?_
    refine xhit ?_
    refine W.seq ?_
    replace S:=S.sub [(0,Value.pointer b0),(1,Value.slice l1.a l1.n l1.c),(7,Value.pointer (some p7)),(8,Value.int .i64 x34),(9,Value.slice gen9.a gen9.n gen9.c),(10,Value.slice kill10.a kill10.n kill10.c),(33,Value.int .i64 ((x32.n:Nat):Int)),(34,Value.int .i64 x34)] ⟨rfl,rfl,rfl,rfl,rfl,rfl,rfl,rfl,trivial⟩
    obtain⟨Sq,HS,H⟩:=H
    refine W.regionN [1] [4,5,6,8] Sq S (by kernel_rfl) ?_
    clear S;intro ww S
    refine BN.pure 0 S (fun _=>HS) rfl (by kernel_rfl) (by kernel_rfl) (fun _=>Lf.run_fa (S.ev rfl) fa88_0) rfl rfl trivial fun _ S=>?_
    refine BN.pure 2 S (fun _=>HS) rfl (by kernel_rfl) (by kernel_rfl) (fun _=>Lf.run_move (S.ev rfl)) rfl rfl trivial fun _ S=>?_
    refine BN.pure 3 S (fun _=>HS) rfl (by kernel_rfl) (by kernel_rfl) (fun _=>Lf.run_move (S.ev rfl)) rfl rfl trivial fun _ S=>?_
    obtain⟨x62,c_16,H⟩:=H
    refine BN.held 1 S HS rfl (by kernel_rfl) (fun _ hq=>Lf.run_ld (S.ev rfl) fl42 (c_16 _ hq)) rfl rfl trivial fun _ S=>?_
    refine BN.eff 4 rfl (by kernel_rfl) ?_
    refine ol_cal S H isfn29 rfl rfl trivial ?_
    clear S H;intro u_2 aa ww h15 H S
    obtain⟨x65,rfl,H⟩:=H
    refine OL.nil ?_
    clear HS;obtain⟨HS,H⟩:=H
    refine⟨fun _=>by rw[S.heap];exact HS,?_⟩
    refine BN.eff 5 rfl (by kernel_rfl) ?_
    refine ol_newS S H Try.underlying42 ti47 (by decide) (parts_map S rfl) (by kernel_rfl) (by decide) rfl trivial ?_
    clear S H;intro s66 aa ww h16 H S
    refine OL.nil ?_
    clear HS;obtain⟨HS,H⟩:=H
    refine⟨fun _=>by rw[S.heap];exact HS,?_⟩
    refine BN.eff 6 rfl (by kernel_rfl) ?_
    refine ol_appS S H Try.underlying42 ti47 rfl rfl rfl trivial ?_
    clear S H;intro s67 aa ww h17 H S
    refine OL.nil ?_
    refine⟨noNeed (by kernel_rfl),?_⟩
    refine BN.pure 7 S (noNeed (by kernel_rfl)) rfl (by kernel_rfl) (by kernel_rfl) (fun _=>Lf.run_fa (S.ev rfl) fa88_0) rfl rfl trivial fun _ S=>?_
    refine BN.eff 8 rfl (by kernel_rfl) ?_
    refine ol_sto S H rfl rfl rfl ti42 trivial ?_
    clear S H;intro aa ww h18 H S
    refine OL.nil ?_
    refine⟨noNeed (by kernel_rfl),?_⟩
    refine BN.done (by kernel_rfl) ?_
    replace S:=S.sub [(0,Value.pointer b0),(1,Value.slice l1.a l1.n l1.c),(7,Value.pointer (some p7)),(9,Value.slice gen9.a gen9.n gen9.c),(10,Value.slice kill10.a kill10.n kill10.c),(33,Value.int .i64 ((x32.n:Nat):Int)),(34,Value.int .i64 x34)] ⟨rfl,rfl,rfl,rfl,rfl,rfl,rfl,trivial⟩
    refine W.regionD S (by kernel_rfl) ?_
    clear S;intro ww S
    refine AN.zq 0 S rfl (fun _=>Lf.run_fa (S.ev rfl) fa88_2) fun _ S=>?_
    obtain⟨x70,c_17,H⟩:=H
    refine AN.zl 1 S rfl (fun _ hx=>Lf.run_ld (S.ev rfl) fl42 (hx.cell _ _ (S.cl c_17))) fun _ S=>?_
    refine AN.zq 2 S rfl (fun _=>Lf.run_move (S.ev rfl)) fun _ S=>?_
    refine AN.zq 5 S rfl (fun _=>Lf.run_fa (S.ev rfl) fa88_3) fun _ S=>?_
    refine AN.zq 7 S rfl (fun _=>Lf.run_move (S.ev rfl)) fun _ S=>?_
    obtain⟨IJ,Sq_1,hSq,hini,H⟩:=H
    obtain⟨x75,c_18,H⟩:=H
    obtain⟨Oq,Oq_1,Oq_2,Oq_3,H⟩:=H
    let gq3:IOp:=⟨3,72,true,[3],fun lq=>Value.slice (pS (nth lq 0)).a (pS (nth lq 0)).n (pS (nth lq 0)).c⟩
    let gq4:IOp:=⟨4,73,true,[4],fun lq=>Value.slice (pS (nth lq 0)).a (pS (nth lq 0)).n (pS (nth lq 0)).c⟩
    let gq6:IOp:=⟨6,75,true,[],fun lq=>Value.slice x75.a x75.n x75.c⟩
    let gq8:IOp:=⟨8,77,true,[8],fun lq=>Value.slice (pS (nth lq 0)).a (pS (nth lq 0)).n (pS (nth lq 0)).c⟩
    let gq9:IOp:=⟨9,78,true,[9],fun lq=>Value.slice (pS (nth lq 0)).a (pS (nth lq 0)).n (pS (nth lq 0)).c⟩
    let gq10:IOp:=⟨10,79,true,[],fun lq=>Value.pointer (some (p7.add 2))⟩
    replace S:=S.sub [(0,Value.pointer b0),(1,Value.slice l1.a l1.n l1.c),(7,Value.pointer (some p7)),(9,Value.slice gen9.a gen9.n gen9.c),(10,Value.slice kill10.a kill10.n kill10.c),(33,Value.int .i64 ((x32.n:Nat):Int)),(34,Value.int .i64 x34),(69,Value.pointer (some (p7.add 2))),(70,Value.slice x70.a x70.n x70.c),(71,Value.slice gen9.a gen9.n gen9.c),(74,Value.pointer (some (p7.add 3))),(76,Value.slice kill10.a kill10.n kill10.c)] ⟨rfl,rfl,rfl,rfl,rfl,rfl,rfl,rfl,rfl,rfl,rfl,rfl,trivial⟩
    refine AN.inv (fuel:=3) (fun Lg Xg hz=>IJ (Lg 3) (Lg 4) (Lg 8) (Lg 9) (pS (Xg 3)) (pS (Xg 4)) (pS (Xg 8)) (pS (Xg 9)) hz) (fun _=>undef) [(gq3,[]),(gq4,[gq3]),(gq6,[]),(gq8,[]),(gq9,[gq3,gq4,gq6,gq8]),(gq10,[gq3,gq4])] [(3,72,true,[3],[]),(4,73,true,[4],[3]),(6,75,true,[],[]),(8,77,true,[8],[]),(9,78,true,[9],[3,4,6,8]),(10,79,true,[],[3,4])] [0,1,7,9,10,33,34,69,70,71,74,76] S rfl rfl (by kernel_rfl) (by simp) ?_ ⟨?_,?_,?_,?_,?_,?_,trivial⟩ ?_
    ·
     intro Lg hLg
     have hz:=hini (pS undef) (pS undef) (pS undef) (pS undef)
     have hl3:Lg 3=false:=hLg (3,72,true,[3],[]) (by simp)
     have hl4:Lg 4=false:=hLg (4,73,true,[4],[3]) (by simp)
     have hl8:Lg 8=false:=hLg (8,77,true,[8],[]) (by simp)
     have hl9:Lg 9=false:=hLg (9,78,true,[9],[3,4,6,8]) (by simp)
     show IJ (Lg 3) (Lg 4) (Lg 8) (Lg 9) (pS undef) (pS undef) (pS undef) (pS undef) h18
     rw[hl3,hl4,hl8,hl9]
     exact hz
    ·
     refine⟨_,rfl,rfl,?_⟩
     intro Lg Xg aa ww h21 Ef S hinv hl0 hok
     replace hinv:IJ (Lg 3) (Lg 4) (Lg 8) (Lg 9) (pS (Xg 3)) (pS (Xg 4)) (pS (Xg 8)) (pS (Xg 9)) h21:=hinv
     replace S:St 123 ((0,Value.pointer b0) :: (1,Value.slice l1.a l1.n l1.c) :: (7,Value.pointer (some p7)) :: (9,Value.slice gen9.a gen9.n gen9.c) :: (10,Value.slice kill10.a kill10.n kill10.c) :: (33,Value.int .i64 ((x32.n:Nat):Int)) :: (34,Value.int .i64 x34) :: (69,Value.pointer (some (p7.add 2))) :: (70,Value.slice x70.a x70.n x70.c) :: (71,Value.slice gen9.a gen9.n gen9.c) :: (74,Value.pointer (some (p7.add 3))) :: (76,Value.slice kill10.a kill10.n kill10.c) :: Ef) h21 w0 aa ww:=S
     have H:=Oq (Lg 3) (Lg 4) (Lg 8) (Lg 9) (pS (Xg 3)) (pS (Xg 4)) (pS (Xg 8)) (pS (Xg 9)) h21 hinv hl0
     clear hinv
     refine ol_newS S H Try.underlying42 ti47 (by decide) (parts_map S rfl) (by kernel_rfl) (by decide) rfl trivial ?_
     clear S H;intro s72_1 aa ww h22 H S
     refine OL.nil ?_
     exact⟨Value.slice s72_1.a s72_1.n s72_1.c,_,S,H⟩
    ·
     refine⟨_,rfl,rfl,?_⟩
     intro Lg Xg aa ww h25 Ef S hinv hl0 hok
     obtain⟨kq3,-⟩:=hok
     replace hinv:IJ (Lg 3) (Lg 4) (Lg 8) (Lg 9) (pS (Xg 3)) (pS (Xg 4)) (pS (Xg 8)) (pS (Xg 9)) h25:=hinv
     replace S:St 123 ((72,Value.slice (pS (Xg 3)).a (pS (Xg 3)).n (pS (Xg 3)).c) :: (0,Value.pointer b0) :: (1,Value.slice l1.a l1.n l1.c) :: (7,Value.pointer (some p7)) :: (9,Value.slice gen9.a gen9.n gen9.c) :: (10,Value.slice kill10.a kill10.n kill10.c) :: (33,Value.int .i64 ((x32.n:Nat):Int)) :: (34,Value.int .i64 x34) :: (69,Value.pointer (some (p7.add 2))) :: (70,Value.slice x70.a x70.n x70.c) :: (71,Value.slice gen9.a gen9.n gen9.c) :: (74,Value.pointer (some (p7.add 3))) :: (76,Value.slice kill10.a kill10.n kill10.c) :: Ef) h25 w0 aa ww:=S
     have H:=Oq_1 (Lg 3) (Lg 4) (Lg 8) (Lg 9) (pS (Xg 3)) (pS (Xg 4)) (pS (Xg 8)) (pS (Xg 9)) h25 hinv hl0 kq3
     clear hinv
     refine ol_appS S H Try.underlying42 ti47 rfl rfl rfl trivial ?_
     clear S H;intro s73_1 aa ww h26 H S
     refine OL.nil ?_
     exact⟨Value.slice s73_1.a s73_1.n s73_1.c,_,S,H⟩
    ·
     refine⟨_,rfl,rfl,?_⟩
     intro Lg Xg aa ww h39 Ef S hinv hl0 hok
     replace hinv:IJ (Lg 3) (Lg 4) (Lg 8) (Lg 9) (pS (Xg 3)) (pS (Xg 4)) (pS (Xg 8)) (pS (Xg 9)) h39:=hinv
     replace S:St 123 ((0,Value.pointer b0) :: (1,Value.slice l1.a l1.n l1.c) :: (7,Value.pointer (some p7)) :: (9,Value.slice gen9.a gen9.n gen9.c) :: (10,Value.slice kill10.a kill10.n kill10.c) :: (33,Value.int .i64 ((x32.n:Nat):Int)) :: (34,Value.int .i64 x34) :: (69,Value.pointer (some (p7.add 2))) :: (70,Value.slice x70.a x70.n x70.c) :: (71,Value.slice gen9.a gen9.n gen9.c) :: (74,Value.pointer (some (p7.add 3))) :: (76,Value.slice kill10.a kill10.n kill10.c) :: Ef) h39 w0 aa ww:=S
     have hTg:=hSq (Lg 3) (Lg 4) (Lg 8) (Lg 9) (pS (Xg 3)) (pS (Xg 4)) (pS (Xg 8)) (pS (Xg 9)) _ hinv
     refine OL.zq S (Lf.run_ld (S.ev rfl) fl42 (S.cl (c_18 _ hTg))) fun _ S=>?_
     refine OL.nil ?_
     exact⟨undef,_,S,hinv⟩
    ·
     refine⟨_,rfl,rfl,?_⟩
     intro Lg Xg aa ww h29 Ef S hinv hl0 hok
     replace hinv:IJ (Lg 3) (Lg 4) (Lg 8) (Lg 9) (pS (Xg 3)) (pS (Xg 4)) (pS (Xg 8)) (pS (Xg 9)) h29:=hinv
     replace S:St 123 ((0,Value.pointer b0) :: (1,Value.slice l1.a l1.n l1.c) :: (7,Value.pointer (some p7)) :: (9,Value.slice gen9.a gen9.n gen9.c) :: (10,Value.slice kill10.a kill10.n kill10.c) :: (33,Value.int .i64 ((x32.n:Nat):Int)) :: (34,Value.int .i64 x34) :: (69,Value.pointer (some (p7.add 2))) :: (70,Value.slice x70.a x70.n x70.c) :: (71,Value.slice gen9.a gen9.n gen9.c) :: (74,Value.pointer (some (p7.add 3))) :: (76,Value.slice kill10.a kill10.n kill10.c) :: Ef) h29 w0 aa ww:=S
     have H:=Oq_2 (Lg 3) (Lg 4) (Lg 8) (Lg 9) (pS (Xg 3)) (pS (Xg 4)) (pS (Xg 8)) (pS (Xg 9)) h29 hinv hl0
     clear hinv
     refine ol_newS S H Try.underlying42 ti47 (by decide) (parts_map S rfl) (by kernel_rfl) (by decide) rfl trivial ?_
     clear S H;intro s77_1 aa ww h30 H S
     refine OL.nil ?_
     exact⟨Value.slice s77_1.a s77_1.n s77_1.c,_,S,H⟩
    ·
     refine⟨_,rfl,rfl,?_⟩
     intro Lg Xg aa ww h33 Ef S hinv hl0 hok
     obtain⟨kq3,kq4,kq6,kq8,-⟩:=hok
     replace hinv:IJ (Lg 3) (Lg 4) (Lg 8) (Lg 9) (pS (Xg 3)) (pS (Xg 4)) (pS (Xg 8)) (pS (Xg 9)) h33:=hinv
     replace S:St 123 ((72,Value.slice (pS (Xg 3)).a (pS (Xg 3)).n (pS (Xg 3)).c) :: (73,Value.slice (pS (Xg 4)).a (pS (Xg 4)).n (pS (Xg 4)).c) :: (75,Value.slice x75.a x75.n x75.c) :: (77,Value.slice (pS (Xg 8)).a (pS (Xg 8)).n (pS (Xg 8)).c) :: (0,Value.pointer b0) :: (1,Value.slice l1.a l1.n l1.c) :: (7,Value.pointer (some p7)) :: (9,Value.slice gen9.a gen9.n gen9.c) :: (10,Value.slice kill10.a kill10.n kill10.c) :: (33,Value.int .i64 ((x32.n:Nat):Int)) :: (34,Value.int .i64 x34) :: (69,Value.pointer (some (p7.add 2))) :: (70,Value.slice x70.a x70.n x70.c) :: (71,Value.slice gen9.a gen9.n gen9.c) :: (74,Value.pointer (some (p7.add 3))) :: (76,Value.slice kill10.a kill10.n kill10.c) :: Ef) h33 w0 aa ww:=S
     have H:=Oq_3 (Lg 3) (Lg 4) (Lg 8) (Lg 9) (pS (Xg 3)) (pS (Xg 4)) (pS (Xg 8)) (pS (Xg 9)) h33 hinv hl0 kq3 kq4 kq8
     clear hinv
     refine ol_appS S H Try.underlying42 ti47 rfl rfl rfl trivial ?_
     clear S H;intro s78_1 aa ww h34 H S
     refine OL.nil ?_
     exact⟨Value.slice s78_1.a s78_1.n s78_1.c,_,S,H⟩
    ·
     refine⟨_,rfl,rfl,?_⟩
     intro Lg Xg aa ww h35 Ef S hinv hl0 hok
     obtain⟨kq3,kq4,-⟩:=hok
     replace hinv:IJ (Lg 3) (Lg 4) (Lg 8) (Lg 9) (pS (Xg 3)) (pS (Xg 4)) (pS (Xg 8)) (pS (Xg 9)) h35:=hinv
     replace S:St 123 ((72,Value.slice (pS (Xg 3)).a (pS (Xg 3)).n (pS (Xg 3)).c) :: (73,Value.slice (pS (Xg 4)).a (pS (Xg 4)).n (pS (Xg 4)).c) :: (0,Value.pointer b0) :: (1,Value.slice l1.a l1.n l1.c) :: (7,Value.pointer (some p7)) :: (9,Value.slice gen9.a gen9.n gen9.c) :: (10,Value.slice kill10.a kill10.n kill10.c) :: (33,Value.int .i64 ((x32.n:Nat):Int)) :: (34,Value.int .i64 x34) :: (69,Value.pointer (some (p7.add 2))) :: (70,Value.slice x70.a x70.n x70.c) :: (71,Value.slice gen9.a gen9.n gen9.c) :: (74,Value.pointer (some (p7.add 3))) :: (76,Value.slice kill10.a kill10.n kill10.c) :: Ef) h35 w0 aa ww:=S
     refine OL.zf S fa88_2 fun _ S=>?_
     refine OL.nil ?_
     exact⟨undef,_,S,hinv⟩
    clear S
    intro Lg Xg aa ww h36 S hinv hok
    obtain⟨kq3,kq4,kq6,kq8,kq9,kq10,-⟩:=hok
    replace hinv:IJ (Lg 3) (Lg 4) (Lg 8) (Lg 9) (pS (Xg 3)) (pS (Xg 4)) (pS (Xg 8)) (pS (Xg 9)) h36:=hinv
    replace kq3:Lg 3=true:=kq3
    replace kq4:Lg 4=true:=kq4
    replace kq8:Lg 8=true:=kq8
    replace kq9:Lg 9=true:=kq9
    rw[kq3,kq4,kq8,kq9] at hinv
    replace H:=H (pS (Xg 3)) (pS (Xg 4)) (pS (Xg 8)) (pS (Xg 9)) h36 hinv
    replace S:=S.sub [(0,Value.pointer b0),(1,Value.slice l1.a l1.n l1.c),(7,Value.pointer (some p7)),(9,Value.slice gen9.a gen9.n gen9.c),(10,Value.slice kill10.a kill10.n kill10.c),(33,Value.int .i64 ((x32.n:Nat):Int)),(34,Value.int .i64 x34),(69,Value.pointer (some (p7.add 2))),(70,Value.slice x70.a x70.n x70.c),(71,Value.slice gen9.a gen9.n gen9.c),(72,Value.slice (pS (Xg 3)).a (pS (Xg 3)).n (pS (Xg 3)).c),(73,Value.slice (pS (Xg 4)).a (pS (Xg 4)).n (pS (Xg 4)).c),(74,Value.pointer (some (p7.add 3))),(75,Value.slice x75.a x75.n x75.c),(76,Value.slice kill10.a kill10.n kill10.c),(77,Value.slice (pS (Xg 8)).a (pS (Xg 8)).n (pS (Xg 8)).c),(78,Value.slice (pS (Xg 9)).a (pS (Xg 9)).n (pS (Xg 9)).c),(79,Value.pointer (some (p7.add 2)))] ⟨rfl,rfl,rfl,rfl,rfl,rfl,rfl,rfl,rfl,rfl,rfl,rfl,rfl,rfl,rfl,rfl,rfl,rfl,trivial⟩
    generalize (pS (Xg 3))=s72 at H S
    generalize (pS (Xg 4))=s73 at H S
    generalize (pS (Xg 8))=s77 at H S
    generalize (pS (Xg 9))=s78 at H S
    clear hinv kq10 kq9 kq8 kq6 kq4 kq3 gq10 gq9 gq8 gq6 gq4 gq3 Oq Oq_1 Oq_2 Oq_3
    refine AN.eff 11 rfl (by kernel_rfl) ?_
    refine ol_sto S H rfl rfl rfl ti42 trivial ?_
    clear S H;intro aa ww h37 H S
    refine OL.nil ?_
    refine AN.zq 12 S rfl (fun _=>Lf.run_fa (S.ev rfl) fa88_3) fun _ S=>?_
    refine AN.eff 13 rfl (by kernel_rfl) ?_
    refine ol_sto S H rfl rfl rfl ti42 trivial ?_
    clear S H;intro aa ww h38 H S
    refine OL.nil ?_
    refine AN.done (by kernel_rfl) ?_
    refine W.region ?_
    refine OL.zq S (Lf.run_add (S.ev rfl) (S.ev rfl)) fun _ S=>?_
    refine OL.zm S fun _ S=>?_
    refine OL.nil ?_
    exact⟨((IntKind.i64.wrap (x34+1)),h38),⟨S.sub _ ⟨rfl,rfl,rfl,rfl,rfl,trivial⟩,H.1⟩,H.2⟩
  ·
   replace H:=H.2 hb_1
   refine W.exit_ ?_
   refine xhit ?_
   refine W.seq ?_
   refine W.region ?_
   obtain⟨y83,y83_1,y83_2,y83_3,y83_4,c_29,c_30,c_31,c_32,c_33,H⟩:=H
   refine OL.zq S (Lf.run_ldA (cs:=[Value.slice y83.a y83.n y83.c,Value.int .i64 y83_1,Value.slice y83_2.a y83_2.n y83_2.c,Value.slice y83_3.a y83_3.n y83_3.c,Value.slice y83_4.a y83_4.n y83_4.c]) (S.ev rfl) ag88 ti88 (by rw[S.heap];exact RowL.toRow ⟨c_29,c_30,c_31,c_32,c_33,trivial⟩)) fun _ S=>?_
   refine ol_cal S H isfn30 rfl rfl trivial ?_
   clear S H;intro u_3 aa ww h40 H S
   obtain⟨x84,x84_1,rfl,H⟩:=H
   refine OL.zm S fun _ S=>?_
   refine OL.zq S (Lf.run_ex (S.ev rfl) rfl) fun _ S=>?_
   refine OL.zq S (Lf.run_ex (S.ev rfl) rfl) fun _ S=>?_
   refine OL.za S fun _ S=>?_
   refine OL.za S fun _ S=>?_
   refine OL.nil ?_
   refine W.seq ?_
   refine W.seq ?_
   refine W.region ?_
   refine OL.zm S fun _ S=>?_
   refine OL.zq S (Lf.run_neq (S.ev rfl) (S.ev rfl)) fun _ S=>?_
   refine OL.nil ?_
   refine W.cond S (b:=(x84_1 != 0)) rfl (fun hb_5=>?_) (fun hb_5=>?_)
   ·
    replace H:=H.1 hb_5
    refine W.seq ?_
    refine W.region ?_
    refine OL.zm S fun _ S=>?_
    refine OL.za S fun _ S=>?_
    refine OL.za S fun _ S=>?_
    refine OL.nil ?_
    refine W.ret ?_
    exact Ret.two S rfl rfl rfl H
   ·
    replace H:=H.2 hb_5
    refine W.skip ?_
    refine W.seq ?_
    refine W.region ?_
    refine OL.za S fun _ S=>?_
    refine OL.nil ?_
    refine W.seq ?_
    refine W.seq ?_
    refine W.region ?_
    refine OL.zm S fun _ S=>?_
    obtain⟨p91,e_4,H⟩:=H
    refine OL.zq S (Lf.run_nc' (S.ev rfl) e_4) fun _ S=>?_
    refine OL.zf S fa30_3 fun _ S=>?_
    obtain⟨x93,c_20,H⟩:=H
    refine OL.zl S fl28 c_20 fun _ S=>?_
    refine OL.zq S (Lf.run_lens (S.ev rfl) rfl Try.underlying28) fun _ S=>?_
    refine OL.zm S fun _ S=>?_
    refine OL.nil ?_
    refine W.block ?_
    obtain⟨I_2,m_2,H,HB_2⟩:=H
    refine W.loopS (σ:=Sv×Int×Heap) (fun s aa ww=>St 123 [(1,Value.slice l1.a l1.n l1.c),(13,Value.pointer x84),(15,Value.slice s.1.a s.1.n s.1.c),(94,Value.int .i64 ((x93.n:Nat):Int)),(95,Value.int .i64 s.2.1)] s.2.2 w0 aa ww∧I_2 s.1 s.2.1 s.2.2) (fun s=>m_2 s.1 s.2.1 s.2.2) ((⟨none,0,0⟩:Sv),0,h40) ⟨S.sub _ ⟨rfl,rfl,rfl,rfl,rfl,trivial⟩,H⟩ ?_
    clear H S
    rintro ⟨out15,x95,h41⟩ aa ww ⟨S,HI⟩
    replace S:St 123 [(1,Value.slice l1.a l1.n l1.c),(13,Value.pointer x84),(15,Value.slice out15.a out15.n out15.c),(94,Value.int .i64 ((x93.n:Nat):Int)),(95,Value.int .i64 x95)] h41 w0 aa ww:=S
    have H:=HB_2 out15 x95 h41 HI
    clear HI
    refine W.seq ?_
    refine W.region ?_
    refine OL.zq S (Lf.run_lss (S.ev rfl) (S.ev rfl)) fun _ S=>?_
    refine OL.nil ?_
    refine W.seq ?_
    refine W.cond S (b:=(decide (x95<((x93.n:Nat):Int)))) rfl (fun hb_6=>?_) (fun hb_6=>?_)
    ·
     replace H:=H.1 hb_6
     refine W.skip ?_
     refine W.seq ?_
     refine W.block ?_
     refine W.seq ?_
     refine W.region ?_
     refine OL.zm S fun _ S=>?_
     refine OL.za S fun _ S=>?_
     refine OL.nil ?_
     refine W.seq ?_
     refine W.region ?_
     refine OL.za S fun _ S=>?_
     refine OL.nil ?_
     refine W.seq ?_
     refine W.seq ?_
     refine W.region ?_
     refine OL.zm S fun _ S=>?_
     refine OL.zm S fun _ S=>?_
     refine ol_cal S H isfn31 rfl rfl trivial ?_
     clear S H;intro u_4 aa ww h42 H S
     obtain⟨x100,rfl,H⟩:=H
     refine OL.zq S (Lf.run_lens (S.ev rfl) rfl Try.underlying47) fun _ S=>?_
     refine OL.zm S fun _ S=>?_
     refine OL.nil ?_
     refine W.block ?_
     obtain⟨I_3,m_3,H,HB_1⟩:=H
     refine W.loopS (σ:=Sv×Int×Heap) (fun s aa ww=>St 123 [(1,Value.slice l1.a l1.n l1.c),(13,Value.pointer x84),(15,Value.slice out15.a out15.n out15.c),(16,Value.int .i64 x95),(17,Value.slice s.1.a s.1.n s.1.c),(94,Value.int .i64 ((x93.n:Nat):Int)),(95,Value.int .i64 x95),(100,Value.slice x100.a x100.n x100.c),(101,Value.int .i64 ((x100.n:Nat):Int)),(102,Value.int .i64 s.2.1)] s.2.2 w0 aa ww∧I_3 s.1 s.2.1 s.2.2) (fun s=>m_3 s.1 s.2.1 s.2.2) ((⟨none,0,0⟩:Sv),0,h42) ⟨S.sub _ ⟨rfl,rfl,rfl,rfl,rfl,rfl,rfl,rfl,rfl,rfl,trivial⟩,H⟩ ?_
     clear H S
     rintro ⟨s17,x102,h43⟩ aa ww ⟨S,HI⟩
     replace S:St 123 [(1,Value.slice l1.a l1.n l1.c),(13,Value.pointer x84),(15,Value.slice out15.a out15.n out15.c),(16,Value.int .i64 x95),(17,Value.slice s17.a s17.n s17.c),(94,Value.int .i64 ((x93.n:Nat):Int)),(95,Value.int .i64 x95),(100,Value.slice x100.a x100.n x100.c),(101,Value.int .i64 ((x100.n:Nat):Int)),(102,Value.int .i64 x102)] h43 w0 aa ww:=S
     have H:=HB_1 s17 x102 h43 HI
     clear HI
     refine W.seq ?_
     refine W.region ?_
     refine OL.zq S (Lf.run_lss (S.ev rfl) (S.ev rfl)) fun _ S=>?_
     refine OL.nil ?_
     refine W.seq ?_
     refine W.cond S (b:=(decide (x102<((x100.n:Nat):Int)))) rfl (fun hb_7=>?_) (fun hb_7=>?_)
     ·
      replace H:=H.1 hb_7
      refine W.skip ?_
      obtain⟨J_2,H,HK_2⟩:=H
      refine W.seqJ (fun aa ww=>∃s17_1 h47,St 123 [(1,Value.slice l1.a l1.n l1.c),(13,Value.pointer x84),(15,Value.slice out15.a out15.n out15.c),(16,Value.int .i64 x95),(17,Value.slice s17_1.a s17_1.n s17_1.c),(94,Value.int .i64 ((x93.n:Nat):Int)),(95,Value.int .i64 x95),(100,Value.slice x100.a x100.n x100.c),(101,Value.int .i64 ((x100.n:Nat):Int)),(102,Value.int .i64 x102)] h47 w0 aa ww∧J_2 s17_1 h47) ?_ ?_
      ·
       clear HK_2
       refine W.block ?_
       refine W.seq ?_
       refine W.region ?_
       obtain⟨q104,e_5,e_6,e_7,H⟩:=H
       refine OL.zq S (Lf.run_ixs (S.ev rfl) (S.ev rfl) Try.underlying47 ti3 e_5 e_6 e_7) fun _ S=>?_
       obtain⟨x105,c_21,H⟩:=H
       refine OL.zl S fl3 c_21 fun _ S=>?_
       refine OL.za S fun _ S=>?_
       refine OL.nil ?_
       refine W.seq ?_
       refine W.region ?_
       refine OL.zm S fun _ S=>?_
       refine OL.zm S fun _ S=>?_
       obtain⟨q108,e_8,e_9,e_10,H⟩:=H
       refine OL.zq S (Lf.run_ixs (S.ev rfl) (S.ev rfl) Try.underlying32 ti51 e_8 e_9 e_10) fun _ S=>?_
       obtain⟨y109,y109_1,y109_2,y109_3,y109_4,y109_5,c_23,c_24,c_25,c_26,c_27,c_28,H⟩:=H
       refine OL.zq S (Lf.run_ldA (cs:=[Value.int .i64 y109,Value.int .i64 y109_1,Value.slice y109_2.a y109_2.n y109_2.c,Value.bool y109_3,Value.bool y109_4,Value.slice y109_5.a y109_5.n y109_5.c]) (S.ev rfl) ag51 ti51 (by rw[S.heap];exact RowL.toRow ⟨c_23,c_24,c_25,c_26,c_27,c_28,trivial⟩)) fun _ S=>?_
       refine OL.zm S fun _ S=>?_
       refine ol_cal S H isfn28 rfl rfl trivial ?_
       clear S H;intro u_5 aa ww h44 H S
       obtain⟨x111,rfl,H⟩:=H
       refine OL.nil ?_
       refine W.cond S (b:=x111) rfl (fun hb_8=>?_) (fun hb_8=>?_)
       ·
        replace H:=H.1 hb_8
        refine W.region ?_
        refine OL.zm S fun _ S=>?_
        refine OL.zm S fun _ S=>?_
        refine ol_newS S H Try.underlying47 ti3 (by decide) (parts_map S rfl) (by kernel_rfl) (by decide) rfl trivial ?_
        clear S H;intro s114 aa ww h45 H S
        refine ol_appS S H Try.underlying47 ti3 rfl rfl rfl trivial ?_
        clear S H;intro s115 aa ww h46 H S
        refine OL.za S fun _ S=>?_
        refine OL.nil ?_
        exact⟨s115,h46,S.sub _ ⟨rfl,rfl,rfl,rfl,rfl,rfl,rfl,rfl,rfl,rfl,trivial⟩,H⟩
       ·
        replace H:=H.2 hb_8
        refine W.skip ?_
        exact⟨s17,h44,S.sub _ ⟨rfl,rfl,rfl,rfl,rfl,rfl,rfl,rfl,rfl,rfl,trivial⟩,H⟩
      ·
       clear H S
       rintro aa ww ⟨s17_1,h47,S,HJ⟩
       have H:=HK_2 _ _ HJ
       clear HK_2 HJ
       refine W.region ?_
       refine OL.zq S (Lf.run_add (S.ev rfl) (S.ev rfl)) fun _ S=>?_
       refine OL.zm S fun _ S=>?_
       refine OL.nil ?_
       exact⟨(s17_1,(IntKind.i64.wrap (x102+1)),h47),⟨S.sub _ ⟨rfl,rfl,rfl,rfl,rfl,rfl,rfl,rfl,rfl,rfl,trivial⟩,H.1⟩,H.2⟩
     ·
      replace H:=H.2 hb_7
      refine W.exit_ ?_
      refine xhit ?_
      refine W.region ?_
      refine OL.zm S fun _ S=>?_
      refine OL.zm S fun _ S=>?_
      refine ol_newS S H Try.underlying42 ti47 (by decide) (parts_map S rfl) (by kernel_rfl) (by decide) rfl trivial ?_
      clear S H;intro s119 aa ww h48 H S
      refine ol_appS S H Try.underlying42 ti47 rfl rfl rfl trivial ?_
      clear S H;intro s120 aa ww h49 H S
      refine OL.za S fun _ S=>?_
      refine OL.nil ?_
      refine W.region ?_
      refine OL.zq S (Lf.run_add (S.ev rfl) (S.ev rfl)) fun _ S=>?_
      refine OL.zm S fun _ S=>?_
      refine OL.nil ?_
      exact⟨(s120,(IntKind.i64.wrap (x95+1)),h49),⟨S.sub _ ⟨rfl,rfl,rfl,rfl,rfl,trivial⟩,H.1⟩,H.2⟩
    ·
     replace H:=H.2 hb_6
     refine W.exit_ ?_
     refine xhit ?_
     refine W.seq ?_
     refine W.region ?_
     refine OL.zm S fun _ S=>?_
     refine OL.za S fun _ S=>?_
     refine OL.za S fun _ S=>?_
     refine OL.nil ?_
     refine W.ret ?_
     exact Ret.two S rfl rfl rfl H
end Go.Proofs.Ytkpahlkendlahaa

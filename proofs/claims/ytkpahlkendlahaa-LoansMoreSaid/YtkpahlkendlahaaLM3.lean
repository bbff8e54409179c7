/- LoansMore: with more points, and more loans, no clash is lost: proved for every input, with no conditions. -/
import Derived.Test.YtkpahlkendlahaaLM2
namespace Go.Proofs.Ytkpahlkendlahaa
open Go Go.Lf
set_option linter.unusedVariables false
set_option maxRecDepth 100000
def L38 (b0:Option Addr) (h:Heap) (R:Value→Heap→Prop):Prop:=
 new 38 #[Value.pointer b0] h fun p1 h1=>
 ∃J:Bool→Prop,(
  ldP h1 p1 fun x5=>
  ifb (Option.isNone x5) (
   J true) (
   ldP h1 p1 fun x8=>
   nn x8 fun p9=>
   ldI .i64 h1 (p9.add 1) fun x11=>
   ifb (decide (x11<0)) (
    J true) (
    ldP h1 p1 fun x19=>
    nn x19 fun p20=>
    ldS h1 (p20.add 2) fun x22=>
    ldP h1 p1 fun x15=>
    nn x15 fun p16=>
    ldI .i64 h1 (p16.add 1) fun x18=>
    ifb (decide (((x22.n:Nat):Int)≤x18)) (
     J true) (
     ldP h1 p1 fun x27=>
     nn x27 fun p28=>
     ldS h1 (p28.add 3) fun x30=>
     J (((x30.n:Nat):Int) == 0)))))∧(∀x33,J x33 →
 ifb x33 (
  R (Value.int .i64 0) h1) (
  ldP h1 p1 fun x34=>
  nn x34 fun p35=>
  ldS h1 (p35.add 3) fun x37=>
  ∃(I:Int→Heap→Prop) (m:Int→Heap→Nat),I 0 h1∧∀x39 h2,I x39 h2 →
  ifb (decide (x39<((x37.n:Nat):Int))) (
   ixS x37 x39 fun q42=>
   ∃(y43:Int) (y43_1:Int) (y43_2:Int) (y43_3:Sv) (y43_4:Int) (y43_5:Sv) (y43_6:Int) (y43_7:Sv) (y43_8:Bool) (y43_9:ByteArray) (y43_10:Int) (y43_11:Sv) (y43_12:Int) (y43_13:Int) (y43_14:Sv) (y43_15:Int) (y43_16:Int) (y43_17:Int) (y43_18:Int) (y43_19:Int) (y43_20:Int),cl h2 (q42.add ((x39:Int).toNat*21))=some (Value.int .i64 y43)∧cl h2 ((q42.add ((x39:Int).toNat*21)).add 1)=some (Value.int .i64 y43_1)∧cl h2 ((q42.add ((x39:Int).toNat*21)).add 2)=some (Value.int .i64 y43_2)∧cl h2 ((q42.add ((x39:Int).toNat*21)).add 3)=some (Value.slice y43_3.a y43_3.n y43_3.c)∧cl h2 ((q42.add ((x39:Int).toNat*21)).add 4)=some (Value.int .i64 y43_4)∧cl h2 ((q42.add ((x39:Int).toNat*21)).add 5)=some (Value.slice y43_5.a y43_5.n y43_5.c)∧cl h2 ((q42.add ((x39:Int).toNat*21)).add 6)=some (Value.int .i64 y43_6)∧cl h2 ((q42.add ((x39:Int).toNat*21)).add 7)=some (Value.slice y43_7.a y43_7.n y43_7.c)∧cl h2 ((q42.add ((x39:Int).toNat*21)).add 8)=some (Value.bool y43_8)∧cl h2 ((q42.add ((x39:Int).toNat*21)).add 9)=some (Value.string y43_9)∧cl h2 ((q42.add ((x39:Int).toNat*21)).add 10)=some (Value.int .i64 y43_10)∧cl h2 ((q42.add ((x39:Int).toNat*21)).add 11)=some (Value.slice y43_11.a y43_11.n y43_11.c)∧cl h2 ((q42.add ((x39:Int).toNat*21)).add 12)=some (Value.int .i64 y43_12)∧cl h2 ((q42.add ((x39:Int).toNat*21)).add 13)=some (Value.int .i64 y43_13)∧cl h2 ((q42.add ((x39:Int).toNat*21)).add 14)=some (Value.slice y43_14.a y43_14.n y43_14.c)∧cl h2 ((q42.add ((x39:Int).toNat*21)).add 15)=some (Value.int .i64 y43_15)∧cl h2 ((q42.add ((x39:Int).toNat*21)).add 16)=some (Value.int .u64 y43_16)∧cl h2 ((q42.add ((x39:Int).toNat*21)).add 17)=some (Value.int .i64 y43_17)∧cl h2 ((q42.add ((x39:Int).toNat*21)).add 18)=some (Value.int .i64 y43_18)∧cl h2 ((q42.add ((x39:Int).toNat*21)).add 19)=some (Value.int .i64 y43_19)∧cl h2 ((q42.add ((x39:Int).toNat*21)).add 20)=some (Value.int .i64 y43_20) ∧
   new 74 #[Value.int .i64 0,Value.int .i64 0,Value.int .i64 0,Value.slice (⟨none,0,0⟩:Sv).a (⟨none,0,0⟩:Sv).n (⟨none,0,0⟩:Sv).c,Value.int .i64 0,Value.slice (⟨none,0,0⟩:Sv).a (⟨none,0,0⟩:Sv).n (⟨none,0,0⟩:Sv).c,Value.int .i64 0,Value.slice (⟨none,0,0⟩:Sv).a (⟨none,0,0⟩:Sv).n (⟨none,0,0⟩:Sv).c,Value.bool false,Value.string (⟨#[]⟩:ByteArray),Value.int .i64 0,Value.slice (⟨none,0,0⟩:Sv).a (⟨none,0,0⟩:Sv).n (⟨none,0,0⟩:Sv).c,Value.int .i64 0,Value.int .i64 0,Value.slice (⟨none,0,0⟩:Sv).a (⟨none,0,0⟩:Sv).n (⟨none,0,0⟩:Sv).c,Value.int .i64 0,Value.int .u64 0,Value.int .i64 0,Value.int .i64 0,Value.int .i64 0,Value.int .i64 0] h2 fun p4 h3=>
   stoA h3 p4 [Value.int .i64 y43,Value.int .i64 y43_1,Value.int .i64 y43_2,Value.slice y43_3.a y43_3.n y43_3.c,Value.int .i64 y43_4,Value.slice y43_5.a y43_5.n y43_5.c,Value.int .i64 y43_6,Value.slice y43_7.a y43_7.n y43_7.c,Value.bool y43_8,Value.string y43_9,Value.int .i64 y43_10,Value.slice y43_11.a y43_11.n y43_11.c,Value.int .i64 y43_12,Value.int .i64 y43_13,Value.slice y43_14.a y43_14.n y43_14.c,Value.int .i64 y43_15,Value.int .u64 y43_16,Value.int .i64 y43_17,Value.int .i64 y43_18,Value.int .i64 y43_19,Value.int .i64 y43_20] fun h4=>
   ldP h4 p1 fun x44=>
   ∃(y45:Int) (y45_1:Int) (y45_2:Int) (y45_3:Sv) (y45_4:Int) (y45_5:Sv) (y45_6:Int) (y45_7:Sv) (y45_8:Bool) (y45_9:ByteArray) (y45_10:Int) (y45_11:Sv) (y45_12:Int) (y45_13:Int) (y45_14:Sv) (y45_15:Int) (y45_16:Int) (y45_17:Int) (y45_18:Int) (y45_19:Int) (y45_20:Int),cl h4 p4=some (Value.int .i64 y45)∧cl h4 (p4.add 1)=some (Value.int .i64 y45_1)∧cl h4 (p4.add 2)=some (Value.int .i64 y45_2)∧cl h4 (p4.add 3)=some (Value.slice y45_3.a y45_3.n y45_3.c)∧cl h4 (p4.add 4)=some (Value.int .i64 y45_4)∧cl h4 (p4.add 5)=some (Value.slice y45_5.a y45_5.n y45_5.c)∧cl h4 (p4.add 6)=some (Value.int .i64 y45_6)∧cl h4 (p4.add 7)=some (Value.slice y45_7.a y45_7.n y45_7.c)∧cl h4 (p4.add 8)=some (Value.bool y45_8)∧cl h4 (p4.add 9)=some (Value.string y45_9)∧cl h4 (p4.add 10)=some (Value.int .i64 y45_10)∧cl h4 (p4.add 11)=some (Value.slice y45_11.a y45_11.n y45_11.c)∧cl h4 (p4.add 12)=some (Value.int .i64 y45_12)∧cl h4 (p4.add 13)=some (Value.int .i64 y45_13)∧cl h4 (p4.add 14)=some (Value.slice y45_14.a y45_14.n y45_14.c)∧cl h4 (p4.add 15)=some (Value.int .i64 y45_15)∧cl h4 (p4.add 16)=some (Value.int .u64 y45_16)∧cl h4 (p4.add 17)=some (Value.int .i64 y45_17)∧cl h4 (p4.add 18)=some (Value.int .i64 y45_18)∧cl h4 (p4.add 19)=some (Value.int .i64 y45_19)∧cl h4 (p4.add 20)=some (Value.int .i64 y45_20) ∧
   cal Try.prog 48 #[Value.pointer x44,Value.agg #[Value.int .i64 y45,Value.int .i64 y45_1,Value.int .i64 y45_2,Value.slice y45_3.a y45_3.n y45_3.c,Value.int .i64 y45_4,Value.slice y45_5.a y45_5.n y45_5.c,Value.int .i64 y45_6,Value.slice y45_7.a y45_7.n y45_7.c,Value.bool y45_8,Value.string y45_9,Value.int .i64 y45_10,Value.slice y45_11.a y45_11.n y45_11.c,Value.int .i64 y45_12,Value.int .i64 y45_13,Value.slice y45_14.a y45_14.n y45_14.c,Value.int .i64 y45_15,Value.int .u64 y45_16,Value.int .i64 y45_17,Value.int .i64 y45_18,Value.int .i64 y45_19,Value.int .i64 y45_20]] h4 fun u h5=>asB u fun x46=>
   ∃J_1:Bool→Heap→Prop,(orj (!x46) (fun k=>
    ldP h5 p1 fun x49=>
    cal Try.prog 29 #[Value.pointer x49,Value.int .i64 x39] h5 fun u_1 h7=>asS u_1 fun x51=>
    cal Try.prog 49 #[Value.slice x51.a x51.n x51.c,(Value.func (.func 50) #[] #[Value.pointer (some p1)])] h7 fun u_2 h8=>asB u_2 fun x53=>
    k x53 h8) h5 J_1)∧∀x54 h6,J_1 x54 h6 →
   ifb x54 (
    R (Value.int .i64 x39) h6) (
    I (IntKind.i64.wrap (x39+1)) h6∧m (IntKind.i64.wrap (x39+1)) h6<m x39 h2)) (
   R (Value.int .i64 (-1)) h2)))
set_option maxRecDepth 100000 in
theorem F38 {b0 h:_} {R:Value→Heap→Prop} (H:L38 b0 h R):CallsH Try.prog 38 #[Value.pointer b0] h R:=by
 refine CallsH.enter (n:=57) Try.func38 rfl rfl rfl rfl ?_
 intro w0 aa ww S
 unfold L38 at H
 refine W.seq ?_
 refine W.region ?_
 refine ol_box S H rfl rfl rfl trivial ?_
 clear S H;intro p1 aa ww h1 H S
 refine OL.za S fun _ S=>?_
 refine OL.nil ?_
 refine W.seq ?_
 refine W.seq ?_
 replace S:=S.sub [(1,Value.pointer (some p1))] ⟨rfl,trivial⟩
 obtain⟨J,H,HK⟩:=H
 refine W.mono (N':=fun aa ww=>∃x33,St 57 [(1,Value.pointer (some p1)),(33,Value.bool x33)] h1 w0 aa ww∧J x33) ?_ ?_
 ·
  refine W.regionD S (by kernel_rfl) ?_
  clear S;intro ww S
  obtain⟨x5,c,H⟩:=H
  refine AN.zl 0 S rfl (fun _ hx=>Lf.run_ld (S.ev rfl) fl38 (hx.cell _ _ (S.cl c))) fun _ S=>?_
  refine AN.zq 1 S rfl (fun _=>Lf.run_eqlpn Try.underlying38 (S.ev rfl) (S.ev rfl)) fun _ S=>?_
  refine AN.zq 2 S rfl (fun _=>Lf.run_move (S.ev rfl)) fun _ S=>?_
  rcases Bool.eq_false_or_eq_true (Option.isNone x5) with hb|hb
  ·
   replace H:=H.1 hb
   refine AN.zn 3 S rfl (GNo.mk rfl rfl hb) fun _ S=>?_
   refine AN.zn 4 S rfl (GNo.mk rfl rfl hb) fun _ S=>?_
   refine AN.zn 5 S rfl (GNo.mk rfl rfl hb) fun _ S=>?_
   refine AN.zn 6 S rfl (GNo.mk rfl rfl hb) fun _ S=>?_
   refine AN.zn 7 S rfl (GNo.mk rfl rfl hb) fun _ S=>?_
   refine AN.zq 8 S rfl (fun _=>run_pickT (S.ev rfl) hb (S.ev rfl)) fun _ S=>?_
   refine AN.zq 9 S rfl (fun _=>Lf.run_move (S.ev rfl)) fun _ S=>?_
   have hb_4:(true:Bool)=true:=rfl
   refine AN.zn 14 S rfl (GNo.mk rfl rfl hb_4) fun _ S=>?_
   refine AN.zn 15 S rfl (GNo.mk rfl rfl hb_4) fun _ S=>?_
   refine AN.zn 16 S rfl (GNo.mk rfl rfl hb_4) fun _ S=>?_
   refine AN.zn 17 S rfl (GNo.mk rfl rfl hb_4) fun _ S=>?_
   refine AN.zn 18 S rfl (GNo.mk rfl rfl hb_4) fun _ S=>?_
   refine AN.zn 10 S rfl (GNo.mk rfl rfl hb_4) fun _ S=>?_
   refine AN.zn 11 S rfl (GNo.mk rfl rfl hb_4) fun _ S=>?_
   refine AN.zn 12 S rfl (GNo.mk rfl rfl hb_4) fun _ S=>?_
   refine AN.zn 13 S rfl (GNo.mk rfl rfl hb_4) fun _ S=>?_
   refine AN.zn 19 S rfl (GNo.mk rfl rfl hb_4) fun _ S=>?_
   refine AN.zq 20 S rfl (fun _=>run_pickT (S.ev rfl) hb_4 (S.ev rfl)) fun _ S=>?_
   refine AN.zq 21 S rfl (fun _=>Lf.run_move (S.ev rfl)) fun _ S=>?_
   have hb_5:(true:Bool)=true:=rfl
   refine AN.zn 22 S rfl (GNo.mk rfl rfl hb_5) fun _ S=>?_
   refine AN.zn 23 S rfl (GNo.mk rfl rfl hb_5) fun _ S=>?_
   refine AN.zn 24 S rfl (GNo.mk rfl rfl hb_5) fun _ S=>?_
   refine AN.zn 25 S rfl (GNo.mk rfl rfl hb_5) fun _ S=>?_
   refine AN.zn 26 S rfl (GNo.mk rfl rfl hb_5) fun _ S=>?_
   refine AN.zn 27 S rfl (GNo.mk rfl rfl hb_5) fun _ S=>?_
   refine AN.zq 28 S rfl (fun _=>run_pickT (S.ev rfl) hb_5 (S.ev rfl)) fun _ S=>?_
   refine AN.done (by kernel_rfl) ?_
   exact⟨true,S.sub _ ⟨rfl,rfl,trivial⟩,H⟩
  ·
   replace H:=H.2 hb
   obtain⟨x8,c_1,H⟩:=H
   refine AN.zl (hg:=GOk.mk rfl rfl hb) 3 S rfl (fun _ hx=>Lf.run_ld (S.ev rfl) fl38 (hx.cell _ _ (S.cl c_1))) fun _ S=>?_
   obtain⟨p9,e,H⟩:=H
   refine AN.zq (hg:=GOk.mk rfl rfl hb) 4 S rfl (fun _=>Lf.run_nc' (S.ev rfl) e) fun _ S=>?_
   refine AN.zq (hg:=GOk.mk rfl rfl hb) 5 S rfl (fun _=>Lf.run_fa (S.ev rfl) fa30_1) fun _ S=>?_
   obtain⟨x11,c_2,H⟩:=H
   refine AN.zl (hg:=GOk.mk rfl rfl hb) 6 S rfl (fun _ hx=>Lf.run_ld (S.ev rfl) fl3 (hx.cell _ _ (S.cl c_2))) fun _ S=>?_
   refine AN.zq (hg:=GOk.mk rfl rfl hb) 7 S rfl (fun _=>Lf.run_lss (S.ev rfl) (S.ev rfl)) fun _ S=>?_
   refine AN.zq 8 S rfl (fun _=>run_pickF (S.ev rfl) hb (S.ev rfl)) fun _ S=>?_
   refine AN.zq 9 S rfl (fun _=>Lf.run_move (S.ev rfl)) fun _ S=>?_
   rcases Bool.eq_false_or_eq_true (decide (x11<0)) with hb_1|hb_1
   ·
    replace H:=H.1 hb_1
    refine AN.zn 14 S rfl (GNo.mk rfl rfl hb_1) fun _ S=>?_
    refine AN.zn 15 S rfl (GNo.mk rfl rfl hb_1) fun _ S=>?_
    refine AN.zn 16 S rfl (GNo.mk rfl rfl hb_1) fun _ S=>?_
    refine AN.zn 17 S rfl (GNo.mk rfl rfl hb_1) fun _ S=>?_
    refine AN.zn 18 S rfl (GNo.mk rfl rfl hb_1) fun _ S=>?_
    refine AN.zn 10 S rfl (GNo.mk rfl rfl hb_1) fun _ S=>?_
    refine AN.zn 11 S rfl (GNo.mk rfl rfl hb_1) fun _ S=>?_
    refine AN.zn 12 S rfl (GNo.mk rfl rfl hb_1) fun _ S=>?_
    refine AN.zn 13 S rfl (GNo.mk rfl rfl hb_1) fun _ S=>?_
    refine AN.zn 19 S rfl (GNo.mk rfl rfl hb_1) fun _ S=>?_
    refine AN.zq 20 S rfl (fun _=>run_pickT (S.ev rfl) hb_1 (S.ev rfl)) fun _ S=>?_
    refine AN.zq 21 S rfl (fun _=>Lf.run_move (S.ev rfl)) fun _ S=>?_
    have hb_3:(true:Bool)=true:=rfl
    refine AN.zn 22 S rfl (GNo.mk rfl rfl hb_3) fun _ S=>?_
    refine AN.zn 23 S rfl (GNo.mk rfl rfl hb_3) fun _ S=>?_
    refine AN.zn 24 S rfl (GNo.mk rfl rfl hb_3) fun _ S=>?_
    refine AN.zn 25 S rfl (GNo.mk rfl rfl hb_3) fun _ S=>?_
    refine AN.zn 26 S rfl (GNo.mk rfl rfl hb_3) fun _ S=>?_
    refine AN.zn 27 S rfl (GNo.mk rfl rfl hb_3) fun _ S=>?_
    refine AN.zq 28 S rfl (fun _=>run_pickT (S.ev rfl) hb_3 (S.ev rfl)) fun _ S=>?_
    refine AN.done (by kernel_rfl) ?_
    exact⟨true,S.sub _ ⟨rfl,rfl,trivial⟩,H⟩
   ·
    replace H:=H.2 hb_1
    obtain⟨x19,c_3,H⟩:=H
    refine AN.zl (hg:=GOk.mk rfl rfl hb_1) 14 S rfl (fun _ hx=>Lf.run_ld (S.ev rfl) fl38 (hx.cell _ _ (S.cl c_3))) fun _ S=>?_
    obtain⟨p20,e_1,H⟩:=H
    refine AN.zq (hg:=GOk.mk rfl rfl hb_1) 15 S rfl (fun _=>Lf.run_nc' (S.ev rfl) e_1) fun _ S=>?_
    refine AN.zq (hg:=GOk.mk rfl rfl hb_1) 16 S rfl (fun _=>Lf.run_fa (S.ev rfl) fa30_2) fun _ S=>?_
    obtain⟨x22,c_4,H⟩:=H
    refine AN.zl (hg:=GOk.mk rfl rfl hb_1) 17 S rfl (fun _ hx=>Lf.run_ld (S.ev rfl) fl27 (hx.cell _ _ (S.cl c_4))) fun _ S=>?_
    refine AN.zq (hg:=GOk.mk rfl rfl hb_1) 18 S rfl (fun _=>Lf.run_lens (S.ev rfl) rfl Try.underlying27) fun _ S=>?_
    obtain⟨x15,c_5,H⟩:=H
    refine AN.zl (hg:=GOk.mk rfl rfl hb_1) 10 S rfl (fun _ hx=>Lf.run_ld (S.ev rfl) fl38 (hx.cell _ _ (S.cl c_5))) fun _ S=>?_
    obtain⟨p16,e_2,H⟩:=H
    refine AN.zq (hg:=GOk.mk rfl rfl hb_1) 11 S rfl (fun _=>Lf.run_nc' (S.ev rfl) e_2) fun _ S=>?_
    refine AN.zq (hg:=GOk.mk rfl rfl hb_1) 12 S rfl (fun _=>Lf.run_fa (S.ev rfl) fa30_1) fun _ S=>?_
    obtain⟨x18,c_6,H⟩:=H
    refine AN.zl (hg:=GOk.mk rfl rfl hb_1) 13 S rfl (fun _ hx=>Lf.run_ld (S.ev rfl) fl3 (hx.cell _ _ (S.cl c_6))) fun _ S=>?_
    refine AN.zq (hg:=GOk.mk rfl rfl hb_1) 19 S rfl (fun _=>Lf.run_geq (S.ev rfl) (S.ev rfl)) fun _ S=>?_
    refine AN.zq 20 S rfl (fun _=>run_pickF (S.ev rfl) hb_1 (S.ev rfl)) fun _ S=>?_
    refine AN.zq 21 S rfl (fun _=>Lf.run_move (S.ev rfl)) fun _ S=>?_
    rcases Bool.eq_false_or_eq_true (decide (((x22.n:Nat):Int)≤x18)) with hb_2|hb_2
    ·
     replace H:=H.1 hb_2
     refine AN.zn 22 S rfl (GNo.mk rfl rfl hb_2) fun _ S=>?_
     refine AN.zn 23 S rfl (GNo.mk rfl rfl hb_2) fun _ S=>?_
     refine AN.zn 24 S rfl (GNo.mk rfl rfl hb_2) fun _ S=>?_
     refine AN.zn 25 S rfl (GNo.mk rfl rfl hb_2) fun _ S=>?_
     refine AN.zn 26 S rfl (GNo.mk rfl rfl hb_2) fun _ S=>?_
     refine AN.zn 27 S rfl (GNo.mk rfl rfl hb_2) fun _ S=>?_
     refine AN.zq 28 S rfl (fun _=>run_pickT (S.ev rfl) hb_2 (S.ev rfl)) fun _ S=>?_
     refine AN.done (by kernel_rfl) ?_
     exact⟨true,S.sub _ ⟨rfl,rfl,trivial⟩,H⟩
    ·
     replace H:=H.2 hb_2
     obtain⟨x27,c_7,H⟩:=H
     refine AN.zl (hg:=GOk.mk rfl rfl hb_2) 22 S rfl (fun _ hx=>Lf.run_ld (S.ev rfl) fl38 (hx.cell _ _ (S.cl c_7))) fun _ S=>?_
     obtain⟨p28,e_3,H⟩:=H
     refine AN.zq (hg:=GOk.mk rfl rfl hb_2) 23 S rfl (fun _=>Lf.run_nc' (S.ev rfl) e_3) fun _ S=>?_
     refine AN.zq (hg:=GOk.mk rfl rfl hb_2) 24 S rfl (fun _=>Lf.run_fa (S.ev rfl) fa30_3) fun _ S=>?_
     obtain⟨x30,c_8,H⟩:=H
     refine AN.zl (hg:=GOk.mk rfl rfl hb_2) 25 S rfl (fun _ hx=>Lf.run_ld (S.ev rfl) fl28 (hx.cell _ _ (S.cl c_8))) fun _ S=>?_
     refine AN.zq (hg:=GOk.mk rfl rfl hb_2) 26 S rfl (fun _=>Lf.run_lens (S.ev rfl) rfl Try.underlying28) fun _ S=>?_
     refine AN.zq (hg:=GOk.mk rfl rfl hb_2) 27 S rfl (fun _=>Lf.run_eql (S.ev rfl) (S.ev rfl)) fun _ S=>?_
     refine AN.zq 28 S rfl (fun _=>run_pickF (S.ev rfl) hb_2 (S.ev rfl)) fun _ S=>?_
     refine AN.done (by kernel_rfl) ?_
     exact⟨(((x30.n:Nat):Int) == 0),S.sub _ ⟨rfl,rfl,trivial⟩,H⟩
 ·
  clear H S
  rintro aa ww ⟨x33,S,HJ⟩
  have H:=HK _ HJ
  clear HK HJ
  refine W.cond S (b:=x33) rfl (fun hb_6=>?_) (fun hb_6=>?_)
  ·
   replace H:=H.1 hb_6
   refine W.seq ?_
   refine W.region ?_
   refine OL.za S fun _ S=>?_
   refine OL.nil ?_
   refine W.ret ?_
   exact Ret.one S rfl rfl H
  ·
   replace H:=H.2 hb_6
   refine W.skip ?_
   refine W.seq ?_
   refine W.seq ?_
   refine W.region ?_
   obtain⟨x34,c_9,H⟩:=H
   refine OL.zl S fl38 c_9 fun _ S=>?_
   obtain⟨p35,e_4,H⟩:=H
   refine OL.zq S (Lf.run_nc' (S.ev rfl) e_4) fun _ S=>?_
   refine OL.zf S fa30_3 fun _ S=>?_
   obtain⟨x37,c_10,H⟩:=H
   refine OL.zl S fl28 c_10 fun _ S=>?_
   refine OL.zq S (Lf.run_lens (S.ev rfl) rfl Try.underlying28) fun _ S=>?_
   refine OL.zm S fun _ S=>?_
   refine OL.nil ?_
   refine W.block ?_
   obtain⟨I,m,H,HB⟩:=H
   refine W.loopS (σ:=Int×Heap) (fun s aa ww=>St 57 [(1,Value.pointer (some p1)),(37,Value.slice x37.a x37.n x37.c),(38,Value.int .i64 ((x37.n:Nat):Int)),(39,Value.int .i64 s.1)] s.2 w0 aa ww∧I s.1 s.2) (fun s=>m s.1 s.2) (0,h1) ⟨S.sub _ ⟨rfl,rfl,rfl,rfl,trivial⟩,H⟩ ?_
   clear H S
   rintro ⟨x39,h2⟩ aa ww ⟨S,HI⟩
   replace S:St 57 [(1,Value.pointer (some p1)),(37,Value.slice x37.a x37.n x37.c),(38,Value.int .i64 ((x37.n:Nat):Int)),(39,Value.int .i64 x39)] h2 w0 aa ww:=S
   have H:=HB x39 h2 HI
   clear HI
   refine W.seq ?_
   refine W.region ?_
   refine OL.zq S (Lf.run_lss (S.ev rfl) (S.ev rfl)) fun _ S=>?_
   refine OL.nil ?_
   refine W.seq ?_
   refine W.cond S (b:=(decide (x39<((x37.n:Nat):Int)))) rfl (fun hb_7=>?_) (fun hb_7=>?_)
   ·
    replace H:=H.1 hb_7
    refine W.skip ?_
    refine W.seq ?_
    refine W.block ?_
    refine W.seq ?_
    refine W.region ?_
    refine OL.zm S fun _ S=>?_
    obtain⟨q42,e_5,e_6,e_7,H⟩:=H
    refine OL.zq S (Lf.run_ixs (S.ev rfl) (S.ev rfl) Try.underlying28 ti74 e_5 e_6 e_7) fun _ S=>?_
    obtain⟨y43,y43_1,y43_2,y43_3,y43_4,y43_5,y43_6,y43_7,y43_8,y43_9,y43_10,y43_11,y43_12,y43_13,y43_14,y43_15,y43_16,y43_17,y43_18,y43_19,y43_20,c_36,c_37,c_38,c_39,c_40,c_41,c_42,c_43,c_44,c_45,c_46,c_47,c_48,c_49,c_50,c_51,c_52,c_53,c_54,c_55,c_56,H⟩:=H
    refine OL.zq S (Lf.run_ldA (cs:=[Value.int .i64 y43,Value.int .i64 y43_1,Value.int .i64 y43_2,Value.slice y43_3.a y43_3.n y43_3.c,Value.int .i64 y43_4,Value.slice y43_5.a y43_5.n y43_5.c,Value.int .i64 y43_6,Value.slice y43_7.a y43_7.n y43_7.c,Value.bool y43_8,Value.string y43_9,Value.int .i64 y43_10,Value.slice y43_11.a y43_11.n y43_11.c,Value.int .i64 y43_12,Value.int .i64 y43_13,Value.slice y43_14.a y43_14.n y43_14.c,Value.int .i64 y43_15,Value.int .u64 y43_16,Value.int .i64 y43_17,Value.int .i64 y43_18,Value.int .i64 y43_19,Value.int .i64 y43_20]) (S.ev rfl) ag74 ti74 (by rw[S.heap];exact RowL.toRow ⟨c_36,c_37,c_38,c_39,c_40,c_41,c_42,c_43,c_44,c_45,c_46,c_47,c_48,c_49,c_50,c_51,c_52,c_53,c_54,c_55,c_56,trivial⟩)) fun _ S=>?_
    refine ol_alloc S H ti74 rfl rfl trivial ?_
    clear S H;intro p4 aa ww h3 H S
    refine OL.za S fun _ S=>?_
    refine ol_stoA S H rfl rfl ti74 trivial ?_
    clear S H;intro aa ww h4 H S
    refine OL.nil ?_
    refine W.seq ?_
    refine W.region ?_
    obtain⟨x44,c_12,H⟩:=H
    refine OL.zl S fl38 c_12 fun _ S=>?_
    obtain⟨y45,y45_1,y45_2,y45_3,y45_4,y45_5,y45_6,y45_7,y45_8,y45_9,y45_10,y45_11,y45_12,y45_13,y45_14,y45_15,y45_16,y45_17,y45_18,y45_19,y45_20,c_15,c_16,c_17,c_18,c_19,c_20,c_21,c_22,c_23,c_24,c_25,c_26,c_27,c_28,c_29,c_30,c_31,c_32,c_33,c_34,c_35,H⟩:=H
    refine OL.zq S (Lf.run_ldA (cs:=[Value.int .i64 y45,Value.int .i64 y45_1,Value.int .i64 y45_2,Value.slice y45_3.a y45_3.n y45_3.c,Value.int .i64 y45_4,Value.slice y45_5.a y45_5.n y45_5.c,Value.int .i64 y45_6,Value.slice y45_7.a y45_7.n y45_7.c,Value.bool y45_8,Value.string y45_9,Value.int .i64 y45_10,Value.slice y45_11.a y45_11.n y45_11.c,Value.int .i64 y45_12,Value.int .i64 y45_13,Value.slice y45_14.a y45_14.n y45_14.c,Value.int .i64 y45_15,Value.int .u64 y45_16,Value.int .i64 y45_17,Value.int .i64 y45_18,Value.int .i64 y45_19,Value.int .i64 y45_20]) (S.ev rfl) ag74 ti74 (by rw[S.heap];exact RowL.toRow ⟨c_15,c_16,c_17,c_18,c_19,c_20,c_21,c_22,c_23,c_24,c_25,c_26,c_27,c_28,c_29,c_30,c_31,c_32,c_33,c_34,c_35,trivial⟩)) fun _ S=>?_
    refine ol_cal S H isfn48 rfl rfl trivial ?_
    clear S H;intro u aa ww h5 H S
    obtain⟨x46,rfl,H⟩:=H
    refine OL.zq S (Lf.run_not (S.ev rfl)) fun _ S=>?_
    refine OL.zm S fun _ S=>?_
    obtain⟨J_1,H,HK_1⟩:=H
    refine OL.cutN 6 (fun aa ww=>∃x54 h6,St 57 ((54,Value.bool x54) :: [(1,Value.pointer (some p1)),(3,Value.int .i64 x39),(4,Value.pointer (some p4)),(37,Value.slice x37.a x37.n x37.c),(38,Value.int .i64 ((x37.n:Nat):Int)),(39,Value.int .i64 x39),(44,Value.pointer x44),(45,Value.agg #[Value.int .i64 y45,Value.int .i64 y45_1,Value.int .i64 y45_2,Value.slice y45_3.a y45_3.n y45_3.c,Value.int .i64 y45_4,Value.slice y45_5.a y45_5.n y45_5.c,Value.int .i64 y45_6,Value.slice y45_7.a y45_7.n y45_7.c,Value.bool y45_8,Value.string y45_9,Value.int .i64 y45_10,Value.slice y45_11.a y45_11.n y45_11.c,Value.int .i64 y45_12,Value.int .i64 y45_13,Value.slice y45_14.a y45_14.n y45_14.c,Value.int .i64 y45_15,Value.int .u64 y45_16,Value.int .i64 y45_17,Value.int .i64 y45_18,Value.int .i64 y45_19,Value.int .i64 y45_20]),(46,Value.bool x46),(47,Value.bool (!x46)),(48,Value.bool (!x46))]) h6 w0 aa ww∧J_1 x54 h6) ?_ ?_
    ·
     rcases Bool.eq_false_or_eq_true (!x46) with hb_8|hb_8
     ·
      replace H:=H.1 hb_8
      refine OL.zn S (GNo.mk rfl rfl hb_8) fun _ S=>?_
      refine OL.zn S (GNo.mk rfl rfl hb_8) fun _ S=>?_
      refine OL.zn S (GNo.mk rfl rfl hb_8) fun _ S=>?_
      refine OL.zn S (GNo.mk rfl rfl hb_8) fun _ S=>?_
      refine OL.zn S (GNo.mk rfl rfl hb_8) fun _ S=>?_
      refine OL.zq S (Lf.run_pickT (S.ev rfl) hb_8 (S.ev rfl)) fun _ S=>?_
      refine OL.nil ?_
      exact⟨_,_,S.sub _ ⟨rfl,rfl,rfl,rfl,rfl,rfl,rfl,rfl,rfl,rfl,rfl,rfl,trivial⟩,H⟩
     ·
      replace H:=H.2 hb_8
      obtain⟨x49,c_14,H⟩:=H
      refine OL.zl (hg:=GOk.mk rfl rfl hb_8) S fl38 c_14 fun _ S=>?_
      refine OL.zm (hg:=GOk.mk rfl rfl hb_8) S fun _ S=>?_
      refine ol_cal S H isfn29 rfl rfl (GOk.mk rfl rfl hb_8) ?_
      clear S H;intro u_1 aa ww h7 H S
      obtain⟨x51,rfl,H⟩:=H
      refine OL.zq (hg:=GOk.mk rfl rfl hb_8) S (Lf.run_mf (evs_map S rfl)) fun _ S=>?_
      refine ol_cal S H isfn49 rfl rfl (GOk.mk rfl rfl hb_8) ?_
      clear S H;intro u_2 aa ww h8 H S
      obtain⟨x53,rfl,H⟩:=H
      refine OL.zq S (Lf.run_pickF (S.ev rfl) hb_8 (S.ev rfl)) fun _ S=>?_
      refine OL.nil ?_
      exact⟨_,_,S.sub _ ⟨rfl,rfl,rfl,rfl,rfl,rfl,rfl,rfl,rfl,rfl,rfl,rfl,trivial⟩,H⟩
    ·
     clear S
     rintro aa ww ⟨x54,h6,S,HJ⟩
     replace H:=HK_1 _ _ HJ
     clear HK_1 HJ
     refine OL.nil ?_
     refine W.cond S (b:=x54) rfl (fun hb_9=>?_) (fun hb_9=>?_)
     ·
      replace H:=H.1 hb_9
      refine W.seq ?_
      refine W.region ?_
      refine OL.zm S fun _ S=>?_
      refine OL.za S fun _ S=>?_
      refine OL.nil ?_
      refine W.ret ?_
      exact Ret.one S rfl rfl H
     ·
      replace H:=H.2 hb_9
      refine W.skip ?_
      refine W.region ?_
      refine OL.zq S (Lf.run_add (S.ev rfl) (S.ev rfl)) fun _ S=>?_
      refine OL.zm S fun _ S=>?_
      refine OL.nil ?_
      exact⟨((IntKind.i64.wrap (x39+1)),h6),⟨S.sub _ ⟨rfl,rfl,rfl,rfl,trivial⟩,H.1⟩,H.2⟩
   ·
    replace H:=H.2 hb_7
    refine W.exit_ ?_
    refine xhit ?_
    refine W.seq ?_
    refine W.region ?_
    refine OL.za S fun _ S=>?_
    refine OL.nil ?_
    refine W.ret ?_
    exact Ret.one S rfl rfl H
def L39 (x0:Sv) (h:Heap) (R:Value→Heap→Prop):Prop:=
 ∃(I:Int→Heap→Prop) (m:Int→Heap→Nat),I (IntKind.i64.wrap (((x0.n:Nat):Int) - 1)) h∧∀i3 h1,I i3 h1 →
 ifb (decide (0<i3)) (
  ixS x0 i3 fun q13=>
  ldI .i64 h1 (q13.add ((i3:Int).toNat*1)) fun x14=>
  ixS x0 (IntKind.i64.wrap (i3 - 1)) fun q18=>
  ldI .i64 h1 (q18.add (((IntKind.i64.wrap (i3 - 1)):Int).toNat*1)) fun x19=>
  cal Try.prog 51 #[Value.int .i64 x14,Value.int .i64 x19] h1 fun u h2=>asB u fun x20=>
  ifb x20 (
   R (Value.bool false) h2) (
   I (IntKind.i64.wrap (i3 - 1)) h2∧m (IntKind.i64.wrap (i3 - 1)) h2<m i3 h1)) (
  R (Value.bool true) h1)
set_option maxRecDepth 100000 in
theorem F39 {x0 h:_} {R:Value→Heap→Prop} (H:L39 x0 h R):CallsH Try.prog 39 #[Value.slice x0.a x0.n x0.c] h R:=by
 refine CallsH.enter (n:=21) Try.func39 rfl rfl rfl rfl ?_
 intro w0 aa ww S
 unfold L39 at H
 refine W.seq ?_
 refine W.region ?_
 refine OL.za S fun _ S=>?_
 refine OL.nil ?_
 refine W.seq ?_
 refine W.seq ?_
 refine W.region ?_
 refine OL.zm S fun _ S=>?_
 refine OL.zq S (Lf.run_lens (S.ev rfl) rfl Try.underlying47) fun _ S=>?_
 refine OL.zq S (Lf.run_sub (S.ev rfl) (S.ev rfl)) fun _ S=>?_
 refine OL.za S fun _ S=>?_
 refine OL.nil ?_
 refine W.block ?_
 obtain⟨I,m,H,HB⟩:=H
 refine W.loopS (σ:=Int×Heap) (fun s aa ww=>St 21 [(0,Value.slice x0.a x0.n x0.c),(3,Value.int .i64 s.1)] s.2 w0 aa ww∧I s.1 s.2) (fun s=>m s.1 s.2) ((IntKind.i64.wrap (((x0.n:Nat):Int) - 1)),h) ⟨S.sub _ ⟨rfl,rfl,trivial⟩,H⟩ ?_
 clear H S
 rintro ⟨i3,h1⟩ aa ww ⟨S,HI⟩
 replace S:St 21 [(0,Value.slice x0.a x0.n x0.c),(3,Value.int .i64 i3)] h1 w0 aa ww:=S
 have H:=HB i3 h1 HI
 clear HI
 refine W.seq ?_
 refine W.seq ?_
 refine W.region ?_
 refine OL.zm S fun _ S=>?_
 refine OL.zq S (Lf.run_gtr (S.ev rfl) (S.ev rfl)) fun _ S=>?_
 refine OL.nil ?_
 refine W.cond S (b:=(decide (0<i3))) rfl (fun hb=>?_) (fun hb=>?_)
 ·
  replace H:=H.1 hb
  refine W.skip ?_
  refine W.seq ?_
  refine W.block ?_
  refine W.seq ?_
  replace S:=S.sub [(0,Value.slice x0.a x0.n x0.c),(3,Value.int .i64 i3)] ⟨rfl,rfl,trivial⟩
  refine W.regionD S (by kernel_rfl) ?_
  clear S;intro ww S
  refine AN.zq 0 S rfl (fun _=>Lf.run_move (S.ev rfl)) fun _ S=>?_
  refine AN.zq 1 S rfl (fun _=>Lf.run_move (S.ev rfl)) fun _ S=>?_
  obtain⟨q13,e,e_1,e_2,H⟩:=H
  refine AN.zq 2 S rfl (fun _=>Lf.run_ixs (S.ev rfl) (S.ev rfl) Try.underlying47 ti3 e e_1 e_2) fun _ S=>?_
  obtain⟨x14,c,H⟩:=H
  refine AN.zl 3 S rfl (fun _ hx=>Lf.run_ld (S.ev rfl) fl3 (hx.cell _ _ (S.cl c))) fun _ S=>?_
  refine AN.zq 4 S rfl (fun _=>Lf.run_move (S.ev rfl)) fun _ S=>?_
  refine AN.zq 5 S rfl (fun _=>Lf.run_move (S.ev rfl)) fun _ S=>?_
  refine AN.zq 6 S rfl (fun _=>Lf.run_sub (S.ev rfl) (S.ev rfl)) fun _ S=>?_
  obtain⟨q18,e_3,e_4,e_5,H⟩:=H
  refine AN.zq 7 S rfl (fun _=>Lf.run_ixs (S.ev rfl) (S.ev rfl) Try.underlying47 ti3 e_3 e_4 e_5) fun _ S=>?_
  obtain⟨x19,c_1,H⟩:=H
  refine AN.zl 8 S rfl (fun _ hx=>Lf.run_ld (S.ev rfl) fl3 (hx.cell _ _ (S.cl c_1))) fun _ S=>?_
  refine AN.eff 9 rfl (by kernel_rfl) ?_
  refine ol_cal S H isfn51 rfl rfl trivial ?_
  clear S H;intro u aa ww h2 H S
  obtain⟨x20,rfl,H⟩:=H
  refine OL.nil ?_
  refine AN.done (by kernel_rfl) ?_
  refine W.cond S (b:=x20) rfl (fun hb_1=>?_) (fun hb_1=>?_)
  ·
   replace H:=H.1 hb_1
   refine W.seq ?_
   refine W.region ?_
   refine OL.za S fun _ S=>?_
   refine OL.nil ?_
   refine W.ret ?_
   exact Ret.one S rfl rfl H
  ·
   replace H:=H.2 hb_1
   refine W.skip ?_
   refine W.region ?_
   refine OL.zm S fun _ S=>?_
   refine OL.zq S (Lf.run_sub (S.ev rfl) (S.ev rfl)) fun _ S=>?_
   refine OL.za S fun _ S=>?_
   refine OL.nil ?_
   exact⟨((IntKind.i64.wrap (i3 - 1)),h2),⟨S.sub _ ⟨rfl,rfl,trivial⟩,H.1⟩,H.2⟩
 ·
  replace H:=H.2 hb
  refine W.exit_ ?_
  refine xhit ?_
  refine W.seq ?_
  refine W.region ?_
  refine OL.za S fun _ S=>?_
  refine OL.nil ?_
  refine W.ret ?_
  exact Ret.one S rfl rfl H
def L40 (x0:Sv) (target1:Int) (h:Heap) (R:Value→Heap→Prop):Prop:=
 ∃(I:Int→Int→Heap→Prop) (m:Int→Int→Heap→Nat),I 0 ((x0.n:Nat):Int) h∧∀i7 j8 h1,I i7 j8 h1 →
 ifb (decide (i7<j8)) (
  ixS x0 (IntKind.i64.wrap (((IntKind.u64.wrap (IntKind.i64.wrap (i7+j8))):Int).fdiv (2 ^ (min (1:Int).toNat IntKind.u64.bits)))) fun q24=>
  ldI .i64 h1 (q24.add (((IntKind.i64.wrap (((IntKind.u64.wrap (IntKind.i64.wrap (i7+j8))):Int).fdiv (2 ^ (min (1:Int).toNat IntKind.u64.bits)))):Int).toNat*1)) fun x25=>
  cal Try.prog 51 #[Value.int .i64 x25,Value.int .i64 target1] h1 fun u h2=>asB u fun x27=>
  ifb x27 (
   I (IntKind.i64.wrap ((IntKind.i64.wrap (((IntKind.u64.wrap (IntKind.i64.wrap (i7+j8))):Int).fdiv (2 ^ (min (1:Int).toNat IntKind.u64.bits))))+1)) j8 h2∧m (IntKind.i64.wrap ((IntKind.i64.wrap (((IntKind.u64.wrap (IntKind.i64.wrap (i7+j8))):Int).fdiv (2 ^ (min (1:Int).toNat IntKind.u64.bits))))+1)) j8 h2<m i7 j8 h1) (
   I i7 (IntKind.i64.wrap (((IntKind.u64.wrap (IntKind.i64.wrap (i7+j8))):Int).fdiv (2 ^ (min (1:Int).toNat IntKind.u64.bits)))) h2∧m i7 (IntKind.i64.wrap (((IntKind.u64.wrap (IntKind.i64.wrap (i7+j8))):Int).fdiv (2 ^ (min (1:Int).toNat IntKind.u64.bits)))) h2<m i7 j8 h1)) (
  ∃J:Bool→Heap→Prop,(andj (decide (i7<((x0.n:Nat):Int))) (fun k=>
   ixS x0 i7 fun q38=>
   ldI .i64 h1 (q38.add ((i7:Int).toNat*1)) fun x39=>
   ∃J_1:Bool→Heap→Prop,(orj (x39 == target1) (fun k_1=>
    ixS x0 i7 fun q45=>
    ldI .i64 h1 (q45.add ((i7:Int).toNat*1)) fun x46=>
    cal Try.prog 52 #[Value.int .i64 x46] h1 fun u_1 h5=>asB u_1 fun x47=>
    ∃J_2:Bool→Heap→Prop,(andj x47 (fun k_2=>
     cal Try.prog 52 #[Value.int .i64 target1] h5 fun u_2 h7=>asB u_2 fun x50=>
     k_2 x50 h7) h5 J_2)∧∀x51 h6,J_2 x51 h6 →
    k_1 x51 h6) h1 J_1)∧∀x52 h4,J_1 x52 h4 →
   k x52 h4) h1 J)∧∀x53 h3,J x53 h3 →
  R (.tuple #[Value.int .i64 i7,Value.bool x53]) h3)
set_option maxRecDepth 100000 in
theorem F40 {x0 target1 h:_} {R:Value→Heap→Prop} (H:L40 x0 target1 h R):CallsH Try.prog 40 #[Value.slice x0.a x0.n x0.c,Value.int .i64 target1] h R:=by
 refine CallsH.enter (n:=54) Try.func40 rfl rfl rfl rfl ?_
 intro w0 aa ww S
 unfold L40 at H
 refine W.seq ?_
 refine W.region ?_
 refine OL.za S fun _ S=>?_
 refine OL.za S fun _ S=>?_
 refine OL.nil ?_
 refine W.seq ?_
 refine W.region ?_
 refine OL.zm S fun _ S=>?_
 refine OL.zq S (Lf.run_lens (S.ev rfl) rfl Try.underlying47) fun _ S=>?_
 refine OL.za S fun _ S=>?_
 refine OL.nil ?_
 refine W.seq ?_
 refine W.region ?_
 refine OL.zm S fun _ S=>?_
 refine OL.za S fun _ S=>?_
 refine OL.za S fun _ S=>?_
 refine OL.nil ?_
 refine W.seq ?_
 refine W.block ?_
 obtain⟨I,m,H,HB⟩:=H
 refine W.loopS (σ:=Int×Int×Heap) (fun s aa ww=>St 54 [(0,Value.slice x0.a x0.n x0.c),(1,Value.int .i64 target1),(6,Value.int .i64 ((x0.n:Nat):Int)),(7,Value.int .i64 s.1),(8,Value.int .i64 s.2.1)] s.2.2 w0 aa ww∧I s.1 s.2.1 s.2.2) (fun s=>m s.1 s.2.1 s.2.2) (0,((x0.n:Nat):Int),h) ⟨S.sub _ ⟨rfl,rfl,rfl,rfl,rfl,trivial⟩,H⟩ ?_
 clear H S
 rintro ⟨i7,j8,h1⟩ aa ww ⟨S,HI⟩
 replace S:St 54 [(0,Value.slice x0.a x0.n x0.c),(1,Value.int .i64 target1),(6,Value.int .i64 ((x0.n:Nat):Int)),(7,Value.int .i64 i7),(8,Value.int .i64 j8)] h1 w0 aa ww:=S
 have H:=HB i7 j8 h1 HI
 clear HI
 refine W.seq ?_
 refine W.seq ?_
 refine W.region ?_
 refine OL.zm S fun _ S=>?_
 refine OL.zm S fun _ S=>?_
 refine OL.zq S (Lf.run_lss (S.ev rfl) (S.ev rfl)) fun _ S=>?_
 refine OL.nil ?_
 refine W.cond S (b:=(decide (i7<j8))) rfl (fun hb=>?_) (fun hb=>?_)
 ·
  replace H:=H.1 hb
  refine W.skip ?_
  refine W.block ?_
  refine W.seq ?_
  refine W.region ?_
  refine OL.zm S fun _ S=>?_
  refine OL.zm S fun _ S=>?_
  refine OL.zq S (Lf.run_add (S.ev rfl) (S.ev rfl)) fun _ S=>?_
  refine OL.zq S (Lf.run_cvi Try.underlying3 Try.underlying118 (S.ev rfl)) fun _ S=>?_
  refine OL.zq S (Lf.run_shr (S.ev rfl) (S.ev rfl) (by decide)) fun _ S=>?_
  refine OL.zq S (Lf.run_cvi Try.underlying118 Try.underlying3 (S.ev rfl)) fun _ S=>?_
  refine OL.za S fun _ S=>?_
  refine OL.nil ?_
  refine W.seq ?_
  refine W.region ?_
  refine OL.zm S fun _ S=>?_
  refine OL.zm S fun _ S=>?_
  obtain⟨q24,e,e_1,e_2,H⟩:=H
  refine OL.zq S (Lf.run_ixs (S.ev rfl) (S.ev rfl) Try.underlying47 ti3 e e_1 e_2) fun _ S=>?_
  obtain⟨x25,c,H⟩:=H
  refine OL.zl S fl3 c fun _ S=>?_
  refine OL.zm S fun _ S=>?_
  refine ol_cal S H isfn51 rfl rfl trivial ?_
  clear S H;intro u aa ww h2 H S
  obtain⟨x27,rfl,H⟩:=H
  refine OL.nil ?_
  refine W.cond S (b:=x27) rfl (fun hb_1=>?_) (fun hb_1=>?_)
  ·
   replace H:=H.1 hb_1
   refine W.region ?_
   refine OL.zm S fun _ S=>?_
   refine OL.zq S (Lf.run_add (S.ev rfl) (S.ev rfl)) fun _ S=>?_
   refine OL.za S fun _ S=>?_
   refine OL.nil ?_
   exact⟨((IntKind.i64.wrap ((IntKind.i64.wrap (((IntKind.u64.wrap (IntKind.i64.wrap (i7+j8))):Int).fdiv (2 ^ (min (1:Int).toNat IntKind.u64.bits))))+1)),j8,h2),⟨S.sub _ ⟨rfl,rfl,rfl,rfl,rfl,trivial⟩,H.1⟩,H.2⟩
  ·
   replace H:=H.2 hb_1
   refine W.region ?_
   refine OL.zm S fun _ S=>?_
   refine OL.za S fun _ S=>?_
   refine OL.nil ?_
   exact⟨(i7,(IntKind.i64.wrap (((IntKind.u64.wrap (IntKind.i64.wrap (i7+j8))):Int).fdiv (2 ^ (min (1:Int).toNat IntKind.u64.bits)))),h2),⟨S.sub _ ⟨rfl,rfl,rfl,rfl,rfl,trivial⟩,H.1⟩,H.2⟩
 ·
  replace H:=H.2 hb
  refine W.exit_ ?_
  refine xhit ?_
  refine W.seq ?_
  refine W.region ?_
  refine OL.zm S fun _ S=>?_
  refine OL.zm S fun _ S=>?_
  refine OL.zm S fun _ S=>?_
  refine OL.zq S (Lf.run_lss (S.ev rfl) (S.ev rfl)) fun _ S=>?_
  refine OL.zm S fun _ S=>?_
  obtain⟨J,H,HK⟩:=H
  refine OL.cutN 18 (fun aa ww=>∃x53 h3,St 54 ((53,Value.bool x53) :: [(0,Value.slice x0.a x0.n x0.c),(1,Value.int .i64 target1),(6,Value.int .i64 ((x0.n:Nat):Int)),(7,Value.int .i64 i7),(31,Value.int .i64 i7),(32,Value.int .i64 i7),(33,Value.int .i64 ((x0.n:Nat):Int)),(34,Value.bool (decide (i7<((x0.n:Nat):Int)))),(35,Value.bool (decide (i7<((x0.n:Nat):Int))))]) h3 w0 aa ww∧J x53 h3) ?_ ?_
  ·
   rcases Bool.eq_false_or_eq_true (decide (i7<((x0.n:Nat):Int))) with hb_2|hb_2
   ·
    replace H:=H.1 hb_2
    refine OL.zm (hg:=GOk.mk rfl rfl hb_2) S fun _ S=>?_
    refine OL.zm (hg:=GOk.mk rfl rfl hb_2) S fun _ S=>?_
    obtain⟨q38,e_3,e_4,e_5,H⟩:=H
    refine OL.zq (hg:=GOk.mk rfl rfl hb_2) S (Lf.run_ixs (S.ev rfl) (S.ev rfl) Try.underlying47 ti3 e_3 e_4 e_5) fun _ S=>?_
    obtain⟨x39,c_2,H⟩:=H
    refine OL.zl (hg:=GOk.mk rfl rfl hb_2) S fl3 c_2 fun _ S=>?_
    refine OL.zm (hg:=GOk.mk rfl rfl hb_2) S fun _ S=>?_
    refine OL.zq (hg:=GOk.mk rfl rfl hb_2) S (Lf.run_eql (S.ev rfl) (S.ev rfl)) fun _ S=>?_
    refine OL.zm (hg:=GOk.mk rfl rfl hb_2) S fun _ S=>?_
    obtain⟨J_1,H,HK_1⟩:=H
    refine OL.cutN 10 (fun aa ww=>∃x52 h4,St 54 ((52,Value.bool x52) :: [(0,Value.slice x0.a x0.n x0.c),(1,Value.int .i64 target1),(6,Value.int .i64 ((x0.n:Nat):Int)),(7,Value.int .i64 i7),(31,Value.int .i64 i7),(32,Value.int .i64 i7),(33,Value.int .i64 ((x0.n:Nat):Int)),(34,Value.bool (decide (i7<((x0.n:Nat):Int)))),(35,Value.bool (decide (i7<((x0.n:Nat):Int)))),(36,Value.slice x0.a x0.n x0.c),(37,Value.int .i64 i7),(38,Value.pointer (some (q38.add ((i7:Int).toNat*1)))),(39,Value.int .i64 x39),(40,Value.int .i64 target1),(41,Value.bool (x39 == target1)),(42,Value.bool (x39 == target1))]) h4 w0 aa ww∧J_1 x52 h4) ?_ ?_
    ·
     rcases Bool.eq_false_or_eq_true (x39 == target1) with hb_3|hb_3
     ·
      replace H:=H.1 hb_3
      refine OL.zn S (GNo.mk rfl rfl hb_3) fun _ S=>?_
      refine OL.zn S (GNo.mk rfl rfl hb_3) fun _ S=>?_
      refine OL.zn S (GNo.mk rfl rfl hb_3) fun _ S=>?_
      refine OL.zn S (GNo.mk rfl rfl hb_3) fun _ S=>?_
      refine OL.zn S (GNo.mk rfl rfl hb_3) fun _ S=>?_
      refine OL.zn S (GNo.mk rfl rfl hb_3) fun _ S=>?_
      refine OL.zn S (GNo.un rfl rfl) fun _ S=>?_
      refine OL.zn S (GNo.un rfl rfl) fun _ S=>?_
      refine OL.zn S (GNo.mk rfl rfl hb_3) fun _ S=>?_
      refine OL.zq (hg:=GOk.mk rfl rfl hb_2) S (Lf.run_pickT (S.ev rfl) hb_3 (S.ev rfl)) fun _ S=>?_
      refine OL.nil ?_
      exact⟨_,_,S.sub _ ⟨rfl,rfl,rfl,rfl,rfl,rfl,rfl,rfl,rfl,rfl,rfl,rfl,rfl,rfl,rfl,rfl,rfl,trivial⟩,H⟩
     ·
      replace H:=H.2 hb_3
      refine OL.zm (hg:=GOk.mk rfl rfl hb_3) S fun _ S=>?_
      refine OL.zm (hg:=GOk.mk rfl rfl hb_3) S fun _ S=>?_
      obtain⟨q45,e_6,e_7,e_8,H⟩:=H
      refine OL.zq (hg:=GOk.mk rfl rfl hb_3) S (Lf.run_ixs (S.ev rfl) (S.ev rfl) Try.underlying47 ti3 e_6 e_7 e_8) fun _ S=>?_
      obtain⟨x46,c_3,H⟩:=H
      refine OL.zl (hg:=GOk.mk rfl rfl hb_3) S fl3 c_3 fun _ S=>?_
      refine ol_cal S H isfn52 rfl rfl (GOk.mk rfl rfl hb_3) ?_
      clear S H;intro u_1 aa ww h5 H S
      obtain⟨x47,rfl,H⟩:=H
      refine OL.zm (hg:=GOk.mk rfl rfl hb_3) S fun _ S=>?_
      obtain⟨J_2,H,HK_2⟩:=H
      refine OL.cutN 3 (fun aa ww=>∃x51 h6,St 54 ((51,Value.bool x51) :: [(0,Value.slice x0.a x0.n x0.c),(1,Value.int .i64 target1),(6,Value.int .i64 ((x0.n:Nat):Int)),(7,Value.int .i64 i7),(31,Value.int .i64 i7),(32,Value.int .i64 i7),(33,Value.int .i64 ((x0.n:Nat):Int)),(34,Value.bool (decide (i7<((x0.n:Nat):Int)))),(35,Value.bool (decide (i7<((x0.n:Nat):Int)))),(36,Value.slice x0.a x0.n x0.c),(37,Value.int .i64 i7),(38,Value.pointer (some (q38.add ((i7:Int).toNat*1)))),(39,Value.int .i64 x39),(40,Value.int .i64 target1),(41,Value.bool (x39 == target1)),(42,Value.bool (x39 == target1)),(43,Value.slice x0.a x0.n x0.c),(44,Value.int .i64 i7),(45,Value.pointer (some (q45.add ((i7:Int).toNat*1)))),(46,Value.int .i64 x46),(47,Value.bool x47),(48,Value.bool x47)]) h6 w0 aa ww∧J_2 x51 h6) ?_ ?_
      ·
       rcases Bool.eq_false_or_eq_true x47 with hb_4|hb_4
       ·
        replace H:=H.1 hb_4
        refine OL.zm (hg:=GOk.mk rfl rfl hb_4) S fun _ S=>?_
        refine ol_cal S H isfn52 rfl rfl (GOk.mk rfl rfl hb_4) ?_
        clear S H;intro u_2 aa ww h7 H S
        obtain⟨x50,rfl,H⟩:=H
        refine OL.zq (hg:=GOk.mk rfl rfl hb_3) S (Lf.run_pickT (S.ev rfl) hb_4 (S.ev rfl)) fun _ S=>?_
        refine OL.nil ?_
        exact⟨_,_,S.sub _ ⟨rfl,rfl,rfl,rfl,rfl,rfl,rfl,rfl,rfl,rfl,rfl,rfl,rfl,rfl,rfl,rfl,rfl,rfl,rfl,rfl,rfl,rfl,rfl,trivial⟩,H⟩
       ·
        replace H:=H.2 hb_4
        refine OL.zn S (GNo.mk rfl rfl hb_4) fun _ S=>?_
        refine OL.zn S (GNo.mk rfl rfl hb_4) fun _ S=>?_
        refine OL.zq (hg:=GOk.mk rfl rfl hb_3) S (Lf.run_pickF (S.ev rfl) hb_4 (S.ev rfl)) fun _ S=>?_
        refine OL.nil ?_
        exact⟨_,_,S.sub _ ⟨rfl,rfl,rfl,rfl,rfl,rfl,rfl,rfl,rfl,rfl,rfl,rfl,rfl,rfl,rfl,rfl,rfl,rfl,rfl,rfl,rfl,rfl,rfl,trivial⟩,H⟩
      ·
       clear S
       rintro aa ww ⟨x51,h6,S,HJ⟩
       replace H:=HK_2 _ _ HJ
       clear HK_2 HJ
       refine OL.zq (hg:=GOk.mk rfl rfl hb_2) S (Lf.run_pickF (S.ev rfl) hb_3 (S.ev rfl)) fun _ S=>?_
       refine OL.nil ?_
       exact⟨_,_,S.sub _ ⟨rfl,rfl,rfl,rfl,rfl,rfl,rfl,rfl,rfl,rfl,rfl,rfl,rfl,rfl,rfl,rfl,rfl,trivial⟩,H⟩
    ·
     clear S
     rintro aa ww ⟨x52,h4,S,HJ⟩
     replace H:=HK_1 _ _ HJ
     clear HK_1 HJ
     refine OL.zq S (Lf.run_pickT (S.ev rfl) hb_2 (S.ev rfl)) fun _ S=>?_
     refine OL.nil ?_
     exact⟨_,_,S.sub _ ⟨rfl,rfl,rfl,rfl,rfl,rfl,rfl,rfl,rfl,rfl,trivial⟩,H⟩
   ·
    replace H:=H.2 hb_2
    refine OL.zn S (GNo.mk rfl rfl hb_2) fun _ S=>?_
    refine OL.zn S (GNo.mk rfl rfl hb_2) fun _ S=>?_
    refine OL.zn S (GNo.mk rfl rfl hb_2) fun _ S=>?_
    refine OL.zn S (GNo.mk rfl rfl hb_2) fun _ S=>?_
    refine OL.zn S (GNo.mk rfl rfl hb_2) fun _ S=>?_
    refine OL.zn S (GNo.mk rfl rfl hb_2) fun _ S=>?_
    refine OL.zn S (GNo.mk rfl rfl hb_2) fun _ S=>?_
    refine OL.zn S (GNo.un rfl rfl) fun _ S=>?_
    refine OL.zn S (GNo.un rfl rfl) fun _ S=>?_
    refine OL.zn S (GNo.un rfl rfl) fun _ S=>?_
    refine OL.zn S (GNo.un rfl rfl) fun _ S=>?_
    refine OL.zn S (GNo.un rfl rfl) fun _ S=>?_
    refine OL.zn S (GNo.un rfl rfl) fun _ S=>?_
    refine OL.zn S (GNo.un rfl rfl) fun _ S=>?_
    refine OL.zn S (GNo.un rfl rfl) fun _ S=>?_
    refine OL.zn S (GNo.un rfl rfl) fun _ S=>?_
    refine OL.zn S (GNo.mk rfl rfl hb_2) fun _ S=>?_
    refine OL.zq S (Lf.run_pickF (S.ev rfl) hb_2 (S.ev rfl)) fun _ S=>?_
    refine OL.nil ?_
    exact⟨_,_,S.sub _ ⟨rfl,rfl,rfl,rfl,rfl,rfl,rfl,rfl,rfl,rfl,trivial⟩,H⟩
  ·
   clear S
   rintro aa ww ⟨x53,h3,S,HJ⟩
   replace H:=HK _ _ HJ
   clear HK HJ
   refine OL.za S fun _ S=>?_
   refine OL.za S fun _ S=>?_
   refine OL.nil ?_
   refine W.ret ?_
   exact Ret.two S rfl rfl rfl H
def L41 (p0:Sv) (p0_1:Int) (p0_2:Sv) (p0_3:Sv) (p0_4:Sv) (h:Heap) (R:Value→Heap→Prop):Prop:=
 new 88 #[Value.slice p0.a p0.n p0.c,Value.int .i64 p0_1,Value.slice p0_2.a p0_2.n p0_2.c,Value.slice p0_3.a p0_3.n p0_3.c,Value.slice p0_4.a p0_4.n p0_4.c] h fun p1 h1=>
 ldS h1 p1 fun x5=>
 ∃J:Bool→Prop,(orr (decide (1201<((x5.n:Nat):Int))) (fun k=>
  ldI .i64 h1 (p1.add 1) fun x11=>
  k (decide (x11<0))) J)∧∀x13,J x13 →
 ∃J_1:Bool→Prop,(orr x13 (fun k_1=>
  ldI .i64 h1 (p1.add 1) fun x16=>
  k_1 (decide (4000<x16))) J_1)∧∀x18,J_1 x18 →
 ifb x18 (
  R (Value.int .i64 2) h1) (
  ldS h1 p1 fun x20=>
  cal Try.prog 53 #[Value.slice x20.a x20.n x20.c,Value.int .i64 ((x5.n:Nat):Int),Value.int .i64 ((x5.n:Nat):Int)] h1 fun u h2=>asB u fun x23=>
  ∃J_2:Bool→Heap→Prop,(orj (!x23) (fun k_2=>
   ldS h2 (p1.add 2) fun x27=>
   ldI .i64 h2 (p1.add 1) fun x30=>
   cal Try.prog 53 #[Value.slice x27.a x27.n x27.c,Value.int .i64 ((x5.n:Nat):Int),Value.int .i64 x30] h2 fun u_1 h4=>asB u_1 fun x31=>
   k_2 (!x31) h4) h2 J_2)∧∀x33 h3,J_2 x33 h3 →
  ∃J_3:Bool→Heap→Prop,(orj x33 (fun k_3=>
   ldS h3 (p1.add 3) fun x36=>
   ldI .i64 h3 (p1.add 1) fun x39=>
   cal Try.prog 53 #[Value.slice x36.a x36.n x36.c,Value.int .i64 ((x5.n:Nat):Int),Value.int .i64 x39] h3 fun u_2 h6=>asB u_2 fun x40=>
   k_3 (!x40) h6) h3 J_3)∧∀x42 h5,J_3 x42 h5 →
  ∃J_4:Bool→Heap→Prop,(orj x42 (fun k_4=>
   ldS h5 (p1.add 4) fun x45=>
   newS 47 #[Value.slice x45.a x45.n x45.c] 1 h5 fun s46 h8=>
   ldI .i64 h8 (p1.add 1) fun x48=>
   cal Try.prog 53 #[Value.slice s46.a s46.n s46.c,Value.int .i64 1,Value.int .i64 x48] h8 fun u_3 h9=>asB u_3 fun x49=>
   k_4 (!x49) h9) h5 J_4)∧∀x51 h7,J_4 x51 h7 →
  ifb x51 (
   R (Value.int .i64 14) h7) (
   R (Value.int .i64 0) h7))
set_option maxRecDepth 100000 in
theorem F41 {p0 p0_1 p0_2 p0_3 p0_4 h:_} {R:Value→Heap→Prop} (H:L41 p0 p0_1 p0_2 p0_3 p0_4 h R):CallsH Try.prog 41 #[Value.agg #[Value.slice p0.a p0.n p0.c,Value.int .i64 p0_1,Value.slice p0_2.a p0_2.n p0_2.c,Value.slice p0_3.a p0_3.n p0_3.c,Value.slice p0_4.a p0_4.n p0_4.c]] h R:=by
 refine CallsH.enter (n:=52) Try.func41 rfl rfl rfl rfl ?_
 intro w0 aa ww S
 unfold L41 at H
 refine W.seq ?_
 refine W.region ?_
 refine ol_box S H rfl rfl rfl trivial ?_
 clear S H;intro p1 aa ww h1 H S
 refine OL.za S fun _ S=>?_
 refine OL.nil ?_
 refine W.seq ?_
 refine W.region ?_
 refine OL.zf S fa88_0 fun _ S=>?_
 obtain⟨x5,c,H⟩:=H
 refine OL.zl S fl42 c fun _ S=>?_
 refine OL.zq S (Lf.run_lens (S.ev rfl) rfl Try.underlying42) fun _ S=>?_
 refine OL.za S fun _ S=>?_
 refine OL.nil ?_
 refine W.seq ?_
 refine W.seq ?_
 refine W.region ?_
 refine OL.zm S fun _ S=>?_
 refine OL.zq S (Lf.run_gtr (S.ev rfl) (S.ev rfl)) fun _ S=>?_
 refine OL.zm S fun _ S=>?_
 obtain⟨J,H,HK⟩:=H
 refine OL.cutN 4 (fun aa ww=>∃x13,St 52 ((13,Value.bool x13) :: [(1,Value.pointer (some p1)),(3,Value.int .i64 ((x5.n:Nat):Int)),(7,Value.int .i64 ((x5.n:Nat):Int)),(8,Value.bool (decide (1201<((x5.n:Nat):Int)))),(9,Value.bool (decide (1201<((x5.n:Nat):Int))))]) h1 w0 aa ww∧J x13) ?_ ?_
 ·
  rcases Bool.eq_false_or_eq_true (decide (1201<((x5.n:Nat):Int))) with hb|hb
  ·
   replace H:=H.1 hb
   refine OL.zn S (GNo.mk rfl rfl hb) fun _ S=>?_
   refine OL.zn S (GNo.mk rfl rfl hb) fun _ S=>?_
   refine OL.zn S (GNo.mk rfl rfl hb) fun _ S=>?_
   refine OL.zq S (Lf.run_pickT (S.ev rfl) hb (S.ev rfl)) fun _ S=>?_
   refine OL.nil ?_
   exact⟨_,S.sub _ ⟨rfl,rfl,rfl,rfl,rfl,rfl,trivial⟩,H⟩
  ·
   replace H:=H.2 hb
   refine OL.zf (hg:=GOk.mk rfl rfl hb) S fa88_1 fun _ S=>?_
   obtain⟨x11,c_1,H⟩:=H
   refine OL.zl (hg:=GOk.mk rfl rfl hb) S fl3 c_1 fun _ S=>?_
   refine OL.zq (hg:=GOk.mk rfl rfl hb) S (Lf.run_lss (S.ev rfl) (S.ev rfl)) fun _ S=>?_
   refine OL.zq S (Lf.run_pickF (S.ev rfl) hb (S.ev rfl)) fun _ S=>?_
   refine OL.nil ?_
   exact⟨_,S.sub _ ⟨rfl,rfl,rfl,rfl,rfl,rfl,trivial⟩,H⟩
 ·
  clear S
  rintro aa ww ⟨x13,S,HJ⟩
  replace H:=HK _ HJ
  clear HK HJ
  refine OL.zm S fun _ S=>?_
  obtain⟨J_1,H,HK_1⟩:=H
  refine OL.cutN 4 (fun aa ww=>∃x18,St 52 ((18,Value.bool x18) :: [(1,Value.pointer (some p1)),(3,Value.int .i64 ((x5.n:Nat):Int)),(7,Value.int .i64 ((x5.n:Nat):Int)),(8,Value.bool (decide (1201<((x5.n:Nat):Int)))),(9,Value.bool (decide (1201<((x5.n:Nat):Int)))),(13,Value.bool x13),(14,Value.bool x13)]) h1 w0 aa ww∧J_1 x18) ?_ ?_
  ·
   rcases Bool.eq_false_or_eq_true x13 with hb_1|hb_1
   ·
    replace H:=H.1 hb_1
    refine OL.zn S (GNo.mk rfl rfl hb_1) fun _ S=>?_
    refine OL.zn S (GNo.mk rfl rfl hb_1) fun _ S=>?_
    refine OL.zn S (GNo.mk rfl rfl hb_1) fun _ S=>?_
    refine OL.zq S (Lf.run_pickT (S.ev rfl) hb_1 (S.ev rfl)) fun _ S=>?_
    refine OL.nil ?_
    exact⟨_,S.sub _ ⟨rfl,rfl,rfl,rfl,rfl,rfl,rfl,rfl,trivial⟩,H⟩
   ·
    replace H:=H.2 hb_1
    refine OL.zf (hg:=GOk.mk rfl rfl hb_1) S fa88_1 fun _ S=>?_
    obtain⟨x16,c_2,H⟩:=H
    refine OL.zl (hg:=GOk.mk rfl rfl hb_1) S fl3 c_2 fun _ S=>?_
    refine OL.zq (hg:=GOk.mk rfl rfl hb_1) S (Lf.run_gtr (S.ev rfl) (S.ev rfl)) fun _ S=>?_
    refine OL.zq S (Lf.run_pickF (S.ev rfl) hb_1 (S.ev rfl)) fun _ S=>?_
    refine OL.nil ?_
    exact⟨_,S.sub _ ⟨rfl,rfl,rfl,rfl,rfl,rfl,rfl,rfl,trivial⟩,H⟩
  ·
   clear S
   rintro aa ww ⟨x18,S,HJ⟩
   replace H:=HK_1 _ HJ
   clear HK_1 HJ
   refine OL.nil ?_
   refine W.cond S (b:=x18) rfl (fun hb_2=>?_) (fun hb_2=>?_)
   ·
    replace H:=H.1 hb_2
    refine W.seq ?_
    refine W.region ?_
    refine OL.za S fun _ S=>?_
    refine OL.nil ?_
    refine W.ret ?_
    exact Ret.one S rfl rfl H
   ·
    replace H:=H.2 hb_2
    refine W.skip ?_
    refine W.seq ?_
    refine W.seq ?_
    refine W.region ?_
    refine OL.zf S fa88_0 fun _ S=>?_
    obtain⟨x20,c_3,H⟩:=H
    refine OL.zl S fl42 c_3 fun _ S=>?_
    refine OL.zm S fun _ S=>?_
    refine OL.zm S fun _ S=>?_
    refine ol_cal S H isfn53 rfl rfl trivial ?_
    clear S H;intro u aa ww h2 H S
    obtain⟨x23,rfl,H⟩:=H
    refine OL.zq S (Lf.run_not (S.ev rfl)) fun _ S=>?_
    refine OL.zm S fun _ S=>?_
    obtain⟨J_2,H,HK_2⟩:=H
    refine OL.cutN 8 (fun aa ww=>∃x33 h3,St 52 ((33,Value.bool x33) :: [(1,Value.pointer (some p1)),(3,Value.int .i64 ((x5.n:Nat):Int)),(19,Value.pointer (some p1)),(20,Value.slice x20.a x20.n x20.c),(21,Value.int .i64 ((x5.n:Nat):Int)),(22,Value.int .i64 ((x5.n:Nat):Int)),(23,Value.bool x23),(24,Value.bool (!x23)),(25,Value.bool (!x23))]) h3 w0 aa ww∧J_2 x33 h3) ?_ ?_
    ·
     rcases Bool.eq_false_or_eq_true (!x23) with hb_3|hb_3
     ·
      replace H:=H.1 hb_3
      refine OL.zn S (GNo.mk rfl rfl hb_3) fun _ S=>?_
      refine OL.zn S (GNo.mk rfl rfl hb_3) fun _ S=>?_
      refine OL.zn S (GNo.mk rfl rfl hb_3) fun _ S=>?_
      refine OL.zn S (GNo.mk rfl rfl hb_3) fun _ S=>?_
      refine OL.zn S (GNo.mk rfl rfl hb_3) fun _ S=>?_
      refine OL.zn S (GNo.mk rfl rfl hb_3) fun _ S=>?_
      refine OL.zn S (GNo.mk rfl rfl hb_3) fun _ S=>?_
      refine OL.zq S (Lf.run_pickT (S.ev rfl) hb_3 (S.ev rfl)) fun _ S=>?_
      refine OL.nil ?_
      exact⟨_,_,S.sub _ ⟨rfl,rfl,rfl,rfl,rfl,rfl,rfl,rfl,rfl,rfl,trivial⟩,H⟩
     ·
      replace H:=H.2 hb_3
      refine OL.zf (hg:=GOk.mk rfl rfl hb_3) S fa88_2 fun _ S=>?_
      obtain⟨x27,c_4,H⟩:=H
      refine OL.zl (hg:=GOk.mk rfl rfl hb_3) S fl42 c_4 fun _ S=>?_
      refine OL.zm (hg:=GOk.mk rfl rfl hb_3) S fun _ S=>?_
      refine OL.zf (hg:=GOk.mk rfl rfl hb_3) S fa88_1 fun _ S=>?_
      obtain⟨x30,c_5,H⟩:=H
      refine OL.zl (hg:=GOk.mk rfl rfl hb_3) S fl3 c_5 fun _ S=>?_
      refine ol_cal S H isfn53 rfl rfl (GOk.mk rfl rfl hb_3) ?_
      clear S H;intro u_1 aa ww h4 H S
      obtain⟨x31,rfl,H⟩:=H
      refine OL.zq (hg:=GOk.mk rfl rfl hb_3) S (Lf.run_not (S.ev rfl)) fun _ S=>?_
      refine OL.zq S (Lf.run_pickF (S.ev rfl) hb_3 (S.ev rfl)) fun _ S=>?_
      refine OL.nil ?_
      exact⟨_,_,S.sub _ ⟨rfl,rfl,rfl,rfl,rfl,rfl,rfl,rfl,rfl,rfl,trivial⟩,H⟩
    ·
     clear S
     rintro aa ww ⟨x33,h3,S,HJ⟩
     replace H:=HK_2 _ _ HJ
     clear HK_2 HJ
     refine OL.zm S fun _ S=>?_
     obtain⟨J_3,H,HK_3⟩:=H
     refine OL.cutN 8 (fun aa ww=>∃x42 h5,St 52 ((42,Value.bool x42) :: [(1,Value.pointer (some p1)),(3,Value.int .i64 ((x5.n:Nat):Int)),(19,Value.pointer (some p1)),(20,Value.slice x20.a x20.n x20.c),(21,Value.int .i64 ((x5.n:Nat):Int)),(22,Value.int .i64 ((x5.n:Nat):Int)),(23,Value.bool x23),(24,Value.bool (!x23)),(25,Value.bool (!x23)),(33,Value.bool x33),(34,Value.bool x33)]) h5 w0 aa ww∧J_3 x42 h5) ?_ ?_
     ·
      rcases Bool.eq_false_or_eq_true x33 with hb_4|hb_4
      ·
       replace H:=H.1 hb_4
       refine OL.zn S (GNo.mk rfl rfl hb_4) fun _ S=>?_
       refine OL.zn S (GNo.mk rfl rfl hb_4) fun _ S=>?_
       refine OL.zn S (GNo.mk rfl rfl hb_4) fun _ S=>?_
       refine OL.zn S (GNo.mk rfl rfl hb_4) fun _ S=>?_
       refine OL.zn S (GNo.mk rfl rfl hb_4) fun _ S=>?_
       refine OL.zn S (GNo.mk rfl rfl hb_4) fun _ S=>?_
       refine OL.zn S (GNo.mk rfl rfl hb_4) fun _ S=>?_
       refine OL.zq S (Lf.run_pickT (S.ev rfl) hb_4 (S.ev rfl)) fun _ S=>?_
       refine OL.nil ?_
       exact⟨_,_,S.sub _ ⟨rfl,rfl,rfl,rfl,rfl,rfl,rfl,rfl,rfl,rfl,rfl,rfl,trivial⟩,H⟩
      ·
       replace H:=H.2 hb_4
       refine OL.zf (hg:=GOk.mk rfl rfl hb_4) S fa88_3 fun _ S=>?_
       obtain⟨x36,c_6,H⟩:=H
       refine OL.zl (hg:=GOk.mk rfl rfl hb_4) S fl42 c_6 fun _ S=>?_
       refine OL.zm (hg:=GOk.mk rfl rfl hb_4) S fun _ S=>?_
       refine OL.zf (hg:=GOk.mk rfl rfl hb_4) S fa88_1 fun _ S=>?_
       obtain⟨x39,c_7,H⟩:=H
       refine OL.zl (hg:=GOk.mk rfl rfl hb_4) S fl3 c_7 fun _ S=>?_
       refine ol_cal S H isfn53 rfl rfl (GOk.mk rfl rfl hb_4) ?_
       clear S H;intro u_2 aa ww h6 H S
       obtain⟨x40,rfl,H⟩:=H
       refine OL.zq (hg:=GOk.mk rfl rfl hb_4) S (Lf.run_not (S.ev rfl)) fun _ S=>?_
       refine OL.zq S (Lf.run_pickF (S.ev rfl) hb_4 (S.ev rfl)) fun _ S=>?_
       refine OL.nil ?_
       exact⟨_,_,S.sub _ ⟨rfl,rfl,rfl,rfl,rfl,rfl,rfl,rfl,rfl,rfl,rfl,rfl,trivial⟩,H⟩
     ·
      clear S
      rintro aa ww ⟨x42,h5,S,HJ⟩
      replace H:=HK_3 _ _ HJ
      clear HK_3 HJ
      refine OL.zm S fun _ S=>?_
      obtain⟨J_4,H,HK_4⟩:=H
      refine OL.cutN 8 (fun aa ww=>∃x51 h7,St 52 ((51,Value.bool x51) :: [(1,Value.pointer (some p1)),(3,Value.int .i64 ((x5.n:Nat):Int)),(19,Value.pointer (some p1)),(20,Value.slice x20.a x20.n x20.c),(21,Value.int .i64 ((x5.n:Nat):Int)),(22,Value.int .i64 ((x5.n:Nat):Int)),(23,Value.bool x23),(24,Value.bool (!x23)),(25,Value.bool (!x23)),(33,Value.bool x33),(34,Value.bool x33),(42,Value.bool x42),(43,Value.bool x42)]) h7 w0 aa ww∧J_4 x51 h7) ?_ ?_
      ·
       rcases Bool.eq_false_or_eq_true x42 with hb_5|hb_5
       ·
        replace H:=H.1 hb_5
        refine OL.zn S (GNo.mk rfl rfl hb_5) fun _ S=>?_
        refine OL.zn S (GNo.mk rfl rfl hb_5) fun _ S=>?_
        refine OL.zn S (GNo.mk rfl rfl hb_5) fun _ S=>?_
        refine OL.zn S (GNo.mk rfl rfl hb_5) fun _ S=>?_
        refine OL.zn S (GNo.mk rfl rfl hb_5) fun _ S=>?_
        refine OL.zn S (GNo.mk rfl rfl hb_5) fun _ S=>?_
        refine OL.zn S (GNo.mk rfl rfl hb_5) fun _ S=>?_
        refine OL.zq S (Lf.run_pickT (S.ev rfl) hb_5 (S.ev rfl)) fun _ S=>?_
        refine OL.nil ?_
        exact⟨_,_,S.sub _ ⟨rfl,rfl,rfl,rfl,rfl,rfl,rfl,rfl,rfl,rfl,rfl,rfl,rfl,rfl,trivial⟩,H⟩
       ·
        replace H:=H.2 hb_5
        refine OL.zf (hg:=GOk.mk rfl rfl hb_5) S fa88_4 fun _ S=>?_
        obtain⟨x45,c_8,H⟩:=H
        refine OL.zl (hg:=GOk.mk rfl rfl hb_5) S fl47 c_8 fun _ S=>?_
        refine ol_newS S H Try.underlying42 ti47 (by decide) (parts_map S rfl) (by kernel_rfl) (by decide) rfl (GOk.mk rfl rfl hb_5) ?_
        clear S H;intro s46 aa ww h8 H S
        refine OL.zf (hg:=GOk.mk rfl rfl hb_5) S fa88_1 fun _ S=>?_
        obtain⟨x48,c_9,H⟩:=H
        refine OL.zl (hg:=GOk.mk rfl rfl hb_5) S fl3 c_9 fun _ S=>?_
        refine ol_cal S H isfn53 rfl rfl (GOk.mk rfl rfl hb_5) ?_
        clear S H;intro u_3 aa ww h9 H S
        obtain⟨x49,rfl,H⟩:=H
        refine OL.zq (hg:=GOk.mk rfl rfl hb_5) S (Lf.run_not (S.ev rfl)) fun _ S=>?_
        refine OL.zq S (Lf.run_pickF (S.ev rfl) hb_5 (S.ev rfl)) fun _ S=>?_
        refine OL.nil ?_
        exact⟨_,_,S.sub _ ⟨rfl,rfl,rfl,rfl,rfl,rfl,rfl,rfl,rfl,rfl,rfl,rfl,rfl,rfl,trivial⟩,H⟩
      ·
       clear S
       rintro aa ww ⟨x51,h7,S,HJ⟩
       replace H:=HK_4 _ _ HJ
       clear HK_4 HJ
       refine OL.nil ?_
       refine W.cond S (b:=x51) rfl (fun hb_6=>?_) (fun hb_6=>?_)
       ·
        replace H:=H.1 hb_6
        refine W.seq ?_
        refine W.region ?_
        refine OL.za S fun _ S=>?_
        refine OL.nil ?_
        refine W.ret ?_
        exact Ret.one S rfl rfl H
       ·
        replace H:=H.2 hb_6
        refine W.skip ?_
        refine W.seq ?_
        refine W.region ?_
        refine OL.za S fun _ S=>?_
        refine OL.nil ?_
        refine W.ret ?_
        exact Ret.one S rfl rfl H
def L42 (p0:Sv) (p0_1:Int) (p0_2:Sv) (p0_3:Sv) (p0_4:Sv) (h:Heap) (R:Value→Heap→Prop):Prop:=
 new 88 #[Value.slice p0.a p0.n p0.c,Value.int .i64 p0_1,Value.slice p0_2.a p0_2.n p0_2.c,Value.slice p0_3.a p0_3.n p0_3.c,Value.slice p0_4.a p0_4.n p0_4.c] h fun p1 h1=>
 ldI .i64 h1 (p1.add 1) fun x5=>
 new 109 #[Value.int .i64 x5,Value.slice (⟨none,0,0⟩:Sv).a (⟨none,0,0⟩:Sv).n (⟨none,0,0⟩:Sv).c] h1 fun p7 h2=>
 ldS h2 p1 fun x9=>
 ∃(I:Int→Heap→Prop) (m:Int→Heap→Nat),I 0 h2∧∀x11 h3,I x11 h3 →
 ifb (decide (x11<((x9.n:Nat):Int))) (
  ∃Sq:Heap→Prop,Sq h3∧(
   ldI .i64 h3 (p1.add 1) fun x19=>
   hlS Sq (p7.add 1) fun x17=>
   mkS 52 (Value.int .u64 0).cells 1 8 (IntKind.i64.wrap (((IntKind.i64.wrap (x19+63)):Int).tdiv 64)) (IntKind.i64.wrap (((IntKind.i64.wrap (x19+63)):Int).tdiv 64)) h3 fun s22 h4=>
   Sq h4 ∧
   newS 111 #[Value.slice s22.a s22.n s22.c] 1 h4 fun s23 h5=>
   Sq h5 ∧
   appS 111 (Value.slice (⟨none,0,0⟩:Sv).a (⟨none,0,0⟩:Sv).n (⟨none,0,0⟩:Sv).c).cells 1 24 h5 x17 s23 fun s24 h6=>
   sto h6 (p7.add 1) (Value.slice s24.a s24.n s24.c) fun h7=>
   I (IntKind.i64.wrap (x11+1)) h7∧m (IntKind.i64.wrap (x11+1)) h7<m x11 h3)) (
  R (Value.pointer (some p7)) h3)
set_option maxRecDepth 100000 in
theorem F42 {p0 p0_1 p0_2 p0_3 p0_4 h:_} {R:Value→Heap→Prop} (H:L42 p0 p0_1 p0_2 p0_3 p0_4 h R):CallsH Try.prog 42 #[Value.agg #[Value.slice p0.a p0.n p0.c,Value.int .i64 p0_1,Value.slice p0_2.a p0_2.n p0_2.c,Value.slice p0_3.a p0_3.n p0_3.c,Value.slice p0_4.a p0_4.n p0_4.c]] h R:=by
 refine CallsH.enter (n:=29) Try.func42 rfl rfl rfl rfl ?_
 intro w0 aa ww S
 unfold L42 at H
 refine W.seq ?_
 refine W.region ?_
 refine ol_box S H rfl rfl rfl trivial ?_
 clear S H;intro p1 aa ww h1 H S
 refine OL.za S fun _ S=>?_
 refine OL.nil ?_
 refine W.seq ?_
 refine W.region ?_
 refine OL.zf S fa88_1 fun _ S=>?_
 obtain⟨x5,c,H⟩:=H
 refine OL.zl S fl3 c fun _ S=>?_
 refine OL.zq S (Lf.run_build (cs:=#[Value.int .i64 x5,Value.slice (⟨none,0,0⟩:Sv).a (⟨none,0,0⟩:Sv).n (⟨none,0,0⟩:Sv).c]) pl109 ti109 (parts_map S rfl) (by kernel_rfl)) fun _ S=>?_
 refine ol_box S H rfl rfl rfl trivial ?_
 clear S H;intro p7 aa ww h2 H S
 refine OL.za S fun _ S=>?_
 refine OL.nil ?_
 refine W.seq ?_
 refine W.seq ?_
 refine W.region ?_
 refine OL.zf S fa88_0 fun _ S=>?_
 obtain⟨x9,c_1,H⟩:=H
 refine OL.zl S fl42 c_1 fun _ S=>?_
 refine OL.zq S (Lf.run_lens (S.ev rfl) rfl Try.underlying42) fun _ S=>?_
 refine OL.zm S fun _ S=>?_
 refine OL.nil ?_
 refine W.block ?_
 obtain⟨I,m,H,HB⟩:=H
 refine W.loopS (σ:=Int×Heap) (fun s aa ww=>St 29 [(1,Value.pointer (some p1)),(3,Value.pointer (some p7)),(10,Value.int .i64 ((x9.n:Nat):Int)),(11,Value.int .i64 s.1)] s.2 w0 aa ww∧I s.1 s.2) (fun s=>m s.1 s.2) (0,h2) ⟨S.sub _ ⟨rfl,rfl,rfl,rfl,trivial⟩,H⟩ ?_
 clear H S
 rintro ⟨x11,h3⟩ aa ww ⟨S,HI⟩
 replace S:St 29 [(1,Value.pointer (some p1)),(3,Value.pointer (some p7)),(10,Value.int .i64 ((x9.n:Nat):Int)),(11,Value.int .i64 x11)] h3 w0 aa ww:=S
 have H:=HB x11 h3 HI
 clear HI
 refine W.seq ?_
 refine W.region ?_
 refine OL.zq S (Lf.run_lss (S.ev rfl) (S.ev rfl)) fun _ S=>?_
 refine OL.nil ?_
 refine W.seq ?_
 refine W.cond S (b:=(decide (x11<((x9.n:Nat):Int)))) rfl (fun hb=>?_) (fun hb=>?_)
 ·
  replace H:=H.1 hb
  refine W.skip ?_
  refine W.seq ?_
  refine W.block ?_
  replace S:=S.sub [(1,Value.pointer (some p1)),(3,Value.pointer (some p7)),(10,Value.int .i64 ((x9.n:Nat):Int)),(11,Value.int .i64 x11)] ⟨rfl,rfl,rfl,rfl,trivial⟩
  obtain⟨Sq,HS,H⟩:=H
  refine W.regionN [4] [9,10,11,14] Sq S (by kernel_rfl) ?_
  clear S;intro ww S
  refine BN.pure 0 S (fun _=>HS) rfl (by kernel_rfl) (by kernel_rfl) (fun _=>Lf.run_move (S.ev rfl)) rfl rfl trivial fun _ S=>?_
  refine BN.pure 1 S (fun _=>HS) rfl (by kernel_rfl) (by kernel_rfl) (fun _=>Lf.run_move (S.ev rfl)) rfl rfl trivial fun _ S=>?_
  refine BN.pure 2 S (fun _=>HS) rfl (by kernel_rfl) (by kernel_rfl) (fun _=>Lf.run_nc (S.ev rfl)) rfl rfl trivial fun _ S=>?_
  refine BN.pure 3 S (fun _=>HS) rfl (by kernel_rfl) (by kernel_rfl) (fun _=>Lf.run_fa (S.ev rfl) fa109_1) rfl rfl trivial fun _ S=>?_
  refine BN.pure 5 S (fun _=>HS) rfl (by kernel_rfl) (by kernel_rfl) (fun _=>Lf.run_fa (S.ev rfl) fa88_1) rfl rfl trivial fun _ S=>?_
  obtain⟨x19,c_2,H⟩:=H
  refine BN.load 6 S (fun _=>HS) rfl (by kernel_rfl) (by kernel_rfl) (fun _ hx=>Lf.run_ld (S.ev rfl) fl3 (hx.cell _ _ (S.cl c_2))) rfl rfl trivial fun _ S=>?_
  refine BN.pure 7 S (fun _=>HS) rfl (by kernel_rfl) (by kernel_rfl) (fun _=>Lf.run_add (S.ev rfl) (S.ev rfl)) rfl rfl trivial fun _ S=>?_
  refine BN.pure 8 S (fun _=>HS) rfl (by kernel_rfl) (by kernel_rfl) (fun _=>Lf.run_quo (S.ev rfl) (S.ev rfl) (by decide)) rfl rfl trivial fun _ S=>?_
  obtain⟨x17,c_3,H⟩:=H
  refine BN.held 4 S HS rfl (by kernel_rfl) (fun _ hq=>Lf.run_ld (S.ev rfl) fl107 (c_3 _ hq)) rfl rfl trivial fun _ S=>?_
  refine BN.eff 9 rfl (by kernel_rfl) ?_
  refine ol_mkS S H Try.underlying111 ti52 rfl rfl rfl trivial ?_
  clear S H;intro s22 aa ww h4 H S
  refine OL.nil ?_
  clear HS;obtain⟨HS,H⟩:=H
  refine⟨fun _=>by rw[S.heap];exact HS,?_⟩
  refine BN.eff 10 rfl (by kernel_rfl) ?_
  refine ol_newS S H Try.underlying107 ti111 (by decide) (parts_map S rfl) (by kernel_rfl) (by decide) rfl trivial ?_
  clear S H;intro s23 aa ww h5 H S
  refine OL.nil ?_
  clear HS;obtain⟨HS,H⟩:=H
  refine⟨fun _=>by rw[S.heap];exact HS,?_⟩
  refine BN.eff 11 rfl (by kernel_rfl) ?_
  refine ol_appS S H Try.underlying107 ti111 rfl rfl rfl trivial ?_
  clear S H;intro s24 aa ww h6 H S
  refine OL.nil ?_
  refine⟨noNeed (by kernel_rfl),?_⟩
  refine BN.pure 12 S (noNeed (by kernel_rfl)) rfl (by kernel_rfl) (by kernel_rfl) (fun _=>Lf.run_nc (S.ev rfl)) rfl rfl trivial fun _ S=>?_
  refine BN.pure 13 S (noNeed (by kernel_rfl)) rfl (by kernel_rfl) (by kernel_rfl) (fun _=>Lf.run_fa (S.ev rfl) fa109_1) rfl rfl trivial fun _ S=>?_
  refine BN.eff 14 rfl (by kernel_rfl) ?_
  refine ol_sto S H rfl rfl rfl ti107 trivial ?_
  clear S H;intro aa ww h7 H S
  refine OL.nil ?_
  refine⟨noNeed (by kernel_rfl),?_⟩
  refine BN.done (by kernel_rfl) ?_
  refine W.region ?_
  refine OL.zq S (Lf.run_add (S.ev rfl) (S.ev rfl)) fun _ S=>?_
  refine OL.zm S fun _ S=>?_
  refine OL.nil ?_
  exact⟨((IntKind.i64.wrap (x11+1)),h7),⟨S.sub _ ⟨rfl,rfl,rfl,rfl,trivial⟩,H.1⟩,H.2⟩
 ·
  replace H:=H.2 hb
  refine W.exit_ ?_
  refine xhit ?_
  refine W.seq ?_
  refine W.region ?_
  refine OL.zm S fun _ S=>?_
  refine OL.za S fun _ S=>?_
  refine OL.nil ?_
  refine W.ret ?_
  exact Ret.one S rfl rfl H
def L43 (s0:Sv) (l1:Sv) (h:Heap) (R:Value→Heap→Prop):Prop:=
 ∃(I:Int→Heap→Prop) (m:Int→Heap→Nat),I 0 h∧∀x8 h1,I x8 h1 →
 ifb (decide (x8<((l1.n:Nat):Int))) (
  ixS l1 x8 fun q10=>
  ldI .i64 h1 (q10.add ((x8:Int).toNat*1)) fun x11=>
  ixS s0 (IntKind.i64.wrap ((x11:Int).tdiv 64)) fun q15=>
  ldI .u64 h1 (q15.add (((IntKind.i64.wrap ((x11:Int).tdiv 64)):Int).toNat*1)) fun x16=>
  (0≤((x11:Int).tmod 64)) ∧
  ixS s0 (IntKind.i64.wrap ((x11:Int).tdiv 64)) fun q21=>
  sto h1 (q21.add (((IntKind.i64.wrap ((x11:Int).tdiv 64)):Int).toNat*1)) (Value.int .u64 (bitsI .or .u64 x16 (IntKind.u64.wrap (1*2 ^ (min (((x11:Int).tmod 64):Int).toNat IntKind.u64.bits))))) fun h2=>
  I (IntKind.i64.wrap (x8+1)) h2∧m (IntKind.i64.wrap (x8+1)) h2<m x8 h1) (
  R (.tuple #[]) h1)
set_option maxRecDepth 100000 in
theorem F43 {s0 l1 h:_} {R:Value→Heap→Prop} (H:L43 s0 l1 h R):CallsH Try.prog 43 #[Value.slice s0.a s0.n s0.c,Value.slice l1.a l1.n l1.c] h R:=by
 refine CallsH.enter (n:=23) Try.func43 rfl rfl rfl rfl ?_
 intro w0 aa ww S
 unfold L43 at H
 refine W.seq ?_
 refine W.region ?_
 refine OL.zm S fun _ S=>?_
 refine OL.zq S (Lf.run_lens (S.ev rfl) rfl Try.underlying47) fun _ S=>?_
 refine OL.zm S fun _ S=>?_
 refine OL.nil ?_
 refine W.block ?_
 obtain⟨I,m,H,HB⟩:=H
 refine W.loopS (σ:=Int×Heap) (fun s aa ww=>St 23 [(0,Value.slice s0.a s0.n s0.c),(6,Value.slice l1.a l1.n l1.c),(7,Value.int .i64 ((l1.n:Nat):Int)),(8,Value.int .i64 s.1)] s.2 w0 aa ww∧I s.1 s.2) (fun s=>m s.1 s.2) (0,h) ⟨S.sub _ ⟨rfl,rfl,rfl,rfl,trivial⟩,H⟩ ?_
 clear H S
 rintro ⟨x8,h1⟩ aa ww ⟨S,HI⟩
 replace S:St 23 [(0,Value.slice s0.a s0.n s0.c),(6,Value.slice l1.a l1.n l1.c),(7,Value.int .i64 ((l1.n:Nat):Int)),(8,Value.int .i64 x8)] h1 w0 aa ww:=S
 have H:=HB x8 h1 HI
 clear HI
 refine W.seq ?_
 refine W.region ?_
 refine OL.zq S (Lf.run_lss (S.ev rfl) (S.ev rfl)) fun _ S=>?_
 refine OL.nil ?_
 refine W.seq ?_
 refine W.cond S (b:=(decide (x8<((l1.n:Nat):Int)))) rfl (fun hb=>?_) (fun hb=>?_)
 ·
  replace H:=H.1 hb
  refine W.skip ?_
  refine W.seq ?_
  refine W.block ?_
  refine W.seq ?_
  refine W.region ?_
  obtain⟨q10,e,e_1,e_2,H⟩:=H
  refine OL.zq S (Lf.run_ixs (S.ev rfl) (S.ev rfl) Try.underlying47 ti3 e e_1 e_2) fun _ S=>?_
  obtain⟨x11,c,H⟩:=H
  refine OL.zl S fl3 c fun _ S=>?_
  refine OL.za S fun _ S=>?_
  refine OL.nil ?_
  replace S:=S.sub [(0,Value.slice s0.a s0.n s0.c),(5,Value.int .i64 x11),(6,Value.slice l1.a l1.n l1.c),(7,Value.int .i64 ((l1.n:Nat):Int)),(8,Value.int .i64 x8)] ⟨rfl,rfl,rfl,rfl,rfl,trivial⟩
  refine W.regionD S (by kernel_rfl) ?_
  clear S;intro ww S
  refine AN.zq 0 S rfl (fun _=>Lf.run_move (S.ev rfl)) fun _ S=>?_
  refine AN.zq 1 S rfl (fun _=>Lf.run_move (S.ev rfl)) fun _ S=>?_
  refine AN.zq 2 S rfl (fun _=>Lf.run_quo (S.ev rfl) (S.ev rfl) (by decide)) fun _ S=>?_
  obtain⟨q15,e_3,e_4,e_5,H⟩:=H
  refine AN.zq 3 S rfl (fun _=>Lf.run_ixs (S.ev rfl) (S.ev rfl) Try.underlying111 ti52 e_3 e_4 e_5) fun _ S=>?_
  obtain⟨x16,c_1,H⟩:=H
  refine AN.zl 4 S rfl (fun _ hx=>Lf.run_ld (S.ev rfl) fl52 (hx.cell _ _ (S.cl c_1))) fun _ S=>?_
  refine AN.zq 5 S rfl (fun _=>Lf.run_move (S.ev rfl)) fun _ S=>?_
  refine AN.zq 6 S rfl (fun _=>Lf.run_rem (S.ev rfl) (S.ev rfl) (by decide)) fun _ S=>?_
  obtain⟨c_2,H⟩:=H
  refine AN.zq 7 S rfl (fun _=>Lf.run_shl (S.ev rfl) (S.ev rfl) c_2) fun _ S=>?_
  refine AN.zq 8 S rfl (fun _=>Lf.run_bits (op:=.or) (by simp) (S.ev rfl) (S.ev rfl)) fun _ S=>?_
  obtain⟨q21,e_6,e_7,e_8,H⟩:=H
  refine AN.zq 9 S rfl (fun _=>Lf.run_ixs (S.ev rfl) (S.ev rfl) Try.underlying111 ti52 e_6 e_7 e_8) fun _ S=>?_
  refine AN.eff 10 rfl (by kernel_rfl) ?_
  refine ol_sto S H rfl rfl rfl ti52 trivial ?_
  clear S H;intro aa ww h2 H S
  refine OL.nil ?_
  refine AN.done (by kernel_rfl) ?_
  refine W.region ?_
  refine OL.zq S (Lf.run_add (S.ev rfl) (S.ev rfl)) fun _ S=>?_
  refine OL.zm S fun _ S=>?_
  refine OL.nil ?_
  exact⟨((IntKind.i64.wrap (x8+1)),h2),⟨S.sub _ ⟨rfl,rfl,rfl,rfl,trivial⟩,H.1⟩,H.2⟩
 ·
  replace H:=H.2 hb
  refine W.exit_ ?_
  refine xhit ?_
  exact Ret.none S rfl H
def L44 (p0:Sv) (p0_1:Int) (p0_2:Sv) (p0_3:Sv) (p0_4:Sv) (i1:Int) (s2:Sv) (h:Heap) (R:Value→Heap→Prop):Prop:=
 new 88 #[Value.slice p0.a p0.n p0.c,Value.int .i64 p0_1,Value.slice p0_2.a p0_2.n p0_2.c,Value.slice p0_3.a p0_3.n p0_3.c,Value.slice p0_4.a p0_4.n p0_4.c] h fun p3 h1=>
 mkS 52 (Value.int .u64 0).cells 1 8 ((s2.n:Nat):Int) ((s2.n:Nat):Int) h1 fun s12 h2=>
 cpS 1 h2 s12 s2 fun m15 h3=>
 ldS h3 (p3.add 3) fun x17=>
 cal Try.prog 54 #[Value.slice x17.a x17.n x17.c,Value.int .i64 i1] h3 fun u h4=>asS u fun x19=>
 ∃(I:Int→Heap→Prop) (m:Int→Heap→Nat),I 0 h4∧∀x21 h5,I x21 h5 →
 ifb (decide (x21<((x19.n:Nat):Int))) (
  ixS x19 x21 fun q23=>
  ldI .i64 h5 (q23.add ((x21:Int).toNat*1)) fun x24=>
  ixS s12 (IntKind.i64.wrap ((x24:Int).tdiv 64)) fun q28=>
  ldI .u64 h5 (q28.add (((IntKind.i64.wrap ((x24:Int).tdiv 64)):Int).toNat*1)) fun x29=>
  (0≤((x24:Int).tmod 64)) ∧
  ixS s12 (IntKind.i64.wrap ((x24:Int).tdiv 64)) fun q34=>
  sto h5 (q34.add (((IntKind.i64.wrap ((x24:Int).tdiv 64)):Int).toNat*1)) (Value.int .u64 (bitsI .andNot .u64 x29 (IntKind.u64.wrap (1*2 ^ (min (((x24:Int).tmod 64):Int).toNat IntKind.u64.bits))))) fun h6=>
  I (IntKind.i64.wrap (x21+1)) h6∧m (IntKind.i64.wrap (x21+1)) h6<m x21 h5) (
  ldS h5 (p3.add 2) fun x38=>
  cal Try.prog 54 #[Value.slice x38.a x38.n x38.c,Value.int .i64 i1] h5 fun u_1 h7=>asS u_1 fun x40=>
  cal Try.prog 43 #[Value.slice s12.a s12.n s12.c,Value.slice x40.a x40.n x40.c] h7 fun u_2 h8=>
  R (Value.slice s12.a s12.n s12.c) h8)
set_option maxRecDepth 100000 in
theorem F44 {p0 p0_1 p0_2 p0_3 p0_4 i1 s2 h:_} {R:Value→Heap→Prop} (H:L44 p0 p0_1 p0_2 p0_3 p0_4 i1 s2 h R):CallsH Try.prog 44 #[Value.agg #[Value.slice p0.a p0.n p0.c,Value.int .i64 p0_1,Value.slice p0_2.a p0_2.n p0_2.c,Value.slice p0_3.a p0_3.n p0_3.c,Value.slice p0_4.a p0_4.n p0_4.c],Value.int .i64 i1,Value.slice s2.a s2.n s2.c] h R:=by
 refine CallsH.enter (n:=43) Try.func44 rfl rfl rfl rfl ?_
 intro w0 aa ww S
 unfold L44 at H
 refine W.seq ?_
 refine W.region ?_
 refine ol_box S H rfl rfl rfl trivial ?_
 clear S H;intro p3 aa ww h1 H S
 refine OL.za S fun _ S=>?_
 refine OL.nil ?_
 refine W.seq ?_
 refine W.region ?_
 refine OL.zm S fun _ S=>?_
 refine OL.zq S (Lf.run_lens (S.ev rfl) rfl Try.underlying111) fun _ S=>?_
 refine ol_mkS S H Try.underlying111 ti52 rfl rfl rfl trivial ?_
 clear S H;intro s12 aa ww h2 H S
 refine OL.za S fun _ S=>?_
 refine OL.nil ?_
 refine W.seq ?_
 refine W.region ?_
 refine OL.zm S fun _ S=>?_
 refine OL.zm S fun _ S=>?_
 refine ol_cpS S H Try.underlying111 ti52 rfl rfl rfl trivial ?_
 clear S H;intro m15 aa ww h3 H S
 refine OL.nil ?_
 refine W.seq ?_
 refine W.seq ?_
 refine W.region ?_
 refine OL.zf S fa88_3 fun _ S=>?_
 obtain⟨x17,c,H⟩:=H
 refine OL.zl S fl42 c fun _ S=>?_
 refine OL.zm S fun _ S=>?_
 refine ol_cal S H isfn54 rfl rfl trivial ?_
 clear S H;intro u aa ww h4 H S
 obtain⟨x19,rfl,H⟩:=H
 refine OL.zq S (Lf.run_lens (S.ev rfl) rfl Try.underlying47) fun _ S=>?_
 refine OL.zm S fun _ S=>?_
 refine OL.nil ?_
 refine W.block ?_
 obtain⟨I,m,H,HB⟩:=H
 refine W.loopS (σ:=Int×Heap) (fun s aa ww=>St 43 [(1,Value.int .i64 i1),(3,Value.pointer (some p3)),(7,Value.slice s12.a s12.n s12.c),(19,Value.slice x19.a x19.n x19.c),(20,Value.int .i64 ((x19.n:Nat):Int)),(21,Value.int .i64 s.1)] s.2 w0 aa ww∧I s.1 s.2) (fun s=>m s.1 s.2) (0,h4) ⟨S.sub _ ⟨rfl,rfl,rfl,rfl,rfl,rfl,trivial⟩,H⟩ ?_
 clear H S
 rintro ⟨x21,h5⟩ aa ww ⟨S,HI⟩
 replace S:St 43 [(1,Value.int .i64 i1),(3,Value.pointer (some p3)),(7,Value.slice s12.a s12.n s12.c),(19,Value.slice x19.a x19.n x19.c),(20,Value.int .i64 ((x19.n:Nat):Int)),(21,Value.int .i64 x21)] h5 w0 aa ww:=S
 have H:=HB x21 h5 HI
 clear HI
 refine W.seq ?_
 refine W.region ?_
 refine OL.zq S (Lf.run_lss (S.ev rfl) (S.ev rfl)) fun _ S=>?_
 refine OL.nil ?_
 refine W.seq ?_
 refine W.cond S (b:=(decide (x21<((x19.n:Nat):Int)))) rfl (fun hb=>?_) (fun hb=>?_)
 ·
  replace H:=H.1 hb
  refine W.skip ?_
  refine W.seq ?_
  refine W.block ?_
  refine W.seq ?_
  refine W.region ?_
  obtain⟨q23,e,e_1,e_2,H⟩:=H
  refine OL.zq S (Lf.run_ixs (S.ev rfl) (S.ev rfl) Try.underlying47 ti3 e e_1 e_2) fun _ S=>?_
  obtain⟨x24,c_1,H⟩:=H
  refine OL.zl S fl3 c_1 fun _ S=>?_
  refine OL.za S fun _ S=>?_
  refine OL.nil ?_
  replace S:=S.sub [(1,Value.int .i64 i1),(3,Value.pointer (some p3)),(7,Value.slice s12.a s12.n s12.c),(9,Value.int .i64 x24),(19,Value.slice x19.a x19.n x19.c),(20,Value.int .i64 ((x19.n:Nat):Int)),(21,Value.int .i64 x21)] ⟨rfl,rfl,rfl,rfl,rfl,rfl,rfl,trivial⟩
  refine W.regionD S (by kernel_rfl) ?_
  clear S;intro ww S
  refine AN.zq 0 S rfl (fun _=>Lf.run_move (S.ev rfl)) fun _ S=>?_
  refine AN.zq 1 S rfl (fun _=>Lf.run_move (S.ev rfl)) fun _ S=>?_
  refine AN.zq 2 S rfl (fun _=>Lf.run_quo (S.ev rfl) (S.ev rfl) (by decide)) fun _ S=>?_
  obtain⟨q28,e_3,e_4,e_5,H⟩:=H
  refine AN.zq 3 S rfl (fun _=>Lf.run_ixs (S.ev rfl) (S.ev rfl) Try.underlying111 ti52 e_3 e_4 e_5) fun _ S=>?_
  obtain⟨x29,c_2,H⟩:=H
  refine AN.zl 4 S rfl (fun _ hx=>Lf.run_ld (S.ev rfl) fl52 (hx.cell _ _ (S.cl c_2))) fun _ S=>?_
  refine AN.zq 5 S rfl (fun _=>Lf.run_move (S.ev rfl)) fun _ S=>?_
  refine AN.zq 6 S rfl (fun _=>Lf.run_rem (S.ev rfl) (S.ev rfl) (by decide)) fun _ S=>?_
  obtain⟨c_3,H⟩:=H
  refine AN.zq 7 S rfl (fun _=>Lf.run_shl (S.ev rfl) (S.ev rfl) c_3) fun _ S=>?_
  refine AN.zq 8 S rfl (fun _=>Lf.run_bits (op:=.andNot) (by simp) (S.ev rfl) (S.ev rfl)) fun _ S=>?_
  obtain⟨q34,e_6,e_7,e_8,H⟩:=H
  refine AN.zq 9 S rfl (fun _=>Lf.run_ixs (S.ev rfl) (S.ev rfl) Try.underlying111 ti52 e_6 e_7 e_8) fun _ S=>?_
  refine AN.eff 10 rfl (by kernel_rfl) ?_
  refine ol_sto S H rfl rfl rfl ti52 trivial ?_
  clear S H;intro aa ww h6 H S
  refine OL.nil ?_
  refine AN.done (by kernel_rfl) ?_
  refine W.region ?_
  refine OL.zq S (Lf.run_add (S.ev rfl) (S.ev rfl)) fun _ S=>?_
  refine OL.zm S fun _ S=>?_
  refine OL.nil ?_
  exact⟨((IntKind.i64.wrap (x21+1)),h6),⟨S.sub _ ⟨rfl,rfl,rfl,rfl,rfl,rfl,trivial⟩,H.1⟩,H.2⟩
 ·
  replace H:=H.2 hb
  refine W.exit_ ?_
  refine xhit ?_
  refine W.seq ?_
  refine W.region ?_
  refine OL.zm S fun _ S=>?_
  refine OL.zf S fa88_2 fun _ S=>?_
  obtain⟨x38,c_6,H⟩:=H
  refine OL.zl S fl42 c_6 fun _ S=>?_
  refine OL.zm S fun _ S=>?_
  refine ol_cal S H isfn54 rfl rfl trivial ?_
  clear S H;intro u_1 aa ww h7 H S
  obtain⟨x40,rfl,H⟩:=H
  refine ol_cal S H isfn43 rfl rfl trivial ?_
  clear S H;intro u_2 aa ww h8 H S
  refine OL.nil ?_
  refine W.seq ?_
  refine W.region ?_
  refine OL.zm S fun _ S=>?_
  refine OL.za S fun _ S=>?_
  refine OL.nil ?_
  refine W.ret ?_
  exact Ret.one S rfl rfl H
def L45 (a0:Sv) (b1:Sv) (h:Heap) (R:Value→Heap→Prop):Prop:=
 ∃(I:Bool→Int→Heap→Prop) (m:Bool→Int→Heap→Nat),I false 0 h∧∀vsome5 x10 h1,I vsome5 x10 h1 →
 ifb (decide (x10<((b1.n:Nat):Int))) (
  ∃J:Bool→Heap→Prop,(
   ixS b1 x10 fun q13=>
   ldI .u64 h1 (q13.add ((x10:Int).toNat*1)) fun x14=>
   ixS a0 x10 fun q18=>
   ldI .u64 h1 (q18.add ((x10:Int).toNat*1)) fun x19=>
   ifb ((bitsI .andNot .u64 x14 x19) != 0) (
    ixS a0 x10 fun q24=>
    ldI .u64 h1 (q24.add ((x10:Int).toNat*1)) fun x25=>
    ixS a0 x10 fun q28=>
    sto h1 (q28.add ((x10:Int).toNat*1)) (Value.int .u64 (bitsI .or .u64 x25 x14)) fun h2=>
    J true h2) (
    J vsome5 h1))∧(∀vsome5_1 h3,J vsome5_1 h3 →
  I vsome5_1 (IntKind.i64.wrap (x10+1)) h3∧m vsome5_1 (IntKind.i64.wrap (x10+1)) h3<m vsome5 x10 h1)) (
  R (Value.bool vsome5) h1)
set_option maxRecDepth 100000 in
theorem F45 {a0 b1 h:_} {R:Value→Heap→Prop} (H:L45 a0 b1 h R):CallsH Try.prog 45 #[Value.slice a0.a a0.n a0.c,Value.slice b1.a b1.n b1.c] h R:=by
 refine CallsH.enter (n:=31) Try.func45 rfl rfl rfl rfl ?_
 intro w0 aa ww S
 unfold L45 at H
 refine W.seq ?_
 refine W.region ?_
 refine OL.za S fun _ S=>?_
 refine OL.nil ?_
 refine W.seq ?_
 refine W.region ?_
 refine OL.za S fun _ S=>?_
 refine OL.nil ?_
 refine W.seq ?_
 refine W.seq ?_
 refine W.region ?_
 refine OL.zm S fun _ S=>?_
 refine OL.zq S (Lf.run_lens (S.ev rfl) rfl Try.underlying111) fun _ S=>?_
 refine OL.zm S fun _ S=>?_
 refine OL.nil ?_
 refine W.block ?_
 obtain⟨I,m,H,HB⟩:=H
 refine W.loopS (σ:=Bool×Int×Heap) (fun s aa ww=>St 31 [(0,Value.slice a0.a a0.n a0.c),(5,Value.bool s.1),(8,Value.slice b1.a b1.n b1.c),(9,Value.int .i64 ((b1.n:Nat):Int)),(10,Value.int .i64 s.2.1)] s.2.2 w0 aa ww∧I s.1 s.2.1 s.2.2) (fun s=>m s.1 s.2.1 s.2.2) (false,0,h) ⟨S.sub _ ⟨rfl,rfl,rfl,rfl,rfl,trivial⟩,H⟩ ?_
 clear H S
 rintro ⟨vsome5,x10,h1⟩ aa ww ⟨S,HI⟩
 replace S:St 31 [(0,Value.slice a0.a a0.n a0.c),(5,Value.bool vsome5),(8,Value.slice b1.a b1.n b1.c),(9,Value.int .i64 ((b1.n:Nat):Int)),(10,Value.int .i64 x10)] h1 w0 aa ww:=S
 have H:=HB vsome5 x10 h1 HI
 clear HI
 refine W.seq ?_
 refine W.region ?_
 refine OL.zq S (Lf.run_lss (S.ev rfl) (S.ev rfl)) fun _ S=>?_
 refine OL.nil ?_
 refine W.seq ?_
 refine W.cond S (b:=(decide (x10<((b1.n:Nat):Int)))) rfl (fun hb=>?_) (fun hb=>?_)
 ·
  replace H:=H.1 hb
  refine W.skip ?_
  obtain⟨J,H,HK⟩:=H
  refine W.seqJ (fun aa ww=>∃vsome5_1 h3,St 31 [(0,Value.slice a0.a a0.n a0.c),(5,Value.bool vsome5_1),(8,Value.slice b1.a b1.n b1.c),(9,Value.int .i64 ((b1.n:Nat):Int)),(10,Value.int .i64 x10)] h3 w0 aa ww∧J vsome5_1 h3) ?_ ?_
  ·
   clear HK
   refine W.block ?_
   refine W.seq ?_
   refine W.region ?_
   refine OL.zm S fun _ S=>?_
   obtain⟨q13,e,e_1,e_2,H⟩:=H
   refine OL.zq S (Lf.run_ixs (S.ev rfl) (S.ev rfl) Try.underlying111 ti52 e e_1 e_2) fun _ S=>?_
   obtain⟨x14,c,H⟩:=H
   refine OL.zl S fl52 c fun _ S=>?_
   refine OL.za S fun _ S=>?_
   refine OL.za S fun _ S=>?_
   refine OL.nil ?_
   refine W.seq ?_
   refine W.region ?_
   refine OL.zm S fun _ S=>?_
   refine OL.zm S fun _ S=>?_
   refine OL.zm S fun _ S=>?_
   obtain⟨q18,e_3,e_4,e_5,H⟩:=H
   refine OL.zq S (Lf.run_ixs (S.ev rfl) (S.ev rfl) Try.underlying111 ti52 e_3 e_4 e_5) fun _ S=>?_
   obtain⟨x19,c_1,H⟩:=H
   refine OL.zl S fl52 c_1 fun _ S=>?_
   refine OL.zq S (Lf.run_bits (op:=.andNot) (by simp) (S.ev rfl) (S.ev rfl)) fun _ S=>?_
   refine OL.zq S (Lf.run_neq (S.ev rfl) (S.ev rfl)) fun _ S=>?_
   refine OL.nil ?_
   refine W.cond S (b:=((bitsI .andNot .u64 x14 x19) != 0)) rfl (fun hb_1=>?_) (fun hb_1=>?_)
   ·
    replace H:=H.1 hb_1
    refine W.seq ?_
    refine W.region ?_
    refine OL.zm S fun _ S=>?_
    refine OL.zm S fun _ S=>?_
    obtain⟨q24,e_6,e_7,e_8,H⟩:=H
    refine OL.zq S (Lf.run_ixs (S.ev rfl) (S.ev rfl) Try.underlying111 ti52 e_6 e_7 e_8) fun _ S=>?_
    obtain⟨x25,c_2,H⟩:=H
    refine OL.zl S fl52 c_2 fun _ S=>?_
    refine OL.zm S fun _ S=>?_
    refine OL.zq S (Lf.run_bits (op:=.or) (by simp) (S.ev rfl) (S.ev rfl)) fun _ S=>?_
    obtain⟨q28,e_9,e_10,e_11,H⟩:=H
    refine OL.zq S (Lf.run_ixs (S.ev rfl) (S.ev rfl) Try.underlying111 ti52 e_9 e_10 e_11) fun _ S=>?_
    refine ol_sto S H rfl rfl rfl ti52 trivial ?_
    clear S H;intro aa ww h2 H S
    refine OL.nil ?_
    refine W.region ?_
    refine OL.za S fun _ S=>?_
    refine OL.nil ?_
    exact⟨true,h2,S.sub _ ⟨rfl,rfl,rfl,rfl,rfl,trivial⟩,H⟩
   ·
    replace H:=H.2 hb_1
    refine W.skip ?_
    exact⟨vsome5,h1,S.sub _ ⟨rfl,rfl,rfl,rfl,rfl,trivial⟩,H⟩
  ·
   clear H S
   rintro aa ww ⟨vsome5_1,h3,S,HJ⟩
   have H:=HK _ _ HJ
   clear HK HJ
   refine W.region ?_
   refine OL.zq S (Lf.run_add (S.ev rfl) (S.ev rfl)) fun _ S=>?_
   refine OL.zm S fun _ S=>?_
   refine OL.nil ?_
   exact⟨(vsome5_1,(IntKind.i64.wrap (x10+1)),h3),⟨S.sub _ ⟨rfl,rfl,rfl,rfl,rfl,trivial⟩,H.1⟩,H.2⟩
 ·
  replace H:=H.2 hb
  refine W.exit_ ?_
  refine xhit ?_
  refine W.seq ?_
  refine W.region ?_
  refine OL.zm S fun _ S=>?_
  refine OL.za S fun _ S=>?_
  refine OL.nil ?_
  refine W.ret ?_
  exact Ret.one S rfl rfl H
def L46 (a0:Option Addr) (i1:Int) (e2:Int) (h:Heap) (R:Value→Heap→Prop):Prop:=
 ∃J:Bool→Prop,(andr ((Option.isSome a0) && (decide (0≤i1))) (fun k=>
  nn a0 fun p16=>
  ldS h (p16.add 1) fun x18=>
  k (decide (i1<((x18.n:Nat):Int)))) J)∧∀x21,J x21 →
 ∃J_1:Bool→Prop,(andr (x21 && (decide (0≤e2))) (fun k_1=>
  nn a0 fun p29=>
  ldI .i64 h p29 fun x31=>
  k_1 (decide (e2<x31))) J_1)∧∀x33,J_1 x33 →
 ∃J_2:Bool→Prop,(andr x33 (fun k_2=>
  nn a0 fun p36=>
  ldS h (p36.add 1) fun x38=>
  ixS x38 i1 fun q40=>
  ldS h (q40.add ((i1:Int).toNat*1)) fun x41=>
  ixS x41 (IntKind.i64.wrap ((e2:Int).tdiv 64)) fun q44=>
  ldI .u64 h (q44.add (((IntKind.i64.wrap ((e2:Int).tdiv 64)):Int).toNat*1)) fun x45=>
  (0≤((e2:Int).tmod 64)) ∧
  k_2 ((bitsI .and .u64 ((x45:Int).fdiv (2 ^ (min (((e2:Int).tmod 64):Int).toNat IntKind.u64.bits))) 1) == 1)) J_2)∧∀x51,J_2 x51 →
 R (Value.bool x51) h
set_option maxRecDepth 100000 in
theorem F46 {a0 i1 e2 h:_} {R:Value→Heap→Prop} (H:L46 a0 i1 e2 h R):CallsH Try.prog 46 #[Value.pointer a0,Value.int .i64 i1,Value.int .i64 e2] h R:=by
 refine CallsH.enter (n:=52) Try.func46 rfl rfl rfl rfl ?_
 intro w0 aa ww S
 unfold L46 at H
 refine W.seq ?_
 refine W.region ?_
 refine OL.za S fun _ S=>?_
 refine OL.nil ?_
 refine W.seq ?_
 refine W.region ?_
 refine OL.zm S fun _ S=>?_
 refine OL.zq S (Lf.run_neqpn Try.underlying91 (S.ev rfl) (S.ev rfl)) fun _ S=>?_
 refine OL.zm S fun _ S=>?_
 refine OL.cutN 3 (fun aa ww=>St 52 ((12,Value.bool ((Option.isSome a0) && (decide (0≤i1)))) :: [(0,Value.pointer a0),(1,Value.int .i64 i1),(2,Value.int .i64 e2),(7,Value.pointer a0),(8,Value.bool (Option.isSome a0)),(9,Value.bool (Option.isSome a0))]) h w0 aa ww) ?_ ?_
 ·
  rcases Bool.eq_false_or_eq_true (Option.isSome a0) with hb|hb
  ·
   refine OL.zm (hg:=GOk.mk rfl rfl hb) S fun _ S=>?_
   refine OL.zq (hg:=GOk.mk rfl rfl hb) S (Lf.run_geq (S.ev rfl) (S.ev rfl)) fun _ S=>?_
   refine OL.zq S (Lf.run_pickT (S.ev rfl) hb (S.ev rfl)) fun _ S=>?_
   refine OL.nil ?_
   exact (S.hd (by rw[hb,Bool.true_and])).sub _ ⟨rfl,rfl,rfl,rfl,rfl,rfl,rfl,trivial⟩
  ·
   refine OL.zn S (GNo.mk rfl rfl hb) fun _ S=>?_
   refine OL.zn S (GNo.mk rfl rfl hb) fun _ S=>?_
   refine OL.zq S (Lf.run_pickF (S.ev rfl) hb (S.ev rfl)) fun _ S=>?_
   refine OL.nil ?_
   exact (S.hd (by rw[hb,Bool.false_and])).sub _ ⟨rfl,rfl,rfl,rfl,rfl,rfl,rfl,trivial⟩
 ·
  clear S
  intro aa ww S
  refine OL.zm S fun _ S=>?_
  obtain⟨J,H,HK⟩:=H
  refine OL.cutN 8 (fun aa ww=>∃x21,St 52 ((21,Value.bool x21) :: [(0,Value.pointer a0),(1,Value.int .i64 i1),(2,Value.int .i64 e2),(7,Value.pointer a0),(8,Value.bool (Option.isSome a0)),(9,Value.bool (Option.isSome a0)),(12,Value.bool ((Option.isSome a0) && (decide (0≤i1)))),(13,Value.bool ((Option.isSome a0) && (decide (0≤i1))))]) h w0 aa ww∧J x21) ?_ ?_
  ·
   rcases Bool.eq_false_or_eq_true ((Option.isSome a0) && (decide (0≤i1))) with hb_1|hb_1
   ·
    replace H:=H.1 hb_1
    refine OL.zm (hg:=GOk.mk rfl rfl hb_1) S fun _ S=>?_
    refine OL.zm (hg:=GOk.mk rfl rfl hb_1) S fun _ S=>?_
    obtain⟨p16,e,H⟩:=H
    refine OL.zq (hg:=GOk.mk rfl rfl hb_1) S (Lf.run_nc' (S.ev rfl) e) fun _ S=>?_
    refine OL.zf (hg:=GOk.mk rfl rfl hb_1) S fa109_1 fun _ S=>?_
    obtain⟨x18,c,H⟩:=H
    refine OL.zl (hg:=GOk.mk rfl rfl hb_1) S fl107 c fun _ S=>?_
    refine OL.zq (hg:=GOk.mk rfl rfl hb_1) S (Lf.run_lens (S.ev rfl) rfl Try.underlying107) fun _ S=>?_
    refine OL.zq (hg:=GOk.mk rfl rfl hb_1) S (Lf.run_lss (S.ev rfl) (S.ev rfl)) fun _ S=>?_
    refine OL.zq S (Lf.run_pickT (S.ev rfl) hb_1 (S.ev rfl)) fun _ S=>?_
    refine OL.nil ?_
    exact⟨_,S.sub _ ⟨rfl,rfl,rfl,rfl,rfl,rfl,rfl,rfl,rfl,trivial⟩,H⟩
   ·
    replace H:=H.2 hb_1
    refine OL.zn S (GNo.mk rfl rfl hb_1) fun _ S=>?_
    refine OL.zn S (GNo.mk rfl rfl hb_1) fun _ S=>?_
    refine OL.zn S (GNo.mk rfl rfl hb_1) fun _ S=>?_
    refine OL.zn S (GNo.mk rfl rfl hb_1) fun _ S=>?_
    refine OL.zn S (GNo.mk rfl rfl hb_1) fun _ S=>?_
    refine OL.zn S (GNo.mk rfl rfl hb_1) fun _ S=>?_
    refine OL.zn S (GNo.mk rfl rfl hb_1) fun _ S=>?_
    refine OL.zq S (Lf.run_pickF (S.ev rfl) hb_1 (S.ev rfl)) fun _ S=>?_
    refine OL.nil ?_
    exact⟨_,S.sub _ ⟨rfl,rfl,rfl,rfl,rfl,rfl,rfl,rfl,rfl,trivial⟩,H⟩
  ·
   clear S
   rintro aa ww ⟨x21,S,HJ⟩
   replace H:=HK _ HJ
   clear HK HJ
   refine OL.zm S fun _ S=>?_
   refine OL.cutN 3 (fun aa ww=>St 52 ((25,Value.bool (x21 && (decide (0≤e2)))) :: [(0,Value.pointer a0),(1,Value.int .i64 i1),(2,Value.int .i64 e2),(7,Value.pointer a0),(8,Value.bool (Option.isSome a0)),(9,Value.bool (Option.isSome a0)),(12,Value.bool ((Option.isSome a0) && (decide (0≤i1)))),(13,Value.bool ((Option.isSome a0) && (decide (0≤i1)))),(21,Value.bool x21),(22,Value.bool x21)]) h w0 aa ww) ?_ ?_
   ·
    rcases Bool.eq_false_or_eq_true x21 with hb_2|hb_2
    ·
     refine OL.zm (hg:=GOk.mk rfl rfl hb_2) S fun _ S=>?_
     refine OL.zq (hg:=GOk.mk rfl rfl hb_2) S (Lf.run_geq (S.ev rfl) (S.ev rfl)) fun _ S=>?_
     refine OL.zq S (Lf.run_pickT (S.ev rfl) hb_2 (S.ev rfl)) fun _ S=>?_
     refine OL.nil ?_
     exact (S.hd (by rw[hb_2,Bool.true_and])).sub _ ⟨rfl,rfl,rfl,rfl,rfl,rfl,rfl,rfl,rfl,rfl,rfl,trivial⟩
    ·
     refine OL.zn S (GNo.mk rfl rfl hb_2) fun _ S=>?_
     refine OL.zn S (GNo.mk rfl rfl hb_2) fun _ S=>?_
     refine OL.zq S (Lf.run_pickF (S.ev rfl) hb_2 (S.ev rfl)) fun _ S=>?_
     refine OL.nil ?_
     exact (S.hd (by rw[hb_2,Bool.false_and])).sub _ ⟨rfl,rfl,rfl,rfl,rfl,rfl,rfl,rfl,rfl,rfl,rfl,trivial⟩
   ·
    clear S
    intro aa ww S
    refine OL.zm S fun _ S=>?_
    obtain⟨J_1,H,HK_1⟩:=H
    refine OL.cutN 7 (fun aa ww=>∃x33,St 52 ((33,Value.bool x33) :: [(0,Value.pointer a0),(1,Value.int .i64 i1),(2,Value.int .i64 e2),(7,Value.pointer a0),(8,Value.bool (Option.isSome a0)),(9,Value.bool (Option.isSome a0)),(12,Value.bool ((Option.isSome a0) && (decide (0≤i1)))),(13,Value.bool ((Option.isSome a0) && (decide (0≤i1)))),(21,Value.bool x21),(22,Value.bool x21),(25,Value.bool (x21 && (decide (0≤e2)))),(26,Value.bool (x21 && (decide (0≤e2))))]) h w0 aa ww∧J_1 x33) ?_ ?_
    ·
     rcases Bool.eq_false_or_eq_true (x21 && (decide (0≤e2))) with hb_3|hb_3
     ·
      replace H:=H.1 hb_3
      refine OL.zm (hg:=GOk.mk rfl rfl hb_3) S fun _ S=>?_
      refine OL.zm (hg:=GOk.mk rfl rfl hb_3) S fun _ S=>?_
      obtain⟨p29,e_1,H⟩:=H
      refine OL.zq (hg:=GOk.mk rfl rfl hb_3) S (Lf.run_nc' (S.ev rfl) e_1) fun _ S=>?_
      refine OL.zf (hg:=GOk.mk rfl rfl hb_3) S fa109_0 fun _ S=>?_
      obtain⟨x31,c_1,H⟩:=H
      refine OL.zl (hg:=GOk.mk rfl rfl hb_3) S fl3 c_1 fun _ S=>?_
      refine OL.zq (hg:=GOk.mk rfl rfl hb_3) S (Lf.run_lss (S.ev rfl) (S.ev rfl)) fun _ S=>?_
      refine OL.zq S (Lf.run_pickT (S.ev rfl) hb_3 (S.ev rfl)) fun _ S=>?_
      refine OL.nil ?_
      exact⟨_,S.sub _ ⟨rfl,rfl,rfl,rfl,rfl,rfl,rfl,rfl,rfl,rfl,rfl,rfl,rfl,trivial⟩,H⟩
     ·
      replace H:=H.2 hb_3
      refine OL.zn S (GNo.mk rfl rfl hb_3) fun _ S=>?_
      refine OL.zn S (GNo.mk rfl rfl hb_3) fun _ S=>?_
      refine OL.zn S (GNo.mk rfl rfl hb_3) fun _ S=>?_
      refine OL.zn S (GNo.mk rfl rfl hb_3) fun _ S=>?_
      refine OL.zn S (GNo.mk rfl rfl hb_3) fun _ S=>?_
      refine OL.zn S (GNo.mk rfl rfl hb_3) fun _ S=>?_
      refine OL.zq S (Lf.run_pickF (S.ev rfl) hb_3 (S.ev rfl)) fun _ S=>?_
      refine OL.nil ?_
      exact⟨_,S.sub _ ⟨rfl,rfl,rfl,rfl,rfl,rfl,rfl,rfl,rfl,rfl,rfl,rfl,rfl,trivial⟩,H⟩
    ·
     clear S
     rintro aa ww ⟨x33,S,HJ⟩
     replace H:=HK_1 _ HJ
     clear HK_1 HJ
     refine OL.zm S fun _ S=>?_
     obtain⟨J_2,H,HK_2⟩:=H
     refine OL.cutN 17 (fun aa ww=>∃x51,St 52 ((51,Value.bool x51) :: [(0,Value.pointer a0),(1,Value.int .i64 i1),(2,Value.int .i64 e2),(7,Value.pointer a0),(8,Value.bool (Option.isSome a0)),(9,Value.bool (Option.isSome a0)),(12,Value.bool ((Option.isSome a0) && (decide (0≤i1)))),(13,Value.bool ((Option.isSome a0) && (decide (0≤i1)))),(21,Value.bool x21),(22,Value.bool x21),(25,Value.bool (x21 && (decide (0≤e2)))),(26,Value.bool (x21 && (decide (0≤e2)))),(33,Value.bool x33),(34,Value.bool x33)]) h w0 aa ww∧J_2 x51) ?_ ?_
     ·
      rcases Bool.eq_false_or_eq_true x33 with hb_4|hb_4
      ·
       replace H:=H.1 hb_4
       refine OL.zm (hg:=GOk.mk rfl rfl hb_4) S fun _ S=>?_
       obtain⟨p36,e_2,H⟩:=H
       refine OL.zq (hg:=GOk.mk rfl rfl hb_4) S (Lf.run_nc' (S.ev rfl) e_2) fun _ S=>?_
       refine OL.zf (hg:=GOk.mk rfl rfl hb_4) S fa109_1 fun _ S=>?_
       obtain⟨x38,c_2,H⟩:=H
       refine OL.zl (hg:=GOk.mk rfl rfl hb_4) S fl107 c_2 fun _ S=>?_
       refine OL.zm (hg:=GOk.mk rfl rfl hb_4) S fun _ S=>?_
       obtain⟨q40,e_3,e_4,e_5,H⟩:=H
       refine OL.zq (hg:=GOk.mk rfl rfl hb_4) S (Lf.run_ixs (S.ev rfl) (S.ev rfl) Try.underlying107 ti111 e_3 e_4 e_5) fun _ S=>?_
       obtain⟨x41,c_3,H⟩:=H
       refine OL.zl (hg:=GOk.mk rfl rfl hb_4) S fl111 c_3 fun _ S=>?_
       refine OL.zm (hg:=GOk.mk rfl rfl hb_4) S fun _ S=>?_
       refine OL.zq (hg:=GOk.mk rfl rfl hb_4) S (Lf.run_quo (S.ev rfl) (S.ev rfl) (by decide)) fun _ S=>?_
       obtain⟨q44,e_6,e_7,e_8,H⟩:=H
       refine OL.zq (hg:=GOk.mk rfl rfl hb_4) S (Lf.run_ixs (S.ev rfl) (S.ev rfl) Try.underlying111 ti52 e_6 e_7 e_8) fun _ S=>?_
       obtain⟨x45,c_4,H⟩:=H
       refine OL.zl (hg:=GOk.mk rfl rfl hb_4) S fl52 c_4 fun _ S=>?_
       refine OL.zm (hg:=GOk.mk rfl rfl hb_4) S fun _ S=>?_
       refine OL.zq (hg:=GOk.mk rfl rfl hb_4) S (Lf.run_rem (S.ev rfl) (S.ev rfl) (by decide)) fun _ S=>?_
       obtain⟨c_5,H⟩:=H
       refine OL.zq (hg:=GOk.mk rfl rfl hb_4) S (Lf.run_shr (S.ev rfl) (S.ev rfl) c_5) fun _ S=>?_
       refine OL.zq (hg:=GOk.mk rfl rfl hb_4) S (Lf.run_bits (op:=.and) (by simp) (S.ev rfl) (S.ev rfl)) fun _ S=>?_
       refine OL.zq (hg:=GOk.mk rfl rfl hb_4) S (Lf.run_eql (S.ev rfl) (S.ev rfl)) fun _ S=>?_
       refine OL.zq S (Lf.run_pickT (S.ev rfl) hb_4 (S.ev rfl)) fun _ S=>?_
       refine OL.nil ?_
       exact⟨_,S.sub _ ⟨rfl,rfl,rfl,rfl,rfl,rfl,rfl,rfl,rfl,rfl,rfl,rfl,rfl,rfl,rfl,trivial⟩,H⟩
      ·
       replace H:=H.2 hb_4
       refine OL.zn S (GNo.mk rfl rfl hb_4) fun _ S=>?_
       refine OL.zn S (GNo.mk rfl rfl hb_4) fun _ S=>?_
       refine OL.zn S (GNo.mk rfl rfl hb_4) fun _ S=>?_
       refine OL.zn S (GNo.mk rfl rfl hb_4) fun _ S=>?_
       refine OL.zn S (GNo.mk rfl rfl hb_4) fun _ S=>?_
       refine OL.zn S (GNo.mk rfl rfl hb_4) fun _ S=>?_
       refine OL.zn S (GNo.mk rfl rfl hb_4) fun _ S=>?_
       refine OL.zn S (GNo.mk rfl rfl hb_4) fun _ S=>?_
       refine OL.zn S (GNo.mk rfl rfl hb_4) fun _ S=>?_
       refine OL.zn S (GNo.mk rfl rfl hb_4) fun _ S=>?_
       refine OL.zn S (GNo.mk rfl rfl hb_4) fun _ S=>?_
       refine OL.zn S (GNo.mk rfl rfl hb_4) fun _ S=>?_
       refine OL.zn S (GNo.mk rfl rfl hb_4) fun _ S=>?_
       refine OL.zn S (GNo.mk rfl rfl hb_4) fun _ S=>?_
       refine OL.zn S (GNo.mk rfl rfl hb_4) fun _ S=>?_
       refine OL.zn S (GNo.mk rfl rfl hb_4) fun _ S=>?_
       refine OL.zq S (Lf.run_pickF (S.ev rfl) hb_4 (S.ev rfl)) fun _ S=>?_
       refine OL.nil ?_
       exact⟨_,S.sub _ ⟨rfl,rfl,rfl,rfl,rfl,rfl,rfl,rfl,rfl,rfl,rfl,rfl,rfl,rfl,rfl,trivial⟩,H⟩
     ·
      clear S
      rintro aa ww ⟨x51,S,HJ⟩
      replace H:=HK_2 _ HJ
      clear HK_2 HJ
      refine OL.za S fun _ S=>?_
      refine OL.nil ?_
      refine W.ret ?_
      exact Ret.one S rfl rfl H
def L47 (a0:Int) (a0_1:Sv) (b1:Int) (b1_1:Sv) (h:Heap) (R:Value→Heap→Prop):Prop:=
 new 49 #[Value.int .i64 a0,Value.slice a0_1.a a0_1.n a0_1.c] h fun p2 h1=>
 new 49 #[Value.int .i64 b1,Value.slice b1_1.a b1_1.n b1_1.c] h1 fun p3 h2=>
 ∃J:Bool→Heap→Prop,(
  ∃Sq:Heap→Prop,Sq h2∧(
   ldI .i64 h2 p2 fun x6=>
   ldI .i64 h2 p3 fun x8=>
   ifb (x6 == x8) (
    hlS Sq (p2.add 1) fun x12=>
    ldS h2 (p3.add 1) fun x15=>
    ifb (decide (((x12.n:Nat):Int)≤((x15.n:Nat):Int))) (
     ldS h2 (p2.add 1) fun x25=>
     ldS h2 (p3.add 1) fun x23=>
     hlS Sq (p2.add 1) fun x21=>
     slS x23 1 0 ((x25.n:Nat):Int) fun s27=>
     Sq h2 ∧
     cal Try.prog 55 #[Value.slice x21.a x21.n x21.c,Value.slice s27.a s27.n s27.c] h2 fun u h3=>asB u fun x28=>
     J x28 h3) (
     J false h2)) (
    J false h2)))∧(∀x4 h4,J x4 h4 →
 R (Value.bool x4) h4)
set_option maxRecDepth 100000 in
theorem F47 {a0 a0_1 b1 b1_1 h:_} {R:Value→Heap→Prop} (H:L47 a0 a0_1 b1 b1_1 h R):CallsH Try.prog 47 #[Value.agg #[Value.int .i64 a0,Value.slice a0_1.a a0_1.n a0_1.c],Value.agg #[Value.int .i64 b1,Value.slice b1_1.a b1_1.n b1_1.c]] h R:=by
 refine CallsH.enter (n:=30) Try.func47 rfl rfl rfl rfl ?_
 intro w0 aa ww S
 unfold L47 at H
 refine W.seq ?_
 refine W.region ?_
 refine ol_box S H rfl rfl rfl trivial ?_
 clear S H;intro p2 aa ww h1 H S
 refine ol_box S H rfl rfl rfl trivial ?_
 clear S H;intro p3 aa ww h2 H S
 refine OL.za S fun _ S=>?_
 refine OL.nil ?_
 refine W.seq ?_
 replace S:=S.sub [(2,Value.pointer (some p2)),(3,Value.pointer (some p3))] ⟨rfl,rfl,trivial⟩
 obtain⟨J,H,HK⟩:=H
 refine W.mono (N':=fun aa ww=>∃x4 h4,St 30 [(4,Value.bool x4)] h4 w0 aa ww∧J x4 h4) ?_ ?_
 ·
  obtain⟨Sq,HS,H⟩:=H
  refine W.regionN [7,16] [22,23] Sq S (by kernel_rfl) ?_
  clear S;intro ww S
  refine BN.pure 0 S (fun _=>HS) rfl (by kernel_rfl) (by kernel_rfl) (fun _=>Lf.run_fa (S.ev rfl) fa49_0) rfl rfl trivial fun _ S=>?_
  obtain⟨x6,c,H⟩:=H
  refine BN.load 1 S (fun _=>HS) rfl (by kernel_rfl) (by kernel_rfl) (fun _ hx=>Lf.run_ld (S.ev rfl) fl3 (hx.cell _ _ (S.cl c))) rfl rfl trivial fun _ S=>?_
  refine BN.pure 2 S (fun _=>HS) rfl (by kernel_rfl) (by kernel_rfl) (fun _=>Lf.run_fa (S.ev rfl) fa49_0) rfl rfl trivial fun _ S=>?_
  obtain⟨x8,c_1,H⟩:=H
  refine BN.load 3 S (fun _=>HS) rfl (by kernel_rfl) (by kernel_rfl) (fun _ hx=>Lf.run_ld (S.ev rfl) fl3 (hx.cell _ _ (S.cl c_1))) rfl rfl trivial fun _ S=>?_
  refine BN.pure 4 S (fun _=>HS) rfl (by kernel_rfl) (by kernel_rfl) (fun _=>Lf.run_eql (S.ev rfl) (S.ev rfl)) rfl rfl trivial fun _ S=>?_
  refine BN.pure 5 S (fun _=>HS) rfl (by kernel_rfl) (by kernel_rfl) (fun _=>Lf.run_move (S.ev rfl)) rfl rfl trivial fun _ S=>?_
  rcases Bool.eq_false_or_eq_true (x6 == x8) with hb|hb
  ·
   replace H:=H.1 hb
   refine BN.pure 6 S (fun _=>HS) rfl (by kernel_rfl) (by kernel_rfl) (fun _=>Lf.run_fa (S.ev rfl) fa49_1) rfl rfl (GOk.mk rfl rfl hb) fun _ S=>?_
   refine BN.pure 9 S (fun _=>HS) rfl (by kernel_rfl) (by kernel_rfl) (fun _=>Lf.run_fa (S.ev rfl) fa49_1) rfl rfl (GOk.mk rfl rfl hb) fun _ S=>?_
   obtain⟨x12,c_2,H⟩:=H
   refine BN.held 7 S HS rfl (by kernel_rfl) (fun _ hq=>Lf.run_ld (S.ev rfl) fl47 (c_2 _ hq)) rfl rfl (GOk.mk rfl rfl hb) fun _ S=>?_
   refine BN.pure 8 S (fun _=>HS) rfl (by kernel_rfl) (by kernel_rfl) (fun _=>Lf.run_lens (S.ev rfl) rfl Try.underlying47) rfl rfl (GOk.mk rfl rfl hb) fun _ S=>?_
   obtain⟨x15,c_3,H⟩:=H
   refine BN.load 10 S (fun _=>HS) rfl (by kernel_rfl) (by kernel_rfl) (fun _ hx=>Lf.run_ld (S.ev rfl) fl47 (hx.cell _ _ (S.cl c_3))) rfl rfl (GOk.mk rfl rfl hb) fun _ S=>?_
   refine BN.pure 11 S (fun _=>HS) rfl (by kernel_rfl) (by kernel_rfl) (fun _=>Lf.run_lens (S.ev rfl) rfl Try.underlying47) rfl rfl (GOk.mk rfl rfl hb) fun _ S=>?_
   refine BN.pure 12 S (fun _=>HS) rfl (by kernel_rfl) (by kernel_rfl) (fun _=>Lf.run_leq (S.ev rfl) (S.ev rfl)) rfl rfl (GOk.mk rfl rfl hb) fun _ S=>?_
   refine BN.pure 13 S (fun _=>HS) rfl (by kernel_rfl) (by kernel_rfl) (fun _=>run_pickT (S.ev rfl) hb (S.ev rfl)) rfl rfl trivial fun _ S=>?_
   refine BN.pure 14 S (fun _=>HS) rfl (by kernel_rfl) (by kernel_rfl) (fun _=>Lf.run_move (S.ev rfl)) rfl rfl trivial fun _ S=>?_
   rcases Bool.eq_false_or_eq_true (decide (((x12.n:Nat):Int)≤((x15.n:Nat):Int))) with hb_1|hb_1
   ·
    replace H:=H.1 hb_1
    refine BN.pure 15 S (fun _=>HS) rfl (by kernel_rfl) (by kernel_rfl) (fun _=>Lf.run_fa (S.ev rfl) fa49_1) rfl rfl (GOk.mk rfl rfl hb_1) fun _ S=>?_
    refine BN.pure 17 S (fun _=>HS) rfl (by kernel_rfl) (by kernel_rfl) (fun _=>Lf.run_fa (S.ev rfl) fa49_1) rfl rfl (GOk.mk rfl rfl hb_1) fun _ S=>?_
    refine BN.pure 19 S (fun _=>HS) rfl (by kernel_rfl) (by kernel_rfl) (fun _=>Lf.run_fa (S.ev rfl) fa49_1) rfl rfl (GOk.mk rfl rfl hb_1) fun _ S=>?_
    obtain⟨x25,c_4,H⟩:=H
    refine BN.load 20 S (fun _=>HS) rfl (by kernel_rfl) (by kernel_rfl) (fun _ hx=>Lf.run_ld (S.ev rfl) fl47 (hx.cell _ _ (S.cl c_4))) rfl rfl (GOk.mk rfl rfl hb_1) fun _ S=>?_
    refine BN.pure 21 S (fun _=>HS) rfl (by kernel_rfl) (by kernel_rfl) (fun _=>Lf.run_lens (S.ev rfl) rfl Try.underlying47) rfl rfl (GOk.mk rfl rfl hb_1) fun _ S=>?_
    obtain⟨x23,c_5,H⟩:=H
    refine BN.load 18 S (fun _=>HS) rfl (by kernel_rfl) (by kernel_rfl) (fun _ hx=>Lf.run_ld (S.ev rfl) fl47 (hx.cell _ _ (S.cl c_5))) rfl rfl (GOk.mk rfl rfl hb_1) fun _ S=>?_
    obtain⟨x21,c_6,H⟩:=H
    refine BN.held 16 S HS rfl (by kernel_rfl) (fun _ hq=>Lf.run_ld (S.ev rfl) fl47 (c_6 _ hq)) rfl rfl (GOk.mk rfl rfl hb_1) fun _ S=>?_
    refine BN.eff 22 rfl (by kernel_rfl) ?_
    obtain⟨s27,c_7,c_8,c_9,c_10,H⟩:=slS_ex H
    refine OL.zq (hg:=GOk.mk rfl rfl hb_1) S (Lf.run_slNS Try.underlying47 ti3 (S.ev rfl) (S.ev rfl) c_8 c_9 c_10) fun _ S=>?_
    refine OL.nil ?_
    clear HS;obtain⟨HS,H⟩:=H
    refine⟨fun _=>by rw[S.heap];exact HS,?_⟩
    refine BN.eff 23 rfl (by kernel_rfl) ?_
    refine ol_cal S H isfn55 rfl rfl (GOk.mk rfl rfl hb_1) ?_
    clear S H;intro u aa ww h3 H S
    obtain⟨x28,rfl,H⟩:=H
    refine OL.nil ?_
    refine⟨noNeed (by kernel_rfl),?_⟩
    refine BN.pure 24 S (noNeed (by kernel_rfl)) rfl (by kernel_rfl) (by kernel_rfl) (fun _=>run_pickT (S.ev rfl) hb_1 (S.ev rfl)) rfl rfl trivial fun _ S=>?_
    refine BN.pure 25 S (noNeed (by kernel_rfl)) rfl (by kernel_rfl) (by kernel_rfl) (fun _=>Lf.run_assign (S.ev rfl)) rfl rfl trivial fun _ S=>?_
    refine BN.done (by kernel_rfl) ?_
    exact⟨x28,h3,S.sub _ ⟨rfl,trivial⟩,H⟩
   ·
    replace H:=H.2 hb_1
    refine BN.not 15 S (fun _=>HS) rfl (by kernel_rfl) (by kernel_rfl) rfl rfl (GNo.mk rfl rfl hb_1) fun _ S=>?_
    refine BN.not 16 S (fun _=>HS) rfl (by kernel_rfl) (by kernel_rfl) rfl rfl (GNo.mk rfl rfl hb_1) fun _ S=>?_
    refine BN.not 17 S (fun _=>HS) rfl (by kernel_rfl) (by kernel_rfl) rfl rfl (GNo.mk rfl rfl hb_1) fun _ S=>?_
    refine BN.not 18 S (fun _=>HS) rfl (by kernel_rfl) (by kernel_rfl) rfl rfl (GNo.mk rfl rfl hb_1) fun _ S=>?_
    refine BN.not 19 S (fun _=>HS) rfl (by kernel_rfl) (by kernel_rfl) rfl rfl (GNo.mk rfl rfl hb_1) fun _ S=>?_
    refine BN.not 20 S (fun _=>HS) rfl (by kernel_rfl) (by kernel_rfl) rfl rfl (GNo.mk rfl rfl hb_1) fun _ S=>?_
    refine BN.not 21 S (fun _=>HS) rfl (by kernel_rfl) (by kernel_rfl) rfl rfl (GNo.mk rfl rfl hb_1) fun _ S=>?_
    refine BN.eff 22 rfl (by kernel_rfl) ?_
    refine OL.zn S (GNo.mk rfl rfl hb_1) fun _ S=>?_
    refine OL.nil ?_
    refine⟨fun _=>by rw[S.heap];exact HS,?_⟩
    refine BN.eff 23 rfl (by kernel_rfl) ?_
    refine OL.zn S (GNo.mk rfl rfl hb_1) fun _ S=>?_
    refine OL.nil ?_
    refine⟨noNeed (by kernel_rfl),?_⟩
    refine BN.pure 24 S (noNeed (by kernel_rfl)) rfl (by kernel_rfl) (by kernel_rfl) (fun _=>run_pickF (S.ev rfl) hb_1 (S.ev rfl)) rfl rfl trivial fun _ S=>?_
    refine BN.pure 25 S (noNeed (by kernel_rfl)) rfl (by kernel_rfl) (by kernel_rfl) (fun _=>Lf.run_assign (S.ev rfl)) rfl rfl trivial fun _ S=>?_
    refine BN.done (by kernel_rfl) ?_
    exact⟨false,h2,S.sub _ ⟨rfl,trivial⟩,H⟩
  ·
   replace H:=H.2 hb
   refine BN.not 6 S (fun _=>HS) rfl (by kernel_rfl) (by kernel_rfl) rfl rfl (GNo.mk rfl rfl hb) fun _ S=>?_
   refine BN.not 7 S (fun _=>HS) rfl (by kernel_rfl) (by kernel_rfl) rfl rfl (GNo.mk rfl rfl hb) fun _ S=>?_
   refine BN.not 8 S (fun _=>HS) rfl (by kernel_rfl) (by kernel_rfl) rfl rfl (GNo.mk rfl rfl hb) fun _ S=>?_
   refine BN.not 9 S (fun _=>HS) rfl (by kernel_rfl) (by kernel_rfl) rfl rfl (GNo.mk rfl rfl hb) fun _ S=>?_
   refine BN.not 10 S (fun _=>HS) rfl (by kernel_rfl) (by kernel_rfl) rfl rfl (GNo.mk rfl rfl hb) fun _ S=>?_
   refine BN.not 11 S (fun _=>HS) rfl (by kernel_rfl) (by kernel_rfl) rfl rfl (GNo.mk rfl rfl hb) fun _ S=>?_
   refine BN.not 12 S (fun _=>HS) rfl (by kernel_rfl) (by kernel_rfl) rfl rfl (GNo.mk rfl rfl hb) fun _ S=>?_
   refine BN.pure 13 S (fun _=>HS) rfl (by kernel_rfl) (by kernel_rfl) (fun _=>run_pickF (S.ev rfl) hb (S.ev rfl)) rfl rfl trivial fun _ S=>?_
   refine BN.pure 14 S (fun _=>HS) rfl (by kernel_rfl) (by kernel_rfl) (fun _=>Lf.run_move (S.ev rfl)) rfl rfl trivial fun _ S=>?_
   have hb_2:(false:Bool)=false:=rfl
   refine BN.not 15 S (fun _=>HS) rfl (by kernel_rfl) (by kernel_rfl) rfl rfl (GNo.mk rfl rfl hb_2) fun _ S=>?_
   refine BN.not 16 S (fun _=>HS) rfl (by kernel_rfl) (by kernel_rfl) rfl rfl (GNo.mk rfl rfl hb_2) fun _ S=>?_
   refine BN.not 17 S (fun _=>HS) rfl (by kernel_rfl) (by kernel_rfl) rfl rfl (GNo.mk rfl rfl hb_2) fun _ S=>?_
   refine BN.not 18 S (fun _=>HS) rfl (by kernel_rfl) (by kernel_rfl) rfl rfl (GNo.mk rfl rfl hb_2) fun _ S=>?_
   refine BN.not 19 S (fun _=>HS) rfl (by kernel_rfl) (by kernel_rfl) rfl rfl (GNo.mk rfl rfl hb_2) fun _ S=>?_
   refine BN.not 20 S (fun _=>HS) rfl (by kernel_rfl) (by kernel_rfl) rfl rfl (GNo.mk rfl rfl hb_2) fun _ S=>?_
   refine BN.not 21 S (fun _=>HS) rfl (by kernel_rfl) (by kernel_rfl) rfl rfl (GNo.mk rfl rfl hb_2) fun _ S=>?_
   refine BN.eff 22 rfl (by kernel_rfl) ?_
   refine OL.zn S (GNo.mk rfl rfl hb_2) fun _ S=>?_
   refine OL.nil ?_
   refine⟨fun _=>by rw[S.heap];exact HS,?_⟩
   refine BN.eff 23 rfl (by kernel_rfl) ?_
   refine OL.zn S (GNo.mk rfl rfl hb_2) fun _ S=>?_
   refine OL.nil ?_
   refine⟨noNeed (by kernel_rfl),?_⟩
   refine BN.pure 24 S (noNeed (by kernel_rfl)) rfl (by kernel_rfl) (by kernel_rfl) (fun _=>run_pickF (S.ev rfl) hb_2 (S.ev rfl)) rfl rfl trivial fun _ S=>?_
   refine BN.pure 25 S (noNeed (by kernel_rfl)) rfl (by kernel_rfl) (by kernel_rfl) (fun _=>Lf.run_assign (S.ev rfl)) rfl rfl trivial fun _ S=>?_
   refine BN.done (by kernel_rfl) ?_
   exact⟨false,h2,S.sub _ ⟨rfl,trivial⟩,H⟩
 ·
  clear H S
  rintro aa ww ⟨x4,h4,S,HJ⟩
  have H:=HK _ _ HJ
  clear HK HJ
  refine W.ret ?_
  exact Ret.one S rfl rfl H
def L48 (b0:Option Addr) (x1:Int) (x1_1:Int) (x1_2:Int) (x1_3:Sv) (x1_4:Int) (x1_5:Sv) (x1_6:Int) (x1_7:Sv) (x1_8:Bool) (x1_9:ByteArray) (x1_10:Int) (x1_11:Sv) (x1_12:Int) (x1_13:Int) (x1_14:Sv) (x1_15:Int) (x1_16:Int) (x1_17:Int) (x1_18:Int) (x1_19:Int) (x1_20:Int) (h:Heap) (R:Value→Heap→Prop):Prop:=
 new 74 #[Value.int .i64 x1,Value.int .i64 x1_1,Value.int .i64 x1_2,Value.slice x1_3.a x1_3.n x1_3.c,Value.int .i64 x1_4,Value.slice x1_5.a x1_5.n x1_5.c,Value.int .i64 x1_6,Value.slice x1_7.a x1_7.n x1_7.c,Value.bool x1_8,Value.string x1_9,Value.int .i64 x1_10,Value.slice x1_11.a x1_11.n x1_11.c,Value.int .i64 x1_12,Value.int .i64 x1_13,Value.slice x1_14.a x1_14.n x1_14.c,Value.int .i64 x1_15,Value.int .u64 x1_16,Value.int .i64 x1_17,Value.int .i64 x1_18,Value.int .i64 x1_19,Value.int .i64 x1_20] h fun p3 h1=>
 ldI .i64 h1 p3 fun x6=>
 ∃J:Bool→Prop,(
  ifb (x6 == 1) (
   J (x6 == 1)) (
   J (x6 == 2)))∧(∀x7,J x7 →
 ifb x7 (
  ldI .i64 h1 (p3.add 1) fun x12=>
  cal Try.prog 56 #[Value.pointer b0,Value.int .i64 x12] h1 fun u h2=>asB u fun x13=>
  R (Value.bool x13) h2) (
  ifb (x6 == 3) (
   ∃(y18:Int) (y18_1:Sv),cl h1 (p3.add 2)=some (Value.int .i64 y18)∧cl h1 ((p3.add 2).add 1)=some (Value.slice y18_1.a y18_1.n y18_1.c) ∧
   cal Try.prog 57 #[Value.pointer b0,Value.agg #[Value.int .i64 y18,Value.slice y18_1.a y18_1.n y18_1.c]] h1 fun u_1 h3=>asB u_1 fun x19=>
   ∃J_1:Bool→Heap→Prop,(andj x19 (fun k=>
    ∃(y23:Int) (y23_1:Sv) (y23_2:Int) (y23_3:Sv) (y23_4:Bool) (y23_5:ByteArray) (y23_6:Int) (y23_7:Sv),cl h3 (p3.add 4)=some (Value.int .i64 y23)∧cl h3 ((p3.add 4).add 1)=some (Value.slice y23_1.a y23_1.n y23_1.c)∧cl h3 ((p3.add 4).add 2)=some (Value.int .i64 y23_2)∧cl h3 ((p3.add 4).add 3)=some (Value.slice y23_3.a y23_3.n y23_3.c)∧cl h3 ((p3.add 4).add 4)=some (Value.bool y23_4)∧cl h3 ((p3.add 4).add 5)=some (Value.string y23_5)∧cl h3 ((p3.add 4).add 6)=some (Value.int .i64 y23_6)∧cl h3 ((p3.add 4).add 7)=some (Value.slice y23_7.a y23_7.n y23_7.c) ∧
    cal Try.prog 58 #[Value.pointer b0,Value.agg #[Value.int .i64 y23,Value.slice y23_1.a y23_1.n y23_1.c,Value.int .i64 y23_2,Value.slice y23_3.a y23_3.n y23_3.c,Value.bool y23_4,Value.string y23_5,Value.int .i64 y23_6,Value.slice y23_7.a y23_7.n y23_7.c]] h3 fun u_2 h5=>asB u_2 fun x24=>
    k x24 h5) h3 J_1)∧∀x25 h4,J_1 x25 h4 →
   R (Value.bool x25) h4) (
   ifb (x6 == 5) (
    ∃(y30:Int) (y30_1:Int) (y30_2:Sv) (y30_3:Int) (y30_4:Int),cl h1 (p3.add 12)=some (Value.int .i64 y30)∧cl h1 ((p3.add 12).add 1)=some (Value.int .i64 y30_1)∧cl h1 ((p3.add 12).add 2)=some (Value.slice y30_2.a y30_2.n y30_2.c)∧cl h1 ((p3.add 12).add 3)=some (Value.int .i64 y30_3)∧cl h1 ((p3.add 12).add 4)=some (Value.int .u64 y30_4) ∧
    cal Try.prog 59 #[Value.pointer b0,Value.agg #[Value.int .i64 y30,Value.int .i64 y30_1,Value.slice y30_2.a y30_2.n y30_2.c,Value.int .i64 y30_3,Value.int .u64 y30_4]] h1 fun u_3 h6=>asB u_3 fun x31=>
    R (Value.bool x31) h6) (
    ldI .i64 h1 p3 fun x33=>
    ∃J_2:Bool→Prop,(andr (decide (1≤x33)) (fun k_1=>
     ldI .i64 h1 p3 fun x37=>
     k_1 (decide (x37≤7))) J_2)∧∀x39,J_2 x39 →
    R (Value.bool x39) h1))))
set_option maxRecDepth 100000 in
theorem F48 {b0 x1 x1_1 x1_2 x1_3 x1_4 x1_5 x1_6 x1_7 x1_8 x1_9 x1_10 x1_11 x1_12 x1_13 x1_14 x1_15 x1_16 x1_17 x1_18 x1_19 x1_20 h:_} {R:Value→Heap→Prop} (H:L48 b0 x1 x1_1 x1_2 x1_3 x1_4 x1_5 x1_6 x1_7 x1_8 x1_9 x1_10 x1_11 x1_12 x1_13 x1_14 x1_15 x1_16 x1_17 x1_18 x1_19 x1_20 h R):CallsH Try.prog 48 #[Value.pointer b0,Value.agg #[Value.int .i64 x1,Value.int .i64 x1_1,Value.int .i64 x1_2,Value.slice x1_3.a x1_3.n x1_3.c,Value.int .i64 x1_4,Value.slice x1_5.a x1_5.n x1_5.c,Value.int .i64 x1_6,Value.slice x1_7.a x1_7.n x1_7.c,Value.bool x1_8,Value.string x1_9,Value.int .i64 x1_10,Value.slice x1_11.a x1_11.n x1_11.c,Value.int .i64 x1_12,Value.int .i64 x1_13,Value.slice x1_14.a x1_14.n x1_14.c,Value.int .i64 x1_15,Value.int .u64 x1_16,Value.int .i64 x1_17,Value.int .i64 x1_18,Value.int .i64 x1_19,Value.int .i64 x1_20]] h R:=by
 refine CallsH.enter (n:=40) Try.func48 rfl rfl rfl rfl ?_
 intro w0 aa ww S
 unfold L48 at H
 refine W.seq ?_
 refine W.region ?_
 refine ol_box S H rfl rfl rfl trivial ?_
 clear S H;intro p3 aa ww h1 H S
 refine OL.za S fun _ S=>?_
 refine OL.nil ?_
 refine W.seq ?_
 refine W.seq ?_
 refine W.region ?_
 refine OL.zf S fa74_0 fun _ S=>?_
 obtain⟨x6,c,H⟩:=H
 refine OL.zl S fl3 c fun _ S=>?_
 refine OL.nil ?_
 refine W.block ?_
 obtain⟨J,H,HK⟩:=H
 refine W.seqJ (fun aa ww=>∃x7,St 40 [(0,Value.pointer b0),(3,Value.pointer (some p3)),(6,Value.int .i64 x6),(7,Value.bool x7)] h1 w0 aa ww∧J x7) ?_ ?_
 ·
  clear HK
  refine W.seq ?_
  refine W.region ?_
  refine OL.zq S (Lf.run_eql (S.ev rfl) (S.ev rfl)) fun _ S=>?_
  refine OL.za S fun _ S=>?_
  refine OL.nil ?_
  refine W.cond S (b:=(x6 == 1)) rfl (fun hb=>?_) (fun hb=>?_)
  ·
   replace H:=H.1 hb
   refine W.skip ?_
   exact⟨(x6 == 1),S.sub _ ⟨rfl,rfl,rfl,rfl,trivial⟩,H⟩
  ·
   replace H:=H.2 hb
   refine W.region ?_
   refine OL.zq S (Lf.run_eql (S.ev rfl) (S.ev rfl)) fun _ S=>?_
   refine OL.za S fun _ S=>?_
   refine OL.nil ?_
   exact⟨(x6 == 2),S.sub _ ⟨rfl,rfl,rfl,rfl,trivial⟩,H⟩
 ·
  clear H S
  rintro aa ww ⟨x7,S,HJ⟩
  have H:=HK _ HJ
  clear HK HJ
  refine W.cond S (b:=x7) rfl (fun hb_1=>?_) (fun hb_1=>?_)
  ·
   replace H:=H.1 hb_1
   refine W.seq ?_
   refine W.region ?_
   refine OL.zm S fun _ S=>?_
   refine OL.zf S fa74_1 fun _ S=>?_
   obtain⟨x12,c_1,H⟩:=H
   refine OL.zl S fl3 c_1 fun _ S=>?_
   refine ol_cal S H isfn56 rfl rfl trivial ?_
   clear S H;intro u aa ww h2 H S
   obtain⟨x13,rfl,H⟩:=H
   refine OL.za S fun _ S=>?_
   refine OL.nil ?_
   refine W.ret ?_
   exact Ret.one S rfl rfl H
  ·
   replace H:=H.2 hb_1
   refine W.seq ?_
   refine W.region ?_
   refine OL.zq S (Lf.run_eql (S.ev rfl) (S.ev rfl)) fun _ S=>?_
   refine OL.za S fun _ S=>?_
   refine OL.nil ?_
   refine W.cond S (b:=(x6 == 3)) rfl (fun hb_2=>?_) (fun hb_2=>?_)
   ·
    replace H:=H.1 hb_2
    refine W.seq ?_
    refine W.region ?_
    refine OL.zm S fun _ S=>?_
    refine OL.zf S fa74_2 fun _ S=>?_
    obtain⟨y18,y18_1,c_12,c_13,H⟩:=H
    refine OL.zq S (Lf.run_ldA (cs:=[Value.int .i64 y18,Value.slice y18_1.a y18_1.n y18_1.c]) (S.ev rfl) ag49 ti49 (by rw[S.heap];exact RowL.toRow ⟨c_12,c_13,trivial⟩)) fun _ S=>?_
    refine ol_cal S H isfn57 rfl rfl trivial ?_
    clear S H;intro u_1 aa ww h3 H S
    obtain⟨x19,rfl,H⟩:=H
    refine OL.zm S fun _ S=>?_
    obtain⟨J_1,H,HK_1⟩:=H
    refine OL.cutN 5 (fun aa ww=>∃x25 h4,St 40 ((25,Value.bool x25) :: [(0,Value.pointer b0),(3,Value.pointer (some p3)),(16,Value.pointer b0),(17,Value.pointer (some (p3.add 2))),(18,Value.agg #[Value.int .i64 y18,Value.slice y18_1.a y18_1.n y18_1.c]),(19,Value.bool x19),(20,Value.bool x19)]) h4 w0 aa ww∧J_1 x25 h4) ?_ ?_
    ·
     rcases Bool.eq_false_or_eq_true x19 with hb_3|hb_3
     ·
      replace H:=H.1 hb_3
      refine OL.zm (hg:=GOk.mk rfl rfl hb_3) S fun _ S=>?_
      refine OL.zf (hg:=GOk.mk rfl rfl hb_3) S fa74_3 fun _ S=>?_
      obtain⟨y23,y23_1,y23_2,y23_3,y23_4,y23_5,y23_6,y23_7,c_4,c_5,c_6,c_7,c_8,c_9,c_10,c_11,H⟩:=H
      refine OL.zq (hg:=GOk.mk rfl rfl hb_3) S (Lf.run_ldA (cs:=[Value.int .i64 y23,Value.slice y23_1.a y23_1.n y23_1.c,Value.int .i64 y23_2,Value.slice y23_3.a y23_3.n y23_3.c,Value.bool y23_4,Value.string y23_5,Value.int .i64 y23_6,Value.slice y23_7.a y23_7.n y23_7.c]) (S.ev rfl) ag70 ti70 (by rw[S.heap];exact RowL.toRow ⟨c_4,c_5,c_6,c_7,c_8,c_9,c_10,c_11,trivial⟩)) fun _ S=>?_
      refine ol_cal S H isfn58 rfl rfl (GOk.mk rfl rfl hb_3) ?_
      clear S H;intro u_2 aa ww h5 H S
      obtain⟨x24,rfl,H⟩:=H
      refine OL.zq S (Lf.run_pickT (S.ev rfl) hb_3 (S.ev rfl)) fun _ S=>?_
      refine OL.nil ?_
      exact⟨_,_,S.sub _ ⟨rfl,rfl,rfl,rfl,rfl,rfl,rfl,rfl,trivial⟩,H⟩
     ·
      replace H:=H.2 hb_3
      refine OL.zn S (GNo.mk rfl rfl hb_3) fun _ S=>?_
      refine OL.zn S (GNo.mk rfl rfl hb_3) fun _ S=>?_
      refine OL.zn S (GNo.mk rfl rfl hb_3) fun _ S=>?_
      refine OL.zn S (GNo.mk rfl rfl hb_3) fun _ S=>?_
      refine OL.zq S (Lf.run_pickF (S.ev rfl) hb_3 (S.ev rfl)) fun _ S=>?_
      refine OL.nil ?_
      exact⟨_,_,S.sub _ ⟨rfl,rfl,rfl,rfl,rfl,rfl,rfl,rfl,trivial⟩,H⟩
    ·
     clear S
     rintro aa ww ⟨x25,h4,S,HJ⟩
     replace H:=HK_1 _ _ HJ
     clear HK_1 HJ
     refine OL.za S fun _ S=>?_
     refine OL.nil ?_
     refine W.ret ?_
     exact Ret.one S rfl rfl H
   ·
    replace H:=H.2 hb_2
    refine W.seq ?_
    refine W.region ?_
    refine OL.zq S (Lf.run_eql (S.ev rfl) (S.ev rfl)) fun _ S=>?_
    refine OL.za S fun _ S=>?_
    refine OL.nil ?_
    refine W.cond S (b:=(x6 == 5)) rfl (fun hb_4=>?_) (fun hb_4=>?_)
    ·
     replace H:=H.1 hb_4
     refine W.seq ?_
     refine W.region ?_
     refine OL.zm S fun _ S=>?_
     refine OL.zf S fa74_4 fun _ S=>?_
     obtain⟨y30,y30_1,y30_2,y30_3,y30_4,c_15,c_16,c_17,c_18,c_19,H⟩:=H
     refine OL.zq S (Lf.run_ldA (cs:=[Value.int .i64 y30,Value.int .i64 y30_1,Value.slice y30_2.a y30_2.n y30_2.c,Value.int .i64 y30_3,Value.int .u64 y30_4]) (S.ev rfl) ag66 ti66 (by rw[S.heap];exact RowL.toRow ⟨c_15,c_16,c_17,c_18,c_19,trivial⟩)) fun _ S=>?_
     refine ol_cal S H isfn59 rfl rfl trivial ?_
     clear S H;intro u_3 aa ww h6 H S
     obtain⟨x31,rfl,H⟩:=H
     refine OL.za S fun _ S=>?_
     refine OL.nil ?_
     refine W.ret ?_
     exact Ret.one S rfl rfl H
    ·
     replace H:=H.2 hb_4
     refine W.skip ?_
     refine W.seq ?_
     refine W.region ?_
     refine OL.zf S fa74_0 fun _ S=>?_
     obtain⟨x33,c_20,H⟩:=H
     refine OL.zl S fl3 c_20 fun _ S=>?_
     refine OL.zq S (Lf.run_geq (S.ev rfl) (S.ev rfl)) fun _ S=>?_
     refine OL.zm S fun _ S=>?_
     obtain⟨J_2,H,HK_2⟩:=H
     refine OL.cutN 4 (fun aa ww=>∃x39,St 40 ((39,Value.bool x39) :: [(3,Value.pointer (some p3)),(32,Value.pointer (some p3)),(33,Value.int .i64 x33),(34,Value.bool (decide (1≤x33))),(35,Value.bool (decide (1≤x33)))]) h1 w0 aa ww∧J_2 x39) ?_ ?_
     ·
      rcases Bool.eq_false_or_eq_true (decide (1≤x33)) with hb_5|hb_5
      ·
       replace H:=H.1 hb_5
       refine OL.zf (hg:=GOk.mk rfl rfl hb_5) S fa74_0 fun _ S=>?_
       obtain⟨x37,c_21,H⟩:=H
       refine OL.zl (hg:=GOk.mk rfl rfl hb_5) S fl3 c_21 fun _ S=>?_
       refine OL.zq (hg:=GOk.mk rfl rfl hb_5) S (Lf.run_leq (S.ev rfl) (S.ev rfl)) fun _ S=>?_
       refine OL.zq S (Lf.run_pickT (S.ev rfl) hb_5 (S.ev rfl)) fun _ S=>?_
       refine OL.nil ?_
       exact⟨_,S.sub _ ⟨rfl,rfl,rfl,rfl,rfl,rfl,trivial⟩,H⟩
      ·
       replace H:=H.2 hb_5
       refine OL.zn S (GNo.mk rfl rfl hb_5) fun _ S=>?_
       refine OL.zn S (GNo.mk rfl rfl hb_5) fun _ S=>?_
       refine OL.zn S (GNo.mk rfl rfl hb_5) fun _ S=>?_
       refine OL.zq S (Lf.run_pickF (S.ev rfl) hb_5 (S.ev rfl)) fun _ S=>?_
       refine OL.nil ?_
       exact⟨_,S.sub _ ⟨rfl,rfl,rfl,rfl,rfl,rfl,trivial⟩,H⟩
     ·
      clear S
      rintro aa ww ⟨x39,S,HJ⟩
      replace H:=HK_2 _ HJ
      clear HK_2 HJ
      refine OL.za S fun _ S=>?_
      refine OL.nil ?_
      refine W.ret ?_
      exact Ret.one S rfl rfl H
def L49 (s0:Sv) (f1:Value) (h:Heap) (R:Value→Heap→Prop):Prop:=
 cal Try.prog 60 #[Value.slice s0.a s0.n s0.c,f1] h fun u h1=>asI .i64 u fun x7=>
 R (Value.bool (decide (0≤x7))) h1
set_option maxRecDepth 100000 in
theorem F49 {s0 f1 h:_} {R:Value→Heap→Prop} (H:L49 s0 f1 h R):CallsH Try.prog 49 #[Value.slice s0.a s0.n s0.c,f1] h R:=by
 refine CallsH.enter (n:=9) Try.func49 rfl rfl rfl rfl ?_
 intro w0 aa ww S
 unfold L49 at H
 refine W.seq ?_
 refine W.region ?_
 refine OL.za S fun _ S=>?_
 refine OL.nil ?_
 refine W.seq ?_
 refine W.region ?_
 refine OL.zm S fun _ S=>?_
 refine OL.zm S fun _ S=>?_
 refine ol_cal S H isfn60 rfl rfl trivial ?_
 clear S H;intro u aa ww h1 H S
 obtain⟨x7,rfl,H⟩:=H
 refine OL.zq S (Lf.run_geq (S.ev rfl) (S.ev rfl)) fun _ S=>?_
 refine OL.za S fun _ S=>?_
 refine OL.nil ?_
 refine W.ret ?_
 exact Ret.one S rfl rfl H
def L50 (vto0:Int) (x1:Addr) (h:Heap) (R:Value→Heap→Prop):Prop:=
 ∃J:Bool→Prop,(orr (decide (vto0<0)) (fun k=>
  ldP h x1 fun x8=>
  nn x8 fun p9=>
  ldS h (p9.add 3) fun x11=>
  k (decide (((x11.n:Nat):Int)≤vto0))) J)∧∀x14,J x14 →
 R (Value.bool x14) h
set_option maxRecDepth 100000 in
theorem F50 {vto0 x1 h:_} {R:Value→Heap→Prop} (H:L50 vto0 x1 h R):CallsH Try.prog 50 #[Value.int .i64 vto0,Value.pointer (some x1)] h R:=by
 refine CallsH.enter (n:=15) Try.func50 rfl rfl rfl rfl ?_
 intro w0 aa ww S
 unfold L50 at H
 refine W.seq ?_
 refine W.region ?_
 refine OL.za S fun _ S=>?_
 refine OL.nil ?_
 refine W.seq ?_
 refine W.region ?_
 refine OL.zm S fun _ S=>?_
 refine OL.zq S (Lf.run_lss (S.ev rfl) (S.ev rfl)) fun _ S=>?_
 refine OL.zm S fun _ S=>?_
 obtain⟨J,H,HK⟩:=H
 refine OL.cutN 8 (fun aa ww=>∃x14,St 15 ((14,Value.bool x14) :: [(0,Value.int .i64 vto0),(1,Value.pointer (some x1)),(4,Value.int .i64 vto0),(5,Value.bool (decide (vto0<0))),(6,Value.bool (decide (vto0<0)))]) h w0 aa ww∧J x14) ?_ ?_
 ·
  rcases Bool.eq_false_or_eq_true (decide (vto0<0)) with hb|hb
  ·
   replace H:=H.1 hb
   refine OL.zn S (GNo.mk rfl rfl hb) fun _ S=>?_
   refine OL.zn S (GNo.mk rfl rfl hb) fun _ S=>?_
   refine OL.zn S (GNo.mk rfl rfl hb) fun _ S=>?_
   refine OL.zn S (GNo.mk rfl rfl hb) fun _ S=>?_
   refine OL.zn S (GNo.mk rfl rfl hb) fun _ S=>?_
   refine OL.zn S (GNo.mk rfl rfl hb) fun _ S=>?_
   refine OL.zn S (GNo.mk rfl rfl hb) fun _ S=>?_
   refine OL.zq S (Lf.run_pickT (S.ev rfl) hb (S.ev rfl)) fun _ S=>?_
   refine OL.nil ?_
   exact⟨_,S.sub _ ⟨rfl,rfl,rfl,rfl,rfl,rfl,trivial⟩,H⟩
  ·
   replace H:=H.2 hb
   refine OL.zm (hg:=GOk.mk rfl rfl hb) S fun _ S=>?_
   obtain⟨x8,c,H⟩:=H
   refine OL.zl (hg:=GOk.mk rfl rfl hb) S fl38 c fun _ S=>?_
   obtain⟨p9,e,H⟩:=H
   refine OL.zq (hg:=GOk.mk rfl rfl hb) S (Lf.run_nc' (S.ev rfl) e) fun _ S=>?_
   refine OL.zf (hg:=GOk.mk rfl rfl hb) S fa30_3 fun _ S=>?_
   obtain⟨x11,c_1,H⟩:=H
   refine OL.zl (hg:=GOk.mk rfl rfl hb) S fl28 c_1 fun _ S=>?_
   refine OL.zq (hg:=GOk.mk rfl rfl hb) S (Lf.run_lens (S.ev rfl) rfl Try.underlying28) fun _ S=>?_
   refine OL.zq (hg:=GOk.mk rfl rfl hb) S (Lf.run_geq (S.ev rfl) (S.ev rfl)) fun _ S=>?_
   refine OL.zq S (Lf.run_pickF (S.ev rfl) hb (S.ev rfl)) fun _ S=>?_
   refine OL.nil ?_
   exact⟨_,S.sub _ ⟨rfl,rfl,rfl,rfl,rfl,rfl,trivial⟩,H⟩
 ·
  clear S
  rintro aa ww ⟨x14,S,HJ⟩
  replace H:=HK _ HJ
  clear HK HJ
  refine OL.za S fun _ S=>?_
  refine OL.nil ?_
  refine W.ret ?_
  exact Ret.one S rfl rfl H
def L51 (x0:Int) (y1:Int) (h:Heap) (R:Value→Heap→Prop):Prop:=
 cal Try.prog 61 #[Value.int .i64 x0] h fun u h1=>asB u fun x6=>
 ∃J:Bool→Heap→Prop,(andj x6 (fun k=>
  cal Try.prog 61 #[Value.int .i64 y1] h1 fun u_1 h3=>asB u_1 fun x9=>
  k (!x9) h3) h1 J)∧∀x11 h2,J x11 h2 →
 R (Value.bool (x11 || (decide (x0<y1)))) h2
set_option maxRecDepth 100000 in
theorem F51 {x0 y1 h:_} {R:Value→Heap→Prop} (H:L51 x0 y1 h R):CallsH Try.prog 51 #[Value.int .i64 x0,Value.int .i64 y1] h R:=by
 refine CallsH.enter (n:=17) Try.func51 rfl rfl rfl rfl ?_
 intro w0 aa ww S
 unfold L51 at H
 refine W.seq ?_
 refine W.region ?_
 refine OL.za S fun _ S=>?_
 refine OL.nil ?_
 refine W.seq ?_
 refine W.region ?_
 refine OL.zm S fun _ S=>?_
 refine ol_cal S H isfn61 rfl rfl trivial ?_
 clear S H;intro u aa ww h1 H S
 obtain⟨x6,rfl,H⟩:=H
 refine OL.zm S fun _ S=>?_
 obtain⟨J,H,HK⟩:=H
 refine OL.cutN 4 (fun aa ww=>∃x11 h2,St 17 ((11,Value.bool x11) :: [(0,Value.int .i64 x0),(1,Value.int .i64 y1),(5,Value.int .i64 x0),(6,Value.bool x6),(7,Value.bool x6)]) h2 w0 aa ww∧J x11 h2) ?_ ?_
 ·
  rcases Bool.eq_false_or_eq_true x6 with hb|hb
  ·
   replace H:=H.1 hb
   refine OL.zm (hg:=GOk.mk rfl rfl hb) S fun _ S=>?_
   refine ol_cal S H isfn61 rfl rfl (GOk.mk rfl rfl hb) ?_
   clear S H;intro u_1 aa ww h3 H S
   obtain⟨x9,rfl,H⟩:=H
   refine OL.zq (hg:=GOk.mk rfl rfl hb) S (Lf.run_not (S.ev rfl)) fun _ S=>?_
   refine OL.zq S (Lf.run_pickT (S.ev rfl) hb (S.ev rfl)) fun _ S=>?_
   refine OL.nil ?_
   exact⟨_,_,S.sub _ ⟨rfl,rfl,rfl,rfl,rfl,rfl,trivial⟩,H⟩
  ·
   replace H:=H.2 hb
   refine OL.zn S (GNo.mk rfl rfl hb) fun _ S=>?_
   refine OL.zn S (GNo.mk rfl rfl hb) fun _ S=>?_
   refine OL.zn S (GNo.mk rfl rfl hb) fun _ S=>?_
   refine OL.zq S (Lf.run_pickF (S.ev rfl) hb (S.ev rfl)) fun _ S=>?_
   refine OL.nil ?_
   exact⟨_,_,S.sub _ ⟨rfl,rfl,rfl,rfl,rfl,rfl,trivial⟩,H⟩
 ·
  clear S
  rintro aa ww ⟨x11,h2,S,HJ⟩
  replace H:=HK _ _ HJ
  clear HK HJ
  refine OL.zm S fun _ S=>?_
  refine OL.cutN 4 (fun aa ww=>St 17 ((16,Value.bool (x11 || (decide (x0<y1)))) :: [(0,Value.int .i64 x0),(1,Value.int .i64 y1),(5,Value.int .i64 x0),(6,Value.bool x6),(7,Value.bool x6),(11,Value.bool x11),(12,Value.bool x11)]) h2 w0 aa ww) ?_ ?_
  ·
   rcases Bool.eq_false_or_eq_true x11 with hb_1|hb_1
   ·
    refine OL.zn S (GNo.mk rfl rfl hb_1) fun _ S=>?_
    refine OL.zn S (GNo.mk rfl rfl hb_1) fun _ S=>?_
    refine OL.zn S (GNo.mk rfl rfl hb_1) fun _ S=>?_
    refine OL.zq S (Lf.run_pickT (S.ev rfl) hb_1 (S.ev rfl)) fun _ S=>?_
    refine OL.nil ?_
    exact (S.hd (by rw[hb_1,Bool.true_or])).sub _ ⟨rfl,rfl,rfl,rfl,rfl,rfl,rfl,rfl,trivial⟩
   ·
    refine OL.zm (hg:=GOk.mk rfl rfl hb_1) S fun _ S=>?_
    refine OL.zm (hg:=GOk.mk rfl rfl hb_1) S fun _ S=>?_
    refine OL.zq (hg:=GOk.mk rfl rfl hb_1) S (Lf.run_lss (S.ev rfl) (S.ev rfl)) fun _ S=>?_
    refine OL.zq S (Lf.run_pickF (S.ev rfl) hb_1 (S.ev rfl)) fun _ S=>?_
    refine OL.nil ?_
    exact (S.hd (by rw[hb_1,Bool.false_or])).sub _ ⟨rfl,rfl,rfl,rfl,rfl,rfl,rfl,rfl,trivial⟩
  ·
   clear S
   intro aa ww S
   refine OL.za S fun _ S=>?_
   refine OL.nil ?_
   refine W.ret ?_
   exact Ret.one S rfl rfl H
def L52 (x0:Int) (h:Heap) (R:Value→Heap→Prop):Prop:=
 R (Value.bool (x0 != x0)) h
set_option maxRecDepth 100000 in
theorem F52 {x0 h:_} {R:Value→Heap→Prop} (H:L52 x0 h R):CallsH Try.prog 52 #[Value.int .i64 x0] h R:=by
 refine CallsH.enter (n:=6) Try.func52 rfl rfl rfl rfl ?_
 intro w0 aa ww S
 unfold L52 at H
 refine W.seq ?_
 refine W.region ?_
 refine OL.za S fun _ S=>?_
 refine OL.nil ?_
 refine W.seq ?_
 refine W.region ?_
 refine OL.zm S fun _ S=>?_
 refine OL.zm S fun _ S=>?_
 refine OL.zq S (Lf.run_neq (S.ev rfl) (S.ev rfl)) fun _ S=>?_
 refine OL.za S fun _ S=>?_
 refine OL.nil ?_
 refine W.ret ?_
 exact Ret.one S rfl rfl H
def L53 (l0:Sv) (n1:Int) (most2:Int) (h:Heap) (R:Value→Heap→Prop):Prop:=
 ifb (decide (n1<((l0.n:Nat):Int))) (
  R (Value.bool false) h) (
  ∃(I:Int→Prop) (m:Int→Nat),I 0∧∀x17,I x17 →
  ifb (decide (x17<((l0.n:Nat):Int))) (
   ixS l0 x17 fun q19=>
   ldS h (q19.add ((x17:Int).toNat*1)) fun x20=>
   ∃(I_1:Int→Prop) (m_1:Int→Nat),I_1 0∧∀x23,I_1 x23 →
   ifb (decide (x23<((x20.n:Nat):Int))) (
    ixS x20 x23 fun q25=>
    ldI .i64 h (q25.add ((x23:Int).toNat*1)) fun x26=>
    ifb ((decide (x26<0)) || (decide (most2≤x26))) (
     R (Value.bool false) h) (
     I_1 (IntKind.i64.wrap (x23+1))∧m_1 (IntKind.i64.wrap (x23+1))<m_1 x23)) (
    I (IntKind.i64.wrap (x17+1))∧m (IntKind.i64.wrap (x17+1))<m x17)) (
   R (Value.bool true) h))
set_option maxRecDepth 100000 in
theorem F53 {l0 n1 most2 h:_} {R:Value→Heap→Prop} (H:L53 l0 n1 most2 h R):CallsH Try.prog 53 #[Value.slice l0.a l0.n l0.c,Value.int .i64 n1,Value.int .i64 most2] h R:=by
 refine CallsH.enter (n:=36) Try.func53 rfl rfl rfl rfl ?_
 intro w0 aa ww S
 unfold L53 at H
 refine W.seq ?_
 refine W.region ?_
 refine OL.za S fun _ S=>?_
 refine OL.nil ?_
 refine W.seq ?_
 refine W.seq ?_
 refine W.region ?_
 refine OL.zm S fun _ S=>?_
 refine OL.zq S (Lf.run_lens (S.ev rfl) rfl Try.underlying42) fun _ S=>?_
 refine OL.zm S fun _ S=>?_
 refine OL.zq S (Lf.run_gtr (S.ev rfl) (S.ev rfl)) fun _ S=>?_
 refine OL.nil ?_
 refine W.cond S (b:=(decide (n1<((l0.n:Nat):Int)))) rfl (fun hb=>?_) (fun hb=>?_)
 ·
  replace H:=H.1 hb
  refine W.seq ?_
  refine W.region ?_
  refine OL.za S fun _ S=>?_
  refine OL.nil ?_
  refine W.ret ?_
  exact Ret.one S rfl rfl H
 ·
  replace H:=H.2 hb
  refine W.skip ?_
  refine W.seq ?_
  refine W.seq ?_
  refine W.region ?_
  refine OL.zm S fun _ S=>?_
  refine OL.zq S (Lf.run_lens (S.ev rfl) rfl Try.underlying42) fun _ S=>?_
  refine OL.zm S fun _ S=>?_
  refine OL.nil ?_
  refine W.block ?_
  obtain⟨I,m,H,HB_1⟩:=H
  refine W.loopS (σ:=Int) (fun s aa ww=>St 36 [(2,Value.int .i64 most2),(15,Value.slice l0.a l0.n l0.c),(16,Value.int .i64 ((l0.n:Nat):Int)),(17,Value.int .i64 s)] h w0 aa ww∧I s) (fun s=>m s) (0) ⟨S.sub _ ⟨rfl,rfl,rfl,rfl,trivial⟩,H⟩ ?_
  clear H S
  rintro x17 aa ww ⟨S,HI⟩
  replace S:St 36 [(2,Value.int .i64 most2),(15,Value.slice l0.a l0.n l0.c),(16,Value.int .i64 ((l0.n:Nat):Int)),(17,Value.int .i64 x17)] h w0 aa ww:=S
  have H:=HB_1 x17 HI
  clear HI
  refine W.seq ?_
  refine W.region ?_
  refine OL.zq S (Lf.run_lss (S.ev rfl) (S.ev rfl)) fun _ S=>?_
  refine OL.nil ?_
  refine W.seq ?_
  refine W.cond S (b:=(decide (x17<((l0.n:Nat):Int)))) rfl (fun hb_1=>?_) (fun hb_1=>?_)
  ·
   replace H:=H.1 hb_1
   refine W.skip ?_
   refine W.seq ?_
   refine W.block ?_
   refine W.seq ?_
   refine W.region ?_
   obtain⟨q19,e,e_1,e_2,H⟩:=H
   refine OL.zq S (Lf.run_ixs (S.ev rfl) (S.ev rfl) Try.underlying42 ti47 e e_1 e_2) fun _ S=>?_
   obtain⟨x20,c,H⟩:=H
   refine OL.zl S fl47 c fun _ S=>?_
   refine OL.za S fun _ S=>?_
   refine OL.nil ?_
   refine W.seq ?_
   refine W.region ?_
   refine OL.zm S fun _ S=>?_
   refine OL.zq S (Lf.run_lens (S.ev rfl) rfl Try.underlying47) fun _ S=>?_
   refine OL.zm S fun _ S=>?_
   refine OL.nil ?_
   refine W.block ?_
   obtain⟨I_1,m_1,H,HB⟩:=H
   refine W.loopS (σ:=Int) (fun s aa ww=>St 36 [(2,Value.int .i64 most2),(15,Value.slice l0.a l0.n l0.c),(16,Value.int .i64 ((l0.n:Nat):Int)),(17,Value.int .i64 x17),(21,Value.slice x20.a x20.n x20.c),(22,Value.int .i64 ((x20.n:Nat):Int)),(23,Value.int .i64 s)] h w0 aa ww∧I_1 s) (fun s=>m_1 s) (0) ⟨S.sub _ ⟨rfl,rfl,rfl,rfl,rfl,rfl,rfl,trivial⟩,H⟩ ?_
   clear H S
   rintro x23 aa ww ⟨S,HI⟩
   replace S:St 36 [(2,Value.int .i64 most2),(15,Value.slice l0.a l0.n l0.c),(16,Value.int .i64 ((l0.n:Nat):Int)),(17,Value.int .i64 x17),(21,Value.slice x20.a x20.n x20.c),(22,Value.int .i64 ((x20.n:Nat):Int)),(23,Value.int .i64 x23)] h w0 aa ww:=S
   have H:=HB x23 HI
   clear HI
   refine W.seq ?_
   refine W.region ?_
   refine OL.zq S (Lf.run_lss (S.ev rfl) (S.ev rfl)) fun _ S=>?_
   refine OL.nil ?_
   refine W.seq ?_
   refine W.cond S (b:=(decide (x23<((x20.n:Nat):Int)))) rfl (fun hb_2=>?_) (fun hb_2=>?_)
   ·
    replace H:=H.1 hb_2
    refine W.skip ?_
    refine W.seq ?_
    refine W.block ?_
    refine W.seq ?_
    refine W.region ?_
    obtain⟨q25,e_3,e_4,e_5,H⟩:=H
    refine OL.zq S (Lf.run_ixs (S.ev rfl) (S.ev rfl) Try.underlying47 ti3 e_3 e_4 e_5) fun _ S=>?_
    obtain⟨x26,c_1,H⟩:=H
    refine OL.zl S fl3 c_1 fun _ S=>?_
    refine OL.za S fun _ S=>?_
    refine OL.nil ?_
    refine W.seq ?_
    refine W.region ?_
    refine OL.zm S fun _ S=>?_
    refine OL.zq S (Lf.run_lss (S.ev rfl) (S.ev rfl)) fun _ S=>?_
    refine OL.zm S fun _ S=>?_
    refine OL.cutN 4 (fun aa ww=>St 36 ((33,Value.bool ((decide (x26<0)) || (decide (most2≤x26)))) :: [(2,Value.int .i64 most2),(10,Value.int .i64 x26),(15,Value.slice l0.a l0.n l0.c),(16,Value.int .i64 ((l0.n:Nat):Int)),(17,Value.int .i64 x17),(21,Value.slice x20.a x20.n x20.c),(22,Value.int .i64 ((x20.n:Nat):Int)),(23,Value.int .i64 x23),(27,Value.int .i64 x26),(28,Value.bool (decide (x26<0))),(29,Value.bool (decide (x26<0)))]) h w0 aa ww) ?_ ?_
    ·
     rcases Bool.eq_false_or_eq_true (decide (x26<0)) with hb_3|hb_3
     ·
      refine OL.zn S (GNo.mk rfl rfl hb_3) fun _ S=>?_
      refine OL.zn S (GNo.mk rfl rfl hb_3) fun _ S=>?_
      refine OL.zn S (GNo.mk rfl rfl hb_3) fun _ S=>?_
      refine OL.zq S (Lf.run_pickT (S.ev rfl) hb_3 (S.ev rfl)) fun _ S=>?_
      refine OL.nil ?_
      exact (S.hd (by rw[hb_3,Bool.true_or])).sub _ ⟨rfl,rfl,rfl,rfl,rfl,rfl,rfl,rfl,rfl,rfl,rfl,rfl,trivial⟩
     ·
      refine OL.zm (hg:=GOk.mk rfl rfl hb_3) S fun _ S=>?_
      refine OL.zm (hg:=GOk.mk rfl rfl hb_3) S fun _ S=>?_
      refine OL.zq (hg:=GOk.mk rfl rfl hb_3) S (Lf.run_geq (S.ev rfl) (S.ev rfl)) fun _ S=>?_
      refine OL.zq S (Lf.run_pickF (S.ev rfl) hb_3 (S.ev rfl)) fun _ S=>?_
      refine OL.nil ?_
      exact (S.hd (by rw[hb_3,Bool.false_or])).sub _ ⟨rfl,rfl,rfl,rfl,rfl,rfl,rfl,rfl,rfl,rfl,rfl,rfl,trivial⟩
    ·
     clear S
     intro aa ww S
     refine OL.nil ?_
     refine W.cond S (b:=((decide (x26<0)) || (decide (most2≤x26)))) rfl (fun hb_4=>?_) (fun hb_4=>?_)
     ·
      replace H:=H.1 hb_4
      refine W.seq ?_
      refine W.region ?_
      refine OL.za S fun _ S=>?_
      refine OL.nil ?_
      refine W.ret ?_
      exact Ret.one S rfl rfl H
     ·
      replace H:=H.2 hb_4
      refine W.skip ?_
      refine W.region ?_
      refine OL.zq S (Lf.run_add (S.ev rfl) (S.ev rfl)) fun _ S=>?_
      refine OL.zm S fun _ S=>?_
      refine OL.nil ?_
      exact⟨((IntKind.i64.wrap (x23+1))),⟨S.sub _ ⟨rfl,rfl,rfl,rfl,rfl,rfl,rfl,trivial⟩,H.1⟩,H.2⟩
   ·
    replace H:=H.2 hb_2
    refine W.exit_ ?_
    refine xhit ?_
    refine W.region ?_
    refine OL.zq S (Lf.run_add (S.ev rfl) (S.ev rfl)) fun _ S=>?_
    refine OL.zm S fun _ S=>?_
    refine OL.nil ?_
    exact⟨((IntKind.i64.wrap (x17+1))),⟨S.sub _ ⟨rfl,rfl,rfl,rfl,trivial⟩,H.1⟩,H.2⟩
  ·
   replace H:=H.2 hb_1
   refine W.exit_ ?_
   refine xhit ?_
   refine W.seq ?_
   refine W.region ?_
   refine OL.za S fun _ S=>?_
   refine OL.nil ?_
   refine W.ret ?_
   exact Ret.one S rfl rfl H
def L54 (l0:Sv) (i1:Int) (h:Heap) (R:Value→Heap→Prop):Prop:=
 ifb (decide (((l0.n:Nat):Int)≤i1)) (
  R (Value.slice (⟨none,0,0⟩:Sv).a (⟨none,0,0⟩:Sv).n (⟨none,0,0⟩:Sv).c) h) (
  ixS l0 i1 fun q11=>
  ldS h (q11.add ((i1:Int).toNat*1)) fun x12=>
  R (Value.slice x12.a x12.n x12.c) h)
set_option maxRecDepth 100000 in
theorem F54 {l0 i1 h:_} {R:Value→Heap→Prop} (H:L54 l0 i1 h R):CallsH Try.prog 54 #[Value.slice l0.a l0.n l0.c,Value.int .i64 i1] h R:=by
 refine CallsH.enter (n:=13) Try.func54 rfl rfl rfl rfl ?_
 intro w0 aa ww S
 unfold L54 at H
 refine W.seq ?_
 refine W.region ?_
 refine OL.za S fun _ S=>?_
 refine OL.nil ?_
 refine W.seq ?_
 refine W.seq ?_
 refine W.region ?_
 refine OL.zm S fun _ S=>?_
 refine OL.zm S fun _ S=>?_
 refine OL.zq S (Lf.run_lens (S.ev rfl) rfl Try.underlying42) fun _ S=>?_
 refine OL.zq S (Lf.run_geq (S.ev rfl) (S.ev rfl)) fun _ S=>?_
 refine OL.nil ?_
 refine W.cond S (b:=(decide (((l0.n:Nat):Int)≤i1))) rfl (fun hb=>?_) (fun hb=>?_)
 ·
  replace H:=H.1 hb
  refine W.seq ?_
  refine W.region ?_
  refine OL.za S fun _ S=>?_
  refine OL.nil ?_
  refine W.ret ?_
  exact Ret.one S rfl rfl H
 ·
  replace H:=H.2 hb
  refine W.skip ?_
  refine W.seq ?_
  refine W.region ?_
  refine OL.zm S fun _ S=>?_
  refine OL.zm S fun _ S=>?_
  obtain⟨q11,e,e_1,e_2,H⟩:=H
  refine OL.zq S (Lf.run_ixs (S.ev rfl) (S.ev rfl) Try.underlying42 ti47 e e_1 e_2) fun _ S=>?_
  obtain⟨x12,c,H⟩:=H
  refine OL.zl S fl47 c fun _ S=>?_
  refine OL.za S fun _ S=>?_
  refine OL.nil ?_
  refine W.ret ?_
  exact Ret.one S rfl rfl H
def L55 (s10:Sv) (s21:Sv) (h:Heap) (R:Value→Heap→Prop):Prop:=
 ifb (((s10.n:Nat):Int) != ((s21.n:Nat):Int)) (
  R (Value.bool false) h) (
  ∃(I:Int→Prop) (m:Int→Nat),I 0∧∀x13,I x13 →
  ifb (decide (x13<((s10.n:Nat):Int))) (
   ixS s10 x13 fun q18=>
   ldI .i64 h (q18.add ((x13:Int).toNat*1)) fun x19=>
   ixS s21 x13 fun q22=>
   ldI .i64 h (q22.add ((x13:Int).toNat*1)) fun x23=>
   ifb (x19 != x23) (
    R (Value.bool false) h) (
    I (IntKind.i64.wrap (x13+1))∧m (IntKind.i64.wrap (x13+1))<m x13)) (
   R (Value.bool true) h))
set_option maxRecDepth 100000 in
theorem F55 {s10 s21 h:_} {R:Value→Heap→Prop} (H:L55 s10 s21 h R):CallsH Try.prog 55 #[Value.slice s10.a s10.n s10.c,Value.slice s21.a s21.n s21.c] h R:=by
 refine CallsH.enter (n:=26) Try.func55 rfl rfl rfl rfl ?_
 intro w0 aa ww S
 unfold L55 at H
 refine W.seq ?_
 refine W.region ?_
 refine OL.za S fun _ S=>?_
 refine OL.nil ?_
 refine W.seq ?_
 refine W.seq ?_
 refine W.region ?_
 refine OL.zm S fun _ S=>?_
 refine OL.zq S (Lf.run_lens (S.ev rfl) rfl Try.underlying47) fun _ S=>?_
 refine OL.zm S fun _ S=>?_
 refine OL.zq S (Lf.run_lens (S.ev rfl) rfl Try.underlying47) fun _ S=>?_
 refine OL.zq S (Lf.run_neq (S.ev rfl) (S.ev rfl)) fun _ S=>?_
 refine OL.nil ?_
 refine W.cond S (b:=(((s10.n:Nat):Int) != ((s21.n:Nat):Int))) rfl (fun hb=>?_) (fun hb=>?_)
 ·
  replace H:=H.1 hb
  refine W.seq ?_
  refine W.region ?_
  refine OL.za S fun _ S=>?_
  refine OL.nil ?_
  refine W.ret ?_
  exact Ret.one S rfl rfl H
 ·
  replace H:=H.2 hb
  refine W.skip ?_
  refine W.seq ?_
  refine W.seq ?_
  refine W.region ?_
  refine OL.zm S fun _ S=>?_
  refine OL.zq S (Lf.run_lens (S.ev rfl) rfl Try.underlying47) fun _ S=>?_
  refine OL.zm S fun _ S=>?_
  refine OL.nil ?_
  refine W.block ?_
  obtain⟨I,m,H,HB⟩:=H
  refine W.loopS (σ:=Int) (fun s aa ww=>St 26 [(0,Value.slice s10.a s10.n s10.c),(1,Value.slice s21.a s21.n s21.c),(12,Value.int .i64 ((s10.n:Nat):Int)),(13,Value.int .i64 s)] h w0 aa ww∧I s) (fun s=>m s) (0) ⟨S.sub _ ⟨rfl,rfl,rfl,rfl,trivial⟩,H⟩ ?_
  clear H S
  rintro x13 aa ww ⟨S,HI⟩
  replace S:St 26 [(0,Value.slice s10.a s10.n s10.c),(1,Value.slice s21.a s21.n s21.c),(12,Value.int .i64 ((s10.n:Nat):Int)),(13,Value.int .i64 x13)] h w0 aa ww:=S
  have H:=HB x13 HI
  clear HI
  refine W.seq ?_
  refine W.region ?_
  refine OL.zq S (Lf.run_lss (S.ev rfl) (S.ev rfl)) fun _ S=>?_
  refine OL.nil ?_
  refine W.seq ?_
  refine W.cond S (b:=(decide (x13<((s10.n:Nat):Int)))) rfl (fun hb_1=>?_) (fun hb_1=>?_)
  ·
   replace H:=H.1 hb_1
   refine W.skip ?_
   refine W.seq ?_
   refine W.block ?_
   refine W.seq ?_
   refine W.region ?_
   refine OL.zm S fun _ S=>?_
   refine OL.za S fun _ S=>?_
   refine OL.nil ?_
   refine W.seq ?_
   replace S:=S.sub [(0,Value.slice s10.a s10.n s10.c),(1,Value.slice s21.a s21.n s21.c),(5,Value.int .i64 x13),(12,Value.int .i64 ((s10.n:Nat):Int)),(13,Value.int .i64 x13)] ⟨rfl,rfl,rfl,rfl,rfl,trivial⟩
   refine W.regionD S (by kernel_rfl) ?_
   clear S;intro ww S
   refine AN.zq 0 S rfl (fun _=>Lf.run_move (S.ev rfl)) fun _ S=>?_
   refine AN.zq 1 S rfl (fun _=>Lf.run_move (S.ev rfl)) fun _ S=>?_
   obtain⟨q18,e,e_1,e_2,H⟩:=H
   refine AN.zq 2 S rfl (fun _=>Lf.run_ixs (S.ev rfl) (S.ev rfl) Try.underlying47 ti3 e e_1 e_2) fun _ S=>?_
   obtain⟨x19,c,H⟩:=H
   refine AN.zl 3 S rfl (fun _ hx=>Lf.run_ld (S.ev rfl) fl3 (hx.cell _ _ (S.cl c))) fun _ S=>?_
   refine AN.zq 4 S rfl (fun _=>Lf.run_move (S.ev rfl)) fun _ S=>?_
   refine AN.zq 5 S rfl (fun _=>Lf.run_move (S.ev rfl)) fun _ S=>?_
   obtain⟨q22,e_3,e_4,e_5,H⟩:=H
   refine AN.zq 6 S rfl (fun _=>Lf.run_ixs (S.ev rfl) (S.ev rfl) Try.underlying47 ti3 e_3 e_4 e_5) fun _ S=>?_
   obtain⟨x23,c_1,H⟩:=H
   refine AN.zl 7 S rfl (fun _ hx=>Lf.run_ld (S.ev rfl) fl3 (hx.cell _ _ (S.cl c_1))) fun _ S=>?_
   refine AN.zq 8 S rfl (fun _=>Lf.run_neq (S.ev rfl) (S.ev rfl)) fun _ S=>?_
   refine AN.done (by kernel_rfl) ?_
   refine W.cond S (b:=(x19 != x23)) rfl (fun hb_2=>?_) (fun hb_2=>?_)
   ·
    replace H:=H.1 hb_2
    refine W.seq ?_
    refine W.region ?_
    refine OL.za S fun _ S=>?_
    refine OL.nil ?_
    refine W.ret ?_
    exact Ret.one S rfl rfl H
   ·
    replace H:=H.2 hb_2
    refine W.skip ?_
    refine W.region ?_
    refine OL.zq S (Lf.run_add (S.ev rfl) (S.ev rfl)) fun _ S=>?_
    refine OL.zm S fun _ S=>?_
    refine OL.nil ?_
    exact⟨((IntKind.i64.wrap (x13+1))),⟨S.sub _ ⟨rfl,rfl,rfl,rfl,trivial⟩,H.1⟩,H.2⟩
  ·
   replace H:=H.2 hb_1
   refine W.exit_ ?_
   refine xhit ?_
   refine W.seq ?_
   refine W.region ?_
   refine OL.za S fun _ S=>?_
   refine OL.nil ?_
   refine W.ret ?_
   exact Ret.one S rfl rfl H
def L56 (b0:Option Addr) (n1:Int) (h:Heap) (R:Value→Heap→Prop):Prop:=
 ∃J:Bool→Prop,(andr (decide (0≤n1)) (fun k=>
  nn b0 fun p10=>
  ldS h (p10.add 2) fun x12=>
  k (decide (n1<((x12.n:Nat):Int)))) J)∧∀x15,J x15 →
 R (Value.bool x15) h
set_option maxRecDepth 100000 in
theorem F56 {b0 n1 h:_} {R:Value→Heap→Prop} (H:L56 b0 n1 h R):CallsH Try.prog 56 #[Value.pointer b0,Value.int .i64 n1] h R:=by
 refine CallsH.enter (n:=16) Try.func56 rfl rfl rfl rfl ?_
 intro w0 aa ww S
 unfold L56 at H
 refine W.seq ?_
 refine W.region ?_
 refine OL.za S fun _ S=>?_
 refine OL.nil ?_
 refine W.seq ?_
 refine W.region ?_
 refine OL.zm S fun _ S=>?_
 refine OL.zq S (Lf.run_geq (S.ev rfl) (S.ev rfl)) fun _ S=>?_
 refine OL.zm S fun _ S=>?_
 obtain⟨J,H,HK⟩:=H
 refine OL.cutN 8 (fun aa ww=>∃x15,St 16 ((15,Value.bool x15) :: [(0,Value.pointer b0),(1,Value.int .i64 n1),(5,Value.int .i64 n1),(6,Value.bool (decide (0≤n1))),(7,Value.bool (decide (0≤n1)))]) h w0 aa ww∧J x15) ?_ ?_
 ·
  rcases Bool.eq_false_or_eq_true (decide (0≤n1)) with hb|hb
  ·
   replace H:=H.1 hb
   refine OL.zm (hg:=GOk.mk rfl rfl hb) S fun _ S=>?_
   refine OL.zm (hg:=GOk.mk rfl rfl hb) S fun _ S=>?_
   obtain⟨p10,e,H⟩:=H
   refine OL.zq (hg:=GOk.mk rfl rfl hb) S (Lf.run_nc' (S.ev rfl) e) fun _ S=>?_
   refine OL.zf (hg:=GOk.mk rfl rfl hb) S fa30_2 fun _ S=>?_
   obtain⟨x12,c,H⟩:=H
   refine OL.zl (hg:=GOk.mk rfl rfl hb) S fl27 c fun _ S=>?_
   refine OL.zq (hg:=GOk.mk rfl rfl hb) S (Lf.run_lens (S.ev rfl) rfl Try.underlying27) fun _ S=>?_
   refine OL.zq (hg:=GOk.mk rfl rfl hb) S (Lf.run_lss (S.ev rfl) (S.ev rfl)) fun _ S=>?_
   refine OL.zq S (Lf.run_pickT (S.ev rfl) hb (S.ev rfl)) fun _ S=>?_
   refine OL.nil ?_
   exact⟨_,S.sub _ ⟨rfl,rfl,rfl,rfl,rfl,rfl,trivial⟩,H⟩
  ·
   replace H:=H.2 hb
   refine OL.zn S (GNo.mk rfl rfl hb) fun _ S=>?_
   refine OL.zn S (GNo.mk rfl rfl hb) fun _ S=>?_
   refine OL.zn S (GNo.mk rfl rfl hb) fun _ S=>?_
   refine OL.zn S (GNo.mk rfl rfl hb) fun _ S=>?_
   refine OL.zn S (GNo.mk rfl rfl hb) fun _ S=>?_
   refine OL.zn S (GNo.mk rfl rfl hb) fun _ S=>?_
   refine OL.zn S (GNo.mk rfl rfl hb) fun _ S=>?_
   refine OL.zq S (Lf.run_pickF (S.ev rfl) hb (S.ev rfl)) fun _ S=>?_
   refine OL.nil ?_
   exact⟨_,S.sub _ ⟨rfl,rfl,rfl,rfl,rfl,rfl,trivial⟩,H⟩
 ·
  clear S
  rintro aa ww ⟨x15,S,HJ⟩
  replace H:=HK _ HJ
  clear HK HJ
  refine OL.za S fun _ S=>?_
  refine OL.nil ?_
  refine W.ret ?_
  exact Ret.one S rfl rfl H
def L57 (b0:Option Addr) (p1:Int) (p1_1:Sv) (h:Heap) (R:Value→Heap→Prop):Prop:=
 new 49 #[Value.int .i64 p1,Value.slice p1_1.a p1_1.n p1_1.c] h fun p3 h1=>
 ldI .i64 h1 p3 fun x7=>
 cal Try.prog 56 #[Value.pointer b0,Value.int .i64 x7] h1 fun u h2=>asB u fun x8=>
 ∃J:Bool→Heap→Prop,(andj x8 (fun k=>
  ldS h2 (p3.add 1) fun x11=>
  cal Try.prog 49 #[Value.slice x11.a x11.n x11.c,(Value.func (.func 62) #[] #[])] h2 fun u_1 h4=>asB u_1 fun x12=>
  k (!x12) h4) h2 J)∧∀x14 h3,J x14 h3 →
 R (Value.bool x14) h3
set_option maxRecDepth 100000 in
theorem F57 {b0 p1 p1_1 h:_} {R:Value→Heap→Prop} (H:L57 b0 p1 p1_1 h R):CallsH Try.prog 57 #[Value.pointer b0,Value.agg #[Value.int .i64 p1,Value.slice p1_1.a p1_1.n p1_1.c]] h R:=by
 refine CallsH.enter (n:=15) Try.func57 rfl rfl rfl rfl ?_
 intro w0 aa ww S
 unfold L57 at H
 refine W.seq ?_
 refine W.region ?_
 refine ol_box S H rfl rfl rfl trivial ?_
 clear S H;intro p3 aa ww h1 H S
 refine OL.za S fun _ S=>?_
 refine OL.nil ?_
 refine W.seq ?_
 refine W.region ?_
 refine OL.zm S fun _ S=>?_
 refine OL.zf S fa49_0 fun _ S=>?_
 obtain⟨x7,c,H⟩:=H
 refine OL.zl S fl3 c fun _ S=>?_
 refine ol_cal S H isfn56 rfl rfl trivial ?_
 clear S H;intro u aa ww h2 H S
 obtain⟨x8,rfl,H⟩:=H
 refine OL.zm S fun _ S=>?_
 obtain⟨J,H,HK⟩:=H
 refine OL.cutN 5 (fun aa ww=>∃x14 h3,St 15 ((14,Value.bool x14) :: [(0,Value.pointer b0),(3,Value.pointer (some p3)),(5,Value.pointer b0),(6,Value.pointer (some p3)),(7,Value.int .i64 x7),(8,Value.bool x8),(9,Value.bool x8)]) h3 w0 aa ww∧J x14 h3) ?_ ?_
 ·
  rcases Bool.eq_false_or_eq_true x8 with hb|hb
  ·
   replace H:=H.1 hb
   refine OL.zf (hg:=GOk.mk rfl rfl hb) S fa49_1 fun _ S=>?_
   obtain⟨x11,c_1,H⟩:=H
   refine OL.zl (hg:=GOk.mk rfl rfl hb) S fl47 c_1 fun _ S=>?_
   refine ol_cal S H isfn49 rfl rfl (GOk.mk rfl rfl hb) ?_
   clear S H;intro u_1 aa ww h4 H S
   obtain⟨x12,rfl,H⟩:=H
   refine OL.zq (hg:=GOk.mk rfl rfl hb) S (Lf.run_not (S.ev rfl)) fun _ S=>?_
   refine OL.zq S (Lf.run_pickT (S.ev rfl) hb (S.ev rfl)) fun _ S=>?_
   refine OL.nil ?_
   exact⟨_,_,S.sub _ ⟨rfl,rfl,rfl,rfl,rfl,rfl,rfl,rfl,trivial⟩,H⟩
  ·
   replace H:=H.2 hb
   refine OL.zn S (GNo.mk rfl rfl hb) fun _ S=>?_
   refine OL.zn S (GNo.mk rfl rfl hb) fun _ S=>?_
   refine OL.zn S (GNo.mk rfl rfl hb) fun _ S=>?_
   refine OL.zn S (GNo.mk rfl rfl hb) fun _ S=>?_
   refine OL.zq S (Lf.run_pickF (S.ev rfl) hb (S.ev rfl)) fun _ S=>?_
   refine OL.nil ?_
   exact⟨_,_,S.sub _ ⟨rfl,rfl,rfl,rfl,rfl,rfl,rfl,rfl,trivial⟩,H⟩
 ·
  clear S
  rintro aa ww ⟨x14,h3,S,HJ⟩
  replace H:=HK _ _ HJ
  clear HK HJ
  refine OL.za S fun _ S=>?_
  refine OL.nil ?_
  refine W.ret ?_
  exact Ret.one S rfl rfl H
def L58 (b0:Option Addr) (r1:Int) (r1_1:Sv) (r1_2:Int) (r1_3:Sv) (r1_4:Bool) (r1_5:ByteArray) (r1_6:Int) (r1_7:Sv) (h:Heap) (R:Value→Heap→Prop):Prop:=
 new 38 #[Value.pointer b0] h fun p2 h1=>
 new 70 #[Value.int .i64 r1,Value.slice r1_1.a r1_1.n r1_1.c,Value.int .i64 r1_2,Value.slice r1_3.a r1_3.n r1_3.c,Value.bool r1_4,Value.string r1_5,Value.int .i64 r1_6,Value.slice r1_7.a r1_7.n r1_7.c] h1 fun p3 h2=>
 ldI .i64 h2 p3 fun x7=>
 cal Try.prog 63 #[Value.int .i64 x7] h2 fun u h3=>asI .i64 u fun x8=>
 ∃J:Bool→Prop,(orr (x8 == (-2)) (fun k=>
  ∃J_1:Bool→Prop,(andr (decide (0≤x8)) (fun k_1=>
   ldS h3 (p3.add 1) fun x16=>
   k_1 (((x16.n:Nat):Int) != x8)) J_1)∧∀x20,J_1 x20 →
  k x20) J)∧∀x21,J x21 →
 ∃J_2:Bool→Heap→Prop,(orj x21 (fun k_2=>
  ldI .i64 h3 p3 fun x24=>
  ∃J_3:Bool→Heap→Prop,(andj (x24 == 2) (fun k_3=>
   ldP h3 p2 fun x27=>
   ∃(y29:Int) (y29_1:Sv),cl h3 (p3.add 2)=some (Value.int .i64 y29)∧cl h3 ((p3.add 2).add 1)=some (Value.slice y29_1.a y29_1.n y29_1.c) ∧
   cal Try.prog 57 #[Value.pointer x27,Value.agg #[Value.int .i64 y29,Value.slice y29_1.a y29_1.n y29_1.c]] h3 fun u_1 h6=>asB u_1 fun x30=>
   k_3 (!x30) h6) h3 J_3)∧∀x32 h5,J_3 x32 h5 →
  k_2 x32 h5) h3 J_2)∧∀x33 h4,J_2 x33 h4 →
 ∃J_4:Bool→Prop,(orr x33 (fun k_4=>
  ldI .i64 h4 p3 fun x36=>
  ∃J_5:Bool→Prop,(andr (x36 == 9) (fun k_5=>
   ldS h4 (p3.add 1) fun x40=>
   ∃J_6:Bool→Prop,(orr (((x40.n:Nat):Int) == 0) (fun k_6=>
    ldI .i64 h4 (p3.add 6) fun x45=>
    k_6 (decide (x45<0))) J_6)∧∀x47,J_6 x47 →
   k_5 x47) J_5)∧∀x48,J_5 x48 →
  k_4 x48) J_4)∧∀x49,J_4 x49 →
 ifb x49 (
  R (Value.bool false) h4) (
  ldS h4 (p3.add 1) fun x51=>
  cal Try.prog 64 #[Value.slice x51.a x51.n x51.c,(Value.func (.func 65) #[] #[Value.pointer (some p2)])] h4 fun u_2 h7=>asB u_2 fun x53=>
  R (Value.bool (!x53)) h7)
set_option maxRecDepth 100000 in
theorem F58 {b0 r1 r1_1 r1_2 r1_3 r1_4 r1_5 r1_6 r1_7 h:_} {R:Value→Heap→Prop} (H:L58 b0 r1 r1_1 r1_2 r1_3 r1_4 r1_5 r1_6 r1_7 h R):CallsH Try.prog 58 #[Value.pointer b0,Value.agg #[Value.int .i64 r1,Value.slice r1_1.a r1_1.n r1_1.c,Value.int .i64 r1_2,Value.slice r1_3.a r1_3.n r1_3.c,Value.bool r1_4,Value.string r1_5,Value.int .i64 r1_6,Value.slice r1_7.a r1_7.n r1_7.c]] h R:=by
 refine CallsH.enter (n:=55) Try.func58 rfl rfl rfl rfl ?_
 intro w0 aa ww S
 unfold L58 at H
 refine W.seq ?_
 refine W.region ?_
 refine ol_box S H rfl rfl rfl trivial ?_
 clear S H;intro p2 aa ww h1 H S
 refine ol_box S H rfl rfl rfl trivial ?_
 clear S H;intro p3 aa ww h2 H S
 refine OL.za S fun _ S=>?_
 refine OL.nil ?_
 refine W.seq ?_
 refine W.region ?_
 refine OL.zf S fa70_0 fun _ S=>?_
 obtain⟨x7,c,H⟩:=H
 refine OL.zl S fl3 c fun _ S=>?_
 refine ol_cal S H isfn63 rfl rfl trivial ?_
 clear S H;intro u aa ww h3 H S
 obtain⟨x8,rfl,H⟩:=H
 refine OL.za S fun _ S=>?_
 refine OL.nil ?_
 refine W.seq ?_
 refine W.seq ?_
 refine W.region ?_
 refine OL.zm S fun _ S=>?_
 refine OL.zq S (Lf.run_eql (S.ev rfl) (S.ev rfl)) fun _ S=>?_
 refine OL.zm S fun _ S=>?_
 obtain⟨J,H,HK⟩:=H
 refine OL.cutN 10 (fun aa ww=>∃x21,St 55 ((21,Value.bool x21) :: [(2,Value.pointer (some p2)),(3,Value.pointer (some p3)),(5,Value.int .i64 x8),(9,Value.int .i64 x8),(10,Value.bool (x8 == (-2))),(11,Value.bool (x8 == (-2)))]) h3 w0 aa ww∧J x21) ?_ ?_
 ·
  rcases Bool.eq_false_or_eq_true (x8 == (-2)) with hb|hb
  ·
   replace H:=H.1 hb
   refine OL.zn S (GNo.mk rfl rfl hb) fun _ S=>?_
   refine OL.zn S (GNo.mk rfl rfl hb) fun _ S=>?_
   refine OL.zn S (GNo.mk rfl rfl hb) fun _ S=>?_
   refine OL.zn S (GNo.un rfl rfl) fun _ S=>?_
   refine OL.zn S (GNo.un rfl rfl) fun _ S=>?_
   refine OL.zn S (GNo.un rfl rfl) fun _ S=>?_
   refine OL.zn S (GNo.un rfl rfl) fun _ S=>?_
   refine OL.zn S (GNo.un rfl rfl) fun _ S=>?_
   refine OL.zn S (GNo.mk rfl rfl hb) fun _ S=>?_
   refine OL.zq S (Lf.run_pickT (S.ev rfl) hb (S.ev rfl)) fun _ S=>?_
   refine OL.nil ?_
   exact⟨_,S.sub _ ⟨rfl,rfl,rfl,rfl,rfl,rfl,rfl,trivial⟩,H⟩
  ·
   replace H:=H.2 hb
   refine OL.zm (hg:=GOk.mk rfl rfl hb) S fun _ S=>?_
   refine OL.zq (hg:=GOk.mk rfl rfl hb) S (Lf.run_geq (S.ev rfl) (S.ev rfl)) fun _ S=>?_
   refine OL.zm (hg:=GOk.mk rfl rfl hb) S fun _ S=>?_
   obtain⟨J_1,H,HK_1⟩:=H
   refine OL.cutN 6 (fun aa ww=>∃x20,St 55 ((20,Value.bool x20) :: [(2,Value.pointer (some p2)),(3,Value.pointer (some p3)),(5,Value.int .i64 x8),(9,Value.int .i64 x8),(10,Value.bool (x8 == (-2))),(11,Value.bool (x8 == (-2))),(12,Value.int .i64 x8),(13,Value.bool (decide (0≤x8))),(14,Value.bool (decide (0≤x8)))]) h3 w0 aa ww∧J_1 x20) ?_ ?_
   ·
    rcases Bool.eq_false_or_eq_true (decide (0≤x8)) with hb_1|hb_1
    ·
     replace H:=H.1 hb_1
     refine OL.zf (hg:=GOk.mk rfl rfl hb_1) S fa70_1 fun _ S=>?_
     obtain⟨x16,c_1,H⟩:=H
     refine OL.zl (hg:=GOk.mk rfl rfl hb_1) S fl67 c_1 fun _ S=>?_
     refine OL.zq (hg:=GOk.mk rfl rfl hb_1) S (Lf.run_lens (S.ev rfl) rfl Try.underlying67) fun _ S=>?_
     refine OL.zm (hg:=GOk.mk rfl rfl hb_1) S fun _ S=>?_
     refine OL.zq (hg:=GOk.mk rfl rfl hb_1) S (Lf.run_neq (S.ev rfl) (S.ev rfl)) fun _ S=>?_
     refine OL.zq (hg:=GOk.mk rfl rfl hb) S (Lf.run_pickT (S.ev rfl) hb_1 (S.ev rfl)) fun _ S=>?_
     refine OL.nil ?_
     exact⟨_,S.sub _ ⟨rfl,rfl,rfl,rfl,rfl,rfl,rfl,rfl,rfl,rfl,trivial⟩,H⟩
    ·
     replace H:=H.2 hb_1
     refine OL.zn S (GNo.mk rfl rfl hb_1) fun _ S=>?_
     refine OL.zn S (GNo.mk rfl rfl hb_1) fun _ S=>?_
     refine OL.zn S (GNo.mk rfl rfl hb_1) fun _ S=>?_
     refine OL.zn S (GNo.mk rfl rfl hb_1) fun _ S=>?_
     refine OL.zn S (GNo.mk rfl rfl hb_1) fun _ S=>?_
     refine OL.zq (hg:=GOk.mk rfl rfl hb) S (Lf.run_pickF (S.ev rfl) hb_1 (S.ev rfl)) fun _ S=>?_
     refine OL.nil ?_
     exact⟨_,S.sub _ ⟨rfl,rfl,rfl,rfl,rfl,rfl,rfl,rfl,rfl,rfl,trivial⟩,H⟩
   ·
    clear S
    rintro aa ww ⟨x20,S,HJ⟩
    replace H:=HK_1 _ HJ
    clear HK_1 HJ
    refine OL.zq S (Lf.run_pickF (S.ev rfl) hb (S.ev rfl)) fun _ S=>?_
    refine OL.nil ?_
    exact⟨_,S.sub _ ⟨rfl,rfl,rfl,rfl,rfl,rfl,rfl,trivial⟩,H⟩
 ·
  clear S
  rintro aa ww ⟨x21,S,HJ⟩
  replace H:=HK _ HJ
  clear HK HJ
  refine OL.zm S fun _ S=>?_
  obtain⟨J_2,H,HK_2⟩:=H
  refine OL.cutN 11 (fun aa ww=>∃x33 h4,St 55 ((33,Value.bool x33) :: [(2,Value.pointer (some p2)),(3,Value.pointer (some p3)),(5,Value.int .i64 x8),(9,Value.int .i64 x8),(10,Value.bool (x8 == (-2))),(11,Value.bool (x8 == (-2))),(21,Value.bool x21),(22,Value.bool x21)]) h4 w0 aa ww∧J_2 x33 h4) ?_ ?_
  ·
   rcases Bool.eq_false_or_eq_true x21 with hb_2|hb_2
   ·
    replace H:=H.1 hb_2
    refine OL.zn S (GNo.mk rfl rfl hb_2) fun _ S=>?_
    refine OL.zn S (GNo.mk rfl rfl hb_2) fun _ S=>?_
    refine OL.zn S (GNo.mk rfl rfl hb_2) fun _ S=>?_
    refine OL.zn S (GNo.mk rfl rfl hb_2) fun _ S=>?_
    refine OL.zn S (GNo.un rfl rfl) fun _ S=>?_
    refine OL.zn S (GNo.un rfl rfl) fun _ S=>?_
    refine OL.zn S (GNo.un rfl rfl) fun _ S=>?_
    refine OL.zn S (GNo.un rfl rfl) fun _ S=>?_
    refine OL.zn S (GNo.un rfl rfl) fun _ S=>?_
    refine OL.zn S (GNo.mk rfl rfl hb_2) fun _ S=>?_
    refine OL.zq S (Lf.run_pickT (S.ev rfl) hb_2 (S.ev rfl)) fun _ S=>?_
    refine OL.nil ?_
    exact⟨_,_,S.sub _ ⟨rfl,rfl,rfl,rfl,rfl,rfl,rfl,rfl,rfl,trivial⟩,H⟩
   ·
    replace H:=H.2 hb_2
    refine OL.zf (hg:=GOk.mk rfl rfl hb_2) S fa70_0 fun _ S=>?_
    obtain⟨x24,c_2,H⟩:=H
    refine OL.zl (hg:=GOk.mk rfl rfl hb_2) S fl3 c_2 fun _ S=>?_
    refine OL.zq (hg:=GOk.mk rfl rfl hb_2) S (Lf.run_eql (S.ev rfl) (S.ev rfl)) fun _ S=>?_
    refine OL.zm (hg:=GOk.mk rfl rfl hb_2) S fun _ S=>?_
    obtain⟨J_3,H,HK_3⟩:=H
    refine OL.cutN 6 (fun aa ww=>∃x32 h5,St 55 ((32,Value.bool x32) :: [(2,Value.pointer (some p2)),(3,Value.pointer (some p3)),(5,Value.int .i64 x8),(9,Value.int .i64 x8),(10,Value.bool (x8 == (-2))),(11,Value.bool (x8 == (-2))),(21,Value.bool x21),(22,Value.bool x21),(23,Value.pointer (some p3)),(24,Value.int .i64 x24),(25,Value.bool (x24 == 2)),(26,Value.bool (x24 == 2))]) h5 w0 aa ww∧J_3 x32 h5) ?_ ?_
    ·
     rcases Bool.eq_false_or_eq_true (x24 == 2) with hb_3|hb_3
     ·
      replace H:=H.1 hb_3
      obtain⟨x27,c_3,H⟩:=H
      refine OL.zl (hg:=GOk.mk rfl rfl hb_3) S fl38 c_3 fun _ S=>?_
      refine OL.zf (hg:=GOk.mk rfl rfl hb_3) S fa70_2 fun _ S=>?_
      obtain⟨y29,y29_1,c_5,c_6,H⟩:=H
      refine OL.zq (hg:=GOk.mk rfl rfl hb_3) S (Lf.run_ldA (cs:=[Value.int .i64 y29,Value.slice y29_1.a y29_1.n y29_1.c]) (S.ev rfl) ag49 ti49 (by rw[S.heap];exact RowL.toRow ⟨c_5,c_6,trivial⟩)) fun _ S=>?_
      refine ol_cal S H isfn57 rfl rfl (GOk.mk rfl rfl hb_3) ?_
      clear S H;intro u_1 aa ww h6 H S
      obtain⟨x30,rfl,H⟩:=H
      refine OL.zq (hg:=GOk.mk rfl rfl hb_3) S (Lf.run_not (S.ev rfl)) fun _ S=>?_
      refine OL.zq (hg:=GOk.mk rfl rfl hb_2) S (Lf.run_pickT (S.ev rfl) hb_3 (S.ev rfl)) fun _ S=>?_
      refine OL.nil ?_
      exact⟨_,_,S.sub _ ⟨rfl,rfl,rfl,rfl,rfl,rfl,rfl,rfl,rfl,rfl,rfl,rfl,rfl,trivial⟩,H⟩
     ·
      replace H:=H.2 hb_3
      refine OL.zn S (GNo.mk rfl rfl hb_3) fun _ S=>?_
      refine OL.zn S (GNo.mk rfl rfl hb_3) fun _ S=>?_
      refine OL.zn S (GNo.mk rfl rfl hb_3) fun _ S=>?_
      refine OL.zn S (GNo.mk rfl rfl hb_3) fun _ S=>?_
      refine OL.zn S (GNo.mk rfl rfl hb_3) fun _ S=>?_
      refine OL.zq (hg:=GOk.mk rfl rfl hb_2) S (Lf.run_pickF (S.ev rfl) hb_3 (S.ev rfl)) fun _ S=>?_
      refine OL.nil ?_
      exact⟨_,_,S.sub _ ⟨rfl,rfl,rfl,rfl,rfl,rfl,rfl,rfl,rfl,rfl,rfl,rfl,rfl,trivial⟩,H⟩
    ·
     clear S
     rintro aa ww ⟨x32,h5,S,HJ⟩
     replace H:=HK_3 _ _ HJ
     clear HK_3 HJ
     refine OL.zq S (Lf.run_pickF (S.ev rfl) hb_2 (S.ev rfl)) fun _ S=>?_
     refine OL.nil ?_
     exact⟨_,_,S.sub _ ⟨rfl,rfl,rfl,rfl,rfl,rfl,rfl,rfl,rfl,trivial⟩,H⟩
  ·
   clear S
   rintro aa ww ⟨x33,h4,S,HJ⟩
   replace H:=HK_2 _ _ HJ
   clear HK_2 HJ
   refine OL.zm S fun _ S=>?_
   obtain⟨J_4,H,HK_4⟩:=H
   refine OL.cutN 15 (fun aa ww=>∃x49,St 55 ((49,Value.bool x49) :: [(2,Value.pointer (some p2)),(3,Value.pointer (some p3)),(5,Value.int .i64 x8),(9,Value.int .i64 x8),(10,Value.bool (x8 == (-2))),(11,Value.bool (x8 == (-2))),(21,Value.bool x21),(22,Value.bool x21),(33,Value.bool x33),(34,Value.bool x33)]) h4 w0 aa ww∧J_4 x49) ?_ ?_
   ·
    rcases Bool.eq_false_or_eq_true x33 with hb_4|hb_4
    ·
     replace H:=H.1 hb_4
     refine OL.zn S (GNo.mk rfl rfl hb_4) fun _ S=>?_
     refine OL.zn S (GNo.mk rfl rfl hb_4) fun _ S=>?_
     refine OL.zn S (GNo.mk rfl rfl hb_4) fun _ S=>?_
     refine OL.zn S (GNo.mk rfl rfl hb_4) fun _ S=>?_
     refine OL.zn S (GNo.un rfl rfl) fun _ S=>?_
     refine OL.zn S (GNo.un rfl rfl) fun _ S=>?_
     refine OL.zn S (GNo.un rfl rfl) fun _ S=>?_
     refine OL.zn S (GNo.un rfl rfl) fun _ S=>?_
     refine OL.zn S (GNo.un rfl rfl) fun _ S=>?_
     refine OL.zn S (GNo.un rfl rfl) fun _ S=>?_
     refine OL.zn S (GNo.un rfl rfl) fun _ S=>?_
     refine OL.zn S (GNo.un rfl rfl) fun _ S=>?_
     refine OL.zn S (GNo.un rfl rfl) fun _ S=>?_
     refine OL.zn S (GNo.mk rfl rfl hb_4) fun _ S=>?_
     refine OL.zq S (Lf.run_pickT (S.ev rfl) hb_4 (S.ev rfl)) fun _ S=>?_
     refine OL.nil ?_
     exact⟨_,S.sub _ ⟨rfl,rfl,rfl,rfl,rfl,rfl,rfl,rfl,rfl,rfl,rfl,trivial⟩,H⟩
    ·
     replace H:=H.2 hb_4
     refine OL.zf (hg:=GOk.mk rfl rfl hb_4) S fa70_0 fun _ S=>?_
     obtain⟨x36,c_7,H⟩:=H
     refine OL.zl (hg:=GOk.mk rfl rfl hb_4) S fl3 c_7 fun _ S=>?_
     refine OL.zq (hg:=GOk.mk rfl rfl hb_4) S (Lf.run_eql (S.ev rfl) (S.ev rfl)) fun _ S=>?_
     refine OL.zm (hg:=GOk.mk rfl rfl hb_4) S fun _ S=>?_
     obtain⟨J_5,H,HK_5⟩:=H
     refine OL.cutN 10 (fun aa ww=>∃x48,St 55 ((48,Value.bool x48) :: [(2,Value.pointer (some p2)),(3,Value.pointer (some p3)),(5,Value.int .i64 x8),(9,Value.int .i64 x8),(10,Value.bool (x8 == (-2))),(11,Value.bool (x8 == (-2))),(21,Value.bool x21),(22,Value.bool x21),(33,Value.bool x33),(34,Value.bool x33),(35,Value.pointer (some p3)),(36,Value.int .i64 x36),(37,Value.bool (x36 == 9)),(38,Value.bool (x36 == 9))]) h4 w0 aa ww∧J_5 x48) ?_ ?_
     ·
      rcases Bool.eq_false_or_eq_true (x36 == 9) with hb_5|hb_5
      ·
       replace H:=H.1 hb_5
       refine OL.zf (hg:=GOk.mk rfl rfl hb_5) S fa70_1 fun _ S=>?_
       obtain⟨x40,c_8,H⟩:=H
       refine OL.zl (hg:=GOk.mk rfl rfl hb_5) S fl67 c_8 fun _ S=>?_
       refine OL.zq (hg:=GOk.mk rfl rfl hb_5) S (Lf.run_lens (S.ev rfl) rfl Try.underlying67) fun _ S=>?_
       refine OL.zq (hg:=GOk.mk rfl rfl hb_5) S (Lf.run_eql (S.ev rfl) (S.ev rfl)) fun _ S=>?_
       refine OL.zm (hg:=GOk.mk rfl rfl hb_5) S fun _ S=>?_
       obtain⟨J_6,H,HK_6⟩:=H
       refine OL.cutN 4 (fun aa ww=>∃x47,St 55 ((47,Value.bool x47) :: [(2,Value.pointer (some p2)),(3,Value.pointer (some p3)),(5,Value.int .i64 x8),(9,Value.int .i64 x8),(10,Value.bool (x8 == (-2))),(11,Value.bool (x8 == (-2))),(21,Value.bool x21),(22,Value.bool x21),(33,Value.bool x33),(34,Value.bool x33),(35,Value.pointer (some p3)),(36,Value.int .i64 x36),(37,Value.bool (x36 == 9)),(38,Value.bool (x36 == 9)),(39,Value.pointer (some (p3.add 1))),(40,Value.slice x40.a x40.n x40.c),(41,Value.int .i64 ((x40.n:Nat):Int)),(42,Value.bool (((x40.n:Nat):Int) == 0)),(43,Value.bool (((x40.n:Nat):Int) == 0))]) h4 w0 aa ww∧J_6 x47) ?_ ?_
       ·
        rcases Bool.eq_false_or_eq_true (((x40.n:Nat):Int) == 0) with hb_6|hb_6
        ·
         replace H:=H.1 hb_6
         refine OL.zn S (GNo.mk rfl rfl hb_6) fun _ S=>?_
         refine OL.zn S (GNo.mk rfl rfl hb_6) fun _ S=>?_
         refine OL.zn S (GNo.mk rfl rfl hb_6) fun _ S=>?_
         refine OL.zq (hg:=GOk.mk rfl rfl hb_5) S (Lf.run_pickT (S.ev rfl) hb_6 (S.ev rfl)) fun _ S=>?_
         refine OL.nil ?_
         exact⟨_,S.sub _ ⟨rfl,rfl,rfl,rfl,rfl,rfl,rfl,rfl,rfl,rfl,rfl,rfl,rfl,rfl,rfl,rfl,rfl,rfl,rfl,rfl,trivial⟩,H⟩
        ·
         replace H:=H.2 hb_6
         refine OL.zf (hg:=GOk.mk rfl rfl hb_6) S fa70_5 fun _ S=>?_
         obtain⟨x45,c_9,H⟩:=H
         refine OL.zl (hg:=GOk.mk rfl rfl hb_6) S fl3 c_9 fun _ S=>?_
         refine OL.zq (hg:=GOk.mk rfl rfl hb_6) S (Lf.run_lss (S.ev rfl) (S.ev rfl)) fun _ S=>?_
         refine OL.zq (hg:=GOk.mk rfl rfl hb_5) S (Lf.run_pickF (S.ev rfl) hb_6 (S.ev rfl)) fun _ S=>?_
         refine OL.nil ?_
         exact⟨_,S.sub _ ⟨rfl,rfl,rfl,rfl,rfl,rfl,rfl,rfl,rfl,rfl,rfl,rfl,rfl,rfl,rfl,rfl,rfl,rfl,rfl,rfl,trivial⟩,H⟩
       ·
        clear S
        rintro aa ww ⟨x47,S,HJ⟩
        replace H:=HK_6 _ HJ
        clear HK_6 HJ
        refine OL.zq (hg:=GOk.mk rfl rfl hb_4) S (Lf.run_pickT (S.ev rfl) hb_5 (S.ev rfl)) fun _ S=>?_
        refine OL.nil ?_
        exact⟨_,S.sub _ ⟨rfl,rfl,rfl,rfl,rfl,rfl,rfl,rfl,rfl,rfl,rfl,rfl,rfl,rfl,rfl,trivial⟩,H⟩
      ·
       replace H:=H.2 hb_5
       refine OL.zn S (GNo.mk rfl rfl hb_5) fun _ S=>?_
       refine OL.zn S (GNo.mk rfl rfl hb_5) fun _ S=>?_
       refine OL.zn S (GNo.mk rfl rfl hb_5) fun _ S=>?_
       refine OL.zn S (GNo.mk rfl rfl hb_5) fun _ S=>?_
       refine OL.zn S (GNo.mk rfl rfl hb_5) fun _ S=>?_
       refine OL.zn S (GNo.un rfl rfl) fun _ S=>?_
       refine OL.zn S (GNo.un rfl rfl) fun _ S=>?_
       refine OL.zn S (GNo.un rfl rfl) fun _ S=>?_
       refine OL.zn S (GNo.mk rfl rfl hb_5) fun _ S=>?_
       refine OL.zq (hg:=GOk.mk rfl rfl hb_4) S (Lf.run_pickF (S.ev rfl) hb_5 (S.ev rfl)) fun _ S=>?_
       refine OL.nil ?_
       exact⟨_,S.sub _ ⟨rfl,rfl,rfl,rfl,rfl,rfl,rfl,rfl,rfl,rfl,rfl,rfl,rfl,rfl,rfl,trivial⟩,H⟩
     ·
      clear S
      rintro aa ww ⟨x48,S,HJ⟩
      replace H:=HK_5 _ HJ
      clear HK_5 HJ
      refine OL.zq S (Lf.run_pickF (S.ev rfl) hb_4 (S.ev rfl)) fun _ S=>?_
      refine OL.nil ?_
      exact⟨_,S.sub _ ⟨rfl,rfl,rfl,rfl,rfl,rfl,rfl,rfl,rfl,rfl,rfl,trivial⟩,H⟩
   ·
    clear S
    rintro aa ww ⟨x49,S,HJ⟩
    replace H:=HK_4 _ HJ
    clear HK_4 HJ
    refine OL.nil ?_
    refine W.cond S (b:=x49) rfl (fun hb_7=>?_) (fun hb_7=>?_)
    ·
     replace H:=H.1 hb_7
     refine W.seq ?_
     refine W.region ?_
     refine OL.za S fun _ S=>?_
     refine OL.nil ?_
     refine W.ret ?_
     exact Ret.one S rfl rfl H
    ·
     replace H:=H.2 hb_7
     refine W.skip ?_
     refine W.seq ?_
     refine W.region ?_
     refine OL.zf S fa70_1 fun _ S=>?_
     obtain⟨x51,c_10,H⟩:=H
     refine OL.zl S fl67 c_10 fun _ S=>?_
     refine OL.zq S (Lf.run_mf (evs_map S rfl)) fun _ S=>?_
     refine ol_cal S H isfn64 rfl rfl trivial ?_
     clear S H;intro u_2 aa ww h7 H S
     obtain⟨x53,rfl,H⟩:=H
     refine OL.zq S (Lf.run_not (S.ev rfl)) fun _ S=>?_
     refine OL.za S fun _ S=>?_
     refine OL.nil ?_
     refine W.ret ?_
     exact Ret.one S rfl rfl H
def L59 (b0:Option Addr) (o1:Int) (o1_1:Int) (o1_2:Sv) (o1_3:Int) (o1_4:Int) (h:Heap) (R:Value→Heap→Prop):Prop:=
 new 66 #[Value.int .i64 o1,Value.int .i64 o1_1,Value.slice o1_2.a o1_2.n o1_2.c,Value.int .i64 o1_3,Value.int .u64 o1_4] h fun p3 h1=>
 ldI .i64 h1 p3 fun x6=>
 ifb (x6 == 1) (
  ldI .i64 h1 (p3.add 3) fun x10=>
  ∃J:Bool→Prop,(andr (decide (1≤x10)) (fun k=>
   ldI .i64 h1 (p3.add 3) fun x14=>
   k (decide (x14≤4))) J)∧∀x16,J x16 →
  R (Value.bool x16) h1) (
  ∃J_1:Bool→Prop,(
   ifb (x6 == 2) (
    J_1 (x6 == 2)) (
    J_1 (x6 == 3)))∧(∀x17,J_1 x17 →
  ifb x17 (
   ∃(y22:Int) (y22_1:Sv),cl h1 (p3.add 1)=some (Value.int .i64 y22)∧cl h1 ((p3.add 1).add 1)=some (Value.slice y22_1.a y22_1.n y22_1.c) ∧
   cal Try.prog 57 #[Value.pointer b0,Value.agg #[Value.int .i64 y22,Value.slice y22_1.a y22_1.n y22_1.c]] h1 fun u h2=>asB u fun x23=>
   R (Value.bool x23) h2) (
   R (Value.bool false) h1)))
set_option maxRecDepth 100000 in
theorem F59 {b0 o1 o1_1 o1_2 o1_3 o1_4 h:_} {R:Value→Heap→Prop} (H:L59 b0 o1 o1_1 o1_2 o1_3 o1_4 h R):CallsH Try.prog 59 #[Value.pointer b0,Value.agg #[Value.int .i64 o1,Value.int .i64 o1_1,Value.slice o1_2.a o1_2.n o1_2.c,Value.int .i64 o1_3,Value.int .u64 o1_4]] h R:=by
 refine CallsH.enter (n:=24) Try.func59 rfl rfl rfl rfl ?_
 intro w0 aa ww S
 unfold L59 at H
 refine W.seq ?_
 refine W.region ?_
 refine ol_box S H rfl rfl rfl trivial ?_
 clear S H;intro p3 aa ww h1 H S
 refine OL.za S fun _ S=>?_
 refine OL.nil ?_
 refine W.seq ?_
 refine W.seq ?_
 refine W.region ?_
 refine OL.zf S fa66_0 fun _ S=>?_
 obtain⟨x6,c,H⟩:=H
 refine OL.zl S fl3 c fun _ S=>?_
 refine OL.nil ?_
 refine W.block ?_
 refine W.seq ?_
 refine W.region ?_
 refine OL.zq S (Lf.run_eql (S.ev rfl) (S.ev rfl)) fun _ S=>?_
 refine OL.za S fun _ S=>?_
 refine OL.nil ?_
 refine W.cond S (b:=(x6 == 1)) rfl (fun hb=>?_) (fun hb=>?_)
 ·
  replace H:=H.1 hb
  refine W.seq ?_
  refine W.region ?_
  refine OL.zf S fa66_2 fun _ S=>?_
  obtain⟨x10,c_1,H⟩:=H
  refine OL.zl S fl3 c_1 fun _ S=>?_
  refine OL.zq S (Lf.run_geq (S.ev rfl) (S.ev rfl)) fun _ S=>?_
  refine OL.zm S fun _ S=>?_
  obtain⟨J,H,HK⟩:=H
  refine OL.cutN 4 (fun aa ww=>∃x16,St 24 ((16,Value.bool x16) :: [(3,Value.pointer (some p3)),(9,Value.pointer (some (p3.add 3))),(10,Value.int .i64 x10),(11,Value.bool (decide (1≤x10))),(12,Value.bool (decide (1≤x10)))]) h1 w0 aa ww∧J x16) ?_ ?_
  ·
   rcases Bool.eq_false_or_eq_true (decide (1≤x10)) with hb_1|hb_1
   ·
    replace H:=H.1 hb_1
    refine OL.zf (hg:=GOk.mk rfl rfl hb_1) S fa66_2 fun _ S=>?_
    obtain⟨x14,c_2,H⟩:=H
    refine OL.zl (hg:=GOk.mk rfl rfl hb_1) S fl3 c_2 fun _ S=>?_
    refine OL.zq (hg:=GOk.mk rfl rfl hb_1) S (Lf.run_leq (S.ev rfl) (S.ev rfl)) fun _ S=>?_
    refine OL.zq S (Lf.run_pickT (S.ev rfl) hb_1 (S.ev rfl)) fun _ S=>?_
    refine OL.nil ?_
    exact⟨_,S.sub _ ⟨rfl,rfl,rfl,rfl,rfl,rfl,trivial⟩,H⟩
   ·
    replace H:=H.2 hb_1
    refine OL.zn S (GNo.mk rfl rfl hb_1) fun _ S=>?_
    refine OL.zn S (GNo.mk rfl rfl hb_1) fun _ S=>?_
    refine OL.zn S (GNo.mk rfl rfl hb_1) fun _ S=>?_
    refine OL.zq S (Lf.run_pickF (S.ev rfl) hb_1 (S.ev rfl)) fun _ S=>?_
    refine OL.nil ?_
    exact⟨_,S.sub _ ⟨rfl,rfl,rfl,rfl,rfl,rfl,trivial⟩,H⟩
  ·
   clear S
   rintro aa ww ⟨x16,S,HJ⟩
   replace H:=HK _ HJ
   clear HK HJ
   refine OL.za S fun _ S=>?_
   refine OL.nil ?_
   refine W.ret ?_
   exact Ret.one S rfl rfl H
 ·
  replace H:=H.2 hb
  obtain⟨J_1,H,HK_1⟩:=H
  refine W.seqJ (fun aa ww=>∃x17,St 24 [(0,Value.pointer b0),(3,Value.pointer (some p3)),(17,Value.bool x17)] h1 w0 aa ww∧J_1 x17) ?_ ?_
  ·
   clear HK_1
   refine W.seq ?_
   refine W.region ?_
   refine OL.zq S (Lf.run_eql (S.ev rfl) (S.ev rfl)) fun _ S=>?_
   refine OL.za S fun _ S=>?_
   refine OL.nil ?_
   refine W.cond S (b:=(x6 == 2)) rfl (fun hb_2=>?_) (fun hb_2=>?_)
   ·
    replace H:=H.1 hb_2
    refine W.skip ?_
    exact⟨(x6 == 2),S.sub _ ⟨rfl,rfl,rfl,trivial⟩,H⟩
   ·
    replace H:=H.2 hb_2
    refine W.region ?_
    refine OL.zq S (Lf.run_eql (S.ev rfl) (S.ev rfl)) fun _ S=>?_
    refine OL.za S fun _ S=>?_
    refine OL.nil ?_
    exact⟨(x6 == 3),S.sub _ ⟨rfl,rfl,rfl,trivial⟩,H⟩
  ·
   clear H S
   rintro aa ww ⟨x17,S,HJ⟩
   have H:=HK_1 _ HJ
   clear HK_1 HJ
   refine W.cond S (b:=x17) rfl (fun hb_3=>?_) (fun hb_3=>?_)
   ·
    replace H:=H.1 hb_3
    refine W.seq ?_
    refine W.region ?_
    refine OL.zm S fun _ S=>?_
    refine OL.zf S fa66_1 fun _ S=>?_
    obtain⟨y22,y22_1,c_4,c_5,H⟩:=H
    refine OL.zq S (Lf.run_ldA (cs:=[Value.int .i64 y22,Value.slice y22_1.a y22_1.n y22_1.c]) (S.ev rfl) ag49 ti49 (by rw[S.heap];exact RowL.toRow ⟨c_4,c_5,trivial⟩)) fun _ S=>?_
    refine ol_cal S H isfn57 rfl rfl trivial ?_
    clear S H;intro u aa ww h2 H S
    obtain⟨x23,rfl,H⟩:=H
    refine OL.za S fun _ S=>?_
    refine OL.nil ?_
    refine W.ret ?_
    exact Ret.one S rfl rfl H
   ·
    replace H:=H.2 hb_3
    refine W.skip ?_
    refine W.seq ?_
    refine W.region ?_
    refine OL.za S fun _ S=>?_
    refine OL.nil ?_
    refine W.ret ?_
    exact Ret.one S rfl rfl H
def L60 (s0:Sv) (f1:Value) (h:Heap) (R:Value→Heap→Prop):Prop:=
 ∃(I:Int→Heap→Prop) (m:Int→Heap→Nat),I 0 h∧∀x8 h1,I x8 h1 →
 ifb (decide (x8<((s0.n:Nat):Int))) (
  ixS s0 x8 fun q14=>
  ldI .i64 h1 (q14.add ((x8:Int).toNat*1)) fun x15=>
  calV Try.prog f1 #[Value.int .i64 x15] h1 fun u h2=>asB u fun x16=>
  ifb x16 (
   R (Value.int .i64 x8) h2) (
   I (IntKind.i64.wrap (x8+1)) h2∧m (IntKind.i64.wrap (x8+1)) h2<m x8 h1)) (
  R (Value.int .i64 (-1)) h1)
set_option maxRecDepth 100000 in
theorem F60 {s0 f1 h:_} {R:Value→Heap→Prop} (H:L60 s0 f1 h R):CallsH Try.prog 60 #[Value.slice s0.a s0.n s0.c,f1] h R:=by
 refine CallsH.enter (n:=19) Try.func60 rfl rfl rfl rfl ?_
 intro w0 aa ww S
 unfold L60 at H
 refine W.seq ?_
 refine W.region ?_
 refine OL.za S fun _ S=>?_
 refine OL.nil ?_
 refine W.seq ?_
 refine W.seq ?_
 refine W.region ?_
 refine OL.zm S fun _ S=>?_
 refine OL.zq S (Lf.run_lens (S.ev rfl) rfl Try.underlying47) fun _ S=>?_
 refine OL.zm S fun _ S=>?_
 refine OL.nil ?_
 refine W.block ?_
 obtain⟨I,m,H,HB⟩:=H
 refine W.loopS (σ:=Int×Heap) (fun s aa ww=>St 19 [(0,Value.slice s0.a s0.n s0.c),(1,f1),(7,Value.int .i64 ((s0.n:Nat):Int)),(8,Value.int .i64 s.1)] s.2 w0 aa ww∧I s.1 s.2) (fun s=>m s.1 s.2) (0,h) ⟨S.sub _ ⟨rfl,rfl,rfl,rfl,trivial⟩,H⟩ ?_
 clear H S
 rintro ⟨x8,h1⟩ aa ww ⟨S,HI⟩
 replace S:St 19 [(0,Value.slice s0.a s0.n s0.c),(1,f1),(7,Value.int .i64 ((s0.n:Nat):Int)),(8,Value.int .i64 x8)] h1 w0 aa ww:=S
 have H:=HB x8 h1 HI
 clear HI
 refine W.seq ?_
 refine W.region ?_
 refine OL.zq S (Lf.run_lss (S.ev rfl) (S.ev rfl)) fun _ S=>?_
 refine OL.nil ?_
 refine W.seq ?_
 refine W.cond S (b:=(decide (x8<((s0.n:Nat):Int)))) rfl (fun hb=>?_) (fun hb=>?_)
 ·
  replace H:=H.1 hb
  refine W.skip ?_
  refine W.seq ?_
  refine W.block ?_
  refine W.seq ?_
  refine W.region ?_
  refine OL.zm S fun _ S=>?_
  refine OL.za S fun _ S=>?_
  refine OL.nil ?_
  refine W.seq ?_
  refine W.region ?_
  refine OL.zm S fun _ S=>?_
  refine OL.zm S fun _ S=>?_
  refine OL.zm S fun _ S=>?_
  obtain⟨q14,e,e_1,e_2,H⟩:=H
  refine OL.zq S (Lf.run_ixs (S.ev rfl) (S.ev rfl) Try.underlying47 ti3 e e_1 e_2) fun _ S=>?_
  obtain⟨x15,c,H⟩:=H
  refine OL.zl S fl3 c fun _ S=>?_
  refine ol_calV S H rfl rfl rfl trivial ?_
  clear S H;intro u aa ww h2 H S
  obtain⟨x16,rfl,H⟩:=H
  refine OL.nil ?_
  refine W.cond S (b:=x16) rfl (fun hb_1=>?_) (fun hb_1=>?_)
  ·
   replace H:=H.1 hb_1
   refine W.seq ?_
   refine W.region ?_
   refine OL.zm S fun _ S=>?_
   refine OL.za S fun _ S=>?_
   refine OL.nil ?_
   refine W.ret ?_
   exact Ret.one S rfl rfl H
  ·
   replace H:=H.2 hb_1
   refine W.skip ?_
   refine W.region ?_
   refine OL.zq S (Lf.run_add (S.ev rfl) (S.ev rfl)) fun _ S=>?_
   refine OL.zm S fun _ S=>?_
   refine OL.nil ?_
   exact⟨((IntKind.i64.wrap (x8+1)),h2),⟨S.sub _ ⟨rfl,rfl,rfl,rfl,trivial⟩,H.1⟩,H.2⟩
 ·
  replace H:=H.2 hb
  refine W.exit_ ?_
  refine xhit ?_
  refine W.seq ?_
  refine W.region ?_
  refine OL.za S fun _ S=>?_
  refine OL.nil ?_
  refine W.ret ?_
  exact Ret.one S rfl rfl H
def L61 (x0:Int) (h:Heap) (R:Value→Heap→Prop):Prop:=
 R (Value.bool (x0 != x0)) h
set_option maxRecDepth 100000 in
theorem F61 {x0 h:_} {R:Value→Heap→Prop} (H:L61 x0 h R):CallsH Try.prog 61 #[Value.int .i64 x0] h R:=by
 refine CallsH.enter (n:=6) Try.func61 rfl rfl rfl rfl ?_
 intro w0 aa ww S
 unfold L61 at H
 refine W.seq ?_
 refine W.region ?_
 refine OL.za S fun _ S=>?_
 refine OL.nil ?_
 refine W.seq ?_
 refine W.region ?_
 refine OL.zm S fun _ S=>?_
 refine OL.zm S fun _ S=>?_
 refine OL.zq S (Lf.run_neq (S.ev rfl) (S.ev rfl)) fun _ S=>?_
 refine OL.za S fun _ S=>?_
 refine OL.nil ?_
 refine W.ret ?_
 exact Ret.one S rfl rfl H
def L62 (x0:Int) (h:Heap) (R:Value→Heap→Prop):Prop:=
 R (Value.bool (decide (x0<(-1)))) h
set_option maxRecDepth 100000 in
theorem F62 {x0 h:_} {R:Value→Heap→Prop} (H:L62 x0 h R):CallsH Try.prog 62 #[Value.int .i64 x0] h R:=by
 refine CallsH.enter (n:=5) Try.func62 rfl rfl rfl rfl ?_
 intro w0 aa ww S
 unfold L62 at H
 refine W.seq ?_
 refine W.region ?_
 refine OL.za S fun _ S=>?_
 refine OL.nil ?_
 refine W.seq ?_
 refine W.region ?_
 refine OL.zm S fun _ S=>?_
 refine OL.zq S (Lf.run_lss (S.ev rfl) (S.ev rfl)) fun _ S=>?_
 refine OL.za S fun _ S=>?_
 refine OL.nil ?_
 refine W.ret ?_
 exact Ret.one S rfl rfl H
def L63 (kind0:Int) (h:Heap) (R:Value→Heap→Prop):Prop:=
 ∃J:Bool→Prop,(
  ifb (kind0 == 2) (
   J (kind0 == 2)) (
   J (kind0 == 10)))∧(∀x4,J x4 →
 ifb x4 (
  R (Value.int .i64 0) h) (
  ∃J_1:Bool→Prop,(
   ifb (kind0 == 1) (
    J_1 (kind0 == 1)) (
    ifb (kind0 == 4) (
     J_1 (kind0 == 4)) (
     ifb (kind0 == 5) (
      J_1 (kind0 == 5)) (
      ifb (kind0 == 6) (
       J_1 (kind0 == 6)) (
       J_1 (kind0 == 11))))))∧(∀x7,J_1 x7 →
  ifb x7 (
   R (Value.int .i64 1) h) (
   ifb (kind0 == 3) (
    R (Value.int .i64 2) h) (
    ∃J_2:Bool→Prop,(
     ifb (kind0 == 7) (
      J_2 (kind0 == 7)) (
      ifb (kind0 == 8) (
       J_2 (kind0 == 8)) (
       J_2 (kind0 == 9))))∧(∀x15,J_2 x15 →
    ifb x15 (
     R (Value.int .i64 (-1)) h) (
     R (Value.int .i64 (-2)) h)))))))
set_option maxRecDepth 100000 in
theorem F63 {kind0 h:_} {R:Value→Heap→Prop} (H:L63 kind0 h R):CallsH Try.prog 63 #[Value.int .i64 kind0] h R:=by
 refine CallsH.enter (n:=19) Try.func63 rfl rfl rfl rfl ?_
 intro w0 aa ww S
 unfold L63 at H
 refine W.seq ?_
 refine W.region ?_
 refine OL.za S fun _ S=>?_
 refine OL.nil ?_
 refine W.seq ?_
 refine W.seq ?_
 refine W.region ?_
 refine OL.zm S fun _ S=>?_
 refine OL.nil ?_
 refine W.block ?_
 obtain⟨J,H,HK⟩:=H
 refine W.seqJ (fun aa ww=>∃x4,St 19 [(3,Value.int .i64 kind0),(4,Value.bool x4)] h w0 aa ww∧J x4) ?_ ?_
 ·
  clear HK
  refine W.seq ?_
  refine W.region ?_
  refine OL.zq S (Lf.run_eql (S.ev rfl) (S.ev rfl)) fun _ S=>?_
  refine OL.za S fun _ S=>?_
  refine OL.nil ?_
  refine W.cond S (b:=(kind0 == 2)) rfl (fun hb=>?_) (fun hb=>?_)
  ·
   replace H:=H.1 hb
   refine W.skip ?_
   exact⟨(kind0 == 2),S.sub _ ⟨rfl,rfl,trivial⟩,H⟩
  ·
   replace H:=H.2 hb
   refine W.region ?_
   refine OL.zq S (Lf.run_eql (S.ev rfl) (S.ev rfl)) fun _ S=>?_
   refine OL.za S fun _ S=>?_
   refine OL.nil ?_
   exact⟨(kind0 == 10),S.sub _ ⟨rfl,rfl,trivial⟩,H⟩
 ·
  clear H S
  rintro aa ww ⟨x4,S,HJ⟩
  have H:=HK _ HJ
  clear HK HJ
  refine W.cond S (b:=x4) rfl (fun hb_1=>?_) (fun hb_1=>?_)
  ·
   replace H:=H.1 hb_1
   refine W.seq ?_
   refine W.region ?_
   refine OL.za S fun _ S=>?_
   refine OL.nil ?_
   refine W.ret ?_
   exact Ret.one S rfl rfl H
  ·
   replace H:=H.2 hb_1
   obtain⟨J_1,H,HK_1⟩:=H
   refine W.seqJ (fun aa ww=>∃x7,St 19 [(3,Value.int .i64 kind0),(7,Value.bool x7)] h w0 aa ww∧J_1 x7) ?_ ?_
   ·
    clear HK_1
    refine W.seq ?_
    refine W.region ?_
    refine OL.zq S (Lf.run_eql (S.ev rfl) (S.ev rfl)) fun _ S=>?_
    refine OL.za S fun _ S=>?_
    refine OL.nil ?_
    refine W.cond S (b:=(kind0 == 1)) rfl (fun hb_2=>?_) (fun hb_2=>?_)
    ·
     replace H:=H.1 hb_2
     refine W.skip ?_
     exact⟨(kind0 == 1),S.sub _ ⟨rfl,rfl,trivial⟩,H⟩
    ·
     replace H:=H.2 hb_2
     refine W.seq ?_
     refine W.region ?_
     refine OL.zq S (Lf.run_eql (S.ev rfl) (S.ev rfl)) fun _ S=>?_
     refine OL.za S fun _ S=>?_
     refine OL.nil ?_
     refine W.cond S (b:=(kind0 == 4)) rfl (fun hb_3=>?_) (fun hb_3=>?_)
     ·
      replace H:=H.1 hb_3
      refine W.skip ?_
      exact⟨(kind0 == 4),S.sub _ ⟨rfl,rfl,trivial⟩,H⟩
     ·
      replace H:=H.2 hb_3
      refine W.seq ?_
      refine W.region ?_
      refine OL.zq S (Lf.run_eql (S.ev rfl) (S.ev rfl)) fun _ S=>?_
      refine OL.za S fun _ S=>?_
      refine OL.nil ?_
      refine W.cond S (b:=(kind0 == 5)) rfl (fun hb_4=>?_) (fun hb_4=>?_)
      ·
       replace H:=H.1 hb_4
       refine W.skip ?_
       exact⟨(kind0 == 5),S.sub _ ⟨rfl,rfl,trivial⟩,H⟩
      ·
       replace H:=H.2 hb_4
       refine W.seq ?_
       refine W.region ?_
       refine OL.zq S (Lf.run_eql (S.ev rfl) (S.ev rfl)) fun _ S=>?_
       refine OL.za S fun _ S=>?_
       refine OL.nil ?_
       refine W.cond S (b:=(kind0 == 6)) rfl (fun hb_5=>?_) (fun hb_5=>?_)
       ·
        replace H:=H.1 hb_5
        refine W.skip ?_
        exact⟨(kind0 == 6),S.sub _ ⟨rfl,rfl,trivial⟩,H⟩
       ·
        replace H:=H.2 hb_5
        refine W.region ?_
        refine OL.zq S (Lf.run_eql (S.ev rfl) (S.ev rfl)) fun _ S=>?_
        refine OL.za S fun _ S=>?_
        refine OL.nil ?_
        exact⟨(kind0 == 11),S.sub _ ⟨rfl,rfl,trivial⟩,H⟩
   ·
    clear H S
    rintro aa ww ⟨x7,S,HJ⟩
    have H:=HK_1 _ HJ
    clear HK_1 HJ
    refine W.cond S (b:=x7) rfl (fun hb_6=>?_) (fun hb_6=>?_)
    ·
     replace H:=H.1 hb_6
     refine W.seq ?_
     refine W.region ?_
     refine OL.za S fun _ S=>?_
     refine OL.nil ?_
     refine W.ret ?_
     exact Ret.one S rfl rfl H
    ·
     replace H:=H.2 hb_6
     refine W.seq ?_
     refine W.region ?_
     refine OL.zq S (Lf.run_eql (S.ev rfl) (S.ev rfl)) fun _ S=>?_
     refine OL.za S fun _ S=>?_
     refine OL.nil ?_
     refine W.cond S (b:=(kind0 == 3)) rfl (fun hb_7=>?_) (fun hb_7=>?_)
     ·
      replace H:=H.1 hb_7
      refine W.seq ?_
      refine W.region ?_
      refine OL.za S fun _ S=>?_
      refine OL.nil ?_
      refine W.ret ?_
      exact Ret.one S rfl rfl H
     ·
      replace H:=H.2 hb_7
      obtain⟨J_2,H,HK_2⟩:=H
      refine W.seqJ (fun aa ww=>∃x15,St 19 [(15,Value.bool x15)] h w0 aa ww∧J_2 x15) ?_ ?_
      ·
       clear HK_2
       refine W.seq ?_
       refine W.region ?_
       refine OL.zq S (Lf.run_eql (S.ev rfl) (S.ev rfl)) fun _ S=>?_
       refine OL.za S fun _ S=>?_
       refine OL.nil ?_
       refine W.cond S (b:=(kind0 == 7)) rfl (fun hb_8=>?_) (fun hb_8=>?_)
       ·
        replace H:=H.1 hb_8
        refine W.skip ?_
        exact⟨(kind0 == 7),S.sub _ ⟨rfl,trivial⟩,H⟩
       ·
        replace H:=H.2 hb_8
        refine W.seq ?_
        refine W.region ?_
        refine OL.zq S (Lf.run_eql (S.ev rfl) (S.ev rfl)) fun _ S=>?_
        refine OL.za S fun _ S=>?_
        refine OL.nil ?_
        refine W.cond S (b:=(kind0 == 8)) rfl (fun hb_9=>?_) (fun hb_9=>?_)
        ·
         replace H:=H.1 hb_9
         refine W.skip ?_
         exact⟨(kind0 == 8),S.sub _ ⟨rfl,trivial⟩,H⟩
        ·
         replace H:=H.2 hb_9
         refine W.region ?_
         refine OL.zq S (Lf.run_eql (S.ev rfl) (S.ev rfl)) fun _ S=>?_
         refine OL.za S fun _ S=>?_
         refine OL.nil ?_
         exact⟨(kind0 == 9),S.sub _ ⟨rfl,trivial⟩,H⟩
      ·
       clear H S
       rintro aa ww ⟨x15,S,HJ⟩
       have H:=HK_2 _ HJ
       clear HK_2 HJ
       refine W.cond S (b:=x15) rfl (fun hb_10=>?_) (fun hb_10=>?_)
       ·
        replace H:=H.1 hb_10
        refine W.seq ?_
        refine W.region ?_
        refine OL.za S fun _ S=>?_
        refine OL.nil ?_
        refine W.ret ?_
        exact Ret.one S rfl rfl H
       ·
        replace H:=H.2 hb_10
        refine W.skip ?_
        refine W.seq ?_
        refine W.region ?_
        refine OL.za S fun _ S=>?_
        refine OL.nil ?_
        refine W.ret ?_
        exact Ret.one S rfl rfl H
def L64 (s0:Sv) (f1:Value) (h:Heap) (R:Value→Heap→Prop):Prop:=
 cal Try.prog 66 #[Value.slice s0.a s0.n s0.c,f1] h fun u h1=>asI .i64 u fun x7=>
 R (Value.bool (decide (0≤x7))) h1
set_option maxRecDepth 100000 in
theorem F64 {s0 f1 h:_} {R:Value→Heap→Prop} (H:L64 s0 f1 h R):CallsH Try.prog 64 #[Value.slice s0.a s0.n s0.c,f1] h R:=by
 refine CallsH.enter (n:=9) Try.func64 rfl rfl rfl rfl ?_
 intro w0 aa ww S
 unfold L64 at H
 refine W.seq ?_
 refine W.region ?_
 refine OL.za S fun _ S=>?_
 refine OL.nil ?_
 refine W.seq ?_
 refine W.region ?_
 refine OL.zm S fun _ S=>?_
 refine OL.zm S fun _ S=>?_
 refine ol_cal S H isfn66 rfl rfl trivial ?_
 clear S H;intro u aa ww h1 H S
 obtain⟨x7,rfl,H⟩:=H
 refine OL.zq S (Lf.run_geq (S.ev rfl) (S.ev rfl)) fun _ S=>?_
 refine OL.za S fun _ S=>?_
 refine OL.nil ?_
 refine W.ret ?_
 exact Ret.one S rfl rfl H
def L65 (o0:Int) (o0_1:Int) (o0_2:Sv) (o0_3:Int) (o0_4:Int) (x1:Addr) (h:Heap) (R:Value→Heap→Prop):Prop:=
 new 66 #[Value.int .i64 o0,Value.int .i64 o0_1,Value.slice o0_2.a o0_2.n o0_2.c,Value.int .i64 o0_3,Value.int .u64 o0_4] h fun p2 h1=>
 ldP h1 x1 fun x4=>
 ∃(y5:Int) (y5_1:Int) (y5_2:Sv) (y5_3:Int) (y5_4:Int),cl h1 p2=some (Value.int .i64 y5)∧cl h1 (p2.add 1)=some (Value.int .i64 y5_1)∧cl h1 (p2.add 2)=some (Value.slice y5_2.a y5_2.n y5_2.c)∧cl h1 (p2.add 3)=some (Value.int .i64 y5_3)∧cl h1 (p2.add 4)=some (Value.int .u64 y5_4) ∧
 cal Try.prog 59 #[Value.pointer x4,Value.agg #[Value.int .i64 y5,Value.int .i64 y5_1,Value.slice y5_2.a y5_2.n y5_2.c,Value.int .i64 y5_3,Value.int .u64 y5_4]] h1 fun u h2=>asB u fun x6=>
 R (Value.bool (!x6)) h2
set_option maxRecDepth 100000 in
theorem F65 {o0 o0_1 o0_2 o0_3 o0_4 x1 h:_} {R:Value→Heap→Prop} (H:L65 o0 o0_1 o0_2 o0_3 o0_4 x1 h R):CallsH Try.prog 65 #[Value.agg #[Value.int .i64 o0,Value.int .i64 o0_1,Value.slice o0_2.a o0_2.n o0_2.c,Value.int .i64 o0_3,Value.int .u64 o0_4],Value.pointer (some x1)] h R:=by
 refine CallsH.enter (n:=8) Try.func65 rfl rfl rfl rfl ?_
 intro w0 aa ww S
 unfold L65 at H
 refine W.seq ?_
 refine W.region ?_
 refine ol_box S H rfl rfl rfl trivial ?_
 clear S H;intro p2 aa ww h1 H S
 refine OL.za S fun _ S=>?_
 refine OL.nil ?_
 refine W.seq ?_
 refine W.region ?_
 obtain⟨x4,c,H⟩:=H
 refine OL.zl S fl38 c fun _ S=>?_
 obtain⟨y5,y5_1,y5_2,y5_3,y5_4,c_2,c_3,c_4,c_5,c_6,H⟩:=H
 refine OL.zq S (Lf.run_ldA (cs:=[Value.int .i64 y5,Value.int .i64 y5_1,Value.slice y5_2.a y5_2.n y5_2.c,Value.int .i64 y5_3,Value.int .u64 y5_4]) (S.ev rfl) ag66 ti66 (by rw[S.heap];exact RowL.toRow ⟨c_2,c_3,c_4,c_5,c_6,trivial⟩)) fun _ S=>?_
 refine ol_cal S H isfn59 rfl rfl trivial ?_
 clear S H;intro u aa ww h2 H S
 obtain⟨x6,rfl,H⟩:=H
 refine OL.zq S (Lf.run_not (S.ev rfl)) fun _ S=>?_
 refine OL.za S fun _ S=>?_
 refine OL.nil ?_
 refine W.ret ?_
 exact Ret.one S rfl rfl H
def L66 (s0:Sv) (f1:Value) (h:Heap) (R:Value→Heap→Prop):Prop:=
 ∃(I:Int→Heap→Prop) (m:Int→Heap→Nat),I 0 h∧∀x8 h1,I x8 h1 →
 ifb (decide (x8<((s0.n:Nat):Int))) (
  ixS s0 x8 fun q14=>
  ∃(y15:Int) (y15_1:Int) (y15_2:Sv) (y15_3:Int) (y15_4:Int),cl h1 (q14.add ((x8:Int).toNat*5))=some (Value.int .i64 y15)∧cl h1 ((q14.add ((x8:Int).toNat*5)).add 1)=some (Value.int .i64 y15_1)∧cl h1 ((q14.add ((x8:Int).toNat*5)).add 2)=some (Value.slice y15_2.a y15_2.n y15_2.c)∧cl h1 ((q14.add ((x8:Int).toNat*5)).add 3)=some (Value.int .i64 y15_3)∧cl h1 ((q14.add ((x8:Int).toNat*5)).add 4)=some (Value.int .u64 y15_4) ∧
  calV Try.prog f1 #[Value.agg #[Value.int .i64 y15,Value.int .i64 y15_1,Value.slice y15_2.a y15_2.n y15_2.c,Value.int .i64 y15_3,Value.int .u64 y15_4]] h1 fun u h2=>asB u fun x16=>
  ifb x16 (
   R (Value.int .i64 x8) h2) (
   I (IntKind.i64.wrap (x8+1)) h2∧m (IntKind.i64.wrap (x8+1)) h2<m x8 h1)) (
  R (Value.int .i64 (-1)) h1)
set_option maxRecDepth 100000 in
theorem F66 {s0 f1 h:_} {R:Value→Heap→Prop} (H:L66 s0 f1 h R):CallsH Try.prog 66 #[Value.slice s0.a s0.n s0.c,f1] h R:=by
 refine CallsH.enter (n:=19) Try.func66 rfl rfl rfl rfl ?_
 intro w0 aa ww S
 unfold L66 at H
 refine W.seq ?_
 refine W.region ?_
 refine OL.za S fun _ S=>?_
 refine OL.nil ?_
 refine W.seq ?_
 refine W.seq ?_
 refine W.region ?_
 refine OL.zm S fun _ S=>?_
 refine OL.zq S (Lf.run_lens (S.ev rfl) rfl Try.underlying67) fun _ S=>?_
 refine OL.zm S fun _ S=>?_
 refine OL.nil ?_
 refine W.block ?_
 obtain⟨I,m,H,HB⟩:=H
 refine W.loopS (σ:=Int×Heap) (fun s aa ww=>St 19 [(0,Value.slice s0.a s0.n s0.c),(1,f1),(7,Value.int .i64 ((s0.n:Nat):Int)),(8,Value.int .i64 s.1)] s.2 w0 aa ww∧I s.1 s.2) (fun s=>m s.1 s.2) (0,h) ⟨S.sub _ ⟨rfl,rfl,rfl,rfl,trivial⟩,H⟩ ?_
 clear H S
 rintro ⟨x8,h1⟩ aa ww ⟨S,HI⟩
 replace S:St 19 [(0,Value.slice s0.a s0.n s0.c),(1,f1),(7,Value.int .i64 ((s0.n:Nat):Int)),(8,Value.int .i64 x8)] h1 w0 aa ww:=S
 have H:=HB x8 h1 HI
 clear HI
 refine W.seq ?_
 refine W.region ?_
 refine OL.zq S (Lf.run_lss (S.ev rfl) (S.ev rfl)) fun _ S=>?_
 refine OL.nil ?_
 refine W.seq ?_
 refine W.cond S (b:=(decide (x8<((s0.n:Nat):Int)))) rfl (fun hb=>?_) (fun hb=>?_)
 ·
  replace H:=H.1 hb
  refine W.skip ?_
  refine W.seq ?_
  refine W.block ?_
  refine W.seq ?_
  refine W.region ?_
  refine OL.zm S fun _ S=>?_
  refine OL.za S fun _ S=>?_
  refine OL.nil ?_
  refine W.seq ?_
  refine W.region ?_
  refine OL.zm S fun _ S=>?_
  refine OL.zm S fun _ S=>?_
  refine OL.zm S fun _ S=>?_
  obtain⟨q14,e,e_1,e_2,H⟩:=H
  refine OL.zq S (Lf.run_ixs (S.ev rfl) (S.ev rfl) Try.underlying67 ti66 e e_1 e_2) fun _ S=>?_
  obtain⟨y15,y15_1,y15_2,y15_3,y15_4,c_1,c_2,c_3,c_4,c_5,H⟩:=H
  refine OL.zq S (Lf.run_ldA (cs:=[Value.int .i64 y15,Value.int .i64 y15_1,Value.slice y15_2.a y15_2.n y15_2.c,Value.int .i64 y15_3,Value.int .u64 y15_4]) (S.ev rfl) ag66 ti66 (by rw[S.heap];exact RowL.toRow ⟨c_1,c_2,c_3,c_4,c_5,trivial⟩)) fun _ S=>?_
  refine ol_calV S H rfl rfl rfl trivial ?_
  clear S H;intro u aa ww h2 H S
  obtain⟨x16,rfl,H⟩:=H
  refine OL.nil ?_
  refine W.cond S (b:=x16) rfl (fun hb_1=>?_) (fun hb_1=>?_)
  ·
   replace H:=H.1 hb_1
   refine W.seq ?_
   refine W.region ?_
   refine OL.zm S fun _ S=>?_
   refine OL.za S fun _ S=>?_
   refine OL.nil ?_
   refine W.ret ?_
   exact Ret.one S rfl rfl H
  ·
   replace H:=H.2 hb_1
   refine W.skip ?_
   refine W.region ?_
   refine OL.zq S (Lf.run_add (S.ev rfl) (S.ev rfl)) fun _ S=>?_
   refine OL.zm S fun _ S=>?_
   refine OL.nil ?_
   exact⟨((IntKind.i64.wrap (x8+1)),h2),⟨S.sub _ ⟨rfl,rfl,rfl,rfl,trivial⟩,H.1⟩,H.2⟩
 ·
  replace H:=H.2 hb
  refine W.exit_ ?_
  refine xhit ?_
  refine W.seq ?_
  refine W.region ?_
  refine OL.za S fun _ S=>?_
  refine OL.nil ?_
  refine W.ret ?_
  exact Ret.one S rfl rfl H
end Go.Proofs.Ytkpahlkendlahaa
namespace Go.Proofs.Ytkpahlkendlahaa
open Go Go.Lf
set_option linter.unusedVariables false
theorem wrap_succ {j n:Nat} (h:j<n) (hn:n≤4611686018427387904):IntKind.i64.wrap ((j:Int)+1)=((j+1:Nat):Int):=by rw[wrap64_id (by omega) (by omega)];rfl
structure PAt (h:Heap) (s:Sv) (xs:List Int):Prop where
 ints:IntsAt h s xs
 cap:s.n≤s.c
 few:xs.length≤1000000
theorem PAt.grow {h h':Heap} {s:Sv} {xs:List Int} (x:PAt h s xs) (g:Grow h h'):PAt h' s xs:=⟨x.ints.keep g fun _ _ h=>h,x.cap,x.few⟩
theorem PAt.nil (h:Heap):PAt h ⟨none,0,0⟩ []:=⟨⟨rfl,fun i hi=>by simp at hi⟩,Nat.le_refl _,by simp⟩
abbrev plc (x:Int) (s:Sv):Array Value:=#[.int .i64 x,.slice s.a s.n s.c]
section
variable {h:Heap}
theorem rdP {b:Nat} {x:Int} {s:Sv} {K:Int→Sv→Prop} (k:blk h b (plc x s)) (kk:K x s) :
  ∃(y:Int) (y1:Sv),cl h ⟨b,0,none⟩=some (.int .i64 y)∧cl h ((⟨b,0,none⟩:Addr).add 1)=some (.slice y1.a y1.n y1.c)∧K y y1:=
 ⟨x,s,by rw[k.cl];rfl,by rw[add_plain,k.cl];rfl,kk⟩
theorem hdP {S:Heap→Prop} {b:Nat} {x:Int} {s:Sv} {K:Int→Sv→Prop} (k:∀h,S h→blk h b (plc x s)) (kk:K x s) :
  ∃(y:Int) (y1:Sv),hld S ⟨b,0,none⟩ (.int .i64 y)∧hld S ((⟨b,0,none⟩:Addr).add 1) (.slice y1.a y1.n y1.c)∧K y y1:=
 ⟨x,s,fun h hs=>by rw[(k h hs).cl];rfl,fun h hs=>by rw[add_plain,(k h hs).cl];rfl,kk⟩
theorem newP {x:Int} {s:Sv} {K:Addr→Heap→Prop} (k:∀h',blk h' h.size (plc x s)→Grow h h'→h'.size=h.size+1→K ⟨h.size,0,none⟩ h'):new 49 (plc x s) h K:=by
 rintro p h' rfl rfl
 exact k _ (blk.new _ _ _) (Fr.push _ _ _) (by simp)
theorem stoP {b:Nat} {cs:Array Value} {x:Int} {s:Sv} {K:Heap→Prop} (kk:blk h b cs) (hs:cs.size=2) (k:∀h',blk h' b (plc x s)→Fr (fun i=>i=b) h h'→K h'):stoA h ⟨b,0,none⟩ [.int .i64 x,.slice s.a s.n s.c] K:=
 stoA_i kk (by rw[hs];rfl) (vs:=(plc x s).toList) (by intro u hu;simp only[List.mem_cons,List.not_mem_nil,or_false] at hu;rcases hu with rfl|rfl<;>rfl) k
theorem ints_law {a b:Sv} {xs ys:List Int} (hx:IntsAt h a xs) (hy:IntsAt h b ys) (hb:xs.length≤1000000):CallsH Try.prog 55 #[.slice a.a a.n a.c,.slice b.a b.n b.c] h (fun v h'=>h=h'∧v=.bool (xs == ys)):=by
 apply F55
 unfold L55
 rw[hx.len,hy.len]
 refine ifb_iff (q:=xs.length≠ys.length) (by simp;omega) (fun hne=>⟨rfl,?_⟩) (fun heq=>?_)
 ·have:(xs == ys)=false:=by
   rw[beq_eq_false_iff_ne]
   exact fun e=>hne (by rw[e])
  rw[this]
 have heq:xs.length=ys.length:=by omega
 refine⟨fun i=>∃j:Nat,i=j∧j≤xs.length∧xs.take j=ys.take j,fun i=>xs.length - i.toNat,⟨0,rfl,Nat.zero_le _,rfl⟩,?_⟩
 rintro _ ⟨j,rfl,hj,hh⟩
 refine ifb_iff (q:=j<xs.length) (by simp) (fun hlt=>?_) (fun hge=>?_)
 ·have hlt':j<ys.length:=by omega
  obtain⟨p,e1,c1⟩:=hx.at_ j hlt
  obtain⟨q,e2,c2⟩:=hy.at_ j hlt'
  refine⟨p,e1,by omega,by rw[hx.len];omega,_,by rw[Int.toNat_natCast];exact c1,q,e2,by omega,by rw[hy.len];omega,_,by rw[Int.toNat_natCast];exact c2,fun e=>⟨rfl,?_⟩,fun e=>?_⟩
  ·have:(xs == ys)=false:=by
    rw[beq_eq_false_iff_ne]
    intro he
    subst he
    simp at e
   rw[this]
  ·have e':xs[j]=ys[j]:=by simpa using e
   rw[wrap_succ hlt (by omega)]
   refine⟨⟨j+1,rfl,hlt,?_⟩,by simp;omega⟩
   rw[List.take_succ_eq_append_getElem hlt,List.take_succ_eq_append_getElem hlt',hh,e']
 ·have:j=xs.length:=by omega
  subst this
  rw[List.take_length,heq,List.take_length] at hh
  exact⟨rfl,by rw[hh];simp⟩
theorem PAt.head {s:Sv} {xs:List Int} (x:PAt h s xs) {m:Nat} (hm:m≤xs.length):IntsAt h ⟨s.a,m,s.c⟩ (xs.take m):=by
 refine⟨by simp;omega,fun i hi=>?_⟩
 have hi':i<xs.length:=by simp at hi;omega
 obtain⟨p,e,c⟩:=x.ints.at_ i hi'
 exact⟨p,e,by simpa using c⟩
def begB (a:Int) (xs:List Int) (b:Int) (ys:List Int):Bool:=a == b && (decide (xs.length≤ys.length) && xs == ys.take xs.length)
theorem begins_spec {sa sb:Sv} {xs ys:List Int} (a b:Int) (ha:PAt h sa xs) (hb:PAt h sb ys):CallsH Try.prog 47 #[.agg (plc a sa),.agg (plc b sb)] h (fun v h'=>Grow h h'∧v=.bool (begB a xs b ys)):=by
 apply F47
 unfold L47
 refine newP fun h1 b1 f1 z1=>newP fun h2 b2 f2 z2=>?_
 have g2:=f1.trans f2
 have B1:=f2.blk b1 fun h=>h
 have hna:=ha.ints.len
 have hnb:=hb.ints.len
 refine⟨fun v h'=>Grow h2 h'∧v=begB a xs b ys,⟨fun h'=>Grow h2 h',Fr.refl _ _,?_⟩,?_⟩
 rotate_left
 ·rintro _ h4 ⟨f4,rfl⟩
  exact⟨g2.trans f4,rfl⟩
 refine ldI_i (x:=a) (by rw[B1.cl];rfl) (ldI_i (x:=b) (by rw[b2.cl];rfl) ?_)
 unfold begB
 refine⟨fun e=>?_,fun e=>⟨Fr.refl _ _,by rw[e];rfl⟩⟩
 rw[e,Bool.true_and]
 refine⟨sa,fun h' hs=>by rw[add_plain,(hs.blk B1 fun h=>h).cl];rfl,ldS_i (s:=sb) (by rw[add_plain,b2.cl];rfl) ?_⟩
 refine ifb_iff (q:=xs.length≤ys.length) (by rw[hna,hnb];simp) (fun hle=>?_) (fun hgt=>⟨Fr.refl _ _,by rw[decide_eq_false hgt];rfl⟩)
 refine ldS_i (s:=sa) (by rw[add_plain,B1.cl];rfl) (ldS_i (s:=sb) (by rw[add_plain,b2.cl];rfl) ⟨sa,fun h' hs=>by rw[add_plain,(hs.blk B1 fun h=>h).cl];rfl,?_⟩)
 refine slS_head (m:=sa.n) (by have:=hb.cap;omega) ⟨Fr.refl _ _,?_⟩
 rw[hna]
 refine cal_of (f:=55) (ints_law (a:=⟨sa.a,xs.length,sa.c⟩) (b:=⟨sb.a,xs.length,sb.c⟩) (h:=h2) (by have:=(ha.grow g2).ints;rw[←hna];exact this) ((hb.grow g2).head hle) ha.few) ?_
 rintro _ _ ⟨rfl,rfl⟩
 exact⟨_,rfl,Fr.refl _ _,by rw[decide_eq_true hle];rfl⟩
def meetB (a:Int) (xs:List Int) (b:Int) (ys:List Int):Bool:=begB a xs b ys || begB b ys a xs
theorem meet_spec {sa sb:Sv} {xs ys:List Int} (a b:Int) (ha:PAt h sa xs) (hb:PAt h sb ys):CallsH Try.prog 36 #[.agg (plc a sa),.agg (plc b sb)] h (fun v h'=>Grow h h'∧v=.bool (meetB a xs b ys)):=by
 apply F36
 unfold L36
 refine newP fun h1 b1 f1 z1=>newP fun h2 b2 f2 z2=>?_
 have g2:=f1.trans f2
 have B1:=f2.blk b1 fun h=>h
 refine rdP B1 (rdP b2 ?_)
 refine cal_of (begins_spec a b (ha.grow g2) (hb.grow g2)) ?_
 rintro _ h3 ⟨f3,rfl⟩
 refine⟨_,rfl,?_⟩
 refine⟨fun v h'=>Grow h2 h'∧v=meetB a xs b ys,⟨fun e=>⟨f3,by unfold meetB;rw[e];rfl⟩,fun e=>?_⟩,?_⟩
 ·refine rdP (f3.blk b2 fun h=>h) (rdP (f3.blk B1 fun h=>h) ?_)
  refine cal_of (begins_spec b a (hb.grow (g2.trans f3)) (ha.grow (g2.trans f3))) ?_
  rintro _ h5 ⟨f5,rfl⟩
  exact⟨_,rfl,f3.trans f5,by unfold meetB;rw[e];rfl⟩
 ·rintro _ h4 ⟨f4,rfl⟩
  exact⟨g2.trans f4,rfl⟩
end
end Go.Proofs.Ytkpahlkendlahaa
namespace Go.Proofs.Ytkpahlkendlahaa
open Go Go.Lf
set_option linter.unusedVariables false
structure Iv where
 k:Int
 lc:Int
 d0:Int
 dp:Sv
 rk:Int
 ra:Sv
 rp:Int
 rq:Sv
 rm:Bool
 rn:ByteArray
 rN:Int
 rt:Sv
 ck:Int
 c0:Int
 cp:Sv
 ct:Int
 cn:Int
 to:Int
 el:Int
 a1:Int
 a2:Int
abbrev ivs (v:Iv):Array Value:=#[.int .i64 v.k,.int .i64 v.lc,.int .i64 v.d0,.slice v.dp.a v.dp.n v.dp.c,.int .i64 v.rk,.slice v.ra.a v.ra.n v.ra.c,.int .i64 v.rp,.slice v.rq.a v.rq.n v.rq.c,.bool v.rm,.string v.rn,.int .i64 v.rN,.slice v.rt.a v.rt.n v.rt.c,.int .i64 v.ck,.int .i64 v.c0,.slice v.cp.a v.cp.n v.cp.c,.int .i64 v.ct,.int .u64 v.cn,.int .i64 v.to,.int .i64 v.el,.int .i64 v.a1,.int .i64 v.a2]
abbrev zIv:Iv:=⟨0,0,0,⟨none,0,0⟩,0,⟨none,0,0⟩,0,⟨none,0,0⟩,false,⟨#[]⟩,0,⟨none,0,0⟩,0,0,⟨none,0,0⟩,0,0,0,0,0,0⟩
def Iv21 (h:Heap) (p:Addr) (v:Iv):Prop:=∀(j:Nat) u,(ivs v)[j]?=some u→cl h (p.add j)=some u
theorem Iv21.fr {h h':Heap} {p:Addr} {v:Iv} {T:Nat→Prop} (x:Iv21 h p v) (f:Fr T h h') (hT:¬T p.block):Iv21 h' p v:=fun j u hu=>f.clk (x j u hu) (by rw[add_block];exact hT)
theorem Iv21.blk {h:Heap} {b:Nat} {v:Iv} (k:blk h b (ivs v)):Iv21 h ⟨b,0,none⟩ v:=fun j u hu=>by rw[add_plain,k.cl,Nat.zero_add];exact hu
theorem one_iv (v:Iv):∀u∈(ivs v).toList,u.oneCell'=true:=by
 intro u hu
 simp only[List.mem_cons,List.not_mem_nil,or_false] at hu
 rcases hu with rfl|rfl|rfl|rfl|rfl|rfl|rfl|rfl|rfl|rfl|rfl|rfl|rfl|rfl|rfl|rfl|rfl|rfl|rfl|rfl|rfl<;>rfl
section
variable {h:Heap}
theorem rdI {p:Addr} {v:Iv} {K:Int→Int→Int→Sv→Int→Sv→Int→Sv→Bool→ByteArray→Int→Sv→Int→Int→Sv→Int→Int→Int→Int→Int→Int→Prop} (x:Iv21 h p v)
  (k:K v.k v.lc v.d0 v.dp v.rk v.ra v.rp v.rq v.rm v.rn v.rN v.rt v.ck v.c0 v.cp v.ct v.cn v.to v.el v.a1 v.a2) :
  ∃(y:Int) (y1:Int) (y2:Int) (y3:Sv) (y4:Int) (y5:Sv) (y6:Int) (y7:Sv) (y8:Bool) (y9:ByteArray) (y10:Int) (y11:Sv) (y12:Int) (y13:Int) (y14:Sv) (y15:Int) (y16:Int) (y17:Int) (y18:Int) (y19:Int) (y20:Int),
   cl h p=some (.int .i64 y)∧cl h (p.add 1)=some (.int .i64 y1)∧cl h (p.add 2)=some (.int .i64 y2)∧cl h (p.add 3)=some (.slice y3.a y3.n y3.c)∧cl h (p.add 4)=some (.int .i64 y4)∧cl h (p.add 5)=some (.slice y5.a y5.n y5.c)∧cl h (p.add 6)=some (.int .i64 y6)∧cl h (p.add 7)=some (.slice y7.a y7.n y7.c)∧cl h (p.add 8)=some (.bool y8)∧cl h (p.add 9)=some (.string y9)∧cl h (p.add 10)=some (.int .i64 y10)∧cl h (p.add 11)=some (.slice y11.a y11.n y11.c)∧cl h (p.add 12)=some (.int .i64 y12)∧cl h (p.add 13)=some (.int .i64 y13)∧cl h (p.add 14)=some (.slice y14.a y14.n y14.c)∧cl h (p.add 15)=some (.int .i64 y15)∧cl h (p.add 16)=some (.int .u64 y16)∧cl h (p.add 17)=some (.int .i64 y17)∧cl h (p.add 18)=some (.int .i64 y18)∧cl h (p.add 19)=some (.int .i64 y19)∧cl h (p.add 20)=some (.int .i64 y20) ∧
   K y y1 y2 y3 y4 y5 y6 y7 y8 y9 y10 y11 y12 y13 y14 y15 y16 y17 y18 y19 y20:=by
 have h0:=x 0 _ rfl
 rw[add_zero] at h0
 exact⟨v.k,v.lc,v.d0,v.dp,v.rk,v.ra,v.rp,v.rq,v.rm,v.rn,v.rN,v.rt,v.ck,v.c0,v.cp,v.ct,v.cn,v.to,v.el,v.a1,v.a2,h0,x 1 _ rfl,x 2 _ rfl,x 3 _ rfl,x 4 _ rfl,x 5 _ rfl,x 6 _ rfl,x 7 _ rfl,x 8 _ rfl,x 9 _ rfl,x 10 _ rfl,x 11 _ rfl,x 12 _ rfl,x 13 _ rfl,x 14 _ rfl,x 15 _ rfl,x 16 _ rfl,x 17 _ rfl,x 18 _ rfl,x 19 _ rfl,x 20 _ rfl,k⟩
theorem newI {v:Iv} {K:Addr→Heap→Prop} (k:∀h',blk h' h.size (ivs v)→Grow h h'→h'.size=h.size+1→K ⟨h.size,0,none⟩ h'):new 74 (ivs v) h K:=by
 rintro p h' rfl rfl
 exact k _ (blk.new _ _ _) (Fr.push _ _ _) (by simp)
theorem stoI {b:Nat} {cs:Array Value} {v:Iv} {K:Heap→Prop} (kk:blk h b cs) (hs:cs.size=21) (k:∀h',blk h' b (ivs v)→Fr (fun i=>i=b) h h'→K h'):stoA h ⟨b,0,none⟩ (ivs v).toList K:=
 stoA_i kk (by rw[hs];rfl) (one_iv v) k
theorem mineI {v:Iv} {K:Addr→Heap→Prop} (k:∀h',blk h' h.size (ivs v)→Grow h h'→K ⟨h.size,0,none⟩ h'):new 74 (ivs zIv) h fun p h1=>stoA h1 p (ivs v).toList fun h2=>K p h2:=
 newI (v:=zIv) fun h1 b1 f1 z1=>stoI b1 rfl fun h2 b2 f2=>k h2 b2 (f1.trans' f2 fun i hi e=>by omega)
structure CodeAt (h:Heap) (s:Sv) (l:List Iv):Prop where
 len:s.n=l.length
 few:l.length≤1000000
 at_:∀i (hi:i<l.length),∃p,s.a=some p∧Iv21 h (p.add (i*21)) l[i]
theorem CodeAt.grow {h h':Heap} {s:Sv} {l:List Iv} (x:CodeAt h s l) (g:Grow h h'):CodeAt h' s l:=
 ⟨x.len,x.few,fun i hi=>by obtain⟨p,e,c⟩:=x.at_ i hi;exact⟨p,e,c.fr g fun h=>h⟩⟩
def succV (v:Iv) (i:Nat):List Int:=if v.k=4 then [v.to] else if v.k=5 then (if v.to=v.el then [v.to] else [v.to,v.el]) else if v.k=6∨v.k=7 then [] else [((i+1:Nat):Int)]
def succL (l:List Iv) (i:Nat):List Int:=match l[i]? with
 | some v=>succV v i
 | none=>[]
abbrev bvs (nm:ByteArray) (pa:Int) (lo co:Sv):Array Value:=#[.string nm,.int .i64 pa,.slice lo.a lo.n lo.c,.slice co.a co.n co.c]
def NewI (h h':Heap) (s:Sv) (xs:List Int):Prop:=Grow h h'∧IntsAt h' s xs∧∀b,s.own b→h.size≤b∧b<h'.size
theorem NewI.nil {h h':Heap} (g:Grow h h'):NewI h h' ⟨none,0,0⟩ []:=⟨g,⟨rfl,fun i hi=>by simp at hi⟩,fun b ⟨a,e,_⟩=>by cases e⟩
theorem new1 {h0 h:Heap} (g:Grow h0 h) (x:Int) {K:Sv→Heap→Prop} (k:∀s h',NewI h0 h' s [x]→K s h'):newS 3 #[.int .i64 x] 1 h K:=by
 rintro s h' rfl rfl
 have kb:=blk.new h #[.int .i64 x] 3
 have hs:=g.size
 refine k _ _ ⟨g.trans (Fr.push _ _ _),⟨rfl,fun i hi=>⟨_,rfl,?_⟩⟩,fun b ⟨a,e,eb⟩=>?_⟩
 ·obtain rfl:i=0:=by simp at hi;omega
  rw[Nat.zero_mul,add_zero,kb.cl];rfl
 ·simp only[Option.some.injEq] at e
  subst e;subst eb
  have:=kb.lt
  exact⟨hs,this⟩
theorem new2 {h0 h:Heap} (g:Grow h0 h) (x y:Int) {K:Sv→Heap→Prop} (k:∀s h',NewI h0 h' s [x,y]→K s h'):newS 3 #[.int .i64 x,.int .i64 y] 2 h K:=by
 rintro s h' rfl rfl
 have kb:=blk.new h #[.int .i64 x,.int .i64 y] 3
 have hs:=g.size
 refine k _ _ ⟨g.trans (Fr.push _ _ _),⟨rfl,fun i hi=>⟨_,rfl,?_⟩⟩,fun b ⟨a,e,eb⟩=>?_⟩
 ·rw[add_plain,kb.cl]
  match i,hi with
  | 0,_=>rfl
  | 1,_=>rfl
 ·simp only[Option.some.injEq] at e
  subst e;subst eb
  have:=kb.lt
  exact⟨hs,this⟩
theorem succ_spec {b:Nat} {nm:ByteArray} {pa:Int} {lo co:Sv} {l:List Iv} (B:blk h b (bvs nm pa lo co)) (x:CodeAt h co l) {i:Nat} (hi:i<l.length) :
  CallsH Try.prog 29 #[.pointer (some ⟨b,0,none⟩),.int .i64 i] h (fun v h'=>∃s:Sv,v=.slice s.a s.n s.c∧NewI h h' s (succL l i)):=by
 apply F29
 unfold L29
 have hn:=x.len
 have hf:=x.few
 have hco:cl h ((⟨b,0,none⟩:Addr).add 3)=some (.slice co.a co.n co.c):=by rw[add_plain,B.cl];rfl
 refine⟨fun b=>b=false,⟨fun e=>?_,fun _=>⟨_,rfl,ldS_i (s:=co) hco ?_⟩⟩,?_⟩
 ·simp at e;omega
 ·rw[hn];simp;omega
 rintro _ rfl
 refine⟨fun e=>(by cases e),fun _=>⟨_,rfl,ldS_i (s:=co) hco ?_⟩⟩
 obtain⟨p,ea,T⟩:=x.at_ i hi
 refine⟨p,ea,by omega,by rw[hn];omega,?_⟩
 rw[Int.toNat_natCast]
 refine rdI T ?_
 have hsl:succL l i=succV l[i] i:=by unfold succL;rw[List.getElem?_eq_getElem hi]
 rw[hsl]
 generalize l[i]=v at *
 refine mineI (v:=v) fun h2 b2 f2=>?_
 have T2:=Iv21.blk b2
 have c0:=T2 0 _ rfl
 rw[add_zero] at c0
 refine ldI_i c0 ?_
 unfold succV
 refine ifb_iff (q:=v.k=4) (by simp) (fun h4=>?_) (fun h4=>?_)
 ·rw[if_pos h4]
  exact ldI_i (T2 17 _ rfl) (new1 f2 v.to fun s h' k=>⟨s,rfl,k⟩)
 rw[if_neg h4]
 refine ifb_iff (q:=v.k=5) (by simp) (fun h5=>?_) (fun h5=>?_)
 ·rw[if_pos h5]
  refine ldI_i (T2 17 _ rfl) (ldI_i (T2 18 _ rfl) ?_)
  refine ifb_iff (q:=v.to=v.el) (by simp) (fun he=>?_) (fun he=>?_)
  ·rw[if_pos he]
   exact ldI_i (T2 17 _ rfl) (new1 f2 v.to fun s h' k=>⟨s,rfl,k⟩)
  ·rw[if_neg he]
   exact ldI_i (T2 17 _ rfl) (ldI_i (T2 18 _ rfl) (new2 f2 v.to v.el fun s h' k=>⟨s,rfl,k⟩))
 rw[if_neg h5]
 refine⟨fun b=>b=true↔(v.k=6∨v.k=7),ifb_iff (q:=v.k=6) (by simp) (fun q=>by simp[q]) (fun q=>by simp[q]),?_⟩
 rintro c hc
 refine⟨fun e=>?_,fun e=>?_⟩
 ·rw[if_pos (hc.1 e)]
  exact⟨_,rfl,NewI.nil f2⟩
 ·rw[if_neg (fun h=>by rw[hc.2 h] at e;cases e),wrap_succ hi (by omega)]
  exact new1 f2 _ fun s h' k=>⟨s,rfl,k⟩
end
end Go.Proofs.Ytkpahlkendlahaa
namespace Go.Lf.Rd
open Go Go.Lf
def stepC (C:Nat→Bool) (p:Nat×Nat):Nat→Bool:=if C p.1 then fun k=>decide (k=p.2) || C k else C
def roundC (qs:List (Nat×Nat)) (C:Nat→Bool):Nat→Bool:=qs.foldl stepC C
def iterC (qs:List (Nat×Nat)) (a:Nat):Nat→Nat→Bool
 | 0=>fun k=>decide (k=a)
 | r+1=>roundC qs (iterC qs a r)
theorem stepC_le (C:Nat→Bool) (p:Nat×Nat) {k:Nat} (h:C k=true):stepC C p k=true:=by
 unfold stepC;split<;>simp[h]
theorem fold_le:∀(qs:List (Nat×Nat)) (C:Nat→Bool) {k:Nat},C k=true→qs.foldl stepC C k=true
 | [],_,_,h=>h
 | p :: qs,C,_,h=>fold_le qs (stepC C p) (stepC_le C p h)
theorem closed_of_round:∀(qs:List (Nat×Nat)) (C:Nat→Bool),(∀k,qs.foldl stepC C k=true→C k=true)→∀p∈qs,C p.1=true→C p.2=true
 | [],_,_,p,hp,_=>by cases hp
 | q :: qs,C,h,p,hp,h1=>by
  have hq:∀k,stepC C q k=true→C k=true:=fun k hk=>h k (fold_le qs _ hk)
  rcases List.mem_cons.1 hp with rfl|hp
  ·refine hq p.2 ?_
   unfold stepC
   rw[if_pos h1]
   simp
  ·refine closed_of_round qs C (fun k hk=>h k ?_) p hp h1
   have:stepC C q=C:=by
    funext k
    cases hc:C k with
    | true=>exact stepC_le C q hc
    | false=>cases hs:stepC C q k with
     | true=>rw[hq k hs] at hc;cases hc
     | false=>rfl
   simp only[List.foldl_cons,this]
   exact hk
def cnt (C:Nat→Bool):Nat→Nat
 | 0=>0
 | n+1=>cnt C n+(if C n then 1 else 0)
theorem cnt_le (C:Nat→Bool):∀n,cnt C n≤n
 | 0=>Nat.le_refl _
 | n+1=>by have:=cnt_le C n;simp only[cnt];split<;>omega
theorem cnt_mono {C D:Nat→Bool} (h:∀k,C k=true→D k=true):∀n,cnt C n≤cnt D n
 | 0=>Nat.le_refl _
 | n+1=>by
  have:=cnt_mono h n
  simp only[cnt]
  cases hc:C n with
  | true=>simp[h n hc];exact this
  | false=>simp;split<;>omega
theorem cnt_lt {C D:Nat→Bool} (h:∀k,C k=true→D k=true) {k:Nat} (h1:C k=false) (h2:D k=true):∀n,k<n→cnt C n<cnt D n
 | 0,hk=>by omega
 | n+1,hk=>by
  simp only[cnt]
  by_cases e:k=n
  ·subst e
   have:=cnt_mono h k
   simp[h1,h2];omega
  ·have:=cnt_lt h h1 h2 n (by omega)
   cases hc:C n with
   | true=>simp[h n hc];exact this
   | false=>simp;split<;>omega
section
variable {n:Nat} {qs:List (Nat×Nat)} {a:Nat}
theorem iter_in (ha:a≤n) (hq:∀p∈qs,p.1≤n∧p.2≤n):∀r k,iterC qs a r k=true→k≤n:=by
 have hf:∀(l:List (Nat×Nat)) (C:Nat→Bool),(∀p∈l,p.2≤n)→(∀k,C k=true→k≤n)→∀k,l.foldl stepC C k=true→k≤n:=by
  intro l
  induction l with
  | nil=>intro C _ hC k hk;exact hC k hk
  | cons p l ih=>
   intro C hl hC k hk
   refine ih (stepC C p) (fun q hq=>hl q (List.mem_cons_of_mem _ hq)) (fun k hk=>?_) k hk
   unfold stepC at hk
   split at hk
   ·simp at hk
    rcases hk with rfl|hk
    ·exact hl p (by simp)
    ·exact hC k hk
   ·exact hC k hk
 intro r
 induction r with
 | zero=>intro k hk;simp[iterC] at hk;omega
 | succ r ih=>exact fun k hk=>hf qs _ (fun p hp=>(hq p hp).2) ih k hk
theorem iter_fix (ha:a≤n) (hq:∀p∈qs,p.1≤n∧p.2≤n):∀k,iterC qs a (n+2) k=true→iterC qs a (n+1) k=true:=by
 have grow:∀r,(∃s,s≤r∧iterC qs a (s+1)=iterC qs a s)∨r+1≤cnt (iterC qs a r) (n+1):=by
  intro r
  induction r with
  | zero=>
   right
   have h1:cnt (fun _=>false) (n+1)<cnt (iterC qs a 0) (n+1):=cnt_lt (k:=a) (fun k h=>by simp at h) rfl (by simp[iterC]) (n+1) (by omega)
   omega
  | succ r ih=>
   rcases ih with⟨s,hs,e⟩|ih
   ·exact .inl ⟨s,by omega,e⟩
   ·by_cases e:iterC qs a (r+1)=iterC qs a r
    ·exact .inl ⟨r,by omega,e⟩
    ·right
     have hm:∀k,iterC qs a r k=true→iterC qs a (r+1) k=true:=fun k hk=>fold_le qs _ hk
     have:∃k,iterC qs a r k=false∧iterC qs a (r+1) k=true:=by
      refine Classical.byContradiction fun hne=>e ?_
      funext k
      cases h1:iterC qs a r k with
      | true=>exact hm k h1
      | false=>cases h2:iterC qs a (r+1) k with
       | true=>exact absurd ⟨k,h1,h2⟩ hne
       | false=>rfl
     obtain⟨k,h1,h2⟩:=this
     have:=cnt_lt hm h1 h2 (n+1) (by have:=iter_in ha hq (r+1) k h2;omega)
     omega
 have fixed:∀s d,iterC qs a (s+1)=iterC qs a s→iterC qs a (s+d+1)=iterC qs a (s+d):=by
  intro s d e
  induction d with
  | zero=>exact e
  | succ d ih=>show roundC qs (iterC qs a (s+d+1))=roundC qs (iterC qs a (s+d));rw[ih]
 rcases grow (n+1) with⟨s,hs,e⟩|h
 ·have:=fixed s (n+1 - s) e
  rw[show s+(n+1 - s)=n+1 by omega] at this
  intro k hk
  rw[←this]
  exact hk
 ·have:=cnt_le (iterC qs a (n+1)) (n+1)
  omega
end
theorem iter_least {qs:List (Nat×Nat)} {C:Nat→Bool} (hC:∀p∈qs,C p.1=true→C p.2=true) {a:Nat} (ha:C a=true):∀r k,iterC qs a r k=true→C k=true:=by
 have hf:∀(l:List (Nat×Nat)) (D:Nat→Bool),(∀p∈l,p∈qs)→(∀k,D k=true→C k=true)→∀k,l.foldl stepC D k=true→C k=true:=by
  intro l
  induction l with
  | nil=>intro D _ hD k hk;exact hD k hk
  | cons p l ih=>
   intro D hl hD k hk
   refine ih (stepC D p) (fun q hq=>hl q (List.mem_cons_of_mem _ hq)) (fun k hk=>?_) k hk
   unfold stepC at hk
   split at hk
   ·rename_i h1
    simp at hk
    rcases hk with rfl|hk
    ·exact hC p (hl p (by simp)) (hD _ h1)
    ·exact hD k hk
   ·exact hD k hk
 intro r
 induction r with
 | zero=>intro k hk;simp[iterC] at hk;subst hk;exact ha
 | succ r ih=>exact fun k hk=>hf _ _ (fun p hp=>hp) ih k hk
theorem iter_self {qs:List (Nat×Nat)} {a:Nat}:∀r,iterC qs a r a=true
 | 0=>by simp[iterC]
 | r+1=>fold_le qs _ (iter_self r)
theorem iter_closed {qs:List (Nat×Nat)} {n a:Nat} (ha:a<n) (hq:∀p∈qs,p.1<n∧p.2<n):∀p∈qs,iterC qs a n p.1=true→iterC qs a n p.2=true:=by
 obtain⟨m,rfl⟩:∃m,n=m+1:=⟨n - 1,by omega⟩
 exact closed_of_round qs _ (fun k hk=>iter_fix (n:=m) (by omega) (fun p hp=>by have:=hq p hp;omega) k hk)
section
variable {h:Heap}
def SetAt (h:Heap) (g n:Nat) (C:Nat→Bool):Prop:=∃cs:Array Value,blk h g cs∧∀k,k<n→cs[k]?=some (.int .i64 (if C k then 1 else 0))
theorem SetAt.get {g n:Nat} {C:Nat→Bool} (x:SetAt h g n C) (k:Nat) (hk:k<n):cl h ⟨g,k,none⟩=some (.int .i64 (if C k then 1 else 0)):=by
 obtain⟨cs,kb,e⟩:=x;rw[kb.cl,e k hk]
theorem SetAt.put {g n:Nat} {C:Nat→Bool} (x:SetAt h g n C) (k:Nat) (hk:k<n) {K:Heap→Prop} (hK:∀h',SetAt h' g n (fun j=>decide (j=k) || C j)→Fr (fun b=>b=g) h h'→K h'):sto h ⟨g,k,none⟩ (.int .i64 1) K:=by
 obtain⟨cs,kb,e⟩:=x
 have hlt:=(Array.getElem?_eq_some_iff.1 (e k hk)).1
 refine sto_i kb hlt (hK _ ⟨_,kb.sc k _,fun j hj=>?_⟩ (Fr.scb _ _ _ _))
 rw[Array.getElem?_setIfInBounds]
 by_cases q:k=j
 ·subst q;simp[hlt]
 ·have q':¬j=k:=fun h=>q h.symm
  simp[q,q',e j hj]
end
end Go.Lf.Rd
namespace Go.Proofs.Ytkpahlkendlahaa
open Go Go.Lf Go.Lf.Rd
set_option linter.unusedVariables false
def edgesOf (l:List Iv) (i:Nat):List (Nat×Nat):=((succL l i).filter fun x:Int=>decide (0≤x) && decide (x<(l.length:Int))).map fun x:Int=>(i,x.toNat)
def edges (l:List Iv):List (Nat×Nat):=(List.range l.length).flatMap (edgesOf l)
theorem edges_in {l:List Iv}:∀p∈edges l,p.1<l.length∧p.2<l.length:=by
 intro p hp
 obtain⟨i,hi,hp⟩:=List.mem_flatMap.1 hp
 obtain⟨x,hx,rfl⟩:=List.mem_map.1 hp
 have:=(List.mem_filter.1 hx).2
 simp only[Bool.and_eq_true,decide_eq_true_eq] at this
 exact⟨List.mem_range.1 hi,by dsimp only;omega⟩
theorem edges_mem {l:List Iv} {i:Nat} (hi:i<l.length) {x:Int} (hx:x∈succL l i) (h0:0≤x) (h1:x<l.length):(i,x.toNat)∈edges l:=
 List.mem_flatMap.2 ⟨i,List.mem_range.2 hi,List.mem_map.2 ⟨x,List.mem_filter.2 ⟨hx,by simp[h0,h1]⟩,rfl⟩⟩
theorem edges_back {l:List Iv} {p:Nat×Nat} (hp:p∈edges l):p.1<l.length∧∃x∈succL l p.1,0≤x∧x<l.length∧x.toNat=p.2:=by
 obtain⟨i,hi,hp⟩:=List.mem_flatMap.1 hp
 obtain⟨x,hx,rfl⟩:=List.mem_map.1 hp
 have:=(List.mem_filter.1 hx).2
 simp only[Bool.and_eq_true,decide_eq_true_eq] at this
 exact⟨List.mem_range.1 hi,x,(List.mem_filter.1 hx).1,this.1,this.2,rfl⟩
theorem succ_len (l:List Iv) (i:Nat):(succL l i).length≤2:=by
 unfold succL
 split
 ·unfold succV
  split
  ·simp
  ·split
   ·split<;>simp
   ·split<;>simp
 ·simp
def reachF (l:List Iv):Nat→Bool:=iterC (edges l) 0 l.length
section
variable {h:Heap}
structure WlOk (l:List Iv) (M:Nat→Bool) (T:List Nat) (at_:Nat):Prop where
 mem:∀j,M j=true↔j∈T
 lt:∀j∈T,j<l.length
 nd:T.Nodup
 zero:0∈T
 rch:∀j∈T,reachF l j=true
 le:at_≤T.length
 done:∀i∈T.take at_,∀x∈succL l i,0≤x→x<l.length→M x.toNat=true
def natI (l:List Nat):List Value:=l.map fun a:Nat=>.int .i64 a
theorem natI_ints (l:List Nat):natI l=ints (l.map fun a:Nat=>(a:Int)):=by simp[natI,ints]
theorem nodup_len:∀ {n:Nat} {T:List Nat},T.Nodup→(∀j∈T,j<n)→T.length≤n
 | 0,[],_,_=>Nat.le_refl _
 | 0,a :: T,_,h=>absurd (h a (by simp)) (Nat.not_lt_zero _)
 | n+1,T,h1,h2=>by
  by_cases hm:n∈T
  ·have h3:=nodup_len (n:=n) (h1.erase n) fun j hj=>by
    have:=(h1.mem_erase_iff).1 hj
    have:=h2 j this.2
    omega
   rw[List.length_erase_of_mem hm] at h3
   omega
  ·have h3:=nodup_len (n:=n) h1 fun j hj=>by
    have h4:=h2 j hj
    have:j≠n:=fun e=>hm (e ▸ hj)
    omega
   omega
theorem reach_spec {b:Nat} {nm:ByteArray} {pa:Int} {lo co:Sv} {l:List Iv} (B:blk h b (bvs nm pa lo co)) (x:CodeAt h co l) (hl:l.length≤1000) :
  CallsH Try.prog 20 #[.pointer (some ⟨b,0,none⟩)] h (fun v h'=>Grow h h'∧∃s:Sv,v=.slice s.a s.n s.c∧s.n=l.length∧(l=[]∨∃g,s.a=some ⟨g,0,none⟩∧h.size≤g∧BoolsAt h' g l.length (reachF l))):=by
 apply F20
 unfold L20
 have hn:=x.len
 have hco:∀ {h'},Grow h h'→cl h' ((⟨b,0,none⟩:Addr).add 3)=some (.slice co.a co.n co.c):=fun g=>by rw[add_plain,(g.blk B fun h=>h).cl];rfl
 refine⟨fun c=>c=decide (l.length=0),⟨fun e=>(by cases e),fun _=>⟨_,rfl,ldS_i (s:=co) (hco (Fr.refl _ _)) ?_⟩⟩,?_⟩
 ·rw[hn]
  show (_ == _)=decide _
  rw[Bool.eq_iff_iff];simp
 rintro _ rfl
 refine ifb_dec (fun h0=>⟨Fr.refl _ _,⟨none,0,0⟩,rfl,h0.symm,.inl (List.eq_nil_of_length_eq_zero h0)⟩) (fun h0=>?_)
 refine⟨_,rfl,ldS_i (s:=co) (hco (Fr.refl _ _)) ?_⟩
 refine⟨by omega,by omega,by omega,by omega,?_⟩
 rintro s23 h1 rfl rfl
 simp only[Int.toNat_natCast]
 rw[hn]
 have M1:=made_bools (E:=4) h l.length
 have f1:Grow h (h.push (.cells (madeCells (Value.bool false).cells (l.length*1)) 4)):=Fr.push _ _ _
 have z1:(h.push (.cells (madeCells (Value.bool false).cells (l.length*1)) 4)).size=h.size+1:=by simp
 generalize h.push (.cells (madeCells (Value.bool false).cells (l.length*1)) 4)=h1 at *
 refine ixS_i rfl (by omega) (by show (0:Int)<((l.length:Nat):Int);omega) ?_
 refine M1.put (k:=0) (by omega) true fun h2 M2 f2=>?_
 have g2:Grow h h2:=f1.trans' f2 fun i hi e=>by omega
 have s2:=f2.size
 rintro s26 h3 rfl rfl
 have k3:=blk.new h2 #[Value.int .i64 0] 3
 have f3:Grow h2 (h2.push (.cells #[Value.int .i64 0] 3)):=Fr.push _ _ _
 have z3:(h2.push (.cells #[Value.int .i64 0] 3)).size=h2.size+1:=by simp
 generalize h2.push (.cells #[Value.int .i64 0] 3)=h3 at *
 have M3:=M2.frame f3 fun h=>h
 have o3:Own h3 h2.size 1 ⟨some ⟨h2.size,0,none⟩,1,1⟩ (natI [0]):=⟨rfl,.inr ⟨h2.size,_,rfl,Nat.le_refl _,k3,Nat.le_refl _,by simp,rfl⟩⟩
 have hr0:reachF l 0=true:=iter_self _
 refine⟨fun T i h'=>∃(M:Nat→Bool) (tl:List Nat) (a:Nat),i=a∧Grow h h'∧BoolsAt h' h.size l.length M∧Own h' h2.size 1 T (natI tl)∧WlOk l M tl a,fun _ i _=>l.length - i.toNat,
  ⟨_,[0],0,rfl,g2.trans f3,M3,o3,⟨fun j=>by by_cases e:j=0<;>simp[e],fun j hj=>by simp at hj;omega,by simp,by simp,fun j hj=>by simp at hj;rw[hj];exact hr0,by simp,fun i hi=>by simp at hi⟩⟩,?_⟩
 rintro T _ h4 ⟨M,tl,a,rfl,g4,M4,o4,W⟩
 have hnT:T.n=tl.length:=by have:=o4.len;simp[natI] at this;omega
 have htl:=nodup_len W.nd W.lt
 refine ifb_iff (q:=a<tl.length) (by rw[hnT];simp) (fun hlt=>?_) (fun hge=>?_)
 rotate_left
 ·refine⟨g4,⟨some ⟨h.size,0,none⟩,l.length,l.length⟩,rfl,rfl,.inr ⟨h.size,rfl,Nat.le_refl _,M4.congr fun j hj=>?_⟩⟩
  have hae:a=tl.length:=by have:=W.le;omega
  cases hM:M j with
  | true=>exact (W.rch j ((W.mem j).1 hM)).symm
  | false=>
   cases hR:reachF l j with
   | false=>rfl
   | true=>
    have:=iter_least (qs:=edges l) (C:=M) (a:=0) (fun p hp h1=>?_) ((W.mem 0).2 W.zero) l.length j hR
    ·rw[hM] at this;cases this
    ·obtain⟨q1,y,q2,q3,q4,q5⟩:=edges_back hp
     have:=W.done p.1 (by rw[hae,List.take_length];exact (W.mem _).1 h1) y q2 q3 q4
     rwa [q5] at this
 rw[natI_ints] at o4
 obtain⟨p,ep,cp⟩:=(own_ints o4).at_ a (by simpa using hlt)
 simp only[List.getElem_map] at cp
 refine⟨p,ep,by omega,by rw[hnT];omega,_,by rw[Int.toNat_natCast];exact cp,?_⟩
 have hi0:tl[a]<l.length:=W.lt _ (List.getElem_mem hlt)
 have hri:reachF l tl[a]=true:=W.rch _ (List.getElem_mem hlt)
 have hMi:M tl[a]=true:=(W.mem _).2 (List.getElem_mem hlt)
 have hcls:=iter_closed (qs:=edges l) (n:=l.length) (a:=0) (by omega) edges_in
 generalize hti:tl[a]=ti at *
 refine cal_of (succ_spec (g4.blk B fun h=>h) (x.grow g4) hi0) ?_
 rintro _ h5 ⟨s38,rfl,g5,x5,own5⟩
 refine⟨s38,rfl,?_⟩
 have hsl:=succ_len l ti
 have hn38:=x5.len
 have s4:=g4.size
 have hTlt:∀b,T.own b→h2.size≤b∧b<h4.size:=fun b hb=>o4.ge hb
 rw[←natI_ints] at o4
 have hMlt:=M4.lt
 refine⟨fun T' k h'=>∃(j:Nat) (M':Nat→Bool) (tl':List Nat),k=j∧j≤(succL l ti).length∧Grow h h'∧IntsAt h' s38 (succL l ti)∧BoolsAt h' h.size l.length M'∧Own h' h2.size 1 T' (natI tl') ∧
   WlOk l M' tl' a∧tl'[a]?=some ti∧(∀b,T'.own b→¬s38.own b)∧(∀q,M q=true→M' q=true)∧∀q (hq:q<(succL l ti).length),q<j→0≤(succL l ti)[q]→(succL l ti)[q]<l.length→M' (succL l ti)[q].toNat=true,
  fun _ k _=>(succL l ti).length - k.toNat,⟨0,M,tl,rfl,Nat.zero_le _,g4.trans g5,x5,M4.frame g5 (fun h=>h),o4.frame g5 (fun _ _ h=>h),W,by rw[←hti];exact List.getElem?_eq_getElem hlt,fun b hb e=>by have:=(own5 b e).1;have:=(hTlt b hb).2;omega,fun _ h=>h,fun q _ h=>absurd h (Nat.not_lt_zero _)⟩,?_⟩
 rintro T' _ h6 ⟨j,M',tl',rfl,hj,g6,x6,M6,o6,W6,hti6,hdis,hsup,hdone⟩
 have hnT':T'.n=tl'.length:=by have:=o6.len;simp[natI] at this;omega
 have htl':=nodup_len W6.nd W6.lt
 refine ifb_iff (q:=j<(succL l ti).length) (by rw[hn38];simp) (fun hjl=>?_) (fun hjg=>?_)
 rotate_left
 ·have hje:j=(succL l ti).length:=by omega
  have hal:a<tl'.length:=by
   rcases Nat.lt_or_ge a tl'.length with h|h
   ·exact h
   ·rw[List.getElem?_eq_none h] at hti6;cases hti6
  rw[wrap_succ hlt (by omega)]
  refine⟨⟨M',tl',a+1,rfl,g6,M6,o6,⟨W6.mem,W6.lt,W6.nd,W6.zero,W6.rch,hal,fun i hi y hy h0 h1=>?_⟩⟩,by dsimp only;omega⟩
  rw[List.take_succ_eq_append_getElem hal,List.mem_append] at hi
  rcases hi with hi|hi
  ·exact W6.done i hi y hy h0 h1
  ·rw[List.getElem?_eq_getElem hal,Option.some.injEq] at hti6
   rw[hti6] at hi
   obtain rfl:i=ti:=by simpa using hi
   obtain⟨q,hq,rfl⟩:=List.mem_iff_getElem.1 hy
   exact hdone q hq (by omega) h0 h1
 rw[wrap_succ hjl (by omega)]
 obtain⟨p2,ep2,cp2⟩:=x6.at_ j hjl
 generalize hy:(succL l ti)[j]=y at *
 refine⟨fun T2 h10=>∃(M2:Nat→Bool) (tl2:List Nat),Grow h h10∧IntsAt h10 s38 (succL l ti)∧BoolsAt h10 h.size l.length M2∧Own h10 h2.size 1 T2 (natI tl2)∧WlOk l M2 tl2 a∧tl2[a]?=some ti∧(∀b,T2.own b→¬s38.own b)∧(∀q,M' q=true→M2 q=true)∧(0≤y→y<l.length→M2 y.toNat=true),?_,?_⟩
 rotate_left
 ·rintro T2 h10 ⟨M2,tl2,q1,q2,q3,q4,q5,q6,q7,q8,q9⟩
  refine⟨⟨j+1,M2,tl2,rfl,hjl,q1,q2,q3,q4,q5,q6,q7,fun q hq=>q8 q (hsup q hq),fun q hq hqj h0 h1=>?_⟩,by dsimp only;omega⟩
  rcases Nat.lt_or_ge q j with hl|hl
  ·exact q8 _ (hdone q hq hl h0 h1)
  ·obtain rfl:q=j:=by omega
   rw[hy] at h0 h1 ⊢
   exact q9 h0 h1
 refine⟨p2,ep2,by omega,by rw[hn38];omega,_,by rw[Int.toNat_natCast];exact cp2,?_⟩
 refine⟨fun c=>c=true↔(0≤y∧y<l.length∧M' y.toNat=false),⟨fun e=>?_,fun e=>?_⟩,?_⟩
 ·simp only[Bool.and_eq_true,decide_eq_true_eq] at e
  refine ixS_i rfl e.1 e.2 (ldB_i (x:=M' y.toNat) (by rw[add_plain,Nat.mul_one,Nat.zero_add];exact M6.cell (by omega)) ?_)
  cases M' y.toNat<;>simp[e.1,e.2]
 ·simp only[Bool.and_eq_false_iff,decide_eq_false_iff_not] at e
  constructor
  ·intro h;cases h
  ·rintro ⟨q1,q2,-⟩
   rcases e with e|e
   ·exact absurd q1 e
   ·exact absurd q2 e
 rintro c hc
 refine⟨fun e=>?_,fun e=>?_⟩
 ·obtain⟨y0,y1,yM⟩:=hc.1 e
  refine ixS_i rfl y0 y1 ?_
  rw[add_plain,Nat.mul_one,Nat.zero_add]
  refine M6.put (k:=y.toNat) (by omega) true fun h7 M7 f7=>?_
  have s6:=g6.size
  have hT6:∀b,T'.own b→b≠h.size:=fun b hb e=>by have:=(o6.ge hb).1;omega
  have hs6:∀b,s38.own b→b≠h.size:=fun b hb e=>by have:=(own5 b hb).1;omega
  have o7:=o6.frame f7 fun b hb e=>hT6 b hb e
  have x7:=x6.frame f7 fun b hb e=>hs6 b hb e
  have g7:Grow h h7:=g6.trans' f7 fun i hi e=>by omega
  have hyv:(y:Int)=((y.toNat:Nat):Int):=by omega
  have s7:=f7.size
  have s2':h2.size≤h6.size:=by
   rcases o6.mem with⟨_,_,_⟩|⟨g,cur,_,q,k,_⟩
   ·have:=(W6.zero);have:0<tl'.length:=List.length_pos_of_mem this;omega
   ·have:=k.lt;omega
  refine app1 rfl o7 rfl (by simp[Value.oneCell']) (by omega) (by omega) (by omega) fun s' h9 e9 o9 f9 own9=>?_
  have s9:=f9.size
  have hmemT:y.toNat∉tl':=fun h=>by rw[(W6.mem _).2 h] at yM;cases yM
  have hedge:(ti,y.toNat)∈edges l:=edges_mem hi0 (by rw[←hy];exact List.getElem_mem hjl) y0 y1
  refine⟨_,tl'++[y.toNat],g7.trans' f9 fun i hi e=>by have:=(o7.ge e).1;have:=g2.size;omega,x7.frame f9 fun b hb e=>hdis b e hb,M7.frame f9 fun e=>by have:=(o7.ge e).1;have:=g2.size;omega,?_,?_,?_,?_,?_,?_⟩
  ·have e:natI (tl'++[y.toNat])=natI tl'++#[Value.int .i64 y].toList:=by unfold natI;rw[List.map_append];simp only[List.map_cons,List.map_nil,←hyv]
   rw[e];exact o9
  ·refine⟨fun q=>?_,fun q hq=>?_,?_,by simp[W6.zero],fun q hq=>?_,by simp;have:=W6.le;omega,fun i hi z hz h0 h1=>?_⟩
   ·by_cases eq_:q=y.toNat
    ·simp[eq_]
    ·simp[eq_,W6.mem]
   ·rcases List.mem_append.1 hq with hq|hq
    ·exact W6.lt q hq
    ·obtain rfl:q=y.toNat:=by simpa using hq
     omega
   ·exact List.nodup_append.2 ⟨W6.nd,by simp,fun u hu v hv e=>by simp at hv;subst e;subst hv;exact hmemT hu⟩
   ·rcases List.mem_append.1 hq with hq|hq
    ·exact W6.rch q hq
    ·obtain rfl:q=y.toNat:=by simpa using hq
     exact hcls _ hedge hri
   ·rw[List.take_append_of_le_length W6.le] at hi
    have:=W6.done i hi z hz h0 h1
    by_cases eq_:z.toNat=y.toNat
    ·simp[eq_]
    ·simp[eq_,this]
  ·rw[List.getElem?_append_left]
   ·exact hti6
   ·rcases Nat.lt_or_ge a tl'.length with h|h
    ·exact h
    ·rw[List.getElem?_eq_none h] at hti6;cases hti6
  ·intro b hb hb2
   rcases own9 b hb with q|q
   ·exact hdis b q hb2
   ·have h38:b<h6.size:=by
     obtain⟨a',ea',eb'⟩:=hb2
     obtain⟨p',e',c'⟩:=x6.at_ j hjl
     have:=cl_lt c'
     rw[add_block] at this
     rw[ea'] at e'
     obtain rfl:a'=p':=by simpa using e'
     rw[←eb'];exact this
    omega
  ·intro q hq
   by_cases eq_:q=y.toNat
   ·simp[eq_]
   ·simp[eq_,hq]
  ·intro _ _;simp
 ·refine⟨M',tl',g6,x6,M6,o6,W6,hti6,hdis,fun _ h=>h,fun h0 h1=>?_⟩
  cases hM:M' y.toNat with
  | true=>rfl
  | false=>rw[hc.2 ⟨h0,h1,hM⟩] at e;cases e
end
end Go.Proofs.Ytkpahlkendlahaa
namespace Go.Lf
open Go
theorem add_add (p:Addr) (a b:Nat):(p.add a).add b=p.add (a+b):=by
 obtain⟨k,o,s⟩:=p
 by_cases hb:b=0
 ·subst hb;simp[Addr.add]
 ·by_cases ha:a=0
  ·subst ha;simp[Addr.add]
  ·simp[Addr.add,ha,hb,Nat.add_assoc]
theorem own_addr {h:Heap} {B sz:Nat} {s:Sv} {xs:List Value} (o:Own h B sz s xs) (hn:0<s.n):∃g,s.a=some ⟨g,0,none⟩:=by
 rcases o.mem with⟨_,e,_⟩|⟨g,cur,e,_⟩
 ·omega
 ·exact⟨g,e⟩
end Go.Lf
namespace Go.Proofs.Ytkpahlkendlahaa
open Go Go.Lf
set_option linter.unusedVariables false
def CsAt (h:Heap) (p:Addr) (cs:List Value):Prop:=∀(j:Nat) u,cs[j]?=some u→cl h (p.add j)=some u
theorem CsAt.fr {h h':Heap} {p:Addr} {cs:List Value} {T:Nat→Prop} (x:CsAt h p cs) (f:Fr T h h') (hT:¬T p.block):CsAt h' p cs:=fun j u hu=>f.clk (x j u hu) (by rw[add_block];exact hT)
theorem CsAt.grow {h h':Heap} {p:Addr} {cs:List Value} (x:CsAt h p cs) (f:Grow h h'):CsAt h' p cs:=x.fr f fun h=>h
theorem CsAt.blk {h:Heap} {b:Nat} {cs:Array Value} (k:blk h b cs):CsAt h ⟨b,0,none⟩ cs.toList:=fun j u hu=>by rw[add_plain,k.cl,Nat.zero_add];simpa using hu
theorem CsAt.at0 {h:Heap} {p:Addr} {c:Value} {cs:List Value} (x:CsAt h p (c :: cs)):cl h p=some c:=by
 have:=x 0 c rfl
 rwa [add_zero] at this
theorem CsAt.sub {h:Heap} {p:Addr} {cs ds:List Value} (x:CsAt h p cs) (k:Nat) (hd:∀j u,ds[j]?=some u→cs[k+j]?=some u):CsAt h (p.add k) ds:=fun j u hu=>by
 rw[add_add];exact x _ _ (hd j u hu)
structure Rows (s:Sv) (sz n:Nat) (R:Nat→Addr→Prop):Prop where
 len:s.n=n
 at_:∀i,i<n→∃p,s.a=some p∧R i (p.add (i*sz))
theorem flat_get {α:Type} {f:α→List Value} {sz:Nat} (hf:∀a,(f a).length=sz):∀(ts:List α) (i:Nat) (hi:i<ts.length) (j:Nat) (u:Value),(f ts[i])[j]?=some u→(ts.flatMap f)[i*sz+j]?=some u
 | t :: ts,0,_,j,u,h=>by
  simp only[List.getElem_cons_zero] at h
  have hj:j<(f t).length:=by
   rcases Nat.lt_or_ge j (f t).length with e|e
   ·exact e
   ·rw[List.getElem?_eq_none e] at h;cases h
  rw[List.flatMap_cons,Nat.zero_mul,Nat.zero_add,List.getElem?_append_left hj];exact h
 | t :: ts,i+1,hi,j,u,h=>by
  have:=flat_get hf ts i (by simpa using hi) j u h
  rw[List.flatMap_cons,List.getElem?_append_right (by rw[hf,Nat.succ_mul];omega),hf,Nat.succ_mul]
  rw[show i*sz+sz+j - sz=i*sz+j by omega];exact this
theorem flat_len {α:Type} {f:α→List Value} {sz:Nat} (hf:∀a,(f a).length=sz) (ts:List α):(ts.flatMap f).length=ts.length*sz:=by
 induction ts with
 | nil=>simp
 | cons t ts ih=>rw[List.flatMap_cons,List.length_append,hf,ih,List.length_cons,Nat.succ_mul];omega
theorem own_len {h:Heap} {B sz:Nat} {s:Sv} {α:Type} {f:α→List Value} {ts:List α} (hf:∀a,(f a).length=sz) (hsz:0<sz) (o:Own h B sz s (ts.flatMap f)):s.n=ts.length:=by
 have:=o.len
 rw[flat_len hf] at this
 exact (Nat.eq_of_mul_eq_mul_right hsz this).symm
theorem own_rows {h:Heap} {B sz:Nat} {s:Sv} {α:Type} {f:α→List Value} {ts:List α} (hf:∀a,(f a).length=sz) (hsz:0<sz) (o:Own h B sz s (ts.flatMap f)) :
  Rows s sz ts.length fun i p=>∃hi:i<ts.length,CsAt h p (f ts[i]):=by
 have hn:=own_len hf hsz o
 refine⟨hn,fun i hi=>?_⟩
 obtain⟨g,e⟩:=own_addr o (by omega)
 refine⟨_,e,hi,fun j u hu=>?_⟩
 rw[add_add]
 have hr:=o.row
 rw[e] at hr
 exact hr _ _ (flat_get hf ts i hi j u hu)
structure Acv where
 l:Int
 s:Sv
 k:Int
abbrev acs (a:Acv):List Value:=[.int .i64 a.l,.slice a.s.a a.s.n a.s.c,.int .i64 a.k]
structure Ov where
 k:Int
 l:Int
 s:Sv
 t:Int
 n:Int
abbrev ovs (o:Ov):List Value:=[.int .i64 o.k,.int .i64 o.l,.slice o.s.a o.s.n o.s.c,.int .i64 o.t,.int .u64 o.n]
structure Ins where
 v:Iv
 ops:List Ov
def OpsAt (h:Heap) (s:Sv) (os:List Ov):Prop:=Rows s 5 os.length fun i p=>∃hi:i<os.length,CsAt h p (ovs os[i])
theorem OpsAt.grow {h h':Heap} {s:Sv} {os:List Ov} (x:OpsAt h s os) (f:Grow h h'):OpsAt h' s os:=
 ⟨x.len,fun i hi=>by obtain⟨p,e,hi,c⟩:=x.at_ i hi;exact⟨p,e,hi,c.grow f⟩⟩
abbrev Pth:=Sv→List Int
def Pv (h:Heap) (pth:Pth) (s:Sv):Prop:=PAt h s (pth s)
theorem Pv.grow {h h':Heap} {pth:Pth} {s:Sv} (x:Pv h pth s) (f:Grow h h'):Pv h' pth s:=PAt.grow x f
structure InsAt (h:Heap) (pth:Pth) (I:Ins):Prop where
 ops:OpsAt h I.v.ra I.ops
 few:I.ops.length≤1000
 dp:Pv h pth I.v.dp
 rq:Pv h pth I.v.rq
 cp:Pv h pth I.v.cp
 op:∀o∈I.ops,Pv h pth o.s
theorem InsAt.grow {h h':Heap} {pth:Pth} {I:Ins} (x:InsAt h pth I) (f:Grow h h'):InsAt h' pth I:=
 ⟨x.ops.grow f,x.few,x.dp.grow f,x.rq.grow f,x.cp.grow f,fun o ho=>(x.op o ho).grow f⟩
structure BdAt (h:Heap) (pth:Pth) (Is:List Ins) (lo co:Sv):Prop where
 code:CodeAt h co (Is.map (·.v))
 ins:∀I∈Is,InsAt h pth I
 lo:1≤lo.n∧lo.n≤1000
theorem BdAt.grow {h h':Heap} {pth:Pth} {Is:List Ins} {lo co:Sv} (x:BdAt h pth Is lo co) (f:Grow h h'):BdAt h' pth Is lo co:=
 ⟨x.code.grow f,fun I hI=>(x.ins I hI).grow f,x.lo⟩
def okPl (m:Nat) (l:Int) (xs:List Int):Prop:=0≤l∧l<m∧∀x∈xs,-1≤x
def okI (pth:Pth) (m n i:Nat) (I:Ins):Prop:=
 ((I.v.k=1∨I.v.k=2)∧0≤I.v.lc∧I.v.lc<m∧i+1<n) ∨
 (I.v.k=3∧i+1<n∧okPl m I.v.d0 (pth I.v.dp)∧((I.v.rk=1∧∃o,I.ops=[o]∧(o.k=2∨o.k=3)∧okPl m o.l (pth o.s))∨(I.v.rk=2∧I.ops=[]∧okPl m I.v.rp (pth I.v.rq))∨(I.v.rk=10∧I.ops=[]))) ∨
 (I.v.k=4∧0≤I.v.to∧I.v.to<n) ∨
 (I.v.k=5∧I.v.ck=2∧okPl m I.v.c0 (pth I.v.cp)∧0≤I.v.to∧I.v.to<n∧0≤I.v.el∧I.v.el<n)∨I.v.k=6∨I.v.k=7
end Go.Proofs.Ytkpahlkendlahaa
namespace Go.Proofs.Ytkpahlkendlahaa
open Go Go.Lf
set_option linter.unusedVariables false
def um (x m:Int):Int:=(IntKind.u64.wrap x).tmod m
theorem um_in (x:Int) {m:Int} (hm:0<m):0≤um x m∧um x m<m:=by
 unfold um
 have hu:0≤IntKind.u64.wrap x:=by rw[IntKind.wrap_u64];omega
 rw[Int.tmod_eq_emod_of_nonneg hu]
 exact⟨Int.emod_nonneg _ (by omega),Int.emod_lt_of_pos _ hm⟩
theorem um_w (x:Int) {m:Int} (hm:0<m) (h2:m≤1000000000):IntKind.i64.wrap ((IntKind.u64.wrap x).tmod m)=um x m:=by
 have:=um_in x hm
 show IntKind.i64.wrap (um x m)=um x m
 exact wrap64_id (by omega) (by omega)
def rdX (h:Heap) (s:Sv):List Int:=(List.range s.n).map fun i=>match s.a with
 | some p=>(match cl h (p.add (i*1)) with
  | some (.int _ x)=>x
  | _=>0)
 | none=>0
theorem rdX_eq {h:Heap} {s:Sv} {xs:List Int} (x:IntsAt h s xs):rdX h s=xs:=by
 apply List.ext_getElem
 ·simp[rdX,x.len]
 ·intro i h1 h2
  obtain⟨p,e,c⟩:=x.at_ i h2
  simp[rdX,e]
  rw[Nat.mul_one] at c
  rw[c]
theorem own_weak {h:Heap} {B B' sz:Nat} {s:Sv} {xs:List Value} (o:Own h B sz s xs) (hB:B'≤B):Own h B' sz s xs:=
 ⟨o.len,o.mem.imp id fun ⟨g,cur,e,hg,r⟩=>⟨g,cur,e,by omega,r⟩⟩
theorem PAt.fr {h h':Heap} {s:Sv} {xs:List Int} {T:Nat→Prop} (x:PAt h s xs) (f:Fr T h h') (hT:∀b,s.own b→¬T b):PAt h' s xs:=⟨x.ints.frame f hT,x.cap,x.few⟩
structure QAt (Q:Nat→Prop) (h:Heap) (s:Sv) (xs:List Int):Prop where
 p:PAt h s xs
 q:∀b,s.own b→Q b
theorem QAt.fr {Q:Nat→Prop} {h h':Heap} {s:Sv} {xs:List Int} {T:Nat→Prop} (x:QAt Q h s xs) (f:Fr T h h') (hT:∀b,Q b→¬T b):QAt Q h' s xs:=⟨x.p.fr f fun b hb=>hT b (x.q b hb),x.q⟩
theorem QAt.nil (Q:Nat→Prop) (h:Heap):QAt Q h ⟨none,0,0⟩ []:=⟨PAt.nil h,fun b ⟨a,e,_⟩=>by cases e⟩
theorem QAt.rd {Q:Nat→Prop} {h:Heap} {s:Sv} {xs:List Int} (x:QAt Q h s xs):rdX h s=xs:=rdX_eq x.p.ints
theorem OpsAt.fr {h h':Heap} {s:Sv} {os:List Ov} {T:Nat→Prop} (x:OpsAt h s os) (f:Fr T h h') (hT:∀b,s.own b→¬T b):OpsAt h' s os:=
 ⟨x.len,fun i hi=>by obtain⟨p,e,hi,c⟩:=x.at_ i hi;exact⟨p,e,hi,c.fr f (by rw[add_block];exact hT _ ⟨p,e,rfl⟩)⟩⟩
theorem okI_congr {pth pth':Pth} {m n i:Nat} {I:Ins} (h1:pth I.v.dp=pth' I.v.dp) (h2:pth I.v.rq=pth' I.v.rq) (h3:pth I.v.cp=pth' I.v.cp) (h4:∀o∈I.ops,pth o.s=pth' o.s) (h:okI pth m n i I):okI pth' m n i I:=by
 unfold okI at h ⊢
 rw[←h1,←h2,←h3]
 rcases h with h|⟨a,b,c,⟨d,o,e,f,g⟩|d⟩|h
 ·exact .inl h
 ·exact .inr (.inl ⟨a,b,c,.inl ⟨d,o,e,f,by rw[←h4 o (by rw[e];simp)];exact g⟩⟩)
 ·exact .inr (.inl ⟨a,b,c,.inr d⟩)
 ·exact .inr (.inr h)
structure QI (Q:Nat→Prop) (h:Heap) (n i:Nat) (I:Ins):Prop where
 ops:OpsAt h I.v.ra I.ops
 opsQ:∀b,I.v.ra.own b→Q b
 few:I.ops.length≤1000
 dp:QAt Q h I.v.dp (rdX h I.v.dp)
 rq:QAt Q h I.v.rq (rdX h I.v.rq)
 cp:QAt Q h I.v.cp (rdX h I.v.cp)
 op:∀o∈I.ops,QAt Q h o.s (rdX h o.s)
 ok:okI (rdX h) 4 n i I
theorem QI.fr {Q:Nat→Prop} {h h':Heap} {n i:Nat} {I:Ins} {T:Nat→Prop} (x:QI Q h n i I) (f:Fr T h h') (hT:∀b,Q b→¬T b):QI Q h' n i I:=by
 have a1:=x.dp.fr f hT
 have a2:=x.rq.fr f hT
 have a3:=x.cp.fr f hT
 have a4:=fun o ho=>(x.op o ho).fr f hT
 refine⟨x.ops.fr f fun b hb=>hT b (x.opsQ b hb),x.opsQ,x.few,?_,?_,?_,fun o ho=>?_,okI_congr a1.rd.symm a2.rd.symm a3.rd.symm (fun o ho=>(a4 o ho).rd.symm) x.ok⟩
 ·rw[a1.rd];exact a1
 ·rw[a2.rd];exact a2
 ·rw[a3.rd];exact a3
 ·rw[(a4 o ho).rd];exact a4 o ho
theorem QI.weak {Q Q':Nat→Prop} {h:Heap} {n i:Nat} {I:Ins} (x:QI Q h n i I) (hQ:∀b,Q b→Q' b):QI Q' h n i I:=
 ⟨x.ops,fun b hb=>hQ b (x.opsQ b hb),x.few,⟨x.dp.p,fun b hb=>hQ b (x.dp.q b hb)⟩,⟨x.rq.p,fun b hb=>hQ b (x.rq.q b hb)⟩,⟨x.cp.p,fun b hb=>hQ b (x.cp.q b hb)⟩,fun o ho=>⟨(x.op o ho).p,fun b hb=>hQ b ((x.op o ho).q b hb)⟩,x.ok⟩
theorem QI.ins {Q:Nat→Prop} {h:Heap} {n i:Nat} {I:Ins} (x:QI Q h n i I):InsAt h (rdX h) I:=⟨x.ops,x.few,x.dp.p,x.rq.p,x.cp.p,fun o ho=>(x.op o ho).p⟩
def PO (B:Nat) (h:Heap) (s:Sv):Prop:=∃ys,Own h B 1 s (ints ys)∧ys.length≤3∧∀y∈ys,-1≤y
theorem PO.fr {B:Nat} {h h':Heap} {s:Sv} {T:Nat→Prop} (x:PO B h s) (f:Fr T h h') (hT:∀b,s.own b→¬T b):PO B h' s:=by
 obtain⟨ys,o,r⟩:=x
 exact⟨ys,o.frame f hT,r⟩
theorem PO.ge {B:Nat} {h:Heap} {s:Sv} (x:PO B h s) {b:Nat} (hb:s.own b):B≤b∧b<h.size:=by
 obtain⟨ys,o,r⟩:=x
 exact o.ge hb
theorem PO.at_ {B:Nat} {h:Heap} {s:Sv} (x:PO B h s) {Q:Nat→Prop} (hq:∀b,s.own b→Q b):QAt Q h s (rdX h s)∧∀y∈rdX h s,-1≤y:=by
 obtain⟨ys,o,hl,hy⟩:=x
 have e:=rdX_eq (own_ints o)
 rw[e]
 exact⟨⟨⟨own_ints o,own_cap o,by omega⟩,hq⟩,hy⟩
theorem stoA_part {h:Heap} {b o:Nat} {cs:Array Value} {vs:List Value} {ds:Array Value} {K:Heap→Prop} (kk:blk h b cs) (hs:o+vs.length≤cs.size) (h1:∀v∈vs,v.oneCell'=true)
  (hd:ds.toList=cs.toList.take o++vs++cs.toList.drop (o+vs.length)) (k:∀h',blk h' b ds→Fr (fun i=>i=b) h h'→K h'):stoA h ((⟨b,0,none⟩:Addr).add o) vs K:=by
 rw[add_plain,Nat.zero_add]
 refine⟨h1,fun j hj=>?_,?_⟩
 ·rw[add_plain,kk.cl,kk.fz]
  have:o+j<cs.size:=by omega
  simp[this]
 ·rintro h' rfl
  obtain⟨q1,q2⟩:=scs_blk b vs h cs o 0 kk
  refine k _ ?_ q2
  have e:=fold_set vs cs (o+0) (by omega)
  have e':((vs.zipIdx (o+0)).foldl (fun c p=>c.setIfInBounds p.2 p.1) cs)=ds:=by
   apply Array.ext'
   rw[e,hd]
   simp
  rw[←e']
  exact q1
section
variable {h:Heap}
theorem local_spec (n:Int):CallsH Try.prog 18 #[.int .i64 n] h (fun v h'=>h=h'∧∃l:Int,v=.int .i64 l∧0≤l∧l<4):=by
 apply F18
 unfold L18
 rw[um_w n (by omega) (by omega)]
 exact⟨rfl,_,rfl,(um_in n (by omega)).1,(um_in n (by omega)).2⟩
theorem at_spec (x:Int) {b n:Nat} (hn:0<n) (hn2:n≤1000000) (k:blk h b #[.int .i64 (n:Int)]):CallsH Try.prog 17 #[.int .i64 x,.pointer (some ⟨b,0,none⟩)] h (fun v h'=>h=h'∧∃l:Int,v=.int .i64 l∧0≤l∧l<n):=by
 apply F17
 unfold L17
 refine ldI_i (x:=(n:Int)) (by rw[k.cl];rfl) ?_
 have e:IntKind.u64.wrap (n:Int)=n:=by rw[IntKind.wrap_u64];omega
 rw[e,um_w x (by omega) (by omega)]
 have:=um_in x (m:=(n:Int)) (by omega)
 exact⟨by omega,rfl,_,rfl,this.1,this.2⟩
theorem path_spec {s:Sv} {xs:List Int} (x:IntsAt h s xs):CallsH Try.prog 19 #[.slice s.a s.n s.c] h (fun v h'=>Grow h h'∧∃t:Sv,v=.slice t.a t.n t.c∧PO h.size h' t):=by
 apply F19
 unfold L19
 have hn:=x.len
 refine⟨fun out i hh=>∃k:Nat,i=k∧k≤3∧k≤xs.length∧Grow h hh∧∃ys:List Int,ys.length=k∧(∀y∈ys,-1≤y)∧Own hh h.size 1 out (ints ys),fun _ i _=>3 - i.toNat,⟨0,rfl,by omega,by omega,Fr.refl _ _,[],rfl,by simp,Own.nil _ _ _⟩,?_⟩
 rintro out _ h1 ⟨k,rfl,hk,hkx,g,ys,hys,hy,o⟩
 refine ifb_iff (q:=k<xs.length∧k<3) (by simp[hn];omega) (fun hl=>?_) (fun hl=>?_)
 ·obtain⟨p,e,c⟩:=x.at_ k hl.1
  refine⟨p,e,by omega,by rw[hn];omega,xs[k],by rw[Int.toNat_natCast];exact g.clk c (fun h=>h),?_⟩
  dsimp only
  rw[um_w _ (by omega) (by omega)]
  have hu:=um_in xs[k] (m:=5) (by omega)
  generalize um xs[k] 5=u at hu
  have e1:IntKind.i64.wrap (u - 1)=u - 1:=wrap64_id (by omega) (by omega)
  rw[e1]
  have e2:IntKind.i64.wrap (u - 1 - 2)=u - 1 - 2:=wrap64_id (by omega) (by omega)
  rw[e2]
  have hon:out.n=k:=by have:=o.len;simp[ints] at this;omega
  refine⟨fun y=>-1≤y,ifb_dec (fun _=>by omega) (fun _=>by omega),fun y hy1=>?_⟩
  refine app1 rfl o rfl (by simp[Value.oneCell']) g.size (by omega) (by omega) fun s' h3 e3 o3 f3 _=>?_
  rw[wrap_succ (n:=9) (by omega) (by omega)]
  refine⟨⟨k+1,rfl,by omega,by omega,g.trans' f3 fun i hi e=>by have:=(o.ge e).1;omega,ys++[y],by simp[hys],fun z hz=>?_,by simpa [ints] using o3⟩,by simp;omega⟩
  rcases List.mem_append.1 hz with h|h
  ·exact hy z h
  ·simp at h;omega
 ·exact⟨g,out,rfl,ys,o,by omega,hy⟩
end
end Go.Proofs.Ytkpahlkendlahaa
namespace Go.Proofs.Ytkpahlkendlahaa
open Go Go.Lf
set_option linter.unusedVariables false
section
variable {h:Heap}
theorem contains_spec {fv:Value} {P:Int→Bool} {s:Sv} {xs:List Int} (x:IntsAt h s xs) (hb:xs.length≤1000000)
  (hf:∀y,∃fno caps,fv=.func (.func fno) #[] caps∧IsFn Try.prog fno∧CallsH Try.prog fno (#[.int .i64 y]++caps) h (fun v h'=>h=h'∧v=.bool (P y))) :
  CallsH Try.prog 49 #[.slice s.a s.n s.c,fv] h (fun v h'=>h=h'∧v=.bool (xs.any P)):=by
 apply F49
 unfold L49
 have hn:=x.len
 have key:CallsH Try.prog 60 #[.slice s.a s.n s.c,fv] h (fun v h'=>h=h'∧∃i:Int,v=.int .i64 i∧decide (0≤i)=xs.any P):=by
  apply F60
  unfold L60
  refine⟨fun i h'=>h=h'∧∃j:Nat,i=j∧j≤xs.length∧(xs.take j).any P=false,fun i _=>xs.length - i.toNat,⟨rfl,0,rfl,Nat.zero_le _,rfl⟩,?_⟩
  rintro _ _ ⟨rfl,j,rfl,hj,hall⟩
  refine ifb_iff (q:=j<xs.length) (by rw[hn];simp) (fun hl=>?_) (fun hl=>?_)
  ·obtain⟨p,e,c⟩:=x.at_ j hl
   refine⟨p,e,by omega,by rw[hn];omega,_,by rw[Int.toNat_natCast];exact c,?_⟩
   obtain⟨fno,caps,e1,e2,e3⟩:=hf xs[j]
   refine⟨fno,caps,e1,e2,cal_of e3 ?_⟩
   rintro _ _ ⟨rfl,rfl⟩
   refine⟨_,rfl,fun ht=>⟨rfl,j,rfl,?_⟩,fun hf'=>⟨⟨rfl,j+1,wrap_succ hl (by omega),hl,?_⟩,?_⟩⟩
   ·have:xs.any P=true:=List.any_eq_true.2 ⟨xs[j],List.getElem_mem hl,ht⟩
    rw[this];simp
   ·rw[List.take_succ_eq_append_getElem hl,List.any_append,hall];simp[hf']
   ·rw[wrap_succ hl (by omega)];dsimp only;omega
  ·have:j=xs.length:=by omega
   subst this
   rw[List.take_length] at hall
   exact⟨rfl,-1,rfl,by rw[hall];rfl⟩
 refine cal_of key ?_
 rintro _ _ ⟨rfl,i,rfl,hi⟩
 exact⟨_,rfl,rfl,by rw[hi]⟩
section
variable {b:Nat} {nm:ByteArray} {pa:Int} {lo co:Sv}
theorem place_ok {l:Int} {s:Sv} {xs:List Int} (B:blk h b (bvs nm pa lo co)) (hlo:1≤lo.n∧lo.n≤1000) (x:PAt h s xs) (ok:okPl lo.n l xs) :
  CallsH Try.prog 57 #[.pointer (some ⟨b,0,none⟩),.agg (plc l s)] h (fun v h'=>Grow h h'∧v=.bool true):=by
 apply F57
 unfold L57
 refine newP fun h1 b1 f1 z1=>?_
 have B1:=f1.blk B fun h=>h
 refine ldI_i (x:=l) (by rw[b1.cl];rfl) ?_
 have hloc:CallsH Try.prog 56 #[.pointer (some ⟨b,0,none⟩),.int .i64 l] h1 (fun v h'=>h1=h'∧v=.bool true):=by
  apply F56
  unfold L56
  have:=ok.1
  have:=ok.2.1
  refine⟨fun c=>c=true,⟨fun _=>⟨_,rfl,ldS_i (s:=lo) (by rw[add_plain,B1.cl];rfl) ?_⟩,fun e=>by simp at e;omega⟩,?_⟩
  ·simp;omega
  ·rintro _ rfl;exact⟨rfl,rfl⟩
 refine cal_of hloc ?_
 rintro _ _ ⟨rfl,rfl⟩
 have x1:=x.grow f1
 refine⟨_,rfl,fun c h'=>c=true∧h1=h',⟨fun _=>ldS_i (s:=s) (by rw[add_plain,b1.cl];rfl) ?_,fun e=>(by cases e)⟩,?_⟩
 ·refine cal_of (contains_spec (P:=fun x=>decide (x < -1)) x1.ints x1.few fun y=>⟨_,_,rfl,⟨Try.f62,Try.func62,by kernel_rfl,by kernel_rfl⟩,?_⟩) ?_
  ·apply F62
   unfold L62
   exact⟨rfl,rfl⟩
  ·rintro _ _ ⟨rfl,rfl⟩
   refine⟨_,rfl,?_,rfl⟩
   have:xs.any (fun x=>decide (x < -1))=false:=by
    rw[List.any_eq_false]
    intro y hy
    have:=ok.2.2 y hy
    simp;omega
   rw[this];rfl
 ·rintro _ _ ⟨rfl,rfl⟩
  exact⟨f1,rfl⟩
theorem newO {o:Ov} {K:Addr→Heap→Prop} (k:∀h',blk h' h.size (ovs o).toArray→Grow h h'→K ⟨h.size,0,none⟩ h'):new 66 (ovs o).toArray h K:=by
 rintro p h' rfl rfl
 exact k _ (blk.new _ _ _) (Fr.push _ _ _)
theorem operand_ok {o:Ov} {xs:List Int} (B:blk h b (bvs nm pa lo co)) (hlo:1≤lo.n∧lo.n≤1000) (x:PAt h o.s xs) (hk:o.k=2∨o.k=3) (ok:okPl lo.n o.l xs) :
  CallsH Try.prog 59 #[.pointer (some ⟨b,0,none⟩),.agg (ovs o).toArray] h (fun v h'=>Grow h h'∧v=.bool true):=by
 apply F59
 unfold L59
 refine newO (o:=o) fun h1 b1 f1=>?_
 refine ldI_i (x:=o.k) (by rw[b1.cl];rfl) ?_
 refine ifb_iff (q:=o.k=1) (by simp) (fun q=>by omega) (fun _=>?_)
 refine⟨fun c=>c=true,ifb_iff (q:=o.k=2) (by simp) (fun q=>by simp[q]) (fun q=>by simp;omega),?_⟩
 rintro _ rfl
 refine⟨fun _=>?_,fun e=>(by cases e)⟩
 refine⟨o.l,o.s,by rw[add_plain,b1.cl];rfl,by rw[add_plain,add_plain,b1.cl];rfl,?_⟩
 refine cal_of (place_ok (f1.blk B fun h=>h) hlo (x.grow f1) ok) ?_
 rintro _ h2 ⟨f2,rfl⟩
 exact⟨_,rfl,f1.trans f2,rfl⟩
structure Rv where
 k:Int
 a:Sv
 p:Int
 q:Sv
 m:Bool
 n:ByteArray
 N:Int
 t:Sv
abbrev rvc (v:Rv):Array Value:=#[.int .i64 v.k,.slice v.a.a v.a.n v.a.c,.int .i64 v.p,.slice v.q.a v.q.n v.q.c,.bool v.m,.string v.n,.int .i64 v.N,.slice v.t.a v.t.n v.t.c]
theorem count_ok {k:Int} (hk:k=1∨k=2∨k=10):CallsH Try.prog 63 #[.int .i64 k] h (fun v h'=>h=h'∧v=.int .i64 (if k=1 then 1 else 0)):=by
 apply F63
 unfold L63
 rcases hk with rfl|rfl|rfl
 ·refine⟨fun c=>c=false,⟨fun e=>by simp at e,fun _=>rfl⟩,?_⟩
  rintro _ rfl
  refine⟨fun e=>(by cases e),fun _=>⟨fun c=>c=true,⟨fun _=>rfl,fun e=>by simp at e⟩,?_⟩⟩
  rintro _ rfl
  exact⟨fun _=>⟨rfl,rfl⟩,fun e=>(by cases e)⟩
 ·refine⟨fun c=>c=true,⟨fun _=>rfl,fun e=>by simp at e⟩,?_⟩
  rintro _ rfl
  exact⟨fun _=>⟨rfl,rfl⟩,fun e=>(by cases e)⟩
 ·refine⟨fun c=>c=true,⟨fun e=>by simp at e,fun _=>rfl⟩,?_⟩
  rintro _ rfl
  exact⟨fun _=>⟨rfl,rfl⟩,fun e=>(by cases e)⟩
theorem right_ok {v:Rv} {os:List Ov} {pth:Pth} (B:blk h b (bvs nm pa lo co)) (hlo:1≤lo.n∧lo.n≤1000) (xo:OpsAt h v.a os) (ho:∀o∈os,(o.k=2∨o.k=3)∧Pv h pth o.s∧okPl lo.n o.l (pth o.s))
  (hl:os.length=if v.k=1 then 1 else 0) (hk:v.k=1∨v.k=2∨v.k=10) (h2:v.k=2→Pv h pth v.q∧okPl lo.n v.p (pth v.q)) :
  CallsH Try.prog 58 #[.pointer (some ⟨b,0,none⟩),.agg (rvc v)] h (fun v h'=>Grow h h'∧v=.bool true):=by
 apply F58
 unfold L58
 rintro p2 h1 rfl rfl
 have k1:=blk.new h #[Value.pointer (some ⟨b,0,none⟩)] 38
 have f1:Grow h (h.push (.cells #[Value.pointer (some ⟨b,0,none⟩)] 38)):=Fr.push _ _ _
 generalize h.push (.cells #[Value.pointer (some ⟨b,0,none⟩)] 38)=h1 at *
 rintro p3 h2' rfl rfl
 have k2:=blk.new h1 (rvc v) 70
 have f2:Grow h1 (h1.push (.cells (rvc v) 70)):=Fr.push _ _ _
 generalize h1.push (.cells (rvc v) 70)=h2' at *
 have k1:=f2.blk k1 fun h=>h
 have hn:=xo.len
 refine ldI_i (x:=v.k) (by rw[k2.cl];rfl) ?_
 refine cal_of (count_ok (h:=h2') hk) ?_
 rintro _ _ ⟨rfl,rfl⟩
 refine⟨_,rfl,?_⟩
 refine⟨fun c=>c=false,⟨fun e=>by split at e<;>simp at e,fun _=>⟨fun c=>c=false,⟨fun _=>ldS_i (s:=v.a) (by rw[add_plain,k2.cl];rfl) ?_,fun e=>by split at e<;>simp at e⟩,fun _ h=>h⟩⟩,?_⟩
 ·rw[hn,hl];split<;>simp
 rintro _ rfl
 have B2:=(f1.trans f2).blk B fun h=>h
 refine⟨fun c h'=>c=false∧Grow h2' h',⟨fun e=>(by cases e),fun _=>ldI_i (x:=v.k) (by rw[k2.cl];rfl) ⟨fun c h'=>c=false∧Grow h2' h',⟨fun e=>?_,fun _=>⟨rfl,Fr.refl _ _⟩⟩,fun _ _ h=>h⟩⟩,?_⟩
 ·obtain⟨e1,e2⟩:=h2 (by simpa using e)
  refine⟨_,by rw[k1.cl];rfl,v.p,v.q,by rw[add_plain,k2.cl];rfl,by rw[add_plain,add_plain,k2.cl];rfl,?_⟩
  refine cal_of (place_ok B2 hlo (PAt.grow e1 (f1.trans f2)) e2) ?_
  rintro _ h6 ⟨f6,rfl⟩
  exact⟨_,rfl,rfl,f6⟩
 rintro _ h4 ⟨rfl,f4⟩
 have k1:=f4.blk k1 fun h=>h
 have k2:=f4.blk k2 fun h=>h
 refine⟨fun c=>c=false,⟨fun e=>(by cases e),fun _=>ldI_i (x:=v.k) (by rw[k2.cl];rfl) ⟨fun c=>c=false,⟨fun e=>by simp at e;omega,fun _=>rfl⟩,fun _ h=>h⟩⟩,?_⟩
 rintro _ rfl
 refine⟨fun e=>(by cases e),fun _=>ldS_i (s:=v.a) (by rw[add_plain,k2.cl];rfl) ?_⟩
 have g4:=(f1.trans f2).trans f4
 have key:CallsH Try.prog 64 #[.slice v.a.a v.a.n v.a.c,.func (.func 65) #[] #[.pointer (some ⟨h.size,0,none⟩)]] h4 (fun u h'=>Grow h4 h'∧u=.bool false):=by
  apply F64
  unfold L64
  have k3:CallsH Try.prog 66 #[.slice v.a.a v.a.n v.a.c,.func (.func 65) #[] #[.pointer (some ⟨h.size,0,none⟩)]] h4 (fun u h'=>Grow h4 h'∧u=.int .i64 (-1)):=by
   apply F66
   unfold L66
   refine⟨fun i h'=>∃j:Nat,i=j∧j≤os.length∧Grow h4 h',fun i _=>os.length - i.toNat,⟨0,rfl,Nat.zero_le _,Fr.refl _ _⟩,?_⟩
   rintro _ h5 ⟨j,rfl,hj,f5⟩
   have hos:os.length≤1:=by rw[hl];split<;>omega
   refine ifb_iff (q:=j<os.length) (by rw[hn];simp) (fun hlt=>?_) (fun _=>⟨f5,rfl⟩)
   have g5:=g4.trans f5
   obtain⟨p,ep,hj',c⟩:=(xo.grow g5).at_ j hlt
   refine⟨p,ep,by omega,by rw[hn];omega,?_⟩
   rw[Int.toNat_natCast]
   refine⟨os[j].k,os[j].l,os[j].s,os[j].t,os[j].n,c.at0,c 1 _ rfl,c 2 _ rfl,c 3 _ rfl,c 4 _ rfl,?_⟩
   obtain⟨o1,o2,o3⟩:=ho os[j] (List.getElem_mem hj')
   generalize os[j]=o at *
   refine⟨_,_,rfl,⟨Try.f65,Try.func65,by kernel_rfl,by kernel_rfl⟩,?_⟩
   have kc:CallsH Try.prog 65 #[.agg (ovs o).toArray,.pointer (some ⟨h.size,0,none⟩)] h5 (fun u h'=>Grow h5 h'∧u=.bool false):=by
    apply F65
    unfold L65
    refine newO (o:=o) fun h6 b6 f6=>?_
    refine⟨_,by rw[((f5.trans f6).blk k1 fun h=>h).cl];rfl,?_⟩
    refine⟨o.k,o.l,o.s,o.t,o.n,by rw[b6.cl];rfl,by rw[add_plain,b6.cl];rfl,by rw[add_plain,b6.cl];rfl,by rw[add_plain,b6.cl];rfl,by rw[add_plain,b6.cl];rfl,?_⟩
    refine cal_of (operand_ok ((g5.trans f6).blk B fun h=>h) hlo (PAt.grow o2 (g5.trans f6)) o1 o3) ?_
    rintro _ h7 ⟨f7,rfl⟩
    exact⟨_,rfl,f6.trans f7,rfl⟩
   refine cal_of kc ?_
   rintro _ h7 ⟨f7,rfl⟩
   refine⟨_,rfl,fun e=>(by cases e),fun _=>?_⟩
   rw[wrap_succ (n:=5) (by omega) (by omega)]
   exact⟨⟨j+1,rfl,hlt,f5.trans f7⟩,by simp;omega⟩
  refine cal_of k3 ?_
  rintro _ h6 ⟨f6,rfl⟩
  exact⟨_,rfl,f6,rfl⟩
 refine cal_of key ?_
 rintro _ h6 ⟨f6,rfl⟩
 exact⟨_,rfl,g4.trans f6,rfl⟩
theorem Iv21.nest {b:Nat} {v:Iv} (x:Iv21 h ⟨b,0,none⟩ v) (j k:Nat) {u:Value} (hu:(ivs v)[j+k]?=some u):cl h (((⟨b,0,none⟩:Addr).add j).add k)=some u:=by
 have:=x (j+k) u hu
 rw[add_plain] at this
 rw[add_plain,add_plain,Nat.add_assoc]
 exact this
theorem instr_ok {pth:Pth} {n i:Nat} {I:Ins} (B:blk h b (bvs nm pa lo co)) (hlo:1≤lo.n∧lo.n≤1000) (x:InsAt h pth I) (ok:okI pth lo.n n i I) :
  CallsH Try.prog 48 #[.pointer (some ⟨b,0,none⟩),.agg (ivs I.v)] h (fun u h'=>Grow h h'∧u=.bool true):=by
 apply F48
 unfold L48
 refine newI (v:=I.v) fun h1 b1 f1 z1=>?_
 have T:=Iv21.blk b1
 have c0:=T 0 _ rfl
 rw[add_zero] at c0
 have B1:=f1.blk B fun h=>h
 have x1:=x.grow f1
 refine ldI_i c0 ?_
 unfold okI at ok
 refine⟨fun c=>c=decide (I.v.k=1∨I.v.k=2),ifb_iff (q:=I.v.k=1) (by simp) (fun q=>by simp[q]) (fun q=>by simp[q];rfl),?_⟩
 rintro _ rfl
 refine ifb_dec (fun hq=>?_) (fun hq=>?_)
 ·have ok:0≤I.v.lc∧I.v.lc<lo.n:=by
   rcases ok with h|h|h|h|h|h
   ·exact⟨h.2.1,h.2.2.1⟩
   ·exact absurd h.1 (by clear h;omega)
   ·exact absurd h.1 (by clear h;omega)
   ·exact absurd h.1 (by clear h;omega)
   ·exact absurd h (by clear h;omega)
   ·exact absurd h (by clear h;omega)
  refine ldI_i (T 1 _ rfl) ?_
  have hloc:CallsH Try.prog 56 #[.pointer (some ⟨b,0,none⟩),.int .i64 I.v.lc] h1 (fun v h'=>h1=h'∧v=.bool true):=by
   apply F56
   unfold L56
   refine⟨fun c=>c=true,⟨fun _=>⟨_,rfl,ldS_i (s:=lo) (by rw[add_plain,B1.cl];rfl) ?_⟩,fun e=>by simp at e;omega⟩,?_⟩
   ·simp;omega
   ·rintro _ rfl;exact⟨rfl,rfl⟩
  refine cal_of hloc ?_
  rintro _ _ ⟨rfl,rfl⟩
  exact⟨_,rfl,f1,rfl⟩
 refine ifb_iff (q:=I.v.k=3) (by simp) (fun h3=>?_) (fun h3=>?_)
 ·have ok:okPl lo.n I.v.d0 (pth I.v.dp)∧((I.v.rk=1∧∃o,I.ops=[o]∧(o.k=2∨o.k=3)∧okPl lo.n o.l (pth o.s))∨(I.v.rk=2∧I.ops=[]∧okPl lo.n I.v.rp (pth I.v.rq))∨(I.v.rk=10∧I.ops=[])):=by
   rcases ok with h|h|h|h|h|h
   ·omega
   ·exact h.2.2
   all_goals omega
  refine⟨I.v.d0,I.v.dp,T 2 _ rfl,T.nest 2 1 rfl,?_⟩
  refine cal_of (place_ok B1 hlo x1.dp ok.1) ?_
  rintro _ h3' ⟨f3,rfl⟩
  have T3:=Iv21.blk (f3.blk b1 fun h=>h)
  refine⟨_,rfl,fun c h'=>c=true∧Grow h1 h',⟨fun _=>?_,fun e=>(by cases e)⟩,?_⟩
  ·refine⟨I.v.rk,I.v.ra,I.v.rp,I.v.rq,I.v.rm,I.v.rn,I.v.rN,I.v.rt,T3 4 _ rfl,T3.nest 4 1 rfl,T3.nest 4 2 rfl,T3.nest 4 3 rfl,T3.nest 4 4 rfl,T3.nest 4 5 rfl,T3.nest 4 6 rfl,T3.nest 4 7 rfl,?_⟩
   have x3:=x1.grow f3
   have key:CallsH Try.prog 58 #[.pointer (some ⟨b,0,none⟩),.agg (rvc ⟨I.v.rk,I.v.ra,I.v.rp,I.v.rq,I.v.rm,I.v.rn,I.v.rN,I.v.rt⟩)] h3' (fun v h'=>Grow h3' h'∧v=.bool true):=by
    refine right_ok (pth:=pth) (f3.blk B1 fun h=>h) hlo x3.ops (fun o ho=>?_) ?_ ?_ ?_
    ·rcases ok.2 with⟨_,o',e,k,p⟩|⟨_,e,_⟩|⟨_,e⟩
     ·have ho':=ho
      rw[e] at ho'
      simp only[List.mem_singleton] at ho'
      subst ho'
      exact⟨k,x3.op _ ho,p⟩
     ·rw[e] at ho;cases ho
     ·rw[e] at ho;cases ho
    ·rcases ok.2 with⟨e1,o',e,k,p⟩|⟨e1,e,_⟩|⟨e1,e⟩<;>simp[e,e1]
    ·rcases ok.2 with⟨e1,_⟩|⟨e1,_⟩|⟨e1,_⟩<;>simp[e1]
    ·intro e2
     simp only at e2
     rcases ok.2 with⟨e1,_⟩|⟨e1,_,p⟩|⟨e1,_⟩
     ·omega
     ·exact⟨x3.rq,p⟩
     ·omega
   refine cal_of key ?_
   rintro _ h5 ⟨f5,rfl⟩
   exact⟨_,rfl,rfl,f3.trans f5⟩
  ·rintro _ h4 ⟨rfl,f4⟩
   exact⟨f1.trans f4,rfl⟩
 refine ifb_iff (q:=I.v.k=5) (by simp) (fun h5=>?_) (fun h5=>?_)
 ·have ok:I.v.ck=2∧okPl lo.n I.v.c0 (pth I.v.cp):=by
   rcases ok with h|h|h|h|h|h
   ·omega
   ·omega
   ·omega
   ·exact⟨h.2.1,h.2.2.1⟩
   all_goals omega
  refine⟨I.v.ck,I.v.c0,I.v.cp,I.v.ct,I.v.cn,T 12 _ rfl,T.nest 12 1 rfl,T.nest 12 2 rfl,T.nest 12 3 rfl,T.nest 12 4 rfl,?_⟩
  refine cal_of (operand_ok (o:=⟨I.v.ck,I.v.c0,I.v.cp,I.v.ct,I.v.cn⟩) B1 hlo x1.cp (.inl ok.1) ok.2) ?_
  rintro _ h6 ⟨f6,rfl⟩
  exact⟨_,rfl,f1.trans f6,rfl⟩
 refine ldI_i c0 ?_
 have hk:1≤I.v.k∧I.v.k≤7:=by rcases ok with⟨h,_⟩|⟨h,_⟩|⟨h,_⟩|⟨h,_⟩|h|h<;>omega
 refine⟨fun c=>c=true,⟨fun _=>ldI_i c0 ?_,fun e=>by simp at e;omega⟩,?_⟩
 ·simp;omega
 ·rintro _ rfl
  exact⟨f1,rfl⟩
theorem succ_ok {pth:Pth} {m n i:Nat} {I:Ins} (ok:okI pth m n i I):∀y∈succV I.v i,0≤y∧y<n:=by
 intro y hy
 unfold succV at hy
 unfold okI at ok
 split at hy
 ·simp only[List.mem_singleton] at hy;omega
 ·split at hy
  ·split at hy
   ·simp only[List.mem_singleton] at hy;omega
   ·simp only[List.mem_cons,List.not_mem_nil,or_false] at hy;omega
  ·split at hy
   ·cases hy
   ·simp only[List.mem_singleton] at hy;omega
theorem check_ok {pth:Pth} {Is:List Ins} (B:blk h b (bvs nm pa lo co)) (X:BdAt h pth Is lo co) (hpa:0≤pa∧pa<lo.n) (hl0:0<Is.length) (hl:Is.length≤1000) (hv:∀i (hi:i<Is.length),okI pth lo.n Is.length i Is[i]) :
  CallsH Try.prog 38 #[.pointer (some ⟨b,0,none⟩)] h (fun v h'=>Grow h h'∧v=.int .i64 (-1)):=by
 have x:=X.code
 have hlo:=X.lo
 generalize hL:Is.map (·.v)=l at x
 have hll:l.length=Is.length:=by rw[←hL];simp
 have hget:∀i (hi:i<l.length) (hi':i<Is.length),l[i]=Is[i].v:=fun i hi hi'=>by simp[←hL]
 have hall0:∀j,j<l.length→(succL l j).any (fun to=>decide (to<0) || decide ((l.length:Int)≤to))=false:=fun j hj=>by
  rw[List.any_eq_false]
  intro y hy
  unfold succL at hy
  rw[List.getElem?_eq_getElem hj] at hy
  have:=succ_ok (hv j (by omega)) y (by rw[←hget j hj (by omega)];exact hy)
  simp;omega
 apply F38
 unfold L38
 have hn:=x.len
 rintro p1 h1 rfl rfl
 have k1:=blk.new h #[Value.pointer (some ⟨b,0,none⟩)] 38
 have f1:Grow h (h.push (.cells #[Value.pointer (some ⟨b,0,none⟩)] 38)):=Fr.push _ _ _
 generalize h.push (.cells #[Value.pointer (some ⟨b,0,none⟩)] 38)=h1 at *
 have hp:∀ {h'},Grow h1 h'→cl h' ⟨h.size,0,none⟩=some (.pointer (some ⟨b,0,none⟩)):=fun g=>by rw[(g.blk k1 fun h=>h).cl];rfl
 have hB:∀ {h'},Grow h1 h'→blk h' b (bvs nm pa lo co):=fun g=>(f1.trans g).blk B fun h=>h
 have B1:=hB (Fr.refl _ h1)
 refine⟨fun c=>c=false,⟨_,hp (Fr.refl _ _),?_⟩,?_⟩
 ·refine⟨fun e=>(by cases e),fun _=>⟨_,hp (Fr.refl _ _),_,rfl,ldI_i (x:=pa) (by rw[add_plain,B1.cl];rfl) ⟨fun e=>by simp at e;omega,fun _=>⟨_,hp (Fr.refl _ _),_,rfl,ldS_i (s:=lo) (by rw[add_plain,B1.cl];rfl) ⟨_,hp (Fr.refl _ _),_,rfl,ldI_i (x:=pa) (by rw[add_plain,B1.cl];rfl) ⟨fun e=>by simp at e;omega,fun _=>⟨_,hp (Fr.refl _ _),_,rfl,ldS_i (s:=co) (by rw[add_plain,B1.cl];rfl) ?_⟩⟩⟩⟩⟩⟩⟩
  show (_ == _)=false
  rw[beq_eq_false_iff_ne]
  omega
 rintro _ rfl
 refine⟨fun e=>(by cases e),fun _=>⟨_,hp (Fr.refl _ _),_,rfl,ldS_i (s:=co) (by rw[add_plain,B1.cl];rfl) ?_⟩⟩
 refine⟨fun y h'=>∃j:Nat,y=j∧j≤l.length∧Grow h1 h'∧∀q,q<j→(succL l q).any (fun to=>decide (to<0) || decide ((l.length:Int)≤to))=false,fun y _=>l.length - y.toNat,⟨0,rfl,Nat.zero_le _,Fr.refl _ _,fun q h=>absurd h (Nat.not_lt_zero _)⟩,?_⟩
 rintro _ h2 ⟨j,rfl,hj,g2,hall⟩
 refine ifb_iff (q:=j<l.length) (by rw[hn];simp) (fun hlt=>?_) (fun hge=>?_)
 rotate_left
 ·exact⟨f1.trans g2,rfl⟩
 obtain⟨p,ea,T⟩:=(x.grow (f1.trans g2)).at_ j hlt
 refine⟨p,ea,by omega,by rw[hn];omega,?_⟩
 rw[Int.toNat_natCast]
 refine rdI T ?_
 have hlt':j<Is.length:=by omega
 refine mineI (v:=l[j]) fun h4 b4 f4=>?_
 have g4:=g2.trans f4
 refine⟨_,hp g4,rdI (Iv21.blk b4) ?_⟩
 refine cal_of (by rw[hget j hlt hlt'];exact instr_ok (hB g4) hlo ((X.ins _ (List.getElem_mem hlt')).grow (f1.trans g4)) (hv j hlt')) ?_
 rintro _ h5 ⟨f5,rfl⟩
 have g5:=g4.trans f5
 refine⟨_,rfl,fun c h'=>c=(succL l j).any (fun to=>decide (to<0) || decide ((l.length:Int)≤to))∧Grow h5 h',⟨fun e=>(by cases e),fun _=>⟨_,hp g5,?_⟩⟩,?_⟩
 ·refine cal_of (succ_spec (hB g5) (x.grow (f1.trans g5)) hlt) ?_
  rintro _ h7 ⟨s51,rfl,f7,x7,_⟩
  refine⟨s51,rfl,?_⟩
  have g7:=g5.trans f7
  refine cal_of (contains_spec (P:=fun to=>decide (to<0) || decide ((l.length:Int)≤to)) x7 (by have:=succ_len l j;omega) fun y=>⟨_,_,rfl,⟨Try.f50,Try.func50,by kernel_rfl,by kernel_rfl⟩,?_⟩) ?_
  ·apply F50 (x1:=⟨h.size,0,none⟩)
   unfold L50
   refine⟨fun c=>c=(decide (y<0) || decide ((l.length:Int)≤y)),⟨fun e=>by rw[e];rfl,fun e=>⟨_,hp g7,_,rfl,ldS_i (s:=co) (by rw[add_plain,(hB g7).cl];rfl) (by rw[e,hn];rfl)⟩⟩,?_⟩
   rintro _ rfl
   exact⟨rfl,rfl⟩
  ·rintro _ _ ⟨rfl,rfl⟩
   exact⟨_,rfl,rfl,f7⟩
 rintro _ h6 ⟨rfl,f6⟩
 refine⟨fun e=>absurd ((hall0 j hlt).symm.trans e) (by simp),fun e=>?_⟩
 rw[wrap_succ hlt (by omega)]
 refine⟨⟨j+1,rfl,hlt,g5.trans f6,fun q hq=>?_⟩,by dsimp only;omega⟩
 rcases Nat.lt_or_ge q j with h|h
 ·exact hall q h
 ·obtain rfl:q=j:=by omega
  exact e
end
end
end Go.Proofs.Ytkpahlkendlahaa
namespace Go.Proofs.Ytkpahlkendlahaa
open Go Go.Lf
set_option linter.unusedVariables false
abbrev nl:Sv:=⟨none,0,0⟩
structure IJ0 (h2:Heap) (b5 b7:Bool) (s:Sv) (p:Addr) (hz:Heap):Prop where
 g:Grow h2 hz
 l:b5=true→s.n=4
 c:b7=true→p=⟨p.block,0,none⟩∧h2.size≤p.block∧blk hz p.block (bvs ⟨#[]⟩ 0 nl nl)
structure IJ1 (h0:Heap) (b2 b5 b9 b12 b14 b15 b16:Bool) (x37:Int) (x40:Sv) (x44:Int) (x47:Sv) (p8 p9:Addr) (hz:Heap):Prop where
 g:Grow h0 hz
 l1:b2=true→0≤x37∧x37<4
 l2:b9=true→0≤x44∧x44<4
 q1:b5=true→PO h0.size hz x40
 q2:b12=true→PO h0.size hz x47
 c8:b14=true→p8=⟨p8.block,0,none⟩∧h0.size≤p8.block∧blk hz p8.block (if b16=true then plc x37 x40 else plc 0 nl)
 c9:b15=true→p9=⟨p9.block,0,none⟩∧h0.size≤p9.block∧blk hz p9.block (plc 0 nl)
 d1:b14=true→b5=true→¬x40.own p8.block
 d2:b14=true→b12=true→¬x47.own p8.block
 d3:b15=true→b5=true→¬x40.own p9.block
 d4:b15=true→b12=true→¬x47.own p9.block
 d5:b14=true→b15=true→p8.block≠p9.block
 s:b16=true→b2=true∧b5=true∧b14=true
section
variable {h0:Heap} {b2 b5 b9 b12 b14 b15 b16:Bool} {x37:Int} {x40:Sv} {x44:Int} {x47:Sv} {p8 p9:Addr} {hz hy:Heap}
theorem IJ1.start:IJ1 h0 false false false false false false false x37 x40 x44 x47 p8 p9 h0:=by
 refine⟨Fr.refl _ _,?_,?_,?_,?_,?_,?_,?_,?_,?_,?_,?_,?_⟩<;>intro e<;>cases e
theorem IJ1.loc1 {x:Int} (X:IJ1 h0 b2 b5 b9 b12 b14 b15 b16 x37 x40 x44 x47 p8 p9 hz) (e:b2=false) (h1:0≤x) (h2:x<4):IJ1 h0 true b5 b9 b12 b14 b15 b16 x x40 x44 x47 p8 p9 hz:=by
 have hs:b16=false:=by
  cases hb:b16
  ·rfl
  ·have:=(X.s hb).1;rw[e] at this;cases this
 subst hs
 exact⟨X.g,fun _=>⟨h1,h2⟩,X.l2,X.q1,X.q2,X.c8,X.c9,X.d1,X.d2,X.d3,X.d4,X.d5,fun e=>(by cases e)⟩
theorem IJ1.loc2 {x:Int} (X:IJ1 h0 b2 b5 b9 b12 b14 b15 b16 x37 x40 x44 x47 p8 p9 hz) (h1:0≤x) (h2:x<4):IJ1 h0 b2 b5 true b12 b14 b15 b16 x37 x40 x x47 p8 p9 hz:=
 ⟨X.g,X.l1,fun _=>⟨h1,h2⟩,X.q1,X.q2,X.c8,X.c9,X.d1,X.d2,X.d3,X.d4,X.d5,X.s⟩
theorem PO.weak {B B':Nat} {h:Heap} {s:Sv} (x:PO B h s) (hB:B'≤B):PO B' h s:=by
 obtain⟨ys,o,r⟩:=x
 exact⟨ys,own_weak o hB,r⟩
theorem IJ1.pth1 {t:Sv} (X:IJ1 h0 b2 b5 b9 b12 b14 b15 b16 x37 x40 x44 x47 p8 p9 hz) (e:b5=false) (g:Grow hz hy) (P:PO hz.size hy t):IJ1 h0 b2 true b9 b12 b14 b15 b16 x37 t x44 x47 p8 p9 hy:=by
 have hs:b16=false:=by
  cases hb:b16
  ·rfl
  ·have:=(X.s hb).2.1;rw[e] at this;cases this
 subst hs
 have g0:=X.g.size
 refine⟨X.g.trans g,X.l1,X.l2,fun _=>P.weak g0,fun h=>(X.q2 h).fr g fun _ _ h=>h,fun h=>?_,fun h=>?_,fun h _ ho=>?_,X.d2,fun h _ ho=>?_,X.d4,X.d5,fun e=>(by cases e)⟩
 ·obtain⟨a,b,c⟩:=X.c8 h;exact⟨a,b,g.blk c fun h=>h⟩
 ·obtain⟨a,b,c⟩:=X.c9 h;exact⟨a,b,g.blk c fun h=>h⟩
 ·have:=(X.c8 h).2.2.lt;have:=P.ge ho;omega
 ·have:=(X.c9 h).2.2.lt;have:=P.ge ho;omega
theorem IJ1.pth2 {t:Sv} (X:IJ1 h0 b2 b5 b9 b12 b14 b15 b16 x37 x40 x44 x47 p8 p9 hz) (g:Grow hz hy) (P:PO hz.size hy t):IJ1 h0 b2 b5 b9 true b14 b15 b16 x37 x40 x44 t p8 p9 hy:=by
 have g0:=X.g.size
 refine⟨X.g.trans g,X.l1,X.l2,fun h=>(X.q1 h).fr g fun _ _ h=>h,fun _=>P.weak g0,fun h=>?_,fun h=>?_,X.d1,fun h _ ho=>?_,X.d3,fun h _ ho=>?_,X.d5,X.s⟩
 ·obtain⟨a,b,c⟩:=X.c8 h;exact⟨a,b,g.blk c fun h=>h⟩
 ·obtain⟨a,b,c⟩:=X.c9 h;exact⟨a,b,g.blk c fun h=>h⟩
 ·have:=(X.c8 h).2.2.lt;have:=P.ge ho;omega
 ·have:=(X.c9 h).2.2.lt;have:=P.ge ho;omega
theorem IJ1.new8 {E:TypeId} {q:Addr} (X:IJ1 h0 b2 b5 b9 b12 b14 b15 b16 x37 x40 x44 x47 q p9 hz) (e:b14=false):IJ1 h0 b2 b5 b9 b12 true b15 b16 x37 x40 x44 x47 ⟨hz.size,0,none⟩ p9 (hz.push (.cells (plc 0 nl) E)):=by
 have hs:b16=false:=by
  cases hb:b16
  ·rfl
  ·have:=(X.s hb).2.2;rw[e] at this;cases this
 subst hs
 have g:Grow hz (hz.push (.cells (plc 0 nl) E)):=Fr.push _ _ _
 have g0:=X.g.size
 refine⟨X.g.trans g,X.l1,X.l2,fun h=>(X.q1 h).fr g fun _ _ h=>h,fun h=>(X.q2 h).fr g fun _ _ h=>h,fun h=>⟨rfl,g0,blk.new _ _ _⟩,fun h=>?_,fun h h1 ho=>?_,fun h h1 ho=>?_,X.d3,X.d4,fun _ h he=>?_,fun e=>(by cases e)⟩
 ·obtain⟨a,b,c⟩:=X.c9 h;exact⟨a,b,g.blk c fun h=>h⟩
 ·have:=(X.q1 h1).ge ho;simp only at this;omega
 ·have:=(X.q2 h1).ge ho;simp only at this;omega
 ·have:=(X.c9 h).2.2.lt;simp only at he;omega
theorem IJ1.new9 {E:TypeId} {q:Addr} (X:IJ1 h0 b2 b5 b9 b12 b14 b15 b16 x37 x40 x44 x47 p8 q hz):IJ1 h0 b2 b5 b9 b12 b14 true b16 x37 x40 x44 x47 p8 ⟨hz.size,0,none⟩ (hz.push (.cells (plc 0 nl) E)):=by
 have g:Grow hz (hz.push (.cells (plc 0 nl) E)):=Fr.push _ _ _
 have g0:=X.g.size
 refine⟨X.g.trans g,X.l1,X.l2,fun h=>(X.q1 h).fr g fun _ _ h=>h,fun h=>(X.q2 h).fr g fun _ _ h=>h,fun h=>?_,fun h=>⟨rfl,g0,blk.new _ _ _⟩,X.d1,X.d2,fun h h1 ho=>?_,fun h h1 ho=>?_,fun h _ he=>?_,X.s⟩
 ·obtain⟨a,b,c⟩:=X.c8 h;exact⟨a,b,g.blk c fun h=>h⟩
 ·have:=(X.q1 h1).ge ho;simp only at this;omega
 ·have:=(X.q2 h1).ge ho;simp only at this;omega
 ·have:=(X.c8 h).2.2.lt;simp only at he;omega
theorem IJ1.sto8 (X:IJ1 h0 true true true true true true b16 x37 x40 x44 x47 p8 p9 hz) (f:Fr (fun b=>b=p8.block) hz hy) (k:blk hy p8.block (plc x37 x40)):IJ1 h0 true true true true true true true x37 x40 x44 x47 p8 p9 hy:=by
 have h8:=X.c8 rfl
 have h9:=X.c9 rfl
 refine⟨X.g.trans' f fun i hi e=>by omega,X.l1,X.l2,fun h=>(X.q1 h).fr f fun b hb e=>X.d1 rfl rfl (e ▸ hb),fun h=>(X.q2 h).fr f fun b hb e=>X.d2 rfl rfl (e ▸ hb),fun _=>⟨h8.1,h8.2.1,k⟩,fun _=>⟨h9.1,h9.2.1,f.blk h9.2.2 fun e=>X.d5 rfl rfl e.symm⟩,X.d1,X.d2,X.d3,X.d4,X.d5,fun _=>⟨rfl,rfl,rfl⟩⟩
end
structure BI (h:Heap) (b1 b2 b3 b4 Bc:Nat) (pa pr:Int) (s lo:Sv) (k:Nat) (hh:Heap) (Is:List Ins) (co:Sv) (Q:Nat→Prop):Prop where
 g:Grow h hh
 k1:blk hh b1 #[.int .i64 pa,.slice s.a s.n s.c]
 k2:blk hh b2 (bvs ⟨#[]⟩ 0 nl nl)
 k3:blk hh b3 (bvs ⟨#[]⟩ pr lo co)
 k4:blk hh b4 #[.int .i64 ((s.n+1:Nat):Int)]
 ord:h.size≤b1∧b1<b2∧b2<b3∧b3<b4∧b4<Bc
 len:Is.length=k
 own:Own hh Bc 21 co (Is.flatMap fun I=>(ivs I.v).toList)
 q:∀b,Q b→Bc≤b∧b<hh.size∧¬co.own b
 ins:∀j (hj:j<Is.length),QI Q hh (s.n+1) j Is[j]
theorem ivs_len (I:Ins):(ivs I.v).toList.length=21:=rfl
theorem push_ins {h:Heap} {b1 b2 b3 b4 Bc:Nat} {pa pr:Int} {s lo:Sv} {k:Nat} {hh h':Heap} {Is:List Ins} {co:Sv} {Q Qn:Nat→Prop} {I:Ins} {K:Heap→Prop} (X:BI h b1 b2 b3 b4 Bc pa pr s lo k hh Is co Q)
  (g:Grow hh h') (hb:Bc≤hh.size) (hk:k≤s.n) (hs:s.n≤25) (hI:QI Qn h' (s.n+1) k I) (hQ:∀b,Qn b→hh.size≤b∧b<h'.size)
  (kk:∀h'' Is' co' Q',BI h b1 b2 b3 b4 Bc pa pr s lo (k+1) h'' Is' co' Q'→h'.size≤h''.size→K h'') :
  newS 74 (ivs I.v) 1 h' fun s1 h1=>appS 74 (Value.agg (ivs zIv)).cells 21 256 h1 co s1 fun s2 h2=>sto h2 ((⟨b3,0,none⟩:Addr).add 3) (.slice s2.a s2.n s2.c) K:=by
 have hl:=own_len ivs_len (by omega) X.own
 have gz:=g.size
 have hI':Is.length=k:=X.len
 refine app1 rfl (X.own.frame g fun _ _ h=>h) rfl (one_iv I.v) (by omega) (by omega) (by omega) fun s2 h2 e2 o2 f2 n2=>?_
 obtain⟨r1,r2,r3,r4,r5⟩:=X.ord
 have nc:∀b,co.own b→Bc≤b:=fun b hb=>(X.own.ge hb).1
 have k3:=f2.blk (g.blk X.k3 fun h=>h) fun hc=>by have:=nc _ hc;omega
 rw[add_plain,Nat.zero_add]
 refine sto_i k3 (by show 3<4;omega) ?_
 have f3:Fr (fun b=>b=b3) h2 (sc h2 ⟨b3,3,none⟩ (.slice s2.a s2.n s2.c)):=Fr.scb _ _ _ _
 have k3':=k3.sc 3 (.slice s2.a s2.n s2.c)
 generalize sc h2 ⟨b3,3,none⟩ (.slice s2.a s2.n s2.c)=h3 at *
 have z2:=f2.size
 have z3:=f3.size
 have gg:=X.g.size
 have f23:Fr (fun b=>co.own b∨b=b3) h' h3:=(f2.mono fun i _ h=>.inl h).trans (f3.mono fun i _ h=>.inr h)
 have hn2:∀b,s2.own b→Bc≤b:=fun b hb=>(n2 b hb).elim (nc b) fun h=>by omega
 refine kk h3 (Is++[I]) s2 (fun b=>Q b∨Qn b) ⟨X.g.trans' ((g.mono fun _ _ h=>False.elim h).trans f23) fun i hi e=>?_,f23.blk (g.blk X.k1 fun h=>h) ?_,f23.blk (g.blk X.k2 fun h=>h) ?_,?_,f23.blk (g.blk X.k4 fun h=>h) ?_,X.ord,by simp[hI'],?_,fun b hb=>?_,fun j hj=>?_⟩ (by omega)
 ·rcases e with e|e
  ·have:=nc _ e;omega
  ·omega
 ·rintro (e|e)
  ·have:=nc _ e;omega
  ·omega
 ·rintro (e|e)
  ·have:=nc _ e;omega
  ·omega
 ·exact k3'
 ·rintro (e|e)
  ·have:=nc _ e;omega
  ·omega
 ·have o3:=o2.frame f3 fun b hb e=>by have:=hn2 b hb;omega
  simpa using o3
 ·rcases hb with hb|hb
  ·obtain⟨q1,q2,q3⟩:=X.q b hb
   refine⟨q1,by omega,fun ho=>?_⟩
   rcases n2 b ho with h|h
   ·exact q3 h
   ·omega
  ·obtain⟨q1,q2⟩:=hQ b hb
   refine⟨by omega,by omega,fun ho=>?_⟩
   rcases n2 b ho with h|h
   ·have:=X.own.ge h;omega
   ·omega
 ·by_cases hj2:j<Is.length
  ·have:=X.ins j hj2
   rw[List.getElem_append_left hj2]
   refine ((this.fr g fun _ _ h=>h).fr f23 fun b hb e=>?_).weak fun b hb=>.inl hb
   obtain⟨q1,q2,q3⟩:=X.q b hb
   rcases e with e|e
   ·exact q3 e
   ·omega
  ·obtain rfl:j=Is.length:=by simp at hj;omega
   rw[List.getElem_concat_length rfl]
   rw[←hI'] at hI
   refine (hI.fr f23 fun b hb e=>?_).weak fun b hb=>.inr hb
   obtain⟨q1,q2⟩:=hQ b hb
   rcases e with e|e
   ·have:=X.own.ge e;omega
   ·omega
end Go.Proofs.Ytkpahlkendlahaa
namespace Go.Proofs.Ytkpahlkendlahaa
open Go Go.Lf
set_option linter.unusedVariables false
structure Cdv where
 k:Int
 a:Int
 b:Int
 t:Int
 e:Int
 p:Sv
 q:Sv
abbrev cds (c:Cdv):List Value:=[.int .i64 c.k,.int .i64 c.a,.int .i64 c.b,.int .i64 c.t,.int .i64 c.e,.slice c.p.a c.p.n c.p.c,.slice c.q.a c.q.n c.q.c]
def ShAt (h:Heap) (s:Sv):Prop:=Rows s 7 s.n fun _ p=>∃c:Cdv,CsAt h p (cds c)∧(∃xs,IntsAt h c.p xs)∧∃xs,IntsAt h c.q xs
theorem ShAt.grow {h h':Heap} {s:Sv} (x:ShAt h s) (f:Grow h h'):ShAt h' s:=
 ⟨rfl,fun i hi=>by
  obtain⟨p,e,c,k,⟨xs,hx⟩,ys,hy⟩:=x.at_ i hi
  exact⟨p,e,c,k.grow f,⟨xs,hx.keep f fun _ _ h=>h⟩,ys,hy.keep f fun _ _ h=>h⟩⟩
theorem ifb_eq {b:Bool} {A B:Prop} (t:b=true→A) (f:b=false→B):ifb b A B:=⟨t,f⟩
theorem ops_nil (h:Heap):OpsAt h nl []:=⟨rfl,fun i hi=>by simp at hi⟩
theorem one_ovs (o:Ov):∀u∈ovs o,u.oneCell'=true:=by
 intro u hu
 simp only[List.mem_cons,List.not_mem_nil,or_false] at hu
 rcases hu with rfl|rfl|rfl|rfl|rfl<;>rfl
theorem ops_one {h:Heap} {b:Nat} {o:Ov} (k:blk h b (ovs o).toArray):OpsAt h ⟨some ⟨b,0,none⟩,1,1⟩ [o]:=
 ⟨rfl,fun i hi=>⟨_,rfl,hi,by
  obtain rfl:i=0:=by simpa using hi
  have:=CsAt.blk k
  simpa [add_zero] using this⟩⟩
section
variable {h:Heap} {pa:Int} {s:Sv}
structure BodyV (h h':Heap) (s:Sv) (v:Value):Prop where
 g:Grow h h'
 ex:∃(pr:Int) (lo co:Sv) (Is:List Ins),v=.agg (bvs ⟨#[]⟩ pr lo co)∧0≤pr∧pr<4∧lo.n=4∧Is.length=s.n+1∧BdAt h' (rdX h') Is lo co∧∀i (hi:i<Is.length),okI (rdX h') 4 Is.length i Is[i]
theorem body_spec (x:ShAt h s) (hs:s.n≤25):CallsH Try.prog 9 #[.agg #[.int .i64 pa,.slice s.a s.n s.c]] h (fun v h'=>BodyV h h' s v):=by
 apply F9
 unfold L9
 rintro p1 h1 rfl rfl
 have f1:Grow h (h.push (.cells #[.int .i64 pa,.slice s.a s.n s.c] 24)):=Fr.push _ _ _
 have k1:=blk.new h #[.int .i64 pa,.slice s.a s.n s.c] 24
 have z1:(h.push (.cells #[.int .i64 pa,.slice s.a s.n s.c] 24)).size=h.size+1:=by simp
 generalize h.push (.cells #[.int .i64 pa,.slice s.a s.n s.c] 24)=h1 at *
 rintro p2 h2 rfl rfl
 have f2:Grow h1 (h1.push (.cells (bvs ⟨#[]⟩ 0 nl nl) 30)):=Fr.push _ _ _
 have k2:=blk.new h1 (bvs ⟨#[]⟩ 0 nl nl) 30
 have z2:(h1.push (.cells (bvs ⟨#[]⟩ 0 nl nl) 30)).size=h1.size+1:=by simp
 generalize h1.push (.cells (bvs ⟨#[]⟩ 0 nl nl) 30)=h2 at *
 have k1:=f2.blk k1 fun h=>h
 refine⟨IJ0 h2,fun hh=>Grow h2 hh,fun _ _ _ _ _ X=>X.g,fun _ _=>⟨Fr.refl _ _,fun e=>(by cases e),fun e=>(by cases e)⟩,pa,fun hh g=>by rw[(Fr.blk g k1 fun h=>h).cl];rfl,?_,?_,?_⟩
 ·rintro b5 b7 s' p3 h6 X rfl
  refine⟨by omega,by omega,by omega,by omega,?_⟩
  rintro s'' h7 rfl rfl
  have g:=Fr.push (fun _=>False) h6 (Obj.cells (madeCells (Value.agg #[Value.string ⟨#[]⟩,Value.int IntKind.i64 0,Value.string ⟨#[]⟩,Value.bool false,Value.int IntKind.i64 0,Value.slice nl.a nl.n nl.c,Value.slice nl.a nl.n nl.c,Value.int IntKind.i64 0,Value.int IntKind.i64 0]).cells (Int.toNat 4*9)) 149)
  exact⟨X.g.trans g,fun _=>rfl,fun e=>by obtain⟨a,b,c⟩:=X.c e;exact⟨a,b,Fr.blk g c fun h=>h⟩⟩
 ·rintro b5 b7 s' p3 h6 X rfl
  rintro p3 h7 rfl rfl
  have g:=Fr.push (fun _=>False) h6 (Obj.cells (bvs ⟨#[]⟩ 0 nl nl) 30)
  exact⟨X.g.trans g,X.l,fun _=>⟨rfl,X.g.size,blk.new _ _ _⟩⟩
 rintro lo p3 h15 X
 obtain⟨e3,hb3,k3⟩:=X.c rfl
 have hlo:=X.l rfl
 have g15:=X.g
 clear X
 generalize p3.block=b3 at *
 subst e3
 have z15:=g15.size
 have k1:=g15.blk k1 fun h=>h
 have k2:=g15.blk k2 fun h=>h
 have lt3:=k3.lt
 have hum:=um_in pa (m:=4) (by omega)
 rw[um_w pa (by omega) (by omega)]
 generalize um pa 4=pr at hum
 refine stoA_i k3 rfl (vs:=(bvs ⟨#[]⟩ pr lo nl).toList) (by intro u hu;simp only[List.mem_cons,List.not_mem_nil,or_false] at hu;rcases hu with rfl|rfl|rfl|rfl<;>rfl) fun h16 k3 f16=>?_
 have k3:blk h16 b3 (bvs ⟨#[]⟩ pr lo nl):=k3
 have k1:=f16.blk k1 (by omega)
 have k2:=f16.blk k2 (by omega)
 have g16:Grow h h16:=(f1.trans (f2.trans g15)).trans' f16 fun i hi e=>by omega
 have z16:=f16.size
 clear f16 g15 f1 f2
 refine ldS_i (s:=s) (by rw[add_plain,k1.cl];rfl) ?_
 rintro p4 h17 rfl rfl
 have k4:=blk.new h16 #[.int .i64 0] 3
 have f17:=Fr.push (fun _=>False) h16 (.cells #[.int .i64 0] 3)
 have z17:(h16.push (.cells #[.int .i64 0] 3)).size=h16.size+1:=by simp
 generalize h16.push (.cells #[.int .i64 0] 3)=h17 at *
 refine sto_i k4 (by show 0<1;omega) ?_
 rw[wrap_succ (j:=s.n) (n:=s.n+1) (by omega) (by omega)]
 have k4:=k4.sc 0 (.int .i64 ((s.n+1:Nat):Int))
 have f18:=Fr.scb h17 h16.size 0 (.int .i64 ((s.n+1:Nat):Int))
 have z18:=f18.size
 generalize sc h17 ⟨h16.size,0,none⟩ (.int .i64 ((s.n+1:Nat):Int))=h18 at *
 have k4:blk h18 h16.size #[.int .i64 ((s.n+1:Nat):Int)]:=k4
 have f1618:Fr (fun b=>b=h16.size) h16 h18:=(f17.mono fun _ _ h=>False.elim h).trans f18
 have lt3':=k3.lt
 have k1:=f1618.blk k1 (by omega)
 have k2:=f1618.blk k2 (by omega)
 have k3:=f1618.blk k3 (by omega)
 have g18:Grow h h18:=g16.trans' f1618 fun i hi e=>by have:=g16.size;omega
 have ord:h.size≤h.size∧h.size<h1.size∧h1.size<b3∧b3<h16.size∧h16.size<h16.size+1:=by omega
 have hB:h16.size+1≤h18.size:=by omega
 generalize h16.size+1=Bc at *
 clear f1618 f17 f18 z17 z18 z16 g16 lt3 lt3' z15 z1 z2 hb3
 generalize h16.size=b4 at *
 have hx:=x
 refine⟨fun i hh=>∃(k:Nat) (Is:List Ins) (co:Sv) (Q:Nat→Prop),i=k∧k≤s.n∧Bc≤hh.size∧BI h h.size h1.size b3 b4 Bc pa pr s lo k hh Is co Q,fun i _=>s.n - i.toNat,
  ⟨0,[],nl,fun _=>False,rfl,Nat.zero_le _,hB,g18,k1,k2,k3,k4,ord,rfl,Own.nil _ _ _,fun b hb=>hb.elim,fun j hj=>by simp at hj⟩,?_⟩
 clear g18 k1 k2 k3 k4 hB
 rintro _ h19 ⟨k,Is,co,Q,rfl,hk,hB,X⟩
 refine ldS_i (s:=s) (by rw[add_plain,X.k1.cl];rfl) ?_
 refine ifb_iff (q:=k<s.n) (by simp) (fun hks=>?_) (fun hks=>?_)
 rotate_left
 ·obtain rfl:k=s.n:=by omega
  refine ldS_i (s:=co) (by rw[add_plain,X.k3.cl];rfl) ?_
  refine push_ins (I:=⟨{ zIv with k:=6 },[]⟩) (Qn:=fun _=>False) X (Fr.refl _ _) hB (Nat.le_refl _) hs ⟨ops_nil _,(fun b ⟨a,e,_⟩=>by cases e),by simp,QAt.nil _ _,QAt.nil _ _,QAt.nil _ _,by simp,.inr (.inr (.inr (.inr (.inl rfl))))⟩ (fun _ h=>h.elim) ?_
  intro h80 Is' co' Q' Y hz
  refine⟨_,_,_,_,by rw[Y.k3.cl];rfl,by rw[add_plain,Y.k3.cl];rfl,by rw[add_plain,Y.k3.cl];rfl,by rw[add_plain,Y.k3.cl];rfl,?_⟩
  obtain⟨r1,r2,r3,r4,r5⟩:=Y.ord
  refine stoA_i Y.k2 rfl (vs:=(bvs ⟨#[]⟩ pr lo co').toList) (by intro u hu;simp only[List.mem_cons,List.not_mem_nil,or_false] at hu;rcases hu with rfl|rfl|rfl|rfl<;>rfl) fun h81 k81 f81=>?_
  refine⟨_,_,_,_,by rw[k81.cl];rfl,by rw[add_plain,k81.cl];rfl,by rw[add_plain,k81.cl];rfl,by rw[add_plain,k81.cl];rfl,?_⟩
  have hl:=own_len ivs_len (by omega) Y.own
  have oo:=Y.own.frame f81 fun b hb e=>by have:=(Y.own.ge hb).1;omega
  have QQ:∀j (hj:j<Is'.length),QI Q' h81 (s.n+1) j Is'[j]:=fun j hj=>(Y.ins j hj).fr f81 fun b hb e=>by have:=(Y.q b hb).1;omega
  have hL:Is'.length=s.n+1:=Y.len
  refine⟨Y.g.trans' f81 fun i hi e=>by omega,pr,lo,co',Is',rfl,hum.1,hum.2,hlo,hL,⟨⟨by simp;omega,by simp;omega,fun i hi=>?_⟩,fun I hI=>?_,by omega⟩,fun i hi=>?_⟩
  ·have hi:i<Is'.length:=by simpa using hi
   obtain⟨p,e,hi',c⟩:=(own_rows ivs_len (by omega) oo).at_ i hi
   refine⟨p,e,fun j u hu=>c j u ?_⟩
   simpa using hu
  ·obtain⟨j,hj,rfl⟩:=List.getElem_of_mem hI
   exact (QQ j hj).ins
  ·rw[hL];exact (QQ i hi).ok
 refine ldS_i (s:=s) (by rw[add_plain,X.k1.cl];rfl) ?_
 obtain⟨q,eq,c,kc,⟨ps,hps⟩,qs,hqs⟩:=(x.grow X.g).at_ k hks
 refine⟨q,eq,by omega,by omega,?_⟩
 rw[Int.toNat_natCast]
 have c0:=kc.at0
 refine⟨c.k,c.a,c.b,c.t,c.e,c.p,c.q,c0,kc 1 _ rfl,kc 2 _ rfl,kc 3 _ rfl,kc 4 _ rfl,kc 5 _ rfl,kc 6 _ rfl,?_⟩
 clear c0
 rintro p7 h20 rfl rfl
 have g20:=Fr.push (fun _=>False) h19 (.cells #[.int .i64 0,.int .i64 0,.int .i64 0,.int .i64 0,.int .i64 0,.slice nl.a nl.n nl.c,.slice nl.a nl.n nl.c] 77)
 have k7:=blk.new h19 #[.int .i64 0,.int .i64 0,.int .i64 0,.int .i64 0,.int .i64 0,.slice nl.a nl.n nl.c,.slice nl.a nl.n nl.c] 77
 generalize h19.push (.cells #[.int .i64 0,.int .i64 0,.int .i64 0,.int .i64 0,.int .i64 0,.slice nl.a nl.n nl.c,.slice nl.a nl.n nl.c] 77)=h20 at *
 refine stoA_i k7 rfl (vs:=cds c) (by intro u hu;simp only[List.mem_cons,List.not_mem_nil,or_false] at hu;rcases hu with rfl|rfl|rfl|rfl|rfl|rfl|rfl<;>rfl) fun h21 k7 f21=>?_
 have g21:Grow h19 h21:=g20.trans' f21 fun i hi e=>by omega
 have lt7:=k7.lt
 have hps:=hps.keep g21 fun _ _ h=>h
 have hqs:=hqs.keep g21 fun _ _ h=>h
 clear f21 g20
 have hum0:=um_in c.k (m:=9) (by omega)
 refine⟨IJ1 h21,fun hh=>Grow h21 hh,fun _ _ _ _ _ _ _ _ _ _ _ _ _ _ Y=>Y.g,fun _ _ _ _ _ _=>IJ1.start,c.a,?_,c.p,?_,c.b,?_,c.q,?_,?_,?_,?_,?_,?_,?_,?_,?_⟩
 ·intro hh g;rw[add_plain,(Fr.blk g k7 fun h=>h).cl];rfl
 ·intro hh g;rw[add_plain,(Fr.blk g k7 fun h=>h).cl];rfl
 ·intro hh g;rw[add_plain,(Fr.blk g k7 fun h=>h).cl];rfl
 ·intro hh g;rw[add_plain,(Fr.blk g k7 fun h=>h).cl];rfl
 ·rintro b2 b5 b9 b12 b14 b15 b16 x37 x40 x44 x47 p8 p9 hh Y e
  refine cal_of (local_spec _) ?_
  rintro _ _ ⟨rfl,l,rfl,l1,l2⟩
  exact⟨_,rfl,Y.loc1 e l1 l2⟩
 ·rintro b2 b5 b9 b12 b14 b15 b16 x37 x40 x44 x47 p8 p9 hh Y e _
  refine cal_of (path_spec (hps.keep Y.g fun _ _ h=>h)) ?_
  rintro _ hy ⟨g,t,rfl,P⟩
  exact⟨t,rfl,Y.pth1 e g P⟩
 ·rintro b2 b5 b9 b12 b14 b15 b16 x37 x40 x44 x47 p8 p9 hh Y e _ _
  refine cal_of (local_spec _) ?_
  rintro _ _ ⟨rfl,l,rfl,l1,l2⟩
  exact⟨_,rfl,Y.loc2 l1 l2⟩
 ·rintro b2 b5 b9 b12 b14 b15 b16 x37 x40 x44 x47 p8 p9 hh Y e _ _ _
  refine cal_of (path_spec (hqs.keep Y.g fun _ _ h=>h)) ?_
  rintro _ hy ⟨g,t,rfl,P⟩
  exact⟨t,rfl,Y.pth2 g P⟩
 ·rintro b2 b5 b9 b12 b14 b15 b16 x37 x40 x44 x47 p8 p9 hh Y e
  rintro p h' rfl rfl
  exact Y.new8 e
 ·rintro b2 b5 b9 b12 b14 b15 b16 x37 x40 x44 x47 p8 p9 hh Y e
  rintro p h' rfl rfl
  exact Y.new9
 ·rintro b2 b5 b9 b12 b14 b15 b16 x37 x40 x44 x47 p8 p9 hh Y e rfl rfl rfl rfl rfl rfl
  subst e
  have h8:=(Y.c8 rfl).1
  rw[h8]
  refine stoP (Y.c8 rfl).2.2 rfl fun h' kp fp=>?_
  have:=Y.sto8 fp kp
  rw[←h8]
  exact this
 rintro x37 x40 x44 x47 p8 p9 h52 Y
 obtain⟨e8,hb8,k8⟩:=Y.c8 rfl
 obtain⟨e9,hb9,k9⟩:=Y.c9 rfl
 have l1:=Y.l1 rfl
 have l2:=Y.l2 rfl
 have q1:=Y.q1 rfl
 have q2:=Y.q2 rfl
 have d1:=Y.d1 rfl rfl
 have d2:=Y.d2 rfl rfl
 have d3:=Y.d3 rfl rfl
 have d4:=Y.d4 rfl rfl
 have d5:=Y.d5 rfl rfl
 have g52:=Y.g
 clear Y
 generalize p8.block=b8 at *
 generalize p9.block=b9 at *
 subst e8;subst e9
 simp only[if_true] at k8
 refine stoP k9 rfl fun h53 k9 f53=>?_
 have k8:=f53.blk k8 (by omega)
 have q1:=q1.fr f53 fun b hb e=>d3 (e ▸ hb)
 have q2:=q2.fr f53 fun b hb e=>d4 (e ▸ hb)
 have g53:Grow h21 h53:=g52.trans' f53 fun i hi e=>by omega
 refine rdP k9 (rdP k8 ?_)
 clear f53 g52 d3 d4 d5 hps hqs
 have x40s:∀b,x40.own b→h21.size≤b∧b<h53.size:=fun b hb=>q1.ge hb
 have x47s:∀b,x47.own b→h21.size≤b∧b<h53.size:=fun b hb=>q2.ge hb
 rintro s52 h54 rfl rfl
 have g54:=Fr.push (fun _=>False) h53 (.cells #[.int .i64 3,.int .i64 x37,.slice x40.a x40.n x40.c,.int .i64 0,.int .u64 0] 66)
 have ks:blk (h53.push (.cells #[.int .i64 3,.int .i64 x37,.slice x40.a x40.n x40.c,.int .i64 0,.int .u64 0] 66)) h53.size (ovs ⟨3,x37,x40,0,0⟩).toArray:=blk.new _ _ _
 have hs54:(h53.push (.cells #[.int .i64 3,.int .i64 x37,.slice x40.a x40.n x40.c,.int .i64 0,.int .u64 0] 66)).size=h53.size+1:=by simp
 generalize h53.push (.cells #[.int .i64 3,.int .i64 x37,.slice x40.a x40.n x40.c,.int .i64 0,.int .u64 0] 66)=h54 at *
 refine mineI (v:={ zIv with k:=3,d0:=x44,dp:=x47,rk:=1,ra:=⟨some ⟨h53.size,0,none⟩,1,1⟩ }) fun h56 k10 g56=>?_
 have g56':Grow h53 h56:=g54.trans g56
 have q1:=q1.fr g56' fun _ _ h=>h
 have q2:=q2.fr g56' fun _ _ h=>h
 have k8:=g56'.blk k8 fun h=>h
 have ks:=g56.blk ks fun h=>h
 have g2156:Grow h21 h56:=g53.trans g56'
 have k7:=g2156.blk k7 fun h=>h
 have G56:Grow h19 h56:=g21.trans g2156
 have k4:=G56.blk X.k4 fun h=>h
 have z53:=g53.size
 have z54:=g54.size
 have z1921:=g21.size
 have sbl:=ks.lt
 have lt54:=k10.lt
 generalize h53.size=bs at *
 generalize h54.size=b10 at *
 have q40:=q1.at_ (Q:=fun b=>x40.own b∨x47.own b∨b=bs) fun b hb=>.inl hb
 have q47:=q2.at_ (Q:=fun b=>x40.own b∨x47.own b∨b=bs) fun b hb=>.inr (.inl hb)
 have hQn:∀b,(x40.own b∨x47.own b∨b=bs)→h19.size≤b∧b<h56.size∧b≠b10:=by
  rintro b (h|h|rfl)
  ·have:=x40s b h;omega
  ·have:=x47s b h;omega
  ·omega
 generalize hQd:(fun b=>x40.own b∨x47.own b∨b=bs)=Qn at q40 q47
 have hQn:∀b,Qn b→h19.size≤b∧b<h56.size∧b≠b10:=fun b hb=>hQn b (by rw[←hQd] at hb;exact hb)
 have hbsQ:Qn bs:=by rw[←hQd];exact .inr (.inr rfl)
 have fin:∀ {hh:Heap} {I:Ins},Fr (fun i=>i=b10) h56 hh→blk hh b10 (ivs I.v)→QI Qn h56 (s.n+1) k I→Grow h19 hh∧h56.size≤hh.size∧∃I:Ins,blk hh b10 (ivs I.v)∧QI Qn hh (s.n+1) k I:=fun f kb hI=>
  ⟨G56.trans' f fun i hi e=>by omega,f.size,_,kb,hI.fr f fun b hb e=>(hQn b hb).2.2 e⟩
 have nq:QAt Qn h56 nl (rdX h56 nl):=QAt.nil _ _
 have pl40:okPl 4 x37 (rdX h56 x40):=⟨l1.1,l1.2,q40.2⟩
 have pl47:okPl 4 x44 (rdX h56 x47):=⟨l2.1,l2.2,q47.2⟩
 have no:∀b,nl.own b→Qn b:=fun b ⟨a,e,_⟩=>by cases e
 have iv21:∀v:Iv,(ivs v).size=(ivs v).toList.length:=fun v=>by simp
 refine⟨fun hh=>Grow h19 hh∧h56.size≤hh.size∧∃I:Ins,blk hh b10 (ivs I.v)∧QI Qn hh (s.n+1) k I,?_,?_⟩
 rotate_left
 ·rintro h70 ⟨g70,z70,I,k70,hI⟩
  refine ldS_i (s:=co) (by rw[add_plain,(g70.blk X.k3 fun h=>h).cl];rfl) ?_
  refine rdI (Iv21.blk k70) ?_
  refine push_ins X g70 hB hk hs hI (fun b hb=>by have:=hQn b hb;omega) ?_
  intro h' Is' co' Q' Y hz
  rw[wrap_succ hks (by omega)]
  exact⟨⟨k+1,Is',co',Q',rfl,hks,by omega,Y⟩,by simp;omega⟩
 refine ldI_i (x:=c.k) (by rw[k7.cl];rfl) ?_
 change 0≤um c.k 9∧um c.k 9<9 at hum0
 refine ifb_eq (fun _=>?_) (fun _=>?_)
 ·refine ldS_i (s:=⟨some ⟨bs,0,none⟩,1,1⟩) (by rw[add_plain,add_plain,k10.cl];rfl) ?_
  refine⟨_,rfl,by omega,by show (0:Int)<1;omega,?_⟩
  refine sto_i ks (by show 0<5;omega) ?_
  have f57:=Fr.scb h56 bs 0 (.int .i64 2)
  have k57:blk (sc h56 ⟨bs,0,none⟩ (.int .i64 2)) bs (ovs ⟨2,x37,x40,0,0⟩).toArray:=ks.sc 0 (.int .i64 2)
  generalize sc h56 ⟨bs,0,none⟩ (.int .i64 2)=h57 at *
  have n40:∀b,x40.own b→¬b=bs:=fun b hb e=>by have:=x40s b hb;omega
  have n47:∀b,x47.own b→¬b=bs:=fun b hb e=>by have:=x47s b hb;omega
  have q1:=(q1.fr f57 n40).at_ (Q:=Qn) fun b hb=>by rw[←hQd];exact .inl hb
  have q2:=(q2.fr f57 n47).at_ (Q:=Qn) fun b hb=>by rw[←hQd];exact .inr (.inl hb)
  refine⟨G56.trans' f57 fun i hi e=>by have:=x.len;omega,f57.size,⟨{ zIv with k:=3,d0:=x44,dp:=x47,rk:=1,ra:=⟨some ⟨bs,0,none⟩,1,1⟩ },[⟨2,x37,x40,0,0⟩]⟩,f57.blk k10 (by omega),ops_one k57,?_,by simp,q2.1,QAt.nil _ _,QAt.nil _ _,?_,?_⟩
  ·rintro b ⟨a,e,rfl⟩
   simp only[Option.some.injEq] at e
   subst e;exact hbsQ
  ·intro o ho
   simp only[List.mem_singleton] at ho
   subst ho;exact q1.1
  ·exact .inr (.inl ⟨rfl,by omega,⟨l2.1,l2.2,q2.2⟩,.inl ⟨rfl,_,rfl,.inl rfl,l1.1,l1.2,q1.2⟩⟩)
 refine ifb_eq (fun _=>?_) (fun _=>?_)
 ·refine rdP k8 (ldI_i (x:=c.t) (by rw[add_plain,k7.cl];rfl) ?_)
  refine stoA_part (ds:=ivs { zIv with k:=3,d0:=x44,dp:=x47,rk:=2,rp:=x37,rq:=x40,rm:=(c.t.tmod 2 == 0) }) k10 (by show 4+8≤21;omega) (by intro u hu;simp only[List.mem_cons,List.not_mem_nil,or_false] at hu;rcases hu with rfl|rfl|rfl|rfl|rfl|rfl|rfl|rfl<;>rfl) rfl fun h58 k58 f58=>?_
  exact fin (I:=⟨{ zIv with k:=3,d0:=x44,dp:=x47,rk:=2,rp:=x37,rq:=x40,rm:=(c.t.tmod 2 == 0) },[]⟩) f58 k58 ⟨ops_nil _,no,by simp,q47.1,q40.1,nq,by simp,.inr (.inl ⟨rfl,by omega,pl47,.inr (.inl ⟨rfl,rfl,pl40⟩)⟩)⟩
 refine ifb_eq (fun _=>?_) (fun _=>?_)
 ·refine ldI_i (x:=c.a) (by rw[add_plain,k7.cl];rfl) (cal_of (local_spec _) ?_)
  rintro _ _ ⟨rfl,l,rfl,m1,m2⟩
  refine⟨_,rfl,?_⟩
  refine stoI (v:={ zIv with k:=1,lc:=l }) k10 rfl fun h60 k60 f60=>?_
  exact fin (I:=⟨{ zIv with k:=1,lc:=l },[]⟩) f60 k60 ⟨ops_nil _,no,by simp,nq,nq,nq,by simp,.inl ⟨.inl rfl,m1,m2,by omega⟩⟩
 refine ifb_eq (fun _=>?_) (fun _=>?_)
 ·refine ldI_i (x:=c.a) (by rw[add_plain,k7.cl];rfl) (cal_of (local_spec _) ?_)
  rintro _ _ ⟨rfl,l,rfl,m1,m2⟩
  refine⟨_,rfl,?_⟩
  refine stoI (v:={ zIv with k:=2,lc:=l }) k10 rfl fun h60 k60 f60=>?_
  exact fin (I:=⟨{ zIv with k:=2,lc:=l },[]⟩) f60 k60 ⟨ops_nil _,no,by simp,nq,nq,nq,by simp,.inl ⟨.inr rfl,m1,m2,by omega⟩⟩
 have isat:IsFn Try.prog 17:=⟨Try.f17,Try.func17,by kernel_rfl,by kernel_rfl⟩
 refine ifb_eq (fun _=>?_) (fun _=>?_)
 ·refine ldI_i (x:=c.t) (by rw[add_plain,k7.cl];rfl) ⟨_,_,rfl,isat,cal_of (at_spec _ (n:=s.n+1) (by omega) (by omega) k4) ?_⟩
  rintro _ _ ⟨rfl,l,rfl,m1,m2⟩
  refine⟨_,rfl,?_⟩
  refine stoI (v:={ zIv with k:=4,to:=l }) k10 rfl fun h60 k60 f60=>?_
  exact fin (I:=⟨{ zIv with k:=4,to:=l },[]⟩) f60 k60 ⟨ops_nil _,no,by simp,nq,nq,nq,by simp,.inr (.inr (.inl ⟨rfl,m1,m2⟩))⟩
 refine ifb_eq (fun _=>?_) (fun _=>?_)
 ·refine⟨fun hh=>h56=hh,rfl,?_⟩
  refine hdP (fun hh (e:h56=hh)=>e ▸ k8) ?_
  refine ldI_i (x:=c.t) (by rw[add_plain,k7.cl];rfl) ?_
  refine⟨c.e,fun hh (e:h56=hh)=>by rw[←e,add_plain,k7.cl];rfl,?_⟩
  refine⟨_,_,rfl,isat,cal_of (at_spec _ (n:=s.n+1) (by omega) (by omega) k4) ?_⟩
  rintro _ _ ⟨rfl,l,rfl,m1,m2⟩
  refine⟨_,rfl,rfl,?_⟩
  refine⟨_,_,rfl,isat,cal_of (at_spec _ (n:=s.n+1) (by omega) (by omega) k4) ?_⟩
  rintro _ _ ⟨rfl,r,rfl,m3,m4⟩
  refine⟨_,rfl,rfl,?_⟩
  refine stoI (v:={ zIv with k:=5,ck:=2,c0:=x37,cp:=x40,to:=l,el:=r }) k10 rfl fun h60 k60 f60=>?_
  exact fin (I:=⟨{ zIv with k:=5,ck:=2,c0:=x37,cp:=x40,to:=l,el:=r },[]⟩) f60 k60 ⟨ops_nil _,no,by simp,nq,nq,q40.1,by simp,.inr (.inr (.inr (.inl ⟨rfl,rfl,pl40,m1,m2,m3,m4⟩)))⟩
 refine ifb_eq (fun _=>?_) (fun _=>?_)
 ·refine stoA_part (ds:=ivs { zIv with k:=3,d0:=x44,dp:=x47,rk:=10 }) k10 (by show 4+8≤21;omega) (by intro u hu;simp only[List.mem_cons,List.not_mem_nil,or_false] at hu;rcases hu with rfl|rfl|rfl|rfl|rfl|rfl|rfl|rfl<;>rfl) rfl fun h58 k58 f58=>?_
  exact fin (I:=⟨{ zIv with k:=3,d0:=x44,dp:=x47,rk:=10 },[]⟩) f58 k58 ⟨ops_nil _,no,by simp,q47.1,nq,nq,by simp,.inr (.inl ⟨rfl,by omega,pl47,.inr (.inr ⟨rfl,rfl⟩)⟩)⟩
 refine ifb_eq (fun _=>?_) (fun _=>?_)
 ·refine stoI (v:={ zIv with k:=7 }) k10 rfl fun h60 k60 f60=>?_
  exact fin (I:=⟨{ zIv with k:=7 },[]⟩) f60 k60 ⟨ops_nil _,no,by simp,nq,nq,nq,by simp,.inr (.inr (.inr (.inr (.inr rfl))))⟩
 refine fin (I:=⟨{ zIv with k:=3,d0:=x44,dp:=x47,rk:=1,ra:=⟨some ⟨bs,0,none⟩,1,1⟩ },[⟨3,x37,x40,0,0⟩]⟩) (Fr.refl _ _) k10 ⟨ops_one ks,?_,by simp,q47.1,nq,nq,?_,.inr (.inl ⟨rfl,by omega,pl47,.inl ⟨rfl,_,rfl,.inr rfl,pl40⟩⟩)⟩
 ·rintro b ⟨a,e,rfl⟩
  simp only[Option.some.injEq] at e
  subst e;exact hbsQ
 ·intro o ho
  simp only[List.mem_singleton] at ho
  subst ho;exact q40.1
end
end Go.Proofs.Ytkpahlkendlahaa
namespace Go.Proofs.Ytkpahlkendlahaa
open Go Go.Lf
set_option linter.unusedVariables false
abbrev nlS:Sv:=⟨none,0,0⟩
def ofV (o:Ov):List Acv:=if o.k=2 then [⟨o.l,o.s,1⟩] else if o.k=3 then [⟨o.l,o.s,2⟩] else []
def accV (m:Nat) (I:Ins):List Acv:=
 if I.v.k=1 then [⟨I.v.lc,nlS,5⟩]
 else if I.v.k=2 then [⟨I.v.lc,nlS,6⟩]
 else if I.v.k=3 then I.ops.flatMap ofV++((if I.v.rk=2 then [⟨I.v.rp,I.v.rq,if I.v.rm=true then 3 else 1⟩] else [])++[⟨I.v.d0,I.v.dp,4⟩])
 else if I.v.k=5 then ofV ⟨I.v.ck,I.v.c0,I.v.cp,I.v.ct,I.v.cn⟩
 else if I.v.k=6 then ⟨0,nlS,2⟩ :: (List.range (m - 1)).map fun j:Nat=>⟨((j+1:Nat):Int),nlS,6⟩
 else []
theorem ofV_len (o:Ov):(ofV o).length≤1:=by unfold ofV;split<;>(try split)<;>simp
theorem ofV_flat (os:List Ov):(os.flatMap ofV).length≤os.length:=by
 induction os with
 | nil=>simp
 | cons o os ih=>rw[List.flatMap_cons,List.length_append,List.length_cons];have:=ofV_len o;omega
theorem acs_len (a:Acv):(acs a).length=3:=rfl
theorem one_acs (a:Acv):∀u∈acs a,u.oneCell'=true:=by
 intro u hu
 simp only[List.mem_cons,List.not_mem_nil,or_false] at hu
 rcases hu with rfl|rfl|rfl<;>rfl
theorem one_flat {α:Type} {f:α→List Value} (hf:∀a,∀u∈f a,u.oneCell'=true) (l:List α):∀u∈l.flatMap f,u.oneCell'=true:=by
 intro u hu
 obtain⟨a,_,h⟩:=List.mem_flatMap.1 hu
 exact hf a u h
theorem own_new1 {E:TypeId} {h:Heap} {B sz:Nat} {cs:Array Value} (hB:B≤h.size) (hs:cs.size=sz):Own (h.push (.cells cs E)) B sz ⟨some ⟨h.size,0,none⟩,1,1⟩ cs.toList:=by
 subst hs
 exact⟨by simp,.inr ⟨h.size,cs,rfl,hB,blk.new h cs E,Nat.le_refl _,(Nat.one_mul _).symm,by rw[Nat.one_mul,←Array.length_toList];exact List.take_length⟩⟩
structure AO (h:Heap) (B:Nat) (hh:Heap) (s:Sv) (l:List Acv):Prop where
 g:Grow h hh
 b:h.size≤B
 b2:B≤hh.size
 own:Own hh B 3 s (l.flatMap acs)
theorem AO.n {h hh:Heap} {B:Nat} {s:Sv} {l:List Acv} (x:AO h B hh s l):s.n=l.length:=own_len acs_len (by omega) x.own
theorem AO.grow {h hh h':Heap} {B:Nat} {s:Sv} {l:List Acv} (x:AO h B hh s l) (f:Grow hh h'):AO h B h' s l:=⟨x.g.trans f,x.b,by have:=x.b2;have:=f.size;omega,x.own.frame f fun _ _ h=>h⟩
theorem AO.app {h hh:Heap} {B:Nat} {s:Sv} {l:List Acv} {a:Acv} {K:Sv→Heap→Prop} (x:AO h B hh s l) (hl:l.length≤1000000) (k:∀s' h',AO h B h' s' (l++[a])→Fr (fun b=>B≤b) hh h'→K s' h') :
  newS 63 (acs a).toArray 1 hh fun s1 h1=>appS 63 (Value.agg #[.int .i64 0,.slice none 0 0,.int .i64 0]).cells 3 40 h1 s s1 K:=by
 have hn:=x.n
 refine app1 rfl x.own rfl (one_acs a) x.b2 (by omega) (by omega) fun s' h' e o f n=>?_
 have f':Fr (fun b=>B≤b) hh h':=f.mono fun i _ hi=>(x.own.ge hi).1
 refine k s' h' ⟨x.g.trans' f' fun i hi e=>by have:=x.b;omega,x.b,by have:=x.b2;have:=f.size;omega,?_⟩ f'
 simpa using o
section
variable {h:Heap}
theorem of_spec (o:Ov):CallsH Try.prog 35 #[.agg (ovs o).toArray] h (fun v h'=>Grow h h'∧∃(a:Acv) (b:Bool),v=.tuple #[.agg (acs a).toArray,.bool b]∧ofV o=if b=true then [a] else []):=by
 apply F35
 unfold L35
 refine newO (o:=o) fun h1 b1 f1=>?_
 rintro p2 h2 rfl rfl
 have f2:=Fr.push (fun _=>False) h1 (.cells (acs ⟨0,nlS,0⟩).toArray 63)
 have k2:=blk.new h1 (acs ⟨0,nlS,0⟩).toArray 63
 have e2:h1.push (.cells #[Value.int .i64 0,.slice nlS.a nlS.n nlS.c,.int .i64 0] 63)=h1.push (.cells (acs ⟨0,nlS,0⟩).toArray 63):=rfl
 rw[e2]
 generalize h1.push (.cells (acs ⟨0,nlS,0⟩).toArray 63)=h2 at *
 have b2:=f2.blk b1 fun h=>h
 have lt1:=b1.lt
 have fin:∀(a:Acv) (K:Heap→Prop),(∀h3,Grow h h3→blk h3 h1.size (acs a).toArray→K h3)→stoA h2 ⟨h1.size,0,none⟩ (acs a) K:=fun a K k=>
  stoA_i k2 rfl (one_acs a) fun h3 k3 f3=>k h3 ((f1.trans f2).trans' f3 fun i hi e=>by have:=f1.size;omega) k3
 refine ldI_i (x:=o.k) (by rw[b2.cl];rfl) ?_
 refine ifb_iff (q:=o.k=2) (by simp) (fun q=>?_) (fun q=>?_)
 ·refine⟨o.l,o.s,by rw[add_plain,b2.cl];rfl,by rw[add_plain,add_plain,b2.cl];rfl,?_⟩
  refine fin ⟨o.l,o.s,1⟩ _ fun h3 g3 k3=>?_
  exact⟨_,_,_,by rw[k3.cl];rfl,by rw[add_plain,k3.cl];rfl,by rw[add_plain,k3.cl];rfl,g3,⟨o.l,o.s,1⟩,true,rfl,by simp[ofV,q]⟩
 refine ifb_iff (q:=o.k=3) (by simp) (fun q3=>?_) (fun q3=>?_)
 ·refine⟨o.l,o.s,by rw[add_plain,b2.cl];rfl,by rw[add_plain,add_plain,b2.cl];rfl,?_⟩
  refine fin ⟨o.l,o.s,2⟩ _ fun h3 g3 k3=>?_
  exact⟨_,_,_,by rw[k3.cl];rfl,by rw[add_plain,k3.cl];rfl,by rw[add_plain,k3.cl];rfl,g3,⟨o.l,o.s,2⟩,true,rfl,by simp[ofV,q3]⟩
 ·refine fin ⟨0,nlS,0⟩ _ fun h3 g3 k3=>?_
  exact⟨_,_,_,by rw[k3.cl];rfl,by rw[add_plain,k3.cl];rfl,by rw[add_plain,k3.cl];rfl,g3,⟨0,nlS,0⟩,false,rfl,by simp[ofV,q,q3]⟩
variable {b:Nat} {nm:ByteArray} {pa:Int} {lo co:Sv} {pth:Pth} {Is:List Ins}
theorem BdAt.get (X:BdAt h pth Is lo co) {i:Nat} (hi:i<Is.length):∃p,co.a=some p∧co.n=Is.length∧Iv21 h (p.add (i*21)) Is[i].v∧Is.length≤1000000:=by
 obtain⟨p,e,c⟩:=X.code.at_ i (by simpa using hi)
 have:=X.code.len
 have h2:=X.code.few
 refine⟨p,e,by simpa using this,by simpa using c,by simpa using h2⟩
theorem acc_spec (B:blk h b (bvs nm pa lo co)) (X:BdAt h pth Is lo co) {i:Nat} (hi:i<Is.length):CallsH Try.prog 22 #[.pointer (some ⟨b,0,none⟩),.int .i64 i] h (fun v h'=>∃s:Sv,v=.slice s.a s.n s.c∧AO h h.size h' s (accV lo.n Is[i])):=by
 apply F22
 unfold L22
 obtain⟨p,ep,hn,T,hf⟩:=X.get hi
 have x1:=X.ins _ (List.getElem_mem hi)
 have hlo:=X.lo
 have hco:cl h ((⟨b,0,none⟩:Addr).add 3)=some (.slice co.a co.n co.c):=by rw[add_plain,B.cl];rfl
 refine⟨fun c=>c=false,⟨fun e=>by simp at e;omega,fun _=>⟨_,rfl,ldS_i (s:=co) hco (by simp;omega)⟩⟩,?_⟩
 rintro _ rfl
 refine⟨fun e=>(by cases e),fun _=>⟨_,rfl,ldS_i (s:=co) hco ?_⟩⟩
 refine⟨p,ep,by omega,by omega,?_⟩
 rw[Int.toNat_natCast]
 refine rdI T ?_
 generalize Is[i]=I at *
 refine mineI (v:=I.v) fun h2 b2 f2=>?_
 have T2:=Iv21.blk b2
 have c0:=T2 0 _ rfl
 rw[add_zero] at c0
 have z2:=f2.size
 have lt2:=b2.lt
 have x2:=x1.grow f2
 have B2:=f2.blk B fun h=>h
 have AOend:∀ {hh:Heap} {s:Sv} {l:List Acv},AO h (h.size+1) hh s l→AO h h.size hh s l:=fun a=>⟨a.g,Nat.le_refl _,by have:=a.b2;omega,own_weak a.own (by omega)⟩
 have start:AO h (h.size+1) h2 nlS []:=⟨f2,by omega,by omega,Own.nil _ _ _⟩
 refine⟨fun s hh=>AO h h.size hh s (accV lo.n I),?_,fun s hh a=>⟨s,rfl,a⟩⟩
 refine ldI_i c0 ?_
 unfold accV
 refine ifb_iff (q:=I.v.k=1) (by simp) (fun q=>?_) (fun q1=>?_)
 ·rw[if_pos q]
  refine ldI_i (T2 1 _ rfl) ?_
  rintro s h3 rfl rfl
  have g:=Fr.push (fun _=>False) h2 (.cells #[Value.int .i64 I.v.lc,.slice nlS.a nlS.n nlS.c,.int .i64 5] 63)
  exact⟨_,rfl,f2.trans g,Nat.le_refl _,Nat.le_trans z2 g.size,own_new1 (E:=63) (cs:=(acs ⟨I.v.lc,nlS,5⟩).toArray) z2 rfl⟩
 rw[if_neg q1]
 refine ifb_iff (q:=I.v.k=2) (by simp) (fun q=>?_) (fun q2=>?_)
 ·rw[if_pos q]
  refine ldI_i (T2 1 _ rfl) ?_
  rintro s h3 rfl rfl
  have g:=Fr.push (fun _=>False) h2 (.cells #[Value.int .i64 I.v.lc,.slice nlS.a nlS.n nlS.c,.int .i64 6] 63)
  exact⟨_,rfl,f2.trans g,Nat.le_refl _,Nat.le_trans z2 g.size,own_new1 (E:=63) (cs:=(acs ⟨I.v.lc,nlS,6⟩).toArray) z2 rfl⟩
 rw[if_neg q2]
 refine ifb_iff (q:=I.v.k=5) (by simp) (fun q=>?_) (fun q5=>?_)
 ·rw[if_neg (by omega),if_pos q]
  refine⟨I.v.ck,I.v.c0,I.v.cp,I.v.ct,I.v.cn,T2 12 _ rfl,T2.nest 12 1 rfl,T2.nest 12 2 rfl,T2.nest 12 3 rfl,T2.nest 12 4 rfl,?_⟩
  refine cal_of (of_spec ⟨I.v.ck,I.v.c0,I.v.cp,I.v.ct,I.v.cn⟩) ?_
  rintro _ h5 ⟨g5,a,bb,rfl,ea⟩
  refine⟨a.l,a.s,a.k,bb,rfl,?_⟩
  rintro p7 h6 rfl rfl
  have k6:=blk.new h5 (acs ⟨0,nlS,0⟩).toArray 63
  have g6:=Fr.push (fun _=>False) h5 (.cells (acs ⟨0,nlS,0⟩).toArray 63)
  refine stoA_i k6 rfl (vs:=acs a) (one_acs a) fun h7 k7 f7=>?_
  have g7:Grow h2 h7:=g5.trans (g6.trans' f7 fun i hi e=>by omega)
  rw[ea]
  refine⟨fun e=>?_,fun e=>?_⟩
  ·rw[if_pos e]
   refine⟨a.l,a.s,a.k,by rw[k7.cl];rfl,by rw[add_plain,k7.cl];rfl,by rw[add_plain,k7.cl];rfl,?_⟩
   refine (start.grow g7).app (a:=a) (by simp) fun s' h' A _=>?_
   simpa using AOend A
  ·rw[if_neg (by rw[e];simp)]
   exact AOend (start.grow g7)
 refine ifb_iff (q:=I.v.k=6) (by simp) (fun q=>?_) (fun q6=>?_)
 ·rw[if_neg (by omega),if_neg q5,if_pos q]
  refine start.app (a:=⟨0,nlS,2⟩) (by simp) fun s' h' A f=>?_
  have g11:=A.g
  refine⟨fun s n hh=>∃k:Nat,n=k∧1≤k∧k≤lo.n∧AO h (h.size+1) hh s (⟨0,nlS,2⟩ :: (List.range (k - 1)).map fun j:Nat=>⟨((j+1:Nat):Int),nlS,6⟩),fun _ n _=>lo.n - n.toNat,⟨1,rfl,by omega,by omega,by simpa using A⟩,?_⟩
  rintro s _ hh ⟨k,rfl,hk1,hk4,A⟩
  refine⟨_,rfl,ldS_i (s:=lo) (by rw[add_plain,(A.g.blk B fun h=>h).cl];rfl) ?_⟩
  refine ifb_iff (q:=k<lo.n) (by simp) (fun hk=>?_) (fun hk=>?_)
  ·refine A.app (a:=⟨(k:Int),nlS,6⟩) (by simp;omega) fun s' h' A' f=>?_
   rw[wrap_succ (n:=1001) (by omega) (by omega)]
   refine⟨⟨k+1,rfl,by omega,by omega,?_⟩,by simp;omega⟩
   obtain⟨j,rfl⟩:∃j,k=j+1:=⟨k - 1,by omega⟩
   simp only[Nat.add_sub_cancel]
   rw[List.range_succ,List.map_append]
   simpa using A'
  ·obtain rfl:k=lo.n:=by omega
   exact AOend A
 refine ifb_iff (q:=I.v.k=3) (by simp) (fun q=>?_) (fun q3=>?_)
 rotate_left
 ·rw[if_neg q3,if_neg q5,if_neg q6]
  exact AOend start
 rw[if_pos q]
 refine ldS_i (s:=I.v.ra) (T2.nest 4 1 rfl) ?_
 have hon:=x1.ops.len
 have hofew:=x1.few
 refine⟨fun s n hh=>∃k:Nat,n=k∧k≤I.ops.length∧AO h (h.size+1) hh s ((I.ops.take k).flatMap ofV)∧blk hh h.size (ivs I.v),fun _ n _=>I.ops.length - n.toNat,⟨0,rfl,Nat.zero_le _,by simpa using start,b2⟩,?_⟩
 rintro s _ h15 ⟨k,rfl,hk,A,b15⟩
 have hflat:((I.ops.take k).flatMap ofV).length≤1000:=by have:=ofV_flat (I.ops.take k);rw[List.length_take] at this;omega
 refine ifb_iff (q:=k<I.ops.length) (by rw[hon];simp) (fun hlt=>?_) (fun hge=>?_)
 ·refine⟨fun s hh=>AO h (h.size+1) hh s ((I.ops.take (k+1)).flatMap ofV)∧blk hh h.size (ivs I.v),?_,fun s' h' A'=>?_⟩
  ·obtain⟨q,eq,hk',c⟩:=(x1.ops.grow A.g).at_ k hlt
   refine⟨q,eq,by omega,by rw[hon];omega,?_⟩
   rw[Int.toNat_natCast]
   refine⟨I.ops[k].k,I.ops[k].l,I.ops[k].s,I.ops[k].t,I.ops[k].n,c.at0,c 1 _ rfl,c 2 _ rfl,c 3 _ rfl,c 4 _ rfl,?_⟩
   rw[List.take_succ_eq_append_getElem hlt,List.flatMap_append]
   simp only[List.flatMap_cons,List.flatMap_nil,List.append_nil]
   generalize I.ops[k]=o
   rintro p11 h16 rfl rfl
   have k16:=blk.new h15 (ovs ⟨0,0,nlS,0,0⟩).toArray 66
   have g16:=Fr.push (fun _=>False) h15 (.cells (ovs ⟨0,0,nlS,0,0⟩).toArray 66)
   refine stoA_i k16 rfl (vs:=ovs o) (one_ovs o) fun h17 k17 f17=>?_
   have g17:Grow h15 h17:=g16.trans' f17 fun i hi e=>by omega
   refine⟨o.k,o.l,o.s,o.t,o.n,by rw[k17.cl];rfl,by rw[add_plain,k17.cl];rfl,by rw[add_plain,k17.cl];rfl,by rw[add_plain,k17.cl];rfl,by rw[add_plain,k17.cl];rfl,?_⟩
   refine cal_of (of_spec o) ?_
   rintro _ h5 ⟨g5,a,bb,rfl,ea⟩
   refine⟨a.l,a.s,a.k,bb,rfl,?_⟩
   rintro p7 h6 rfl rfl
   have k6:=blk.new h5 (acs ⟨0,nlS,0⟩).toArray 63
   have g6:=Fr.push (fun _=>False) h5 (.cells (acs ⟨0,nlS,0⟩).toArray 63)
   refine stoA_i k6 rfl (vs:=acs a) (one_acs a) fun h7 k7 f7=>?_
   have g7:Grow h15 h7:=g17.trans (g5.trans (g6.trans' f7 fun i hi e=>by omega))
   rw[ea]
   refine⟨fun e=>?_,fun e=>?_⟩
   ·rw[if_pos e]
    refine⟨a.l,a.s,a.k,by rw[k7.cl];rfl,by rw[add_plain,k7.cl];rfl,by rw[add_plain,k7.cl];rfl,?_⟩
    exact (A.grow g7).app (a:=a) (by omega) fun s' h' A' f'=>⟨A',f'.blk (g7.blk b15 fun h=>h) (by omega)⟩
   ·rw[if_neg (by rw[e];simp),List.append_nil]
    exact⟨A.grow g7,g7.blk b15 fun h=>h⟩
  ·rw[wrap_succ hlt (by omega)]
   exact⟨⟨k+1,rfl,hlt,A'.1,A'.2⟩,by simp;omega⟩
 obtain rfl:k=I.ops.length:=by omega
 rw[List.take_length] at A hflat
 have T15:=Iv21.blk b15
 refine⟨fun s hh=>AO h (h.size+1) hh s (I.ops.flatMap ofV++(if I.v.rk=2 then [⟨I.v.rp,I.v.rq,if I.v.rm=true then 3 else 1⟩] else []))∧blk hh h.size (ivs I.v),?_,?_⟩
 ·refine ldI_i (T15 4 _ rfl) ?_
  refine ifb_iff (q:=I.v.rk=2) (by simp) (fun r=>?_) (fun r=>?_)
  ·rw[if_pos r]
   refine⟨fun x=>x=if I.v.rm=true then 3 else 1,ldB_i (T15.nest 4 4 rfl) ⟨fun e=>by rw[if_pos e],fun e=>by rw[e];rfl⟩,?_⟩
   rintro _ rfl
   refine⟨I.v.rp,I.v.rq,T15.nest 4 2 rfl,?_,?_⟩
   ·have:=T15.nest 6 1 (u:=.slice I.v.rq.a I.v.rq.n I.v.rq.c) rfl
    rw[add_add] at this
    rw[add_add,add_add];exact this
   ·exact A.app (a:=⟨I.v.rp,I.v.rq,if I.v.rm=true then 3 else 1⟩) (by omega) fun s' h' A' f'=>⟨A',f'.blk b15 (by omega)⟩
  ·rw[if_neg r,List.append_nil]
   exact⟨A,b15⟩
 rintro s' h26 ⟨A,b26⟩
 have T26:=Iv21.blk b26
 refine⟨I.v.d0,I.v.dp,T26 2 _ rfl,T26.nest 2 1 rfl,?_⟩
 rw[←List.append_assoc]
 refine A.app (a:=⟨I.v.d0,I.v.dp,4⟩) ?_ fun s'' h' A' _=>AOend A'
 rw[List.length_append]
 split<;>simp<;>simp at hflat<;>omega
end
end Go.Proofs.Ytkpahlkendlahaa

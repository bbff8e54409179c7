/- HighNoMore: where the program says that one function does not do for another one, and the types do, there are sets of regions, with all that is known, for which none for the one's own lifetimes will do: proved for every input, with no conditions. -/
import Derived.Test.YteofligmdngdgaaNM2
namespace Go.Proofs.Yteofligmdngdgaa
open Go Go.Lf
set_option linter.unusedVariables false
set_option maxRecDepth 100000
def L32 (r0:Option Addr) (a1:Int) (b2:Int) (h:Heap) (R:Value→Heap→Prop):Prop:=
 ∃J:Bool→Prop,(orr ((decide (a1<0)) || (decide (b2<0))) (fun k=>
  nn r0 fun p19=>
  ldI .i64 h p19 fun x21=>
  k (decide (x21<a1))) J)∧∀x23,J x23 →
 ∃J_1:Bool→Prop,(orr x23 (fun k_1=>
  nn r0 fun p27=>
  ldI .i64 h p27 fun x29=>
  k_1 (decide (x29<b2))) J_1)∧∀x31,J_1 x31 →
 ifb x31 (
  R (Value.bool false) h) (
  nn r0 fun p33=>
  ldI .i64 h p33 fun x35=>
  mkS 3 (Value.int .i64 0).cells 1 8 (IntKind.i64.wrap (x35+1)) (IntKind.i64.wrap (x35+1)) h fun s37 h1=>
  ixS s37 a1 fun q40=>
  sto h1 (q40.add ((a1:Int).toNat*1)) (Value.int .i64 1) fun h2=>
  ∃(I:Int→Heap→Prop) (m:Int→Heap→Nat),I 0 h2∧∀round8 h3,I round8 h3 →
  nn r0 fun p43=>
  ldI .i64 h3 p43 fun x45=>
  ifb (decide (round8≤x45)) (
   ∃(I_1:Int→Heap→Prop) (m_1:Int→Heap→Nat),I_1 0 h3∧∀i9 h4,I_1 i9 h4 →
   nn r0 fun p51=>
   ldS h4 (p51.add 1) fun x53=>
   ifb (decide (i9<((x53.n:Nat):Int))) (
    ∃J_2:Heap→Prop,(
     nn r0 fun p60=>
     ldS h4 (p60.add 1) fun x62=>
     ixS x62 i9 fun q64=>
     ldI .i64 h4 (q64.add ((i9:Int).toNat*2)) fun x66=>
     ixS s37 x66 fun q67=>
     ldI .i64 h4 (q67.add ((x66:Int).toNat*1)) fun x68=>
     ifb (decide (0<x68)) (
      nn r0 fun p72=>
      ldS h4 (p72.add 1) fun x74=>
      ixS x74 i9 fun q76=>
      ldI .i64 h4 ((q76.add ((i9:Int).toNat*2)).add 1) fun x78=>
      ixS s37 x78 fun q79=>
      sto h4 (q79.add ((x78:Int).toNat*1)) (Value.int .i64 1) fun h5=>
      J_2 h5) (
      J_2 h4))∧(∀h6,J_2 h6 →
    I_1 (IntKind.i64.wrap (i9+1)) h6∧m_1 (IntKind.i64.wrap (i9+1)) h6<m_1 i9 h4)) (
    ixS s37 0 fun q81=>
    ldI .i64 h4 q81 fun x82=>
    ifb (decide (0<x82)) (
     R (Value.bool true) h4) (
     I (IntKind.i64.wrap (round8+1)) h4∧m (IntKind.i64.wrap (round8+1)) h4<m round8 h3))) (
   ixS s37 b2 fun q86=>
   ldI .i64 h3 (q86.add ((b2:Int).toNat*1)) fun x87=>
   R (Value.bool (decide (0<x87))) h3))
set_option maxRecDepth 100000 in
theorem F32 {r0 a1 b2 h:_} {R:Value→Heap→Prop} (H:L32 r0 a1 b2 h R):CallsH Try.prog 32 #[Value.pointer r0,Value.int .i64 a1,Value.int .i64 b2] h R:=by
 refine CallsH.enter (n:=89) Try.func32 rfl rfl rfl rfl ?_
 intro w0 aa ww S
 unfold L32 at H
 refine W.seq ?_
 refine W.region ?_
 refine OL.za S fun _ S=>?_
 refine OL.nil ?_
 refine W.seq ?_
 refine W.seq ?_
 refine W.region ?_
 refine OL.zm S fun _ S=>?_
 refine OL.zq S (Lf.run_lss (S.ev rfl) (S.ev rfl)) fun _ S=>?_
 refine OL.zm S fun _ S=>?_
 refine OL.cutN 3 (fun aa ww=>St 89 ((15,Value.bool ((decide (a1<0)) || (decide (b2<0)))) :: [(0,Value.pointer r0),(1,Value.int .i64 a1),(2,Value.int .i64 b2),(10,Value.int .i64 a1),(11,Value.bool (decide (a1<0))),(12,Value.bool (decide (a1<0)))]) h w0 aa ww) ?_ ?_
 ·
  rcases Bool.eq_false_or_eq_true (decide (a1<0)) with hb|hb
  ·
   refine OL.zn S (GNo.mk rfl rfl hb) fun _ S=>?_
   refine OL.zn S (GNo.mk rfl rfl hb) fun _ S=>?_
   refine OL.zq S (Lf.run_pickT (S.ev rfl) hb (S.ev rfl)) fun _ S=>?_
   refine OL.nil ?_
   exact (S.hd (by rw[hb,Bool.true_or])).sub _ ⟨rfl,rfl,rfl,rfl,rfl,rfl,rfl,trivial⟩
  ·
   refine OL.zm (hg:=GOk.mk rfl rfl hb) S fun _ S=>?_
   refine OL.zq (hg:=GOk.mk rfl rfl hb) S (Lf.run_lss (S.ev rfl) (S.ev rfl)) fun _ S=>?_
   refine OL.zq S (Lf.run_pickF (S.ev rfl) hb (S.ev rfl)) fun _ S=>?_
   refine OL.nil ?_
   exact (S.hd (by rw[hb,Bool.false_or])).sub _ ⟨rfl,rfl,rfl,rfl,rfl,rfl,rfl,trivial⟩
 ·
  clear S
  intro aa ww S
  refine OL.zm S fun _ S=>?_
  obtain⟨J,H,HK⟩:=H
  refine OL.cutN 7 (fun aa ww=>∃x23,St 89 ((23,Value.bool x23) :: [(0,Value.pointer r0),(1,Value.int .i64 a1),(2,Value.int .i64 b2),(10,Value.int .i64 a1),(11,Value.bool (decide (a1<0))),(12,Value.bool (decide (a1<0))),(15,Value.bool ((decide (a1<0)) || (decide (b2<0)))),(16,Value.bool ((decide (a1<0)) || (decide (b2<0))))]) h w0 aa ww∧J x23) ?_ ?_
  ·
   rcases Bool.eq_false_or_eq_true ((decide (a1<0)) || (decide (b2<0))) with hb_1|hb_1
   ·
    replace H:=H.1 hb_1
    refine OL.zn S (GNo.mk rfl rfl hb_1) fun _ S=>?_
    refine OL.zn S (GNo.mk rfl rfl hb_1) fun _ S=>?_
    refine OL.zn S (GNo.mk rfl rfl hb_1) fun _ S=>?_
    refine OL.zn S (GNo.mk rfl rfl hb_1) fun _ S=>?_
    refine OL.zn S (GNo.mk rfl rfl hb_1) fun _ S=>?_
    refine OL.zn S (GNo.mk rfl rfl hb_1) fun _ S=>?_
    refine OL.zq S (Lf.run_pickT (S.ev rfl) hb_1 (S.ev rfl)) fun _ S=>?_
    refine OL.nil ?_
    exact⟨_,S.sub _ ⟨rfl,rfl,rfl,rfl,rfl,rfl,rfl,rfl,rfl,trivial⟩,H⟩
   ·
    replace H:=H.2 hb_1
    refine OL.zm (hg:=GOk.mk rfl rfl hb_1) S fun _ S=>?_
    refine OL.zm (hg:=GOk.mk rfl rfl hb_1) S fun _ S=>?_
    obtain⟨p19,e,H⟩:=H
    refine OL.zq (hg:=GOk.mk rfl rfl hb_1) S (Lf.run_nc' (S.ev rfl) e) fun _ S=>?_
    refine OL.zf (hg:=GOk.mk rfl rfl hb_1) S fa54_0 fun _ S=>?_
    obtain⟨x21,c,H⟩:=H
    refine OL.zl (hg:=GOk.mk rfl rfl hb_1) S fl3 c fun _ S=>?_
    refine OL.zq (hg:=GOk.mk rfl rfl hb_1) S (Lf.run_gtr (S.ev rfl) (S.ev rfl)) fun _ S=>?_
    refine OL.zq S (Lf.run_pickF (S.ev rfl) hb_1 (S.ev rfl)) fun _ S=>?_
    refine OL.nil ?_
    exact⟨_,S.sub _ ⟨rfl,rfl,rfl,rfl,rfl,rfl,rfl,rfl,rfl,trivial⟩,H⟩
  ·
   clear S
   rintro aa ww ⟨x23,S,HJ⟩
   replace H:=HK _ HJ
   clear HK HJ
   refine OL.zm S fun _ S=>?_
   obtain⟨J_1,H,HK_1⟩:=H
   refine OL.cutN 7 (fun aa ww=>∃x31,St 89 ((31,Value.bool x31) :: [(0,Value.pointer r0),(1,Value.int .i64 a1),(2,Value.int .i64 b2),(10,Value.int .i64 a1),(11,Value.bool (decide (a1<0))),(12,Value.bool (decide (a1<0))),(15,Value.bool ((decide (a1<0)) || (decide (b2<0)))),(16,Value.bool ((decide (a1<0)) || (decide (b2<0)))),(23,Value.bool x23),(24,Value.bool x23)]) h w0 aa ww∧J_1 x31) ?_ ?_
   ·
    rcases Bool.eq_false_or_eq_true x23 with hb_2|hb_2
    ·
     replace H:=H.1 hb_2
     refine OL.zn S (GNo.mk rfl rfl hb_2) fun _ S=>?_
     refine OL.zn S (GNo.mk rfl rfl hb_2) fun _ S=>?_
     refine OL.zn S (GNo.mk rfl rfl hb_2) fun _ S=>?_
     refine OL.zn S (GNo.mk rfl rfl hb_2) fun _ S=>?_
     refine OL.zn S (GNo.mk rfl rfl hb_2) fun _ S=>?_
     refine OL.zn S (GNo.mk rfl rfl hb_2) fun _ S=>?_
     refine OL.zq S (Lf.run_pickT (S.ev rfl) hb_2 (S.ev rfl)) fun _ S=>?_
     refine OL.nil ?_
     exact⟨_,S.sub _ ⟨rfl,rfl,rfl,rfl,rfl,rfl,rfl,rfl,rfl,rfl,rfl,trivial⟩,H⟩
    ·
     replace H:=H.2 hb_2
     refine OL.zm (hg:=GOk.mk rfl rfl hb_2) S fun _ S=>?_
     refine OL.zm (hg:=GOk.mk rfl rfl hb_2) S fun _ S=>?_
     obtain⟨p27,e_1,H⟩:=H
     refine OL.zq (hg:=GOk.mk rfl rfl hb_2) S (Lf.run_nc' (S.ev rfl) e_1) fun _ S=>?_
     refine OL.zf (hg:=GOk.mk rfl rfl hb_2) S fa54_0 fun _ S=>?_
     obtain⟨x29,c_1,H⟩:=H
     refine OL.zl (hg:=GOk.mk rfl rfl hb_2) S fl3 c_1 fun _ S=>?_
     refine OL.zq (hg:=GOk.mk rfl rfl hb_2) S (Lf.run_gtr (S.ev rfl) (S.ev rfl)) fun _ S=>?_
     refine OL.zq S (Lf.run_pickF (S.ev rfl) hb_2 (S.ev rfl)) fun _ S=>?_
     refine OL.nil ?_
     exact⟨_,S.sub _ ⟨rfl,rfl,rfl,rfl,rfl,rfl,rfl,rfl,rfl,rfl,rfl,trivial⟩,H⟩
   ·
    clear S
    rintro aa ww ⟨x31,S,HJ⟩
    replace H:=HK_1 _ HJ
    clear HK_1 HJ
    refine OL.nil ?_
    refine W.cond S (b:=x31) rfl (fun hb_3=>?_) (fun hb_3=>?_)
    ·
     replace H:=H.1 hb_3
     refine W.seq ?_
     refine W.region ?_
     refine OL.za S fun _ S=>?_
     refine OL.nil ?_
     refine W.ret ?_
     exact Ret.one S rfl rfl H
    ·
     replace H:=H.2 hb_3
     refine W.skip ?_
     refine W.seq ?_
     refine W.region ?_
     refine OL.zm S fun _ S=>?_
     obtain⟨p33,e_2,H⟩:=H
     refine OL.zq S (Lf.run_nc' (S.ev rfl) e_2) fun _ S=>?_
     refine OL.zf S fa54_0 fun _ S=>?_
     obtain⟨x35,c_2,H⟩:=H
     refine OL.zl S fl3 c_2 fun _ S=>?_
     refine OL.zq S (Lf.run_add (S.ev rfl) (S.ev rfl)) fun _ S=>?_
     refine ol_mkS S H Try.underlying25 ti3 rfl rfl rfl trivial ?_
     clear S H;intro s37 aa ww h1 H S
     refine OL.za S fun _ S=>?_
     refine OL.nil ?_
     refine W.seq ?_
     refine W.region ?_
     refine OL.zm S fun _ S=>?_
     refine OL.zm S fun _ S=>?_
     obtain⟨q40,e_3,e_4,e_5,H⟩:=H
     refine OL.zq S (Lf.run_ixs (S.ev rfl) (S.ev rfl) Try.underlying25 ti3 e_3 e_4 e_5) fun _ S=>?_
     refine ol_sto S H rfl rfl rfl ti3 trivial ?_
     clear S H;intro aa ww h2 H S
     refine OL.nil ?_
     refine W.seq ?_
     refine W.seq ?_
     refine W.region ?_
     refine OL.za S fun _ S=>?_
     refine OL.nil ?_
     refine W.block ?_
     obtain⟨I,m,H,HB_1⟩:=H
     refine W.loopS (σ:=Int×Heap) (fun s aa ww=>St 89 [(0,Value.pointer r0),(2,Value.int .i64 b2),(7,Value.slice s37.a s37.n s37.c),(8,Value.int .i64 s.1)] s.2 w0 aa ww∧I s.1 s.2) (fun s=>m s.1 s.2) (0,h2) ⟨S.sub _ ⟨rfl,rfl,rfl,rfl,trivial⟩,H⟩ ?_
     clear H S
     rintro ⟨round8,h3⟩ aa ww ⟨S,HI⟩
     replace S:St 89 [(0,Value.pointer r0),(2,Value.int .i64 b2),(7,Value.slice s37.a s37.n s37.c),(8,Value.int .i64 round8)] h3 w0 aa ww:=S
     have H:=HB_1 round8 h3 HI
     clear HI
     refine W.seq ?_
     refine W.seq ?_
     refine W.region ?_
     refine OL.zm S fun _ S=>?_
     refine OL.zm S fun _ S=>?_
     obtain⟨p43,e_6,H⟩:=H
     refine OL.zq S (Lf.run_nc' (S.ev rfl) e_6) fun _ S=>?_
     refine OL.zf S fa54_0 fun _ S=>?_
     obtain⟨x45,c_3,H⟩:=H
     refine OL.zl S fl3 c_3 fun _ S=>?_
     refine OL.zq S (Lf.run_leq (S.ev rfl) (S.ev rfl)) fun _ S=>?_
     refine OL.nil ?_
     refine W.cond S (b:=(decide (round8≤x45))) rfl (fun hb_4=>?_) (fun hb_4=>?_)
     ·
      replace H:=H.1 hb_4
      refine W.skip ?_
      refine W.seq ?_
      refine W.block ?_
      refine W.seq ?_
      refine W.seq ?_
      refine W.region ?_
      refine OL.za S fun _ S=>?_
      refine OL.nil ?_
      refine W.block ?_
      obtain⟨I_1,m_1,H,HB⟩:=H
      refine W.loopS (σ:=Int×Heap) (fun s aa ww=>St 89 [(0,Value.pointer r0),(2,Value.int .i64 b2),(7,Value.slice s37.a s37.n s37.c),(8,Value.int .i64 round8),(9,Value.int .i64 s.1)] s.2 w0 aa ww∧I_1 s.1 s.2) (fun s=>m_1 s.1 s.2) (0,h3) ⟨S.sub _ ⟨rfl,rfl,rfl,rfl,rfl,trivial⟩,H⟩ ?_
      clear H S
      rintro ⟨i9,h4⟩ aa ww ⟨S,HI⟩
      replace S:St 89 [(0,Value.pointer r0),(2,Value.int .i64 b2),(7,Value.slice s37.a s37.n s37.c),(8,Value.int .i64 round8),(9,Value.int .i64 i9)] h4 w0 aa ww:=S
      have H:=HB i9 h4 HI
      clear HI
      refine W.seq ?_
      refine W.seq ?_
      refine W.region ?_
      refine OL.zm S fun _ S=>?_
      refine OL.zm S fun _ S=>?_
      obtain⟨p51,e_7,H⟩:=H
      refine OL.zq S (Lf.run_nc' (S.ev rfl) e_7) fun _ S=>?_
      refine OL.zf S fa54_1 fun _ S=>?_
      obtain⟨x53,c_4,H⟩:=H
      refine OL.zl S fl22 c_4 fun _ S=>?_
      refine OL.zq S (Lf.run_lens (S.ev rfl) rfl Try.underlying22) fun _ S=>?_
      refine OL.zq S (Lf.run_lss (S.ev rfl) (S.ev rfl)) fun _ S=>?_
      refine OL.nil ?_
      refine W.cond S (b:=(decide (i9<((x53.n:Nat):Int)))) rfl (fun hb_5=>?_) (fun hb_5=>?_)
      ·
       replace H:=H.1 hb_5
       refine W.skip ?_
       obtain⟨J_2,H,HK_2⟩:=H
       refine W.seqJ (fun aa ww=>∃h6,St 89 [(0,Value.pointer r0),(2,Value.int .i64 b2),(7,Value.slice s37.a s37.n s37.c),(8,Value.int .i64 round8),(9,Value.int .i64 i9)] h6 w0 aa ww∧J_2 h6) ?_ ?_
       ·
        clear HK_2
        refine W.block ?_
        refine W.seq ?_
        refine W.region ?_
        refine OL.zm S fun _ S=>?_
        refine OL.zm S fun _ S=>?_
        obtain⟨p60,e_8,H⟩:=H
        refine OL.zq S (Lf.run_nc' (S.ev rfl) e_8) fun _ S=>?_
        refine OL.zf S fa54_1 fun _ S=>?_
        obtain⟨x62,c_5,H⟩:=H
        refine OL.zl S fl22 c_5 fun _ S=>?_
        refine OL.zm S fun _ S=>?_
        obtain⟨q64,e_9,e_10,e_11,H⟩:=H
        refine OL.zq S (Lf.run_ixs (S.ev rfl) (S.ev rfl) Try.underlying22 ti56 e_9 e_10 e_11) fun _ S=>?_
        refine OL.zq S (Lf.run_ixa (S.ev rfl) (S.ev rfl) Try.underlying56 ti3 (by decide) (by decide)) fun _ S=>?_
        obtain⟨x66,c_6,H⟩:=H
        refine OL.zl S fl3 c_6 fun _ S=>?_
        obtain⟨q67,e_14,e_15,e_16,H⟩:=H
        refine OL.zq S (Lf.run_ixs (S.ev rfl) (S.ev rfl) Try.underlying25 ti3 e_14 e_15 e_16) fun _ S=>?_
        obtain⟨x68,c_7,H⟩:=H
        refine OL.zl S fl3 c_7 fun _ S=>?_
        refine OL.zq S (Lf.run_gtr (S.ev rfl) (S.ev rfl)) fun _ S=>?_
        refine OL.nil ?_
        refine W.cond S (b:=(decide (0<x68))) rfl (fun hb_6=>?_) (fun hb_6=>?_)
        ·
         replace H:=H.1 hb_6
         refine W.region ?_
         refine OL.zm S fun _ S=>?_
         refine OL.zm S fun _ S=>?_
         obtain⟨p72,e_17,H⟩:=H
         refine OL.zq S (Lf.run_nc' (S.ev rfl) e_17) fun _ S=>?_
         refine OL.zf S fa54_1 fun _ S=>?_
         obtain⟨x74,c_8,H⟩:=H
         refine OL.zl S fl22 c_8 fun _ S=>?_
         refine OL.zm S fun _ S=>?_
         obtain⟨q76,e_18,e_19,e_20,H⟩:=H
         refine OL.zq S (Lf.run_ixs (S.ev rfl) (S.ev rfl) Try.underlying22 ti56 e_18 e_19 e_20) fun _ S=>?_
         refine OL.zq S (Lf.run_ixa (S.ev rfl) (S.ev rfl) Try.underlying56 ti3 (by decide) (by decide)) fun _ S=>?_
         obtain⟨x78,c_9,H⟩:=H
         refine OL.zl S fl3 c_9 fun _ S=>?_
         obtain⟨q79,e_23,e_24,e_25,H⟩:=H
         refine OL.zq S (Lf.run_ixs (S.ev rfl) (S.ev rfl) Try.underlying25 ti3 e_23 e_24 e_25) fun _ S=>?_
         refine ol_sto S H rfl rfl rfl ti3 trivial ?_
         clear S H;intro aa ww h5 H S
         refine OL.nil ?_
         exact⟨h5,S.sub _ ⟨rfl,rfl,rfl,rfl,rfl,trivial⟩,H⟩
        ·
         replace H:=H.2 hb_6
         refine W.skip ?_
         exact⟨h4,S.sub _ ⟨rfl,rfl,rfl,rfl,rfl,trivial⟩,H⟩
       ·
        clear H S
        rintro aa ww ⟨h6,S,HJ⟩
        have H:=HK_2 _ HJ
        clear HK_2 HJ
        refine W.region ?_
        refine OL.zm S fun _ S=>?_
        refine OL.zq S (Lf.run_add (S.ev rfl) (S.ev rfl)) fun _ S=>?_
        refine OL.za S fun _ S=>?_
        refine OL.nil ?_
        exact⟨((IntKind.i64.wrap (i9+1)),h6),⟨S.sub _ ⟨rfl,rfl,rfl,rfl,rfl,trivial⟩,H.1⟩,H.2⟩
      ·
       replace H:=H.2 hb_5
       refine W.exit_ ?_
       refine xhit ?_
       refine W.seq ?_
       refine W.region ?_
       refine OL.zm S fun _ S=>?_
       obtain⟨q81,e_26,e_27,e_28,H⟩:=H
       refine OL.zq S (Lf.run_ixs (S.ev rfl) (S.ev rfl) Try.underlying25 ti3 e_26 e_27 e_28) fun _ S=>?_
       obtain⟨x82,c_10,H⟩:=H
       refine OL.zl S fl3 c_10 fun _ S=>?_
       refine OL.zq S (Lf.run_gtr (S.ev rfl) (S.ev rfl)) fun _ S=>?_
       refine OL.nil ?_
       refine W.cond S (b:=(decide (0<x82))) rfl (fun hb_7=>?_) (fun hb_7=>?_)
       ·
        replace H:=H.1 hb_7
        refine W.seq ?_
        refine W.region ?_
        refine OL.za S fun _ S=>?_
        refine OL.nil ?_
        refine W.ret ?_
        exact Ret.one S rfl rfl H
       ·
        replace H:=H.2 hb_7
        refine W.skip ?_
        refine W.region ?_
        refine OL.zm S fun _ S=>?_
        refine OL.zq S (Lf.run_add (S.ev rfl) (S.ev rfl)) fun _ S=>?_
        refine OL.za S fun _ S=>?_
        refine OL.nil ?_
        exact⟨((IntKind.i64.wrap (round8+1)),h4),⟨S.sub _ ⟨rfl,rfl,rfl,rfl,trivial⟩,H.1⟩,H.2⟩
     ·
      replace H:=H.2 hb_4
      refine W.exit_ ?_
      refine xhit ?_
      refine W.seq ?_
      refine W.region ?_
      refine OL.zm S fun _ S=>?_
      refine OL.zm S fun _ S=>?_
      obtain⟨q86,e_29,e_30,e_31,H⟩:=H
      refine OL.zq S (Lf.run_ixs (S.ev rfl) (S.ev rfl) Try.underlying25 ti3 e_29 e_30 e_31) fun _ S=>?_
      obtain⟨x87,c_11,H⟩:=H
      refine OL.zl S fl3 c_11 fun _ S=>?_
      refine OL.zq S (Lf.run_gtr (S.ev rfl) (S.ev rfl)) fun _ S=>?_
      refine OL.za S fun _ S=>?_
      refine OL.nil ?_
      refine W.ret ?_
      exact Ret.one S rfl rfl H
def L33 (x0:Int) (x0_1:ByteArray) (x0_2:Bool) (x0_3:Int) (x0_4:Sv) (x0_5:Sv) (needs1:Option Nat) (h:Heap) (R:Value→Heap→Prop):Prop:=
 new 35 #[Value.int .i64 x0,Value.string x0_1,Value.bool x0_2,Value.int .i64 x0_3,Value.slice x0_4.a x0_4.n x0_4.c,Value.slice x0_5.a x0_5.n x0_5.c] h fun p2 h1=>
 ∃J:Sv→Heap→Prop,(
  ldI .i64 h1 p2 fun x11=>
  ifb (x11 == 7) (
   ∃(I:Sv→Int→Heap→Prop) (m:Sv→Int→Heap→Nat),I (⟨none,0,0⟩:Sv) 0 h1∧∀out5 i6 h2,I out5 i6 h2 →
   ldS h2 (p2.add 5) fun x15=>
   ifb (decide (i6<((x15.n:Nat):Int))) (
    ldS h2 (p2.add 5) fun x22=>
    ixS x22 i6 fun q24=>
    ∃(y25:Int) (y25_1:ByteArray) (y25_2:Bool) (y25_3:Int) (y25_4:Sv) (y25_5:Sv),cl h2 (q24.add ((i6:Int).toNat*6))=some (Value.int .i64 y25)∧cl h2 ((q24.add ((i6:Int).toNat*6)).add 1)=some (Value.string y25_1)∧cl h2 ((q24.add ((i6:Int).toNat*6)).add 2)=some (Value.bool y25_2)∧cl h2 ((q24.add ((i6:Int).toNat*6)).add 3)=some (Value.int .i64 y25_3)∧cl h2 ((q24.add ((i6:Int).toNat*6)).add 4)=some (Value.slice y25_4.a y25_4.n y25_4.c)∧cl h2 ((q24.add ((i6:Int).toNat*6)).add 5)=some (Value.slice y25_5.a y25_5.n y25_5.c) ∧
    ∃T:Heap→Heap→Prop,Pre T ∧
    hlI .i64 (T h2) (p2.add 3) fun x28=>
    ∃Fq6:Sv→Nat→Nat→Heap→Prop,(∀x26 lo hi h h',T h h'→Fq6 x26 lo hi h→Fq6 x26 lo hi h') ∧
    ∃Fq9:Sv→Nat→Nat→Heap→Prop,(∀s29 lo hi h h',T h h'→Fq9 s29 lo hi h→Fq9 s29 lo hi h') ∧
    (∀(h3:Heap),T h2 h3 →
     cal Try.prog 52 #[Value.agg #[Value.int .i64 y25,Value.string y25_1,Value.bool y25_2,Value.int .i64 y25_3,Value.slice y25_4.a y25_4.n y25_4.c,Value.slice y25_5.a y25_5.n y25_5.c]] h3 fun u h4=>asS u fun x26=>
     T h3 h4∧Fq6 x26 h3.size h4.size h4) ∧
    (∀(h7:Heap),T h2 h7 →
     newS 3 #[Value.int .i64 x28] 1 h7 fun s29 h8=>
     T h7 h8∧Fq9 s29 h7.size h8.size h8) ∧
    (∀(x26:Sv) (lo6 hi6:Nat) (s29:Sv) (lo9 hi9:Nat) (h11:Heap),T h2 h11→Dis h2.size h11.size [(lo6,hi6),(lo9,hi9)]→Fq6 x26 lo6 hi6 h11→Fq9 s29 lo9 hi9 h11 →
    cal Try.prog 53 #[Value.slice x26.a x26.n x26.c,Value.slice s29.a s29.n s29.c] h11 fun u_2 h12=>asS u_2 fun x30=>
    appS 56 (Value.agg #[Value.int .i64 0,Value.int .i64 0]).cells 2 16 h12 out5 x30 fun s31 h13=>
    I s31 (IntKind.i64.wrap (i6+1)) h13∧m s31 (IntKind.i64.wrap (i6+1)) h13<m out5 i6 h2)) (
    J out5 h2)) (
   J (⟨none,0,0⟩:Sv) h1))∧(∀out5_1 h15,J out5_1 h15 →
 ∃J_1:Sv→Heap→Prop,(
  ldI .i64 h15 p2 fun x33=>
  ifb (x33 == 5) (
   ldT h15 (p2.add 1) fun x37=>
   lkS h15 (Value.map needs1) x37 (Value.slice (⟨none,0,0⟩:Sv).a (⟨none,0,0⟩:Sv).n (⟨none,0,0⟩:Sv).c) fun u_3=>asS u_3 fun x38=>
   ∃(I_1:Sv→Int→Heap→Prop) (m_1:Sv→Int→Heap→Nat),I_1 out5_1 0 h15∧∀out5_2 i8 h16,I_1 out5_2 i8 h16 →
   ifb (decide (i8<((x38.n:Nat):Int))) (
    ∃Sq:Heap→Prop,Sq h16∧(
     ∃(y46:Int) (y46_1:ByteArray) (y46_2:Bool) (y46_3:Int) (y46_4:Sv) (y46_5:Sv),cl h16 p2=some (Value.int .i64 y46)∧cl h16 (p2.add 1)=some (Value.string y46_1)∧cl h16 (p2.add 2)=some (Value.bool y46_2)∧cl h16 (p2.add 3)=some (Value.int .i64 y46_3)∧cl h16 (p2.add 4)=some (Value.slice y46_4.a y46_4.n y46_4.c)∧cl h16 (p2.add 5)=some (Value.slice y46_5.a y46_5.n y46_5.c) ∧
     ixS x38 i8 fun q49=>
     ldI .i64 h16 (q49.add ((i8:Int).toNat*2)) fun x51=>
     ixS x38 i8 fun q56=>
     ∃(y53:Int) (y53_1:ByteArray) (y53_2:Bool) (y53_3:Int) (y53_4:Sv) (y53_5:Sv),hld Sq p2 (Value.int .i64 y53)∧hld Sq (p2.add 1) (Value.string y53_1)∧hld Sq (p2.add 2) (Value.bool y53_2)∧hld Sq (p2.add 3) (Value.int .i64 y53_3)∧hld Sq (p2.add 4) (Value.slice y53_4.a y53_4.n y53_4.c)∧hld Sq (p2.add 5) (Value.slice y53_5.a y53_5.n y53_5.c) ∧
     hlI .i64 Sq ((q56.add ((i8:Int).toNat*2)).add 1) fun x58=>
     cal Try.prog 54 #[Value.agg #[Value.int .i64 y46,Value.string y46_1,Value.bool y46_2,Value.int .i64 y46_3,Value.slice y46_4.a y46_4.n y46_4.c,Value.slice y46_5.a y46_5.n y46_5.c],Value.int .i64 x51] h16 fun u_4 h17=>asS u_4 fun x52=>
     Sq h17 ∧
     cal Try.prog 54 #[Value.agg #[Value.int .i64 y53,Value.string y53_1,Value.bool y53_2,Value.int .i64 y53_3,Value.slice y53_4.a y53_4.n y53_4.c,Value.slice y53_5.a y53_5.n y53_5.c],Value.int .i64 x58] h17 fun u_5 h18=>asS u_5 fun x59=>
     cal Try.prog 53 #[Value.slice x52.a x52.n x52.c,Value.slice x59.a x59.n x59.c] h18 fun u_6 h19=>asS u_6 fun x60=>
     appS 56 (Value.agg #[Value.int .i64 0,Value.int .i64 0]).cells 2 16 h19 out5_2 x60 fun s61 h20=>
     I_1 s61 (IntKind.i64.wrap (i8+1)) h20∧m_1 s61 (IntKind.i64.wrap (i8+1)) h20<m_1 out5_2 i8 h16)) (
    J_1 out5_2 h16)) (
   J_1 out5_1 h15))∧(∀out5_3 h21,J_1 out5_3 h21 →
 ∃(I_2:Sv→Int→Heap→Prop) (m_2:Sv→Int→Heap→Nat),I_2 out5_3 0 h21∧∀out5_4 i9 h22,I_2 out5_4 i9 h22 →
 ldS h22 (p2.add 5) fun x64=>
 ifb (decide (i9<((x64.n:Nat):Int))) (
  ldS h22 (p2.add 5) fun x71=>
  ixS x71 i9 fun q73=>
  ∃(y74:Int) (y74_1:ByteArray) (y74_2:Bool) (y74_3:Int) (y74_4:Sv) (y74_5:Sv),cl h22 (q73.add ((i9:Int).toNat*6))=some (Value.int .i64 y74)∧cl h22 ((q73.add ((i9:Int).toNat*6)).add 1)=some (Value.string y74_1)∧cl h22 ((q73.add ((i9:Int).toNat*6)).add 2)=some (Value.bool y74_2)∧cl h22 ((q73.add ((i9:Int).toNat*6)).add 3)=some (Value.int .i64 y74_3)∧cl h22 ((q73.add ((i9:Int).toNat*6)).add 4)=some (Value.slice y74_4.a y74_4.n y74_4.c)∧cl h22 ((q73.add ((i9:Int).toNat*6)).add 5)=some (Value.slice y74_5.a y74_5.n y74_5.c) ∧
  cal Try.prog 33 #[Value.agg #[Value.int .i64 y74,Value.string y74_1,Value.bool y74_2,Value.int .i64 y74_3,Value.slice y74_4.a y74_4.n y74_4.c,Value.slice y74_5.a y74_5.n y74_5.c],Value.map needs1] h22 fun u_7 h23=>asS u_7 fun x76=>
  appS 56 (Value.agg #[Value.int .i64 0,Value.int .i64 0]).cells 2 16 h23 out5_4 x76 fun s77 h24=>
  I_2 s77 (IntKind.i64.wrap (i9+1)) h24∧m_2 s77 (IntKind.i64.wrap (i9+1)) h24<m_2 out5_4 i9 h22) (
  R (Value.slice out5_4.a out5_4.n out5_4.c) h22)))
set_option maxRecDepth 100000 in
theorem F33 {x0 x0_1 x0_2 x0_3 x0_4 x0_5 needs1 h:_} {R:Value→Heap→Prop} (H:L33 x0 x0_1 x0_2 x0_3 x0_4 x0_5 needs1 h R):CallsH Try.prog 33 #[Value.agg #[Value.int .i64 x0,Value.string x0_1,Value.bool x0_2,Value.int .i64 x0_3,Value.slice x0_4.a x0_4.n x0_4.c,Value.slice x0_5.a x0_5.n x0_5.c],Value.map needs1] h R:=by
 refine CallsH.enter (n:=79) Try.func33 rfl rfl rfl rfl ?_
 intro w0 aa ww S
 unfold L33 at H
 refine W.seq ?_
 refine W.region ?_
 refine ol_box S H rfl rfl rfl trivial ?_
 clear S H;intro p2 aa ww h1 H S
 refine OL.za S fun _ S=>?_
 refine OL.nil ?_
 refine W.seq ?_
 refine W.region ?_
 refine OL.za S fun _ S=>?_
 refine OL.nil ?_
 obtain⟨J,H,HK⟩:=H
 refine W.seqJ (fun aa ww=>∃out5_1 h15,St 79 [(1,Value.map needs1),(2,Value.pointer (some p2)),(5,Value.slice out5_1.a out5_1.n out5_1.c)] h15 w0 aa ww∧J out5_1 h15) ?_ ?_
 ·
  clear HK
  refine W.seq ?_
  refine W.region ?_
  refine OL.zf S fa35_0 fun _ S=>?_
  obtain⟨x11,c,H⟩:=H
  refine OL.zl S fl3 c fun _ S=>?_
  refine OL.zq S (Lf.run_eql (S.ev rfl) (S.ev rfl)) fun _ S=>?_
  refine OL.nil ?_
  refine W.cond S (b:=(x11 == 7)) rfl (fun hb=>?_) (fun hb=>?_)
  ·
   replace H:=H.1 hb
   refine W.seq ?_
   refine W.region ?_
   refine OL.za S fun _ S=>?_
   refine OL.nil ?_
   refine W.block ?_
   obtain⟨I,m,H,HB⟩:=H
   refine W.loopS (σ:=Sv×Int×Heap) (fun s aa ww=>St 79 [(1,Value.map needs1),(2,Value.pointer (some p2)),(5,Value.slice s.1.a s.1.n s.1.c),(6,Value.int .i64 s.2.1)] s.2.2 w0 aa ww∧I s.1 s.2.1 s.2.2) (fun s=>m s.1 s.2.1 s.2.2) ((⟨none,0,0⟩:Sv),0,h1) ⟨S.sub _ ⟨rfl,rfl,rfl,rfl,trivial⟩,H⟩ ?_
   clear H S
   rintro ⟨out5,i6,h2⟩ aa ww ⟨S,HI⟩
   replace S:St 79 [(1,Value.map needs1),(2,Value.pointer (some p2)),(5,Value.slice out5.a out5.n out5.c),(6,Value.int .i64 i6)] h2 w0 aa ww:=S
   have H:=HB out5 i6 h2 HI
   clear HI
   refine W.seq ?_
   refine W.seq ?_
   refine W.region ?_
   refine OL.zm S fun _ S=>?_
   refine OL.zf S fa35_5 fun _ S=>?_
   obtain⟨x15,c_1,H⟩:=H
   refine OL.zl S fl24 c_1 fun _ S=>?_
   refine OL.zq S (Lf.run_lens (S.ev rfl) rfl Try.underlying24) fun _ S=>?_
   refine OL.zq S (Lf.run_lss (S.ev rfl) (S.ev rfl)) fun _ S=>?_
   refine OL.nil ?_
   refine W.cond S (b:=(decide (i6<((x15.n:Nat):Int)))) rfl (fun hb_1=>?_) (fun hb_1=>?_)
   ·
    replace H:=H.1 hb_1
    refine W.skip ?_
    refine W.seq ?_
    refine W.block ?_
    replace S:=S.sub [(1,Value.map needs1),(2,Value.pointer (some p2)),(5,Value.slice out5.a out5.n out5.c),(6,Value.int .i64 i6)] ⟨rfl,rfl,rfl,rfl,trivial⟩
    refine W.regionD S (by kernel_rfl) ?_
    clear S;intro ww S
    refine AN.zq 0 S rfl (fun _=>Lf.run_move (S.ev rfl)) fun _ S=>?_
    refine AN.zq 1 S rfl (fun _=>Lf.run_fa (S.ev rfl) fa35_5) fun _ S=>?_
    obtain⟨x22,c_2,H⟩:=H
    refine AN.zl 2 S rfl (fun _ hx=>Lf.run_ld (S.ev rfl) fl24 (hx.cell _ _ (S.cl c_2))) fun _ S=>?_
    refine AN.zq 3 S rfl (fun _=>Lf.run_move (S.ev rfl)) fun _ S=>?_
    obtain⟨q24,e,e_1,e_2,H⟩:=H
    refine AN.zq 4 S rfl (fun _=>Lf.run_ixs (S.ev rfl) (S.ev rfl) Try.underlying24 ti35 e e_1 e_2) fun _ S=>?_
    obtain⟨y25,y25_1,y25_2,y25_3,y25_4,y25_5,c_5,c_6,c_7,c_8,c_9,c_10,H⟩:=H
    refine AN.zl 5 S rfl (fun _ hx=>Lf.run_ldA (cs:=[Value.int .i64 y25,Value.string y25_1,Value.bool y25_2,Value.int .i64 y25_3,Value.slice y25_4.a y25_4.n y25_4.c,Value.slice y25_5.a y25_5.n y25_5.c]) (S.ev rfl) ag35 ti35 (hx.row (S.row ⟨c_5,c_6,c_7,c_8,c_9,c_10,trivial⟩))) fun _ S=>?_
    refine AN.zq 7 S rfl (fun _=>Lf.run_fa (S.ev rfl) fa35_3) fun _ S=>?_
    obtain⟨T,hT,H⟩:=H
    obtain⟨x28,c_4,H⟩:=H
    obtain⟨Fq6,sq,H⟩:=H
    obtain⟨Fq9,sq_1,H⟩:=H
    obtain⟨Oq,Oq_1,H⟩:=H
    let gq6:GOp:=⟨6,26,true,[6],fun lq=>Value.slice (pS (nth lq 0)).a (pS (nth lq 0)).n (pS (nth lq 0)).c,fun lq lo hi h=>Fq6 (pS (nth lq 0)) lo hi h⟩
    let gq8:GOp:=⟨8,28,false,[8],fun lq=>Value.int .i64 x28,fun _ _ _ _=>True⟩
    let gq9:GOp:=⟨9,29,true,[9],fun lq=>Value.slice (pS (nth lq 0)).a (pS (nth lq 0)).n (pS (nth lq 0)).c,fun lq lo hi h=>Fq9 (pS (nth lq 0)) lo hi h⟩
    replace S:=S.sub [(1,Value.map needs1),(2,Value.pointer (some p2)),(5,Value.slice out5.a out5.n out5.c),(6,Value.int .i64 i6),(20,Value.slice out5.a out5.n out5.c),(21,Value.pointer (some (p2.add 5))),(22,Value.slice x22.a x22.n x22.c),(23,Value.int .i64 i6),(24,Value.pointer (some (q24.add ((i6:Int).toNat*6)))),(25,Value.agg #[Value.int .i64 y25,Value.string y25_1,Value.bool y25_2,Value.int .i64 y25_3,Value.slice y25_4.a y25_4.n y25_4.c,Value.slice y25_5.a y25_5.n y25_5.c]),(27,Value.pointer (some (p2.add 3)))] ⟨rfl,rfl,rfl,rfl,rfl,rfl,rfl,rfl,rfl,rfl,rfl,trivial⟩
    refine AN.group (fuel:=3) T hT [(gq6,[]),(gq8,[]),(gq9,[gq8])] [(6,26,[6],[]),(8,28,[8],[]),(9,29,[9],[8])] [1,2,5,6,20,21,22,23,24,25,27] S rfl rfl (by kernel_rfl) (by simp) ⟨?_,?_,?_,trivial⟩ ?_
    ·
     refine⟨_,rfl,rfl,fun _ _ _ _ _ ht hf=>sq _ _ _ _ _ ht hf,?_⟩
     intro Xg Bg aa ww h5 Ef S hTg hok
     replace S:St 79 ((1,Value.map needs1) :: (2,Value.pointer (some p2)) :: (5,Value.slice out5.a out5.n out5.c) :: (6,Value.int .i64 i6) :: (20,Value.slice out5.a out5.n out5.c) :: (21,Value.pointer (some (p2.add 5))) :: (22,Value.slice x22.a x22.n x22.c) :: (23,Value.int .i64 i6) :: (24,Value.pointer (some (q24.add ((i6:Int).toNat*6)))) :: (25,Value.agg #[Value.int .i64 y25,Value.string y25_1,Value.bool y25_2,Value.int .i64 y25_3,Value.slice y25_4.a y25_4.n y25_4.c,Value.slice y25_5.a y25_5.n y25_5.c]) :: (27,Value.pointer (some (p2.add 3))) :: Ef) h5 w0 aa ww:=S
     have H:=Oq h5 hTg
     refine ol_cal S H isfn52 rfl rfl trivial ?_
     clear S H;intro u_1 aa ww h6 H S
     obtain⟨x26_1,rfl,H⟩:=H
     refine OL.nil ?_
     exact⟨Value.slice x26_1.a x26_1.n x26_1.c,_,S,H.1,H.2⟩
    ·
     refine⟨_,rfl,rfl,fun _ _ _ _ _ _ _=>trivial,?_⟩
     intro Xg Bg aa ww h14 Ef S hTg hok
     replace S:St 79 ((1,Value.map needs1) :: (2,Value.pointer (some p2)) :: (5,Value.slice out5.a out5.n out5.c) :: (6,Value.int .i64 i6) :: (20,Value.slice out5.a out5.n out5.c) :: (21,Value.pointer (some (p2.add 5))) :: (22,Value.slice x22.a x22.n x22.c) :: (23,Value.int .i64 i6) :: (24,Value.pointer (some (q24.add ((i6:Int).toNat*6)))) :: (25,Value.agg #[Value.int .i64 y25,Value.string y25_1,Value.bool y25_2,Value.int .i64 y25_3,Value.slice y25_4.a y25_4.n y25_4.c,Value.slice y25_5.a y25_5.n y25_5.c]) :: (27,Value.pointer (some (p2.add 3))) :: Ef) h14 w0 aa ww:=S
     refine OL.zq S (Lf.run_ld (S.ev rfl) fl3 (S.cl (c_4 _ hTg))) fun _ S=>?_
     refine OL.nil ?_
     exact⟨undef,_,S,hT.refl _,trivial⟩
    ·
     refine⟨_,rfl,rfl,fun _ _ _ _ _ ht hf=>sq_1 _ _ _ _ _ ht hf,?_⟩
     intro Xg Bg aa ww h9 Ef S hTg hok
     obtain⟨kq8,-⟩:=hok
     replace S:St 79 ((28,Value.int .i64 x28) :: (1,Value.map needs1) :: (2,Value.pointer (some p2)) :: (5,Value.slice out5.a out5.n out5.c) :: (6,Value.int .i64 i6) :: (20,Value.slice out5.a out5.n out5.c) :: (21,Value.pointer (some (p2.add 5))) :: (22,Value.slice x22.a x22.n x22.c) :: (23,Value.int .i64 i6) :: (24,Value.pointer (some (q24.add ((i6:Int).toNat*6)))) :: (25,Value.agg #[Value.int .i64 y25,Value.string y25_1,Value.bool y25_2,Value.int .i64 y25_3,Value.slice y25_4.a y25_4.n y25_4.c,Value.slice y25_5.a y25_5.n y25_5.c]) :: (27,Value.pointer (some (p2.add 3))) :: Ef) h9 w0 aa ww:=S
     have H:=Oq_1 h9 hTg
     refine ol_newS S H Try.underlying25 ti3 (by decide) (parts_map S rfl) (by kernel_rfl) (by decide) rfl trivial ?_
     clear S H;intro s29_1 aa ww h10 H S
     refine OL.nil ?_
     exact⟨Value.slice s29_1.a s29_1.n s29_1.c,_,S,H.1,H.2⟩
    clear S
    intro Xg Bg aa ww h11 S hTg hok hdis
    obtain⟨kq6,kq8,kq9,-⟩:=hok
    replace H:=H (pS (Xg 6)) (Bg 6).1 (Bg 6).2 (pS (Xg 9)) (Bg 9).1 (Bg 9).2 h11 hTg hdis kq6 kq9
    replace S:=S.sub [(1,Value.map needs1),(2,Value.pointer (some p2)),(5,Value.slice out5.a out5.n out5.c),(6,Value.int .i64 i6),(20,Value.slice out5.a out5.n out5.c),(21,Value.pointer (some (p2.add 5))),(22,Value.slice x22.a x22.n x22.c),(23,Value.int .i64 i6),(24,Value.pointer (some (q24.add ((i6:Int).toNat*6)))),(25,Value.agg #[Value.int .i64 y25,Value.string y25_1,Value.bool y25_2,Value.int .i64 y25_3,Value.slice y25_4.a y25_4.n y25_4.c,Value.slice y25_5.a y25_5.n y25_5.c]),(26,Value.slice (pS (Xg 6)).a (pS (Xg 6)).n (pS (Xg 6)).c),(27,Value.pointer (some (p2.add 3))),(28,Value.int .i64 x28),(29,Value.slice (pS (Xg 9)).a (pS (Xg 9)).n (pS (Xg 9)).c)] ⟨rfl,rfl,rfl,rfl,rfl,rfl,rfl,rfl,rfl,rfl,rfl,rfl,rfl,rfl,trivial⟩
    generalize (pS (Xg 6))=x26 at H S
    generalize (pS (Xg 9))=s29 at H S
    generalize Bg 6=bq6 at H
    generalize Bg 9=bq9 at H
    clear hTg hdis kq9 kq8 kq6 gq9 gq8 gq6 Oq Oq_1 sq sq_1
    refine AN.eff 10 rfl (by kernel_rfl) ?_
    refine ol_cal S H isfn53 rfl rfl trivial ?_
    clear S H;intro u_2 aa ww h12 H S
    obtain⟨x30,rfl,H⟩:=H
    refine OL.nil ?_
    refine AN.eff 11 rfl (by kernel_rfl) ?_
    refine ol_appS S H Try.underlying22 ti56 rfl rfl rfl trivial ?_
    clear S H;intro s31 aa ww h13 H S
    refine OL.nil ?_
    refine AN.zq 12 S rfl (fun _=>Lf.run_assign (S.ev rfl)) fun _ S=>?_
    refine AN.done (by kernel_rfl) ?_
    refine W.region ?_
    refine OL.zm S fun _ S=>?_
    refine OL.zq S (Lf.run_add (S.ev rfl) (S.ev rfl)) fun _ S=>?_
    refine OL.za S fun _ S=>?_
    refine OL.nil ?_
    exact⟨(s31,(IntKind.i64.wrap (i6+1)),h13),⟨S.sub _ ⟨rfl,rfl,rfl,rfl,trivial⟩,H.1⟩,H.2⟩
   ·
    replace H:=H.2 hb_1
    refine W.exit_ ?_
    refine xhit ?_
    exact⟨out5,h2,S.sub _ ⟨rfl,rfl,rfl,trivial⟩,H⟩
  ·
   replace H:=H.2 hb
   refine W.skip ?_
   exact⟨(⟨none,0,0⟩:Sv),h1,S.sub _ ⟨rfl,rfl,rfl,trivial⟩,H⟩
 ·
  clear H S
  rintro aa ww ⟨out5_1,h15,S,HJ⟩
  have H:=HK _ _ HJ
  clear HK HJ
  obtain⟨J_1,H,HK_1⟩:=H
  refine W.seqJ (fun aa ww=>∃out5_3 h21,St 79 [(1,Value.map needs1),(2,Value.pointer (some p2)),(5,Value.slice out5_3.a out5_3.n out5_3.c)] h21 w0 aa ww∧J_1 out5_3 h21) ?_ ?_
  ·
   clear HK_1
   refine W.seq ?_
   refine W.region ?_
   refine OL.zf S fa35_0 fun _ S=>?_
   obtain⟨x33,c_11,H⟩:=H
   refine OL.zl S fl3 c_11 fun _ S=>?_
   refine OL.zq S (Lf.run_eql (S.ev rfl) (S.ev rfl)) fun _ S=>?_
   refine OL.nil ?_
   refine W.cond S (b:=(x33 == 5)) rfl (fun hb_2=>?_) (fun hb_2=>?_)
   ·
    replace H:=H.1 hb_2
    refine W.seq ?_
    refine W.region ?_
    refine OL.zm S fun _ S=>?_
    refine OL.zf S fa35_1 fun _ S=>?_
    obtain⟨x37,c_12,H⟩:=H
    refine OL.zl S fl9 c_12 fun _ S=>?_
    refine ol_lkS S H Try.underlying31 Try.underlying9 ti22 rfl rfl rfl trivial ?_
    clear S H;intro u_3 aa H S
    obtain⟨x38,rfl,H⟩:=H
    refine OL.za S fun _ S=>?_
    refine OL.nil ?_
    refine W.seq ?_
    refine W.region ?_
    refine OL.za S fun _ S=>?_
    refine OL.nil ?_
    refine W.block ?_
    obtain⟨I_1,m_1,H,HB_1⟩:=H
    refine W.loopS (σ:=Sv×Int×Heap) (fun s aa ww=>St 79 [(1,Value.map needs1),(2,Value.pointer (some p2)),(5,Value.slice s.1.a s.1.n s.1.c),(7,Value.slice x38.a x38.n x38.c),(8,Value.int .i64 s.2.1)] s.2.2 w0 aa ww∧I_1 s.1 s.2.1 s.2.2) (fun s=>m_1 s.1 s.2.1 s.2.2) (out5_1,0,h15) ⟨S.sub _ ⟨rfl,rfl,rfl,rfl,rfl,trivial⟩,H⟩ ?_
    clear H S
    rintro ⟨out5_2,i8,h16⟩ aa ww ⟨S,HI⟩
    replace S:St 79 [(1,Value.map needs1),(2,Value.pointer (some p2)),(5,Value.slice out5_2.a out5_2.n out5_2.c),(7,Value.slice x38.a x38.n x38.c),(8,Value.int .i64 i8)] h16 w0 aa ww:=S
    have H:=HB_1 out5_2 i8 h16 HI
    clear HI
    refine W.seq ?_
    refine W.seq ?_
    refine W.region ?_
    refine OL.zm S fun _ S=>?_
    refine OL.zm S fun _ S=>?_
    refine OL.zq S (Lf.run_lens (S.ev rfl) rfl Try.underlying22) fun _ S=>?_
    refine OL.zq S (Lf.run_lss (S.ev rfl) (S.ev rfl)) fun _ S=>?_
    refine OL.nil ?_
    refine W.cond S (b:=(decide (i8<((x38.n:Nat):Int)))) rfl (fun hb_3=>?_) (fun hb_3=>?_)
    ·
     replace H:=H.1 hb_3
     refine W.skip ?_
     refine W.seq ?_
     refine W.block ?_
     replace S:=S.sub [(1,Value.map needs1),(2,Value.pointer (some p2)),(5,Value.slice out5_2.a out5_2.n out5_2.c),(7,Value.slice x38.a x38.n x38.c),(8,Value.int .i64 i8)] ⟨rfl,rfl,rfl,rfl,rfl,trivial⟩
     obtain⟨Sq,HS,H⟩:=H
     refine W.regionN [8,13] [7,14,15,16] Sq S (by kernel_rfl) ?_
     clear S;intro ww S
     refine BN.pure 0 S (fun _=>HS) rfl (by kernel_rfl) (by kernel_rfl) (fun _=>Lf.run_move (S.ev rfl)) rfl rfl trivial fun _ S=>?_
     obtain⟨y46,y46_1,y46_2,y46_3,y46_4,y46_5,c_23,c_24,c_25,c_26,c_27,c_28,H⟩:=H
     refine BN.load 1 S (fun _=>HS) rfl (by kernel_rfl) (by kernel_rfl) (fun _ hx=>Lf.run_ldA (cs:=[Value.int .i64 y46,Value.string y46_1,Value.bool y46_2,Value.int .i64 y46_3,Value.slice y46_4.a y46_4.n y46_4.c,Value.slice y46_5.a y46_5.n y46_5.c]) (S.ev rfl) ag35 ti35 (hx.row (S.row ⟨c_23,c_24,c_25,c_26,c_27,c_28,trivial⟩))) rfl rfl trivial fun _ S=>?_
     refine BN.pure 2 S (fun _=>HS) rfl (by kernel_rfl) (by kernel_rfl) (fun _=>Lf.run_move (S.ev rfl)) rfl rfl trivial fun _ S=>?_
     refine BN.pure 3 S (fun _=>HS) rfl (by kernel_rfl) (by kernel_rfl) (fun _=>Lf.run_move (S.ev rfl)) rfl rfl trivial fun _ S=>?_
     obtain⟨q49,e_3,e_4,e_5,H⟩:=H
     refine BN.pure 4 S (fun _=>HS) rfl (by kernel_rfl) (by kernel_rfl) (fun _=>Lf.run_ixs (S.ev rfl) (S.ev rfl) Try.underlying22 ti56 e_3 e_4 e_5) rfl rfl trivial fun _ S=>?_
     refine BN.pure 5 S (fun _=>HS) rfl (by kernel_rfl) (by kernel_rfl) (fun _=>Lf.run_ixa (S.ev rfl) (S.ev rfl) Try.underlying56 ti3 (by decide) (by decide)) rfl rfl trivial fun _ S=>?_
     obtain⟨x51,c_14,H⟩:=H
     refine BN.load 6 S (fun _=>HS) rfl (by kernel_rfl) (by kernel_rfl) (fun _ hx=>Lf.run_ld (S.ev rfl) fl3 (hx.cell _ _ (S.cl c_14))) rfl rfl trivial fun _ S=>?_
     refine BN.pure 9 S (fun _=>HS) rfl (by kernel_rfl) (by kernel_rfl) (fun _=>Lf.run_move (S.ev rfl)) rfl rfl trivial fun _ S=>?_
     refine BN.pure 10 S (fun _=>HS) rfl (by kernel_rfl) (by kernel_rfl) (fun _=>Lf.run_move (S.ev rfl)) rfl rfl trivial fun _ S=>?_
     obtain⟨q56,e_8,e_9,e_10,H⟩:=H
     refine BN.pure 11 S (fun _=>HS) rfl (by kernel_rfl) (by kernel_rfl) (fun _=>Lf.run_ixs (S.ev rfl) (S.ev rfl) Try.underlying22 ti56 e_8 e_9 e_10) rfl rfl trivial fun _ S=>?_
     refine BN.pure 12 S (fun _=>HS) rfl (by kernel_rfl) (by kernel_rfl) (fun _=>Lf.run_ixa (S.ev rfl) (S.ev rfl) Try.underlying56 ti3 (by decide) (by decide)) rfl rfl trivial fun _ S=>?_
     obtain⟨y53,y53_1,y53_2,y53_3,y53_4,y53_5,c_17,c_18,c_19,c_20,c_21,c_22,H⟩:=H
     refine BN.held 8 S HS rfl (by kernel_rfl) (fun _ hq=>Lf.run_ldA (cs:=[Value.int .i64 y53,Value.string y53_1,Value.bool y53_2,Value.int .i64 y53_3,Value.slice y53_4.a y53_4.n y53_4.c,Value.slice y53_5.a y53_5.n y53_5.c]) (S.ev rfl) ag35 ti35 (hlRow hq fun h_ hs_=>⟨c_17 h_ hs_,c_18 h_ hs_,c_19 h_ hs_,c_20 h_ hs_,c_21 h_ hs_,c_22 h_ hs_,trivial⟩)) rfl rfl trivial fun _ S=>?_
     obtain⟨x58,c_16,H⟩:=H
     refine BN.held 13 S HS rfl (by kernel_rfl) (fun _ hq=>Lf.run_ld (S.ev rfl) fl3 (c_16 _ hq)) rfl rfl trivial fun _ S=>?_
     refine BN.eff 7 rfl (by kernel_rfl) ?_
     refine ol_cal S H isfn54 rfl rfl trivial ?_
     clear S H;intro u_4 aa ww h17 H S
     obtain⟨x52,rfl,H⟩:=H
     refine OL.nil ?_
     clear HS;obtain⟨HS,H⟩:=H
     refine⟨fun _=>by rw[S.heap];exact HS,?_⟩
     refine BN.eff 14 rfl (by kernel_rfl) ?_
     refine ol_cal S H isfn54 rfl rfl trivial ?_
     clear S H;intro u_5 aa ww h18 H S
     obtain⟨x59,rfl,H⟩:=H
     refine OL.nil ?_
     refine⟨noNeed (by kernel_rfl),?_⟩
     refine BN.eff 15 rfl (by kernel_rfl) ?_
     refine ol_cal S H isfn53 rfl rfl trivial ?_
     clear S H;intro u_6 aa ww h19 H S
     obtain⟨x60,rfl,H⟩:=H
     refine OL.nil ?_
     refine⟨noNeed (by kernel_rfl),?_⟩
     refine BN.eff 16 rfl (by kernel_rfl) ?_
     refine ol_appS S H Try.underlying22 ti56 rfl rfl rfl trivial ?_
     clear S H;intro s61 aa ww h20 H S
     refine OL.nil ?_
     refine⟨noNeed (by kernel_rfl),?_⟩
     refine BN.pure 17 S (noNeed (by kernel_rfl)) rfl (by kernel_rfl) (by kernel_rfl) (fun _=>Lf.run_assign (S.ev rfl)) rfl rfl trivial fun _ S=>?_
     refine BN.done (by kernel_rfl) ?_
     refine W.region ?_
     refine OL.zm S fun _ S=>?_
     refine OL.zq S (Lf.run_add (S.ev rfl) (S.ev rfl)) fun _ S=>?_
     refine OL.za S fun _ S=>?_
     refine OL.nil ?_
     exact⟨(s61,(IntKind.i64.wrap (i8+1)),h20),⟨S.sub _ ⟨rfl,rfl,rfl,rfl,rfl,trivial⟩,H.1⟩,H.2⟩
    ·
     replace H:=H.2 hb_3
     refine W.exit_ ?_
     refine xhit ?_
     exact⟨out5_2,h16,S.sub _ ⟨rfl,rfl,rfl,trivial⟩,H⟩
   ·
    replace H:=H.2 hb_2
    refine W.skip ?_
    exact⟨out5_1,h15,S.sub _ ⟨rfl,rfl,rfl,trivial⟩,H⟩
  ·
   clear H S
   rintro aa ww ⟨out5_3,h21,S,HJ⟩
   have H:=HK_1 _ _ HJ
   clear HK_1 HJ
   refine W.seq ?_
   refine W.seq ?_
   refine W.region ?_
   refine OL.za S fun _ S=>?_
   refine OL.nil ?_
   refine W.block ?_
   obtain⟨I_2,m_2,H,HB_2⟩:=H
   refine W.loopS (σ:=Sv×Int×Heap) (fun s aa ww=>St 79 [(1,Value.map needs1),(2,Value.pointer (some p2)),(5,Value.slice s.1.a s.1.n s.1.c),(9,Value.int .i64 s.2.1)] s.2.2 w0 aa ww∧I_2 s.1 s.2.1 s.2.2) (fun s=>m_2 s.1 s.2.1 s.2.2) (out5_3,0,h21) ⟨S.sub _ ⟨rfl,rfl,rfl,rfl,trivial⟩,H⟩ ?_
   clear H S
   rintro ⟨out5_4,i9,h22⟩ aa ww ⟨S,HI⟩
   replace S:St 79 [(1,Value.map needs1),(2,Value.pointer (some p2)),(5,Value.slice out5_4.a out5_4.n out5_4.c),(9,Value.int .i64 i9)] h22 w0 aa ww:=S
   have H:=HB_2 out5_4 i9 h22 HI
   clear HI
   refine W.seq ?_
   refine W.seq ?_
   refine W.region ?_
   refine OL.zm S fun _ S=>?_
   refine OL.zf S fa35_5 fun _ S=>?_
   obtain⟨x64,c_29,H⟩:=H
   refine OL.zl S fl24 c_29 fun _ S=>?_
   refine OL.zq S (Lf.run_lens (S.ev rfl) rfl Try.underlying24) fun _ S=>?_
   refine OL.zq S (Lf.run_lss (S.ev rfl) (S.ev rfl)) fun _ S=>?_
   refine OL.nil ?_
   refine W.cond S (b:=(decide (i9<((x64.n:Nat):Int)))) rfl (fun hb_4=>?_) (fun hb_4=>?_)
   ·
    replace H:=H.1 hb_4
    refine W.skip ?_
    refine W.seq ?_
    refine W.block ?_
    refine W.region ?_
    refine OL.zm S fun _ S=>?_
    refine OL.zf S fa35_5 fun _ S=>?_
    obtain⟨x71,c_30,H⟩:=H
    refine OL.zl S fl24 c_30 fun _ S=>?_
    refine OL.zm S fun _ S=>?_
    obtain⟨q73,e_13,e_14,e_15,H⟩:=H
    refine OL.zq S (Lf.run_ixs (S.ev rfl) (S.ev rfl) Try.underlying24 ti35 e_13 e_14 e_15) fun _ S=>?_
    obtain⟨y74,y74_1,y74_2,y74_3,y74_4,y74_5,c_32,c_33,c_34,c_35,c_36,c_37,H⟩:=H
    refine OL.zq S (Lf.run_ldA (cs:=[Value.int .i64 y74,Value.string y74_1,Value.bool y74_2,Value.int .i64 y74_3,Value.slice y74_4.a y74_4.n y74_4.c,Value.slice y74_5.a y74_5.n y74_5.c]) (S.ev rfl) ag35 ti35 (by rw[S.heap];exact RowL.toRow ⟨c_32,c_33,c_34,c_35,c_36,c_37,trivial⟩)) fun _ S=>?_
    refine OL.zm S fun _ S=>?_
    refine ol_cal S H isfn33 rfl rfl trivial ?_
    clear S H;intro u_7 aa ww h23 H S
    obtain⟨x76,rfl,H⟩:=H
    refine ol_appS S H Try.underlying22 ti56 rfl rfl rfl trivial ?_
    clear S H;intro s77 aa ww h24 H S
    refine OL.za S fun _ S=>?_
    refine OL.nil ?_
    refine W.region ?_
    refine OL.zm S fun _ S=>?_
    refine OL.zq S (Lf.run_add (S.ev rfl) (S.ev rfl)) fun _ S=>?_
    refine OL.za S fun _ S=>?_
    refine OL.nil ?_
    exact⟨(s77,(IntKind.i64.wrap (i9+1)),h24),⟨S.sub _ ⟨rfl,rfl,rfl,rfl,trivial⟩,H.1⟩,H.2⟩
   ·
    replace H:=H.2 hb_4
    refine W.exit_ ?_
    refine xhit ?_
    refine W.seq ?_
    refine W.region ?_
    refine OL.zm S fun _ S=>?_
    refine OL.za S fun _ S=>?_
    refine OL.nil ?_
    refine W.ret ?_
    exact Ret.one S rfl rfl H
def L34 (a0:Int) (a0_1:ByteArray) (a0_2:Bool) (a0_3:Int) (a0_4:Sv) (a0_5:Sv) (b1:Int) (b1_1:ByteArray) (b1_2:Bool) (b1_3:Int) (b1_4:Sv) (b1_5:Sv) (h:Heap) (R:Value→Heap→Prop):Prop:=
 new 35 #[Value.int .i64 a0,Value.string a0_1,Value.bool a0_2,Value.int .i64 a0_3,Value.slice a0_4.a a0_4.n a0_4.c,Value.slice a0_5.a a0_5.n a0_5.c] h fun p2 h1=>
 new 35 #[Value.int .i64 b1,Value.string b1_1,Value.bool b1_2,Value.int .i64 b1_3,Value.slice b1_4.a b1_4.n b1_4.c,Value.slice b1_5.a b1_5.n b1_5.c] h1 fun p3 h2=>
 ∃J:Bool→Heap→Prop,(
  ∃Sq:Heap→Prop,Sq h2∧(
   ldI .i64 h2 p2 fun x7=>
   ldI .i64 h2 p3 fun x9=>
   ifb (x7 != x9) (
    J true h2) (
    ldT h2 (p2.add 1) fun x13=>
    ldT h2 (p3.add 1) fun x15=>
    ifb (x13.toList != x15.toList) (
     J true h2) (
     ldB h2 (p2.add 2) fun x20=>
     ldB h2 (p3.add 2) fun x22=>
     ifb (x20 != x22) (
      J true h2) (
      hlS Sq (p2.add 5) fun x27=>
      ldS h2 (p3.add 5) fun x30=>
      ifb (((x27.n:Nat):Int) != ((x30.n:Nat):Int)) (
       J true h2) (
       ∃(y35:Int) (y35_1:ByteArray) (y35_2:Bool) (y35_3:Int) (y35_4:Sv) (y35_5:Sv),cl h2 p2=some (Value.int .i64 y35)∧cl h2 (p2.add 1)=some (Value.string y35_1)∧cl h2 (p2.add 2)=some (Value.bool y35_2)∧cl h2 (p2.add 3)=some (Value.int .i64 y35_3)∧cl h2 (p2.add 4)=some (Value.slice y35_4.a y35_4.n y35_4.c)∧cl h2 (p2.add 5)=some (Value.slice y35_5.a y35_5.n y35_5.c) ∧
       ∃(y38:Int) (y38_1:ByteArray) (y38_2:Bool) (y38_3:Int) (y38_4:Sv) (y38_5:Sv),hld Sq p3 (Value.int .i64 y38)∧hld Sq (p3.add 1) (Value.string y38_1)∧hld Sq (p3.add 2) (Value.bool y38_2)∧hld Sq (p3.add 3) (Value.int .i64 y38_3)∧hld Sq (p3.add 4) (Value.slice y38_4.a y38_4.n y38_4.c)∧hld Sq (p3.add 5) (Value.slice y38_5.a y38_5.n y38_5.c) ∧
       cal Try.prog 55 #[Value.agg #[Value.int .i64 y35,Value.string y35_1,Value.bool y35_2,Value.int .i64 y35_3,Value.slice y35_4.a y35_4.n y35_4.c,Value.slice y35_5.a y35_5.n y35_5.c]] h2 fun u h3=>asS u fun x36=>
       Sq h3 ∧
       cal Try.prog 55 #[Value.agg #[Value.int .i64 y38,Value.string y38_1,Value.bool y38_2,Value.int .i64 y38_3,Value.slice y38_4.a y38_4.n y38_4.c,Value.slice y38_5.a y38_5.n y38_5.c]] h3 fun u_1 h4=>asS u_1 fun x39=>
       J (((x36.n:Nat):Int) != ((x39.n:Nat):Int)) h4))))))∧(∀x42 h5,J x42 h5 →
 ifb x42 (
  R (Value.bool false) h5) (
  ∃(I:Int→Heap→Prop) (m:Int→Heap→Nat),I 0 h5∧∀i5 h6,I i5 h6 →
  ldS h6 (p2.add 5) fun x45=>
  ifb (decide (i5<((x45.n:Nat):Int))) (
   ldS h6 (p2.add 5) fun x51=>
   ixS x51 i5 fun q53=>
   ∃(y54:Int) (y54_1:ByteArray) (y54_2:Bool) (y54_3:Int) (y54_4:Sv) (y54_5:Sv),cl h6 (q53.add ((i5:Int).toNat*6))=some (Value.int .i64 y54)∧cl h6 ((q53.add ((i5:Int).toNat*6)).add 1)=some (Value.string y54_1)∧cl h6 ((q53.add ((i5:Int).toNat*6)).add 2)=some (Value.bool y54_2)∧cl h6 ((q53.add ((i5:Int).toNat*6)).add 3)=some (Value.int .i64 y54_3)∧cl h6 ((q53.add ((i5:Int).toNat*6)).add 4)=some (Value.slice y54_4.a y54_4.n y54_4.c)∧cl h6 ((q53.add ((i5:Int).toNat*6)).add 5)=some (Value.slice y54_5.a y54_5.n y54_5.c) ∧
   ldS h6 (p3.add 5) fun x56=>
   ixS x56 i5 fun q58=>
   ∃(y59:Int) (y59_1:ByteArray) (y59_2:Bool) (y59_3:Int) (y59_4:Sv) (y59_5:Sv),cl h6 (q58.add ((i5:Int).toNat*6))=some (Value.int .i64 y59)∧cl h6 ((q58.add ((i5:Int).toNat*6)).add 1)=some (Value.string y59_1)∧cl h6 ((q58.add ((i5:Int).toNat*6)).add 2)=some (Value.bool y59_2)∧cl h6 ((q58.add ((i5:Int).toNat*6)).add 3)=some (Value.int .i64 y59_3)∧cl h6 ((q58.add ((i5:Int).toNat*6)).add 4)=some (Value.slice y59_4.a y59_4.n y59_4.c)∧cl h6 ((q58.add ((i5:Int).toNat*6)).add 5)=some (Value.slice y59_5.a y59_5.n y59_5.c) ∧
   cal Try.prog 34 #[Value.agg #[Value.int .i64 y54,Value.string y54_1,Value.bool y54_2,Value.int .i64 y54_3,Value.slice y54_4.a y54_4.n y54_4.c,Value.slice y54_5.a y54_5.n y54_5.c],Value.agg #[Value.int .i64 y59,Value.string y59_1,Value.bool y59_2,Value.int .i64 y59_3,Value.slice y59_4.a y59_4.n y59_4.c,Value.slice y59_5.a y59_5.n y59_5.c]] h6 fun u_2 h7=>asB u_2 fun x60=>
   ifb (!x60) (
    R (Value.bool false) h7) (
    I (IntKind.i64.wrap (i5+1)) h7∧m (IntKind.i64.wrap (i5+1)) h7<m i5 h6)) (
   R (Value.bool true) h6)))
set_option maxRecDepth 100000 in
theorem F34 {a0 a0_1 a0_2 a0_3 a0_4 a0_5 b1 b1_1 b1_2 b1_3 b1_4 b1_5 h:_} {R:Value→Heap→Prop} (H:L34 a0 a0_1 a0_2 a0_3 a0_4 a0_5 b1 b1_1 b1_2 b1_3 b1_4 b1_5 h R):CallsH Try.prog 34 #[Value.agg #[Value.int .i64 a0,Value.string a0_1,Value.bool a0_2,Value.int .i64 a0_3,Value.slice a0_4.a a0_4.n a0_4.c,Value.slice a0_5.a a0_5.n a0_5.c],Value.agg #[Value.int .i64 b1,Value.string b1_1,Value.bool b1_2,Value.int .i64 b1_3,Value.slice b1_4.a b1_4.n b1_4.c,Value.slice b1_5.a b1_5.n b1_5.c]] h R:=by
 refine CallsH.enter (n:=62) Try.func34 rfl rfl rfl rfl ?_
 intro w0 aa ww S
 unfold L34 at H
 refine W.seq ?_
 refine W.region ?_
 refine ol_box S H rfl rfl rfl trivial ?_
 clear S H;intro p2 aa ww h1 H S
 refine ol_box S H rfl rfl rfl trivial ?_
 clear S H;intro p3 aa ww h2 H S
 refine OL.za S fun _ S=>?_
 refine OL.nil ?_
 refine W.seq ?_
 refine W.seq ?_
 replace S:=S.sub [(2,Value.pointer (some p2)),(3,Value.pointer (some p3))] ⟨rfl,rfl,trivial⟩
 obtain⟨J,H,HK⟩:=H
 refine W.mono (N':=fun aa ww=>∃x42 h5,St 62 [(2,Value.pointer (some p2)),(3,Value.pointer (some p3)),(42,Value.bool x42)] h5 w0 aa ww∧J x42 h5) ?_ ?_
 ·
  obtain⟨Sq,HS,H⟩:=H
  refine W.regionN [21,32] [30,33] Sq S (by kernel_rfl) ?_
  clear S;intro ww S
  refine BN.pure 0 S (fun _=>HS) rfl (by kernel_rfl) (by kernel_rfl) (fun _=>Lf.run_fa (S.ev rfl) fa35_0) rfl rfl trivial fun _ S=>?_
  obtain⟨x7,c,H⟩:=H
  refine BN.load 1 S (fun _=>HS) rfl (by kernel_rfl) (by kernel_rfl) (fun _ hx=>Lf.run_ld (S.ev rfl) fl3 (hx.cell _ _ (S.cl c))) rfl rfl trivial fun _ S=>?_
  refine BN.pure 2 S (fun _=>HS) rfl (by kernel_rfl) (by kernel_rfl) (fun _=>Lf.run_fa (S.ev rfl) fa35_0) rfl rfl trivial fun _ S=>?_
  obtain⟨x9,c_1,H⟩:=H
  refine BN.load 3 S (fun _=>HS) rfl (by kernel_rfl) (by kernel_rfl) (fun _ hx=>Lf.run_ld (S.ev rfl) fl3 (hx.cell _ _ (S.cl c_1))) rfl rfl trivial fun _ S=>?_
  refine BN.pure 4 S (fun _=>HS) rfl (by kernel_rfl) (by kernel_rfl) (fun _=>Lf.run_neq (S.ev rfl) (S.ev rfl)) rfl rfl trivial fun _ S=>?_
  refine BN.pure 5 S (fun _=>HS) rfl (by kernel_rfl) (by kernel_rfl) (fun _=>Lf.run_move (S.ev rfl)) rfl rfl trivial fun _ S=>?_
  rcases Bool.eq_false_or_eq_true (x7 != x9) with hb|hb
  ·
   replace H:=H.1 hb
   refine BN.not 6 S (fun _=>HS) rfl (by kernel_rfl) (by kernel_rfl) rfl rfl (GNo.mk rfl rfl hb) fun _ S=>?_
   refine BN.not 7 S (fun _=>HS) rfl (by kernel_rfl) (by kernel_rfl) rfl rfl (GNo.mk rfl rfl hb) fun _ S=>?_
   refine BN.not 8 S (fun _=>HS) rfl (by kernel_rfl) (by kernel_rfl) rfl rfl (GNo.mk rfl rfl hb) fun _ S=>?_
   refine BN.not 9 S (fun _=>HS) rfl (by kernel_rfl) (by kernel_rfl) rfl rfl (GNo.mk rfl rfl hb) fun _ S=>?_
   refine BN.not 10 S (fun _=>HS) rfl (by kernel_rfl) (by kernel_rfl) rfl rfl (GNo.mk rfl rfl hb) fun _ S=>?_
   refine BN.pure 11 S (fun _=>HS) rfl (by kernel_rfl) (by kernel_rfl) (fun _=>run_pickT (S.ev rfl) hb (S.ev rfl)) rfl rfl trivial fun _ S=>?_
   refine BN.pure 12 S (fun _=>HS) rfl (by kernel_rfl) (by kernel_rfl) (fun _=>Lf.run_move (S.ev rfl)) rfl rfl trivial fun _ S=>?_
   have hb_7:(true:Bool)=true:=rfl
   refine BN.not 13 S (fun _=>HS) rfl (by kernel_rfl) (by kernel_rfl) rfl rfl (GNo.mk rfl rfl hb_7) fun _ S=>?_
   refine BN.not 14 S (fun _=>HS) rfl (by kernel_rfl) (by kernel_rfl) rfl rfl (GNo.mk rfl rfl hb_7) fun _ S=>?_
   refine BN.not 15 S (fun _=>HS) rfl (by kernel_rfl) (by kernel_rfl) rfl rfl (GNo.mk rfl rfl hb_7) fun _ S=>?_
   refine BN.not 16 S (fun _=>HS) rfl (by kernel_rfl) (by kernel_rfl) rfl rfl (GNo.mk rfl rfl hb_7) fun _ S=>?_
   refine BN.not 17 S (fun _=>HS) rfl (by kernel_rfl) (by kernel_rfl) rfl rfl (GNo.mk rfl rfl hb_7) fun _ S=>?_
   refine BN.pure 18 S (fun _=>HS) rfl (by kernel_rfl) (by kernel_rfl) (fun _=>run_pickT (S.ev rfl) hb_7 (S.ev rfl)) rfl rfl trivial fun _ S=>?_
   refine BN.pure 19 S (fun _=>HS) rfl (by kernel_rfl) (by kernel_rfl) (fun _=>Lf.run_move (S.ev rfl)) rfl rfl trivial fun _ S=>?_
   have hb_8:(true:Bool)=true:=rfl
   refine BN.not 20 S (fun _=>HS) rfl (by kernel_rfl) (by kernel_rfl) rfl rfl (GNo.mk rfl rfl hb_8) fun _ S=>?_
   refine BN.not 21 S (fun _=>HS) rfl (by kernel_rfl) (by kernel_rfl) rfl rfl (GNo.mk rfl rfl hb_8) fun _ S=>?_
   refine BN.not 22 S (fun _=>HS) rfl (by kernel_rfl) (by kernel_rfl) rfl rfl (GNo.mk rfl rfl hb_8) fun _ S=>?_
   refine BN.not 23 S (fun _=>HS) rfl (by kernel_rfl) (by kernel_rfl) rfl rfl (GNo.mk rfl rfl hb_8) fun _ S=>?_
   refine BN.not 24 S (fun _=>HS) rfl (by kernel_rfl) (by kernel_rfl) rfl rfl (GNo.mk rfl rfl hb_8) fun _ S=>?_
   refine BN.not 25 S (fun _=>HS) rfl (by kernel_rfl) (by kernel_rfl) rfl rfl (GNo.mk rfl rfl hb_8) fun _ S=>?_
   refine BN.not 26 S (fun _=>HS) rfl (by kernel_rfl) (by kernel_rfl) rfl rfl (GNo.mk rfl rfl hb_8) fun _ S=>?_
   refine BN.pure 27 S (fun _=>HS) rfl (by kernel_rfl) (by kernel_rfl) (fun _=>run_pickT (S.ev rfl) hb_8 (S.ev rfl)) rfl rfl trivial fun _ S=>?_
   refine BN.pure 28 S (fun _=>HS) rfl (by kernel_rfl) (by kernel_rfl) (fun _=>Lf.run_move (S.ev rfl)) rfl rfl trivial fun _ S=>?_
   have hb_9:(true:Bool)=true:=rfl
   refine BN.not 29 S (fun _=>HS) rfl (by kernel_rfl) (by kernel_rfl) rfl rfl (GNo.mk rfl rfl hb_9) fun _ S=>?_
   refine BN.not 32 S (fun _=>HS) rfl (by kernel_rfl) (by kernel_rfl) rfl rfl (GNo.mk rfl rfl hb_9) fun _ S=>?_
   refine BN.eff 30 rfl (by kernel_rfl) ?_
   refine OL.zn S (GNo.mk rfl rfl hb_9) fun _ S=>?_
   refine OL.nil ?_
   refine⟨fun _=>by rw[S.heap];exact HS,?_⟩
   refine BN.not 31 S (fun _=>HS) rfl (by kernel_rfl) (by kernel_rfl) rfl rfl (GNo.mk rfl rfl hb_9) fun _ S=>?_
   refine BN.eff 33 rfl (by kernel_rfl) ?_
   refine OL.zn S (GNo.mk rfl rfl hb_9) fun _ S=>?_
   refine OL.nil ?_
   refine⟨noNeed (by kernel_rfl),?_⟩
   refine BN.not 34 S (noNeed (by kernel_rfl)) rfl (by kernel_rfl) (by kernel_rfl) rfl rfl (GNo.mk rfl rfl hb_9) fun _ S=>?_
   refine BN.not 35 S (noNeed (by kernel_rfl)) rfl (by kernel_rfl) (by kernel_rfl) rfl rfl (GNo.mk rfl rfl hb_9) fun _ S=>?_
   refine BN.pure 36 S (noNeed (by kernel_rfl)) rfl (by kernel_rfl) (by kernel_rfl) (fun _=>run_pickT (S.ev rfl) hb_9 (S.ev rfl)) rfl rfl trivial fun _ S=>?_
   refine BN.done (by kernel_rfl) ?_
   exact⟨true,h2,S.sub _ ⟨rfl,rfl,rfl,trivial⟩,H⟩
  ·
   replace H:=H.2 hb
   refine BN.pure 6 S (fun _=>HS) rfl (by kernel_rfl) (by kernel_rfl) (fun _=>Lf.run_fa (S.ev rfl) fa35_1) rfl rfl (GOk.mk rfl rfl hb) fun _ S=>?_
   obtain⟨x13,c_2,H⟩:=H
   refine BN.load 7 S (fun _=>HS) rfl (by kernel_rfl) (by kernel_rfl) (fun _ hx=>Lf.run_ld (S.ev rfl) fl9 (hx.cell _ _ (S.cl c_2))) rfl rfl (GOk.mk rfl rfl hb) fun _ S=>?_
   refine BN.pure 8 S (fun _=>HS) rfl (by kernel_rfl) (by kernel_rfl) (fun _=>Lf.run_fa (S.ev rfl) fa35_1) rfl rfl (GOk.mk rfl rfl hb) fun _ S=>?_
   obtain⟨x15,c_3,H⟩:=H
   refine BN.load 9 S (fun _=>HS) rfl (by kernel_rfl) (by kernel_rfl) (fun _ hx=>Lf.run_ld (S.ev rfl) fl9 (hx.cell _ _ (S.cl c_3))) rfl rfl (GOk.mk rfl rfl hb) fun _ S=>?_
   refine BN.pure 10 S (fun _=>HS) rfl (by kernel_rfl) (by kernel_rfl) (fun _=>Lf.run_neqt (S.ev rfl) (S.ev rfl)) rfl rfl (GOk.mk rfl rfl hb) fun _ S=>?_
   refine BN.pure 11 S (fun _=>HS) rfl (by kernel_rfl) (by kernel_rfl) (fun _=>run_pickF (S.ev rfl) hb (S.ev rfl)) rfl rfl trivial fun _ S=>?_
   refine BN.pure 12 S (fun _=>HS) rfl (by kernel_rfl) (by kernel_rfl) (fun _=>Lf.run_move (S.ev rfl)) rfl rfl trivial fun _ S=>?_
   rcases Bool.eq_false_or_eq_true (x13.toList != x15.toList) with hb_1|hb_1
   ·
    replace H:=H.1 hb_1
    refine BN.not 13 S (fun _=>HS) rfl (by kernel_rfl) (by kernel_rfl) rfl rfl (GNo.mk rfl rfl hb_1) fun _ S=>?_
    refine BN.not 14 S (fun _=>HS) rfl (by kernel_rfl) (by kernel_rfl) rfl rfl (GNo.mk rfl rfl hb_1) fun _ S=>?_
    refine BN.not 15 S (fun _=>HS) rfl (by kernel_rfl) (by kernel_rfl) rfl rfl (GNo.mk rfl rfl hb_1) fun _ S=>?_
    refine BN.not 16 S (fun _=>HS) rfl (by kernel_rfl) (by kernel_rfl) rfl rfl (GNo.mk rfl rfl hb_1) fun _ S=>?_
    refine BN.not 17 S (fun _=>HS) rfl (by kernel_rfl) (by kernel_rfl) rfl rfl (GNo.mk rfl rfl hb_1) fun _ S=>?_
    refine BN.pure 18 S (fun _=>HS) rfl (by kernel_rfl) (by kernel_rfl) (fun _=>run_pickT (S.ev rfl) hb_1 (S.ev rfl)) rfl rfl trivial fun _ S=>?_
    refine BN.pure 19 S (fun _=>HS) rfl (by kernel_rfl) (by kernel_rfl) (fun _=>Lf.run_move (S.ev rfl)) rfl rfl trivial fun _ S=>?_
    have hb_5:(true:Bool)=true:=rfl
    refine BN.not 20 S (fun _=>HS) rfl (by kernel_rfl) (by kernel_rfl) rfl rfl (GNo.mk rfl rfl hb_5) fun _ S=>?_
    refine BN.not 21 S (fun _=>HS) rfl (by kernel_rfl) (by kernel_rfl) rfl rfl (GNo.mk rfl rfl hb_5) fun _ S=>?_
    refine BN.not 22 S (fun _=>HS) rfl (by kernel_rfl) (by kernel_rfl) rfl rfl (GNo.mk rfl rfl hb_5) fun _ S=>?_
    refine BN.not 23 S (fun _=>HS) rfl (by kernel_rfl) (by kernel_rfl) rfl rfl (GNo.mk rfl rfl hb_5) fun _ S=>?_
    refine BN.not 24 S (fun _=>HS) rfl (by kernel_rfl) (by kernel_rfl) rfl rfl (GNo.mk rfl rfl hb_5) fun _ S=>?_
    refine BN.not 25 S (fun _=>HS) rfl (by kernel_rfl) (by kernel_rfl) rfl rfl (GNo.mk rfl rfl hb_5) fun _ S=>?_
    refine BN.not 26 S (fun _=>HS) rfl (by kernel_rfl) (by kernel_rfl) rfl rfl (GNo.mk rfl rfl hb_5) fun _ S=>?_
    refine BN.pure 27 S (fun _=>HS) rfl (by kernel_rfl) (by kernel_rfl) (fun _=>run_pickT (S.ev rfl) hb_5 (S.ev rfl)) rfl rfl trivial fun _ S=>?_
    refine BN.pure 28 S (fun _=>HS) rfl (by kernel_rfl) (by kernel_rfl) (fun _=>Lf.run_move (S.ev rfl)) rfl rfl trivial fun _ S=>?_
    have hb_6:(true:Bool)=true:=rfl
    refine BN.not 29 S (fun _=>HS) rfl (by kernel_rfl) (by kernel_rfl) rfl rfl (GNo.mk rfl rfl hb_6) fun _ S=>?_
    refine BN.not 32 S (fun _=>HS) rfl (by kernel_rfl) (by kernel_rfl) rfl rfl (GNo.mk rfl rfl hb_6) fun _ S=>?_
    refine BN.eff 30 rfl (by kernel_rfl) ?_
    refine OL.zn S (GNo.mk rfl rfl hb_6) fun _ S=>?_
    refine OL.nil ?_
    refine⟨fun _=>by rw[S.heap];exact HS,?_⟩
    refine BN.not 31 S (fun _=>HS) rfl (by kernel_rfl) (by kernel_rfl) rfl rfl (GNo.mk rfl rfl hb_6) fun _ S=>?_
    refine BN.eff 33 rfl (by kernel_rfl) ?_
    refine OL.zn S (GNo.mk rfl rfl hb_6) fun _ S=>?_
    refine OL.nil ?_
    refine⟨noNeed (by kernel_rfl),?_⟩
    refine BN.not 34 S (noNeed (by kernel_rfl)) rfl (by kernel_rfl) (by kernel_rfl) rfl rfl (GNo.mk rfl rfl hb_6) fun _ S=>?_
    refine BN.not 35 S (noNeed (by kernel_rfl)) rfl (by kernel_rfl) (by kernel_rfl) rfl rfl (GNo.mk rfl rfl hb_6) fun _ S=>?_
    refine BN.pure 36 S (noNeed (by kernel_rfl)) rfl (by kernel_rfl) (by kernel_rfl) (fun _=>run_pickT (S.ev rfl) hb_6 (S.ev rfl)) rfl rfl trivial fun _ S=>?_
    refine BN.done (by kernel_rfl) ?_
    exact⟨true,h2,S.sub _ ⟨rfl,rfl,rfl,trivial⟩,H⟩
   ·
    replace H:=H.2 hb_1
    refine BN.pure 13 S (fun _=>HS) rfl (by kernel_rfl) (by kernel_rfl) (fun _=>Lf.run_fa (S.ev rfl) fa35_2) rfl rfl (GOk.mk rfl rfl hb_1) fun _ S=>?_
    obtain⟨x20,c_4,H⟩:=H
    refine BN.load 14 S (fun _=>HS) rfl (by kernel_rfl) (by kernel_rfl) (fun _ hx=>Lf.run_ld (S.ev rfl) fl4 (hx.cell _ _ (S.cl c_4))) rfl rfl (GOk.mk rfl rfl hb_1) fun _ S=>?_
    refine BN.pure 15 S (fun _=>HS) rfl (by kernel_rfl) (by kernel_rfl) (fun _=>Lf.run_fa (S.ev rfl) fa35_2) rfl rfl (GOk.mk rfl rfl hb_1) fun _ S=>?_
    obtain⟨x22,c_5,H⟩:=H
    refine BN.load 16 S (fun _=>HS) rfl (by kernel_rfl) (by kernel_rfl) (fun _ hx=>Lf.run_ld (S.ev rfl) fl4 (hx.cell _ _ (S.cl c_5))) rfl rfl (GOk.mk rfl rfl hb_1) fun _ S=>?_
    refine BN.pure 17 S (fun _=>HS) rfl (by kernel_rfl) (by kernel_rfl) (fun _=>Lf.run_neqb Try.underlying4 (S.ev rfl) (S.ev rfl)) rfl rfl (GOk.mk rfl rfl hb_1) fun _ S=>?_
    refine BN.pure 18 S (fun _=>HS) rfl (by kernel_rfl) (by kernel_rfl) (fun _=>run_pickF (S.ev rfl) hb_1 (S.ev rfl)) rfl rfl trivial fun _ S=>?_
    refine BN.pure 19 S (fun _=>HS) rfl (by kernel_rfl) (by kernel_rfl) (fun _=>Lf.run_move (S.ev rfl)) rfl rfl trivial fun _ S=>?_
    rcases Bool.eq_false_or_eq_true (x20 != x22) with hb_2|hb_2
    ·
     replace H:=H.1 hb_2
     refine BN.not 20 S (fun _=>HS) rfl (by kernel_rfl) (by kernel_rfl) rfl rfl (GNo.mk rfl rfl hb_2) fun _ S=>?_
     refine BN.not 21 S (fun _=>HS) rfl (by kernel_rfl) (by kernel_rfl) rfl rfl (GNo.mk rfl rfl hb_2) fun _ S=>?_
     refine BN.not 22 S (fun _=>HS) rfl (by kernel_rfl) (by kernel_rfl) rfl rfl (GNo.mk rfl rfl hb_2) fun _ S=>?_
     refine BN.not 23 S (fun _=>HS) rfl (by kernel_rfl) (by kernel_rfl) rfl rfl (GNo.mk rfl rfl hb_2) fun _ S=>?_
     refine BN.not 24 S (fun _=>HS) rfl (by kernel_rfl) (by kernel_rfl) rfl rfl (GNo.mk rfl rfl hb_2) fun _ S=>?_
     refine BN.not 25 S (fun _=>HS) rfl (by kernel_rfl) (by kernel_rfl) rfl rfl (GNo.mk rfl rfl hb_2) fun _ S=>?_
     refine BN.not 26 S (fun _=>HS) rfl (by kernel_rfl) (by kernel_rfl) rfl rfl (GNo.mk rfl rfl hb_2) fun _ S=>?_
     refine BN.pure 27 S (fun _=>HS) rfl (by kernel_rfl) (by kernel_rfl) (fun _=>run_pickT (S.ev rfl) hb_2 (S.ev rfl)) rfl rfl trivial fun _ S=>?_
     refine BN.pure 28 S (fun _=>HS) rfl (by kernel_rfl) (by kernel_rfl) (fun _=>Lf.run_move (S.ev rfl)) rfl rfl trivial fun _ S=>?_
     have hb_4:(true:Bool)=true:=rfl
     refine BN.not 29 S (fun _=>HS) rfl (by kernel_rfl) (by kernel_rfl) rfl rfl (GNo.mk rfl rfl hb_4) fun _ S=>?_
     refine BN.not 32 S (fun _=>HS) rfl (by kernel_rfl) (by kernel_rfl) rfl rfl (GNo.mk rfl rfl hb_4) fun _ S=>?_
     refine BN.eff 30 rfl (by kernel_rfl) ?_
     refine OL.zn S (GNo.mk rfl rfl hb_4) fun _ S=>?_
     refine OL.nil ?_
     refine⟨fun _=>by rw[S.heap];exact HS,?_⟩
     refine BN.not 31 S (fun _=>HS) rfl (by kernel_rfl) (by kernel_rfl) rfl rfl (GNo.mk rfl rfl hb_4) fun _ S=>?_
     refine BN.eff 33 rfl (by kernel_rfl) ?_
     refine OL.zn S (GNo.mk rfl rfl hb_4) fun _ S=>?_
     refine OL.nil ?_
     refine⟨noNeed (by kernel_rfl),?_⟩
     refine BN.not 34 S (noNeed (by kernel_rfl)) rfl (by kernel_rfl) (by kernel_rfl) rfl rfl (GNo.mk rfl rfl hb_4) fun _ S=>?_
     refine BN.not 35 S (noNeed (by kernel_rfl)) rfl (by kernel_rfl) (by kernel_rfl) rfl rfl (GNo.mk rfl rfl hb_4) fun _ S=>?_
     refine BN.pure 36 S (noNeed (by kernel_rfl)) rfl (by kernel_rfl) (by kernel_rfl) (fun _=>run_pickT (S.ev rfl) hb_4 (S.ev rfl)) rfl rfl trivial fun _ S=>?_
     refine BN.done (by kernel_rfl) ?_
     exact⟨true,h2,S.sub _ ⟨rfl,rfl,rfl,trivial⟩,H⟩
    ·
     replace H:=H.2 hb_2
     refine BN.pure 20 S (fun _=>HS) rfl (by kernel_rfl) (by kernel_rfl) (fun _=>Lf.run_fa (S.ev rfl) fa35_5) rfl rfl (GOk.mk rfl rfl hb_2) fun _ S=>?_
     refine BN.pure 23 S (fun _=>HS) rfl (by kernel_rfl) (by kernel_rfl) (fun _=>Lf.run_fa (S.ev rfl) fa35_5) rfl rfl (GOk.mk rfl rfl hb_2) fun _ S=>?_
     obtain⟨x27,c_6,H⟩:=H
     refine BN.held 21 S HS rfl (by kernel_rfl) (fun _ hq=>Lf.run_ld (S.ev rfl) fl24 (c_6 _ hq)) rfl rfl (GOk.mk rfl rfl hb_2) fun _ S=>?_
     refine BN.pure 22 S (fun _=>HS) rfl (by kernel_rfl) (by kernel_rfl) (fun _=>Lf.run_lens (S.ev rfl) rfl Try.underlying24) rfl rfl (GOk.mk rfl rfl hb_2) fun _ S=>?_
     obtain⟨x30,c_7,H⟩:=H
     refine BN.load 24 S (fun _=>HS) rfl (by kernel_rfl) (by kernel_rfl) (fun _ hx=>Lf.run_ld (S.ev rfl) fl24 (hx.cell _ _ (S.cl c_7))) rfl rfl (GOk.mk rfl rfl hb_2) fun _ S=>?_
     refine BN.pure 25 S (fun _=>HS) rfl (by kernel_rfl) (by kernel_rfl) (fun _=>Lf.run_lens (S.ev rfl) rfl Try.underlying24) rfl rfl (GOk.mk rfl rfl hb_2) fun _ S=>?_
     refine BN.pure 26 S (fun _=>HS) rfl (by kernel_rfl) (by kernel_rfl) (fun _=>Lf.run_neq (S.ev rfl) (S.ev rfl)) rfl rfl (GOk.mk rfl rfl hb_2) fun _ S=>?_
     refine BN.pure 27 S (fun _=>HS) rfl (by kernel_rfl) (by kernel_rfl) (fun _=>run_pickF (S.ev rfl) hb_2 (S.ev rfl)) rfl rfl trivial fun _ S=>?_
     refine BN.pure 28 S (fun _=>HS) rfl (by kernel_rfl) (by kernel_rfl) (fun _=>Lf.run_move (S.ev rfl)) rfl rfl trivial fun _ S=>?_
     rcases Bool.eq_false_or_eq_true (((x27.n:Nat):Int) != ((x30.n:Nat):Int)) with hb_3|hb_3
     ·
      replace H:=H.1 hb_3
      refine BN.not 29 S (fun _=>HS) rfl (by kernel_rfl) (by kernel_rfl) rfl rfl (GNo.mk rfl rfl hb_3) fun _ S=>?_
      refine BN.not 32 S (fun _=>HS) rfl (by kernel_rfl) (by kernel_rfl) rfl rfl (GNo.mk rfl rfl hb_3) fun _ S=>?_
      refine BN.eff 30 rfl (by kernel_rfl) ?_
      refine OL.zn S (GNo.mk rfl rfl hb_3) fun _ S=>?_
      refine OL.nil ?_
      refine⟨fun _=>by rw[S.heap];exact HS,?_⟩
      refine BN.not 31 S (fun _=>HS) rfl (by kernel_rfl) (by kernel_rfl) rfl rfl (GNo.mk rfl rfl hb_3) fun _ S=>?_
      refine BN.eff 33 rfl (by kernel_rfl) ?_
      refine OL.zn S (GNo.mk rfl rfl hb_3) fun _ S=>?_
      refine OL.nil ?_
      refine⟨noNeed (by kernel_rfl),?_⟩
      refine BN.not 34 S (noNeed (by kernel_rfl)) rfl (by kernel_rfl) (by kernel_rfl) rfl rfl (GNo.mk rfl rfl hb_3) fun _ S=>?_
      refine BN.not 35 S (noNeed (by kernel_rfl)) rfl (by kernel_rfl) (by kernel_rfl) rfl rfl (GNo.mk rfl rfl hb_3) fun _ S=>?_
      refine BN.pure 36 S (noNeed (by kernel_rfl)) rfl (by kernel_rfl) (by kernel_rfl) (fun _=>run_pickT (S.ev rfl) hb_3 (S.ev rfl)) rfl rfl trivial fun _ S=>?_
      refine BN.done (by kernel_rfl) ?_
      exact⟨true,h2,S.sub _ ⟨rfl,rfl,rfl,trivial⟩,H⟩
     ·
      replace H:=H.2 hb_3
      obtain⟨y35,y35_1,y35_2,y35_3,y35_4,y35_5,c_16,c_17,c_18,c_19,c_20,c_21,H⟩:=H
      refine BN.load 29 S (fun _=>HS) rfl (by kernel_rfl) (by kernel_rfl) (fun _ hx=>Lf.run_ldA (cs:=[Value.int .i64 y35,Value.string y35_1,Value.bool y35_2,Value.int .i64 y35_3,Value.slice y35_4.a y35_4.n y35_4.c,Value.slice y35_5.a y35_5.n y35_5.c]) (S.ev rfl) ag35 ti35 (hx.row (S.row ⟨c_16,c_17,c_18,c_19,c_20,c_21,trivial⟩))) rfl rfl (GOk.mk rfl rfl hb_3) fun _ S=>?_
      obtain⟨y38,y38_1,y38_2,y38_3,y38_4,y38_5,c_10,c_11,c_12,c_13,c_14,c_15,H⟩:=H
      refine BN.held 32 S HS rfl (by kernel_rfl) (fun _ hq=>Lf.run_ldA (cs:=[Value.int .i64 y38,Value.string y38_1,Value.bool y38_2,Value.int .i64 y38_3,Value.slice y38_4.a y38_4.n y38_4.c,Value.slice y38_5.a y38_5.n y38_5.c]) (S.ev rfl) ag35 ti35 (hlRow hq fun h_ hs_=>⟨c_10 h_ hs_,c_11 h_ hs_,c_12 h_ hs_,c_13 h_ hs_,c_14 h_ hs_,c_15 h_ hs_,trivial⟩)) rfl rfl (GOk.mk rfl rfl hb_3) fun _ S=>?_
      refine BN.eff 30 rfl (by kernel_rfl) ?_
      refine ol_cal S H isfn55 rfl rfl (GOk.mk rfl rfl hb_3) ?_
      clear S H;intro u aa ww h3 H S
      obtain⟨x36,rfl,H⟩:=H
      refine OL.nil ?_
      clear HS;obtain⟨HS,H⟩:=H
      refine⟨fun _=>by rw[S.heap];exact HS,?_⟩
      refine BN.pure 31 S (fun _=>HS) rfl (by kernel_rfl) (by kernel_rfl) (fun _=>Lf.run_lens (S.ev rfl) rfl Try.underlying25) rfl rfl (GOk.mk rfl rfl hb_3) fun _ S=>?_
      refine BN.eff 33 rfl (by kernel_rfl) ?_
      refine ol_cal S H isfn55 rfl rfl (GOk.mk rfl rfl hb_3) ?_
      clear S H;intro u_1 aa ww h4 H S
      obtain⟨x39,rfl,H⟩:=H
      refine OL.nil ?_
      refine⟨noNeed (by kernel_rfl),?_⟩
      refine BN.pure 34 S (noNeed (by kernel_rfl)) rfl (by kernel_rfl) (by kernel_rfl) (fun _=>Lf.run_lens (S.ev rfl) rfl Try.underlying25) rfl rfl (GOk.mk rfl rfl hb_3) fun _ S=>?_
      refine BN.pure 35 S (noNeed (by kernel_rfl)) rfl (by kernel_rfl) (by kernel_rfl) (fun _=>Lf.run_neq (S.ev rfl) (S.ev rfl)) rfl rfl (GOk.mk rfl rfl hb_3) fun _ S=>?_
      refine BN.pure 36 S (noNeed (by kernel_rfl)) rfl (by kernel_rfl) (by kernel_rfl) (fun _=>run_pickF (S.ev rfl) hb_3 (S.ev rfl)) rfl rfl trivial fun _ S=>?_
      refine BN.done (by kernel_rfl) ?_
      exact⟨(((x36.n:Nat):Int) != ((x39.n:Nat):Int)),h4,S.sub _ ⟨rfl,rfl,rfl,trivial⟩,H⟩
 ·
  clear H S
  rintro aa ww ⟨x42,h5,S,HJ⟩
  have H:=HK _ _ HJ
  clear HK HJ
  refine W.cond S (b:=x42) rfl (fun hb_10=>?_) (fun hb_10=>?_)
  ·
   replace H:=H.1 hb_10
   refine W.seq ?_
   refine W.region ?_
   refine OL.za S fun _ S=>?_
   refine OL.nil ?_
   refine W.ret ?_
   exact Ret.one S rfl rfl H
  ·
   replace H:=H.2 hb_10
   refine W.skip ?_
   refine W.seq ?_
   refine W.seq ?_
   refine W.region ?_
   refine OL.za S fun _ S=>?_
   refine OL.nil ?_
   refine W.block ?_
   obtain⟨I,m,H,HB⟩:=H
   refine W.loopS (σ:=Int×Heap) (fun s aa ww=>St 62 [(2,Value.pointer (some p2)),(3,Value.pointer (some p3)),(5,Value.int .i64 s.1)] s.2 w0 aa ww∧I s.1 s.2) (fun s=>m s.1 s.2) (0,h5) ⟨S.sub _ ⟨rfl,rfl,rfl,trivial⟩,H⟩ ?_
   clear H S
   rintro ⟨i5,h6⟩ aa ww ⟨S,HI⟩
   replace S:St 62 [(2,Value.pointer (some p2)),(3,Value.pointer (some p3)),(5,Value.int .i64 i5)] h6 w0 aa ww:=S
   have H:=HB i5 h6 HI
   clear HI
   refine W.seq ?_
   refine W.seq ?_
   refine W.region ?_
   refine OL.zm S fun _ S=>?_
   refine OL.zf S fa35_5 fun _ S=>?_
   obtain⟨x45,c_22,H⟩:=H
   refine OL.zl S fl24 c_22 fun _ S=>?_
   refine OL.zq S (Lf.run_lens (S.ev rfl) rfl Try.underlying24) fun _ S=>?_
   refine OL.zq S (Lf.run_lss (S.ev rfl) (S.ev rfl)) fun _ S=>?_
   refine OL.nil ?_
   refine W.cond S (b:=(decide (i5<((x45.n:Nat):Int)))) rfl (fun hb_11=>?_) (fun hb_11=>?_)
   ·
    replace H:=H.1 hb_11
    refine W.skip ?_
    refine W.seq ?_
    refine W.block ?_
    refine W.seq ?_
    replace S:=S.sub [(2,Value.pointer (some p2)),(3,Value.pointer (some p3)),(5,Value.int .i64 i5)] ⟨rfl,rfl,rfl,trivial⟩
    refine W.regionD S (by kernel_rfl) ?_
    clear S;intro ww S
    refine AN.zq 0 S rfl (fun _=>Lf.run_fa (S.ev rfl) fa35_5) fun _ S=>?_
    obtain⟨x51,c_23,H⟩:=H
    refine AN.zl 1 S rfl (fun _ hx=>Lf.run_ld (S.ev rfl) fl24 (hx.cell _ _ (S.cl c_23))) fun _ S=>?_
    refine AN.zq 2 S rfl (fun _=>Lf.run_move (S.ev rfl)) fun _ S=>?_
    obtain⟨q53,e,e_1,e_2,H⟩:=H
    refine AN.zq 3 S rfl (fun _=>Lf.run_ixs (S.ev rfl) (S.ev rfl) Try.underlying24 ti35 e e_1 e_2) fun _ S=>?_
    obtain⟨y54,y54_1,y54_2,y54_3,y54_4,y54_5,c_33,c_34,c_35,c_36,c_37,c_38,H⟩:=H
    refine AN.zl 4 S rfl (fun _ hx=>Lf.run_ldA (cs:=[Value.int .i64 y54,Value.string y54_1,Value.bool y54_2,Value.int .i64 y54_3,Value.slice y54_4.a y54_4.n y54_4.c,Value.slice y54_5.a y54_5.n y54_5.c]) (S.ev rfl) ag35 ti35 (hx.row (S.row ⟨c_33,c_34,c_35,c_36,c_37,c_38,trivial⟩))) fun _ S=>?_
    refine AN.zq 5 S rfl (fun _=>Lf.run_fa (S.ev rfl) fa35_5) fun _ S=>?_
    obtain⟨x56,c_25,H⟩:=H
    refine AN.zl 6 S rfl (fun _ hx=>Lf.run_ld (S.ev rfl) fl24 (hx.cell _ _ (S.cl c_25))) fun _ S=>?_
    refine AN.zq 7 S rfl (fun _=>Lf.run_move (S.ev rfl)) fun _ S=>?_
    obtain⟨q58,e_3,e_4,e_5,H⟩:=H
    refine AN.zq 8 S rfl (fun _=>Lf.run_ixs (S.ev rfl) (S.ev rfl) Try.underlying24 ti35 e_3 e_4 e_5) fun _ S=>?_
    obtain⟨y59,y59_1,y59_2,y59_3,y59_4,y59_5,c_27,c_28,c_29,c_30,c_31,c_32,H⟩:=H
    refine AN.zl 9 S rfl (fun _ hx=>Lf.run_ldA (cs:=[Value.int .i64 y59,Value.string y59_1,Value.bool y59_2,Value.int .i64 y59_3,Value.slice y59_4.a y59_4.n y59_4.c,Value.slice y59_5.a y59_5.n y59_5.c]) (S.ev rfl) ag35 ti35 (hx.row (S.row ⟨c_27,c_28,c_29,c_30,c_31,c_32,trivial⟩))) fun _ S=>?_
    refine AN.eff 10 rfl (by kernel_rfl) ?_
    refine ol_cal S H isfn34 rfl rfl trivial ?_
    clear S H;intro u_2 aa ww h7 H S
    obtain⟨x60,rfl,H⟩:=H
    refine OL.nil ?_
    refine AN.zq 11 S rfl (fun _=>Lf.run_not (S.ev rfl)) fun _ S=>?_
    refine AN.done (by kernel_rfl) ?_
    refine W.cond S (b:=(!x60)) rfl (fun hb_12=>?_) (fun hb_12=>?_)
    ·
     replace H:=H.1 hb_12
     refine W.seq ?_
     refine W.region ?_
     refine OL.za S fun _ S=>?_
     refine OL.nil ?_
     refine W.ret ?_
     exact Ret.one S rfl rfl H
    ·
     replace H:=H.2 hb_12
     refine W.skip ?_
     refine W.region ?_
     refine OL.zm S fun _ S=>?_
     refine OL.zq S (Lf.run_add (S.ev rfl) (S.ev rfl)) fun _ S=>?_
     refine OL.za S fun _ S=>?_
     refine OL.nil ?_
     exact⟨((IntKind.i64.wrap (i5+1)),h7),⟨S.sub _ ⟨rfl,rfl,rfl,trivial⟩,H.1⟩,H.2⟩
   ·
    replace H:=H.2 hb_11
    refine W.exit_ ?_
    refine xhit ?_
    refine W.seq ?_
    refine W.region ?_
    refine OL.za S fun _ S=>?_
    refine OL.nil ?_
    refine W.ret ?_
    exact Ret.one S rfl rfl H
def L35 (vw0:Option Nat) (a1:Int) (a1_1:ByteArray) (a1_2:Bool) (a1_3:Int) (a1_4:Sv) (a1_5:Sv) (b2:Int) (b2_1:ByteArray) (b2_2:Bool) (b2_3:Int) (b2_4:Sv) (b2_5:Sv) (way3:Int) (h:Heap) (R:Value→Heap→Prop):Prop:=
 new 35 #[Value.int .i64 a1,Value.string a1_1,Value.bool a1_2,Value.int .i64 a1_3,Value.slice a1_4.a a1_4.n a1_4.c,Value.slice a1_5.a a1_5.n a1_5.c] h fun p5 h1=>
 new 35 #[Value.int .i64 b2,Value.string b2_1,Value.bool b2_2,Value.int .i64 b2_3,Value.slice b2_4.a b2_4.n b2_4.c,Value.slice b2_5.a b2_5.n b2_5.c] h1 fun p6 h2=>
 ∃J:Sv→Heap→Prop,(
  ldI .i64 h2 p5 fun x14=>
  ∃J_1:Bool→Prop,(orr (x14 == 7) (fun k=>
   ldI .i64 h2 p5 fun x18=>
   k (x18 == 8)) J_1)∧∀x20,J_1 x20 →
  ifb x20 (
   ldI .i64 h2 (p5.add 3) fun x22=>
   ldI .i64 h2 (p6.add 3) fun x24=>
   cal Try.prog 56 #[Value.int .i64 x22,Value.int .i64 x24,Value.int .i64 way3] h2 fun u h3=>asS u fun x26=>
   J x26 h3) (
   J (⟨none,0,0⟩:Sv) h2))∧(∀out9 h4,J out9 h4 →
 ∃(I:Sv→Int→Heap→Prop) (m:Sv→Int→Heap→Nat),I out9 0 h4∧∀out9_1 i10 h5,I out9_1 i10 h5 →
 ldI .i64 h5 p5 fun x28=>
 ∃J_2:Bool→Prop,(andr (x28 == 5) (fun k_1=>
  ldS h5 (p5.add 4) fun x33=>
  k_1 (decide (i10<((x33.n:Nat):Int)))) J_2)∧∀x36,J_2 x36 →
 ifb x36 (
  ∃Sq:Heap→Prop,Sq h5∧(
   ldT h5 (p5.add 1) fun x53=>
   hlS Sq (p5.add 4) fun x41=>
   ixS x41 i10 fun q43=>
   hlI .i64 Sq (q43.add ((i10:Int).toNat*1)) fun x44=>
   hlS Sq (p6.add 4) fun x46=>
   ixS x46 i10 fun q48=>
   hlI .i64 Sq (q48.add ((i10:Int).toNat*1)) fun x49=>
   cal Try.prog 58 #[Value.map vw0,Value.string x53,Value.int .i64 i10] h5 fun u_1 h6=>asI .i64 u_1 fun x55=>
   Sq h6 ∧
   cal Try.prog 57 #[Value.int .i64 way3,Value.int .i64 x55] h6 fun u_2 h7=>asI .i64 u_2 fun x56=>
   Sq h7 ∧
   cal Try.prog 56 #[Value.int .i64 x44,Value.int .i64 x49,Value.int .i64 x56] h7 fun u_3 h8=>asS u_3 fun x57=>
   appS 56 (Value.agg #[Value.int .i64 0,Value.int .i64 0]).cells 2 16 h8 out9_1 x57 fun s58 h9=>
   I s58 (IntKind.i64.wrap (i10+1)) h9∧m s58 (IntKind.i64.wrap (i10+1)) h9<m out9_1 i10 h5)) (
  ∃(I_1:Sv→Int→Heap→Prop) (m_1:Sv→Int→Heap→Nat),I_1 out9_1 0 h5∧∀out9_2 i11 h10,I_1 out9_2 i11 h10 →
  ldS h10 (p5.add 5) fun x61=>
  ifb (decide (i11<((x61.n:Nat):Int))) (
   ∃J_3:Int→Heap→Prop,(
    ldI .i64 h10 p5 fun x68=>
    ∃J_4:Bool→Prop,(andr (x68 == 7) (fun k_2=>
     ldB h10 (p5.add 2) fun x72=>
     k_2 x72) J_4)∧∀x73,J_4 x73 →
    ifb x73 (
     cal Try.prog 57 #[Value.int .i64 way3,Value.int .i64 3] h10 fun u_4 h11=>asI .i64 u_4 fun x75=>
     J_3 x75 h11) (
     J_3 way3 h10))∧(∀inner12 h12,J_3 inner12 h12 →
   ∃J_5:Int→Heap→Prop,(
    ldI .i64 h12 p5 fun x77=>
    ifb (x77 == 5) (
     ldT h12 (p5.add 1) fun x82=>
     ldS h12 (p5.add 4) fun x84=>
     cal Try.prog 58 #[Value.map vw0,Value.string x82,Value.int .i64 (IntKind.i64.wrap (((x84.n:Nat):Int)+i11))] h12 fun u_5 h13=>asI .i64 u_5 fun x88=>
     cal Try.prog 57 #[Value.int .i64 way3,Value.int .i64 x88] h13 fun u_6 h14=>asI .i64 u_6 fun x89=>
     J_5 x89 h14) (
     J_5 inner12 h12))∧(∀inner12_1 h15,J_5 inner12_1 h15 →
   ldS h15 (p5.add 5) fun x93=>
   ixS x93 i11 fun q95=>
   ∃(y96:Int) (y96_1:ByteArray) (y96_2:Bool) (y96_3:Int) (y96_4:Sv) (y96_5:Sv),cl h15 (q95.add ((i11:Int).toNat*6))=some (Value.int .i64 y96)∧cl h15 ((q95.add ((i11:Int).toNat*6)).add 1)=some (Value.string y96_1)∧cl h15 ((q95.add ((i11:Int).toNat*6)).add 2)=some (Value.bool y96_2)∧cl h15 ((q95.add ((i11:Int).toNat*6)).add 3)=some (Value.int .i64 y96_3)∧cl h15 ((q95.add ((i11:Int).toNat*6)).add 4)=some (Value.slice y96_4.a y96_4.n y96_4.c)∧cl h15 ((q95.add ((i11:Int).toNat*6)).add 5)=some (Value.slice y96_5.a y96_5.n y96_5.c) ∧
   ldS h15 (p6.add 5) fun x98=>
   ixS x98 i11 fun q100=>
   ∃(y101:Int) (y101_1:ByteArray) (y101_2:Bool) (y101_3:Int) (y101_4:Sv) (y101_5:Sv),cl h15 (q100.add ((i11:Int).toNat*6))=some (Value.int .i64 y101)∧cl h15 ((q100.add ((i11:Int).toNat*6)).add 1)=some (Value.string y101_1)∧cl h15 ((q100.add ((i11:Int).toNat*6)).add 2)=some (Value.bool y101_2)∧cl h15 ((q100.add ((i11:Int).toNat*6)).add 3)=some (Value.int .i64 y101_3)∧cl h15 ((q100.add ((i11:Int).toNat*6)).add 4)=some (Value.slice y101_4.a y101_4.n y101_4.c)∧cl h15 ((q100.add ((i11:Int).toNat*6)).add 5)=some (Value.slice y101_5.a y101_5.n y101_5.c) ∧
   cal Try.prog 35 #[Value.map vw0,Value.agg #[Value.int .i64 y96,Value.string y96_1,Value.bool y96_2,Value.int .i64 y96_3,Value.slice y96_4.a y96_4.n y96_4.c,Value.slice y96_5.a y96_5.n y96_5.c],Value.agg #[Value.int .i64 y101,Value.string y101_1,Value.bool y101_2,Value.int .i64 y101_3,Value.slice y101_4.a y101_4.n y101_4.c,Value.slice y101_5.a y101_5.n y101_5.c],Value.int .i64 inner12_1] h15 fun u_7 h16=>asS u_7 fun x103=>
   appS 56 (Value.agg #[Value.int .i64 0,Value.int .i64 0]).cells 2 16 h16 out9_2 x103 fun s104 h17=>
   I_1 s104 (IntKind.i64.wrap (i11+1)) h17∧m_1 s104 (IntKind.i64.wrap (i11+1)) h17<m_1 out9_2 i11 h10))) (
   R (Value.slice out9_2.a out9_2.n out9_2.c) h10)))
set_option maxRecDepth 100000 in
theorem F35 {vw0 a1 a1_1 a1_2 a1_3 a1_4 a1_5 b2 b2_1 b2_2 b2_3 b2_4 b2_5 way3 h:_} {R:Value→Heap→Prop} (H:L35 vw0 a1 a1_1 a1_2 a1_3 a1_4 a1_5 b2 b2_1 b2_2 b2_3 b2_4 b2_5 way3 h R):CallsH Try.prog 35 #[Value.map vw0,Value.agg #[Value.int .i64 a1,Value.string a1_1,Value.bool a1_2,Value.int .i64 a1_3,Value.slice a1_4.a a1_4.n a1_4.c,Value.slice a1_5.a a1_5.n a1_5.c],Value.agg #[Value.int .i64 b2,Value.string b2_1,Value.bool b2_2,Value.int .i64 b2_3,Value.slice b2_4.a b2_4.n b2_4.c,Value.slice b2_5.a b2_5.n b2_5.c],Value.int .i64 way3] h R:=by
 refine CallsH.enter (n:=106) Try.func35 rfl rfl rfl rfl ?_
 intro w0 aa ww S
 unfold L35 at H
 refine W.seq ?_
 refine W.region ?_
 refine ol_box S H rfl rfl rfl trivial ?_
 clear S H;intro p5 aa ww h1 H S
 refine ol_box S H rfl rfl rfl trivial ?_
 clear S H;intro p6 aa ww h2 H S
 refine OL.za S fun _ S=>?_
 refine OL.nil ?_
 refine W.seq ?_
 refine W.region ?_
 refine OL.za S fun _ S=>?_
 refine OL.nil ?_
 obtain⟨J,H,HK⟩:=H
 refine W.seqJ (fun aa ww=>∃out9 h4,St 106 [(0,Value.map vw0),(3,Value.int .i64 way3),(5,Value.pointer (some p5)),(6,Value.pointer (some p6)),(9,Value.slice out9.a out9.n out9.c)] h4 w0 aa ww∧J out9 h4) ?_ ?_
 ·
  clear HK
  refine W.seq ?_
  refine W.region ?_
  refine OL.zf S fa35_0 fun _ S=>?_
  obtain⟨x14,c,H⟩:=H
  refine OL.zl S fl3 c fun _ S=>?_
  refine OL.zq S (Lf.run_eql (S.ev rfl) (S.ev rfl)) fun _ S=>?_
  refine OL.zm S fun _ S=>?_
  obtain⟨J_1,H,HK_1⟩:=H
  refine OL.cutN 4 (fun aa ww=>∃x20,St 106 ((20,Value.bool x20) :: [(0,Value.map vw0),(3,Value.int .i64 way3),(5,Value.pointer (some p5)),(6,Value.pointer (some p6)),(9,Value.slice (⟨none,0,0⟩:Sv).a (⟨none,0,0⟩:Sv).n (⟨none,0,0⟩:Sv).c),(13,Value.pointer (some p5)),(14,Value.int .i64 x14),(15,Value.bool (x14 == 7)),(16,Value.bool (x14 == 7))]) h2 w0 aa ww∧J_1 x20) ?_ ?_
  ·
   rcases Bool.eq_false_or_eq_true (x14 == 7) with hb|hb
   ·
    replace H:=H.1 hb
    refine OL.zn S (GNo.mk rfl rfl hb) fun _ S=>?_
    refine OL.zn S (GNo.mk rfl rfl hb) fun _ S=>?_
    refine OL.zn S (GNo.mk rfl rfl hb) fun _ S=>?_
    refine OL.zq S (Lf.run_pickT (S.ev rfl) hb (S.ev rfl)) fun _ S=>?_
    refine OL.nil ?_
    exact⟨_,S.sub _ ⟨rfl,rfl,rfl,rfl,rfl,rfl,rfl,rfl,rfl,rfl,trivial⟩,H⟩
   ·
    replace H:=H.2 hb
    refine OL.zf (hg:=GOk.mk rfl rfl hb) S fa35_0 fun _ S=>?_
    obtain⟨x18,c_1,H⟩:=H
    refine OL.zl (hg:=GOk.mk rfl rfl hb) S fl3 c_1 fun _ S=>?_
    refine OL.zq (hg:=GOk.mk rfl rfl hb) S (Lf.run_eql (S.ev rfl) (S.ev rfl)) fun _ S=>?_
    refine OL.zq S (Lf.run_pickF (S.ev rfl) hb (S.ev rfl)) fun _ S=>?_
    refine OL.nil ?_
    exact⟨_,S.sub _ ⟨rfl,rfl,rfl,rfl,rfl,rfl,rfl,rfl,rfl,rfl,trivial⟩,H⟩
  ·
   clear S
   rintro aa ww ⟨x20,S,HJ⟩
   replace H:=HK_1 _ HJ
   clear HK_1 HJ
   refine OL.nil ?_
   refine W.cond S (b:=x20) rfl (fun hb_1=>?_) (fun hb_1=>?_)
   ·
    replace H:=H.1 hb_1
    refine W.region ?_
    refine OL.zf S fa35_3 fun _ S=>?_
    obtain⟨x22,c_2,H⟩:=H
    refine OL.zl S fl3 c_2 fun _ S=>?_
    refine OL.zf S fa35_3 fun _ S=>?_
    obtain⟨x24,c_3,H⟩:=H
    refine OL.zl S fl3 c_3 fun _ S=>?_
    refine OL.zm S fun _ S=>?_
    refine ol_cal S H isfn56 rfl rfl trivial ?_
    clear S H;intro u aa ww h3 H S
    obtain⟨x26,rfl,H⟩:=H
    refine OL.za S fun _ S=>?_
    refine OL.nil ?_
    exact⟨x26,h3,S.sub _ ⟨rfl,rfl,rfl,rfl,rfl,trivial⟩,H⟩
   ·
    replace H:=H.2 hb_1
    refine W.skip ?_
    exact⟨(⟨none,0,0⟩:Sv),h2,S.sub _ ⟨rfl,rfl,rfl,rfl,rfl,trivial⟩,H⟩
 ·
  clear H S
  rintro aa ww ⟨out9,h4,S,HJ⟩
  have H:=HK _ _ HJ
  clear HK HJ
  refine W.seq ?_
  refine W.seq ?_
  refine W.region ?_
  refine OL.za S fun _ S=>?_
  refine OL.nil ?_
  refine W.block ?_
  obtain⟨I,m,H,HB_1⟩:=H
  refine W.loopS (σ:=Sv×Int×Heap) (fun s aa ww=>St 106 [(0,Value.map vw0),(3,Value.int .i64 way3),(5,Value.pointer (some p5)),(6,Value.pointer (some p6)),(9,Value.slice s.1.a s.1.n s.1.c),(10,Value.int .i64 s.2.1)] s.2.2 w0 aa ww∧I s.1 s.2.1 s.2.2) (fun s=>m s.1 s.2.1 s.2.2) (out9,0,h4) ⟨S.sub _ ⟨rfl,rfl,rfl,rfl,rfl,rfl,trivial⟩,H⟩ ?_
  clear H S
  rintro ⟨out9_1,i10,h5⟩ aa ww ⟨S,HI⟩
  replace S:St 106 [(0,Value.map vw0),(3,Value.int .i64 way3),(5,Value.pointer (some p5)),(6,Value.pointer (some p6)),(9,Value.slice out9_1.a out9_1.n out9_1.c),(10,Value.int .i64 i10)] h5 w0 aa ww:=S
  have H:=HB_1 out9_1 i10 h5 HI
  clear HI
  refine W.seq ?_
  refine W.seq ?_
  refine W.region ?_
  refine OL.zf S fa35_0 fun _ S=>?_
  obtain⟨x28,c_4,H⟩:=H
  refine OL.zl S fl3 c_4 fun _ S=>?_
  refine OL.zq S (Lf.run_eql (S.ev rfl) (S.ev rfl)) fun _ S=>?_
  refine OL.zm S fun _ S=>?_
  obtain⟨J_2,H,HK_2⟩:=H
  refine OL.cutN 6 (fun aa ww=>∃x36,St 106 ((36,Value.bool x36) :: [(0,Value.map vw0),(3,Value.int .i64 way3),(5,Value.pointer (some p5)),(6,Value.pointer (some p6)),(9,Value.slice out9_1.a out9_1.n out9_1.c),(10,Value.int .i64 i10),(27,Value.pointer (some p5)),(28,Value.int .i64 x28),(29,Value.bool (x28 == 5)),(30,Value.bool (x28 == 5))]) h5 w0 aa ww∧J_2 x36) ?_ ?_
  ·
   rcases Bool.eq_false_or_eq_true (x28 == 5) with hb_2|hb_2
   ·
    replace H:=H.1 hb_2
    refine OL.zm (hg:=GOk.mk rfl rfl hb_2) S fun _ S=>?_
    refine OL.zf (hg:=GOk.mk rfl rfl hb_2) S fa35_4 fun _ S=>?_
    obtain⟨x33,c_5,H⟩:=H
    refine OL.zl (hg:=GOk.mk rfl rfl hb_2) S fl25 c_5 fun _ S=>?_
    refine OL.zq (hg:=GOk.mk rfl rfl hb_2) S (Lf.run_lens (S.ev rfl) rfl Try.underlying25) fun _ S=>?_
    refine OL.zq (hg:=GOk.mk rfl rfl hb_2) S (Lf.run_lss (S.ev rfl) (S.ev rfl)) fun _ S=>?_
    refine OL.zq S (Lf.run_pickT (S.ev rfl) hb_2 (S.ev rfl)) fun _ S=>?_
    refine OL.nil ?_
    exact⟨_,S.sub _ ⟨rfl,rfl,rfl,rfl,rfl,rfl,rfl,rfl,rfl,rfl,rfl,trivial⟩,H⟩
   ·
    replace H:=H.2 hb_2
    refine OL.zn S (GNo.mk rfl rfl hb_2) fun _ S=>?_
    refine OL.zn S (GNo.mk rfl rfl hb_2) fun _ S=>?_
    refine OL.zn S (GNo.mk rfl rfl hb_2) fun _ S=>?_
    refine OL.zn S (GNo.mk rfl rfl hb_2) fun _ S=>?_
    refine OL.zn S (GNo.mk rfl rfl hb_2) fun _ S=>?_
    refine OL.zq S (Lf.run_pickF (S.ev rfl) hb_2 (S.ev rfl)) fun _ S=>?_
    refine OL.nil ?_
    exact⟨_,S.sub _ ⟨rfl,rfl,rfl,rfl,rfl,rfl,rfl,rfl,rfl,rfl,rfl,trivial⟩,H⟩
  ·
   clear S
   rintro aa ww ⟨x36,S,HJ⟩
   replace H:=HK_2 _ HJ
   clear HK_2 HJ
   refine OL.nil ?_
   refine W.cond S (b:=x36) rfl (fun hb_3=>?_) (fun hb_3=>?_)
   ·
    replace H:=H.1 hb_3
    refine W.skip ?_
    refine W.seq ?_
    refine W.block ?_
    replace S:=S.sub [(0,Value.map vw0),(3,Value.int .i64 way3),(5,Value.pointer (some p5)),(6,Value.pointer (some p6)),(9,Value.slice out9_1.a out9_1.n out9_1.c),(10,Value.int .i64 i10)] ⟨rfl,rfl,rfl,rfl,rfl,rfl,trivial⟩
    obtain⟨Sq,HS,H⟩:=H
    refine W.regionN [2,5,7,10] [16,17,18,19] Sq S (by kernel_rfl) ?_
    clear S;intro ww S
    refine BN.pure 0 S (fun _=>HS) rfl (by kernel_rfl) (by kernel_rfl) (fun _=>Lf.run_move (S.ev rfl)) rfl rfl trivial fun _ S=>?_
    refine BN.pure 1 S (fun _=>HS) rfl (by kernel_rfl) (by kernel_rfl) (fun _=>Lf.run_fa (S.ev rfl) fa35_4) rfl rfl trivial fun _ S=>?_
    refine BN.pure 3 S (fun _=>HS) rfl (by kernel_rfl) (by kernel_rfl) (fun _=>Lf.run_move (S.ev rfl)) rfl rfl trivial fun _ S=>?_
    refine BN.pure 6 S (fun _=>HS) rfl (by kernel_rfl) (by kernel_rfl) (fun _=>Lf.run_fa (S.ev rfl) fa35_4) rfl rfl trivial fun _ S=>?_
    refine BN.pure 8 S (fun _=>HS) rfl (by kernel_rfl) (by kernel_rfl) (fun _=>Lf.run_move (S.ev rfl)) rfl rfl trivial fun _ S=>?_
    refine BN.pure 11 S (fun _=>HS) rfl (by kernel_rfl) (by kernel_rfl) (fun _=>Lf.run_move (S.ev rfl)) rfl rfl trivial fun _ S=>?_
    refine BN.pure 12 S (fun _=>HS) rfl (by kernel_rfl) (by kernel_rfl) (fun _=>Lf.run_move (S.ev rfl)) rfl rfl trivial fun _ S=>?_
    refine BN.pure 13 S (fun _=>HS) rfl (by kernel_rfl) (by kernel_rfl) (fun _=>Lf.run_fa (S.ev rfl) fa35_1) rfl rfl trivial fun _ S=>?_
    obtain⟨x53,c_6,H⟩:=H
    refine BN.load 14 S (fun _=>HS) rfl (by kernel_rfl) (by kernel_rfl) (fun _ hx=>Lf.run_ld (S.ev rfl) fl9 (hx.cell _ _ (S.cl c_6))) rfl rfl trivial fun _ S=>?_
    refine BN.pure 15 S (fun _=>HS) rfl (by kernel_rfl) (by kernel_rfl) (fun _=>Lf.run_move (S.ev rfl)) rfl rfl trivial fun _ S=>?_
    obtain⟨x41,c_7,H⟩:=H
    refine BN.held 2 S HS rfl (by kernel_rfl) (fun _ hq=>Lf.run_ld (S.ev rfl) fl25 (c_7 _ hq)) rfl rfl trivial fun _ S=>?_
    obtain⟨q43,e,e_1,e_2,H⟩:=H
    refine BN.pure 4 S (fun _=>HS) rfl (by kernel_rfl) (by kernel_rfl) (fun _=>Lf.run_ixs (S.ev rfl) (S.ev rfl) Try.underlying25 ti3 e e_1 e_2) rfl rfl trivial fun _ S=>?_
    obtain⟨x44,c_8,H⟩:=H
    refine BN.held 5 S HS rfl (by kernel_rfl) (fun _ hq=>Lf.run_ld (S.ev rfl) fl3 (c_8 _ hq)) rfl rfl trivial fun _ S=>?_
    obtain⟨x46,c_9,H⟩:=H
    refine BN.held 7 S HS rfl (by kernel_rfl) (fun _ hq=>Lf.run_ld (S.ev rfl) fl25 (c_9 _ hq)) rfl rfl trivial fun _ S=>?_
    obtain⟨q48,e_3,e_4,e_5,H⟩:=H
    refine BN.pure 9 S (fun _=>HS) rfl (by kernel_rfl) (by kernel_rfl) (fun _=>Lf.run_ixs (S.ev rfl) (S.ev rfl) Try.underlying25 ti3 e_3 e_4 e_5) rfl rfl trivial fun _ S=>?_
    obtain⟨x49,c_10,H⟩:=H
    refine BN.held 10 S HS rfl (by kernel_rfl) (fun _ hq=>Lf.run_ld (S.ev rfl) fl3 (c_10 _ hq)) rfl rfl trivial fun _ S=>?_
    refine BN.eff 16 rfl (by kernel_rfl) ?_
    refine ol_cal S H isfn58 rfl rfl trivial ?_
    clear S H;intro u_1 aa ww h6 H S
    obtain⟨x55,rfl,H⟩:=H
    refine OL.nil ?_
    clear HS;obtain⟨HS,H⟩:=H
    refine⟨fun _=>by rw[S.heap];exact HS,?_⟩
    refine BN.eff 17 rfl (by kernel_rfl) ?_
    refine ol_cal S H isfn57 rfl rfl trivial ?_
    clear S H;intro u_2 aa ww h7 H S
    obtain⟨x56,rfl,H⟩:=H
    refine OL.nil ?_
    clear HS;obtain⟨HS,H⟩:=H
    refine⟨fun _=>by rw[S.heap];exact HS,?_⟩
    refine BN.eff 18 rfl (by kernel_rfl) ?_
    refine ol_cal S H isfn56 rfl rfl trivial ?_
    clear S H;intro u_3 aa ww h8 H S
    obtain⟨x57,rfl,H⟩:=H
    refine OL.nil ?_
    refine⟨noNeed (by kernel_rfl),?_⟩
    refine BN.eff 19 rfl (by kernel_rfl) ?_
    refine ol_appS S H Try.underlying22 ti56 rfl rfl rfl trivial ?_
    clear S H;intro s58 aa ww h9 H S
    refine OL.nil ?_
    refine⟨noNeed (by kernel_rfl),?_⟩
    refine BN.pure 20 S (noNeed (by kernel_rfl)) rfl (by kernel_rfl) (by kernel_rfl) (fun _=>Lf.run_assign (S.ev rfl)) rfl rfl trivial fun _ S=>?_
    refine BN.done (by kernel_rfl) ?_
    refine W.region ?_
    refine OL.zm S fun _ S=>?_
    refine OL.zq S (Lf.run_add (S.ev rfl) (S.ev rfl)) fun _ S=>?_
    refine OL.za S fun _ S=>?_
    refine OL.nil ?_
    exact⟨(s58,(IntKind.i64.wrap (i10+1)),h9),⟨S.sub _ ⟨rfl,rfl,rfl,rfl,rfl,rfl,trivial⟩,H.1⟩,H.2⟩
   ·
    replace H:=H.2 hb_3
    refine W.exit_ ?_
    refine xhit ?_
    refine W.seq ?_
    refine W.seq ?_
    refine W.region ?_
    refine OL.za S fun _ S=>?_
    refine OL.nil ?_
    refine W.block ?_
    obtain⟨I_1,m_1,H,HB⟩:=H
    refine W.loopS (σ:=Sv×Int×Heap) (fun s aa ww=>St 106 [(0,Value.map vw0),(3,Value.int .i64 way3),(5,Value.pointer (some p5)),(6,Value.pointer (some p6)),(9,Value.slice s.1.a s.1.n s.1.c),(11,Value.int .i64 s.2.1)] s.2.2 w0 aa ww∧I_1 s.1 s.2.1 s.2.2) (fun s=>m_1 s.1 s.2.1 s.2.2) (out9_1,0,h5) ⟨S.sub _ ⟨rfl,rfl,rfl,rfl,rfl,rfl,trivial⟩,H⟩ ?_
    clear H S
    rintro ⟨out9_2,i11,h10⟩ aa ww ⟨S,HI⟩
    replace S:St 106 [(0,Value.map vw0),(3,Value.int .i64 way3),(5,Value.pointer (some p5)),(6,Value.pointer (some p6)),(9,Value.slice out9_2.a out9_2.n out9_2.c),(11,Value.int .i64 i11)] h10 w0 aa ww:=S
    have H:=HB out9_2 i11 h10 HI
    clear HI
    refine W.seq ?_
    refine W.seq ?_
    refine W.region ?_
    refine OL.zm S fun _ S=>?_
    refine OL.zf S fa35_5 fun _ S=>?_
    obtain⟨x61,c_11,H⟩:=H
    refine OL.zl S fl24 c_11 fun _ S=>?_
    refine OL.zq S (Lf.run_lens (S.ev rfl) rfl Try.underlying24) fun _ S=>?_
    refine OL.zq S (Lf.run_lss (S.ev rfl) (S.ev rfl)) fun _ S=>?_
    refine OL.nil ?_
    refine W.cond S (b:=(decide (i11<((x61.n:Nat):Int)))) rfl (fun hb_4=>?_) (fun hb_4=>?_)
    ·
     replace H:=H.1 hb_4
     refine W.skip ?_
     refine W.seq ?_
     refine W.block ?_
     refine W.seq ?_
     refine W.region ?_
     refine OL.zm S fun _ S=>?_
     refine OL.za S fun _ S=>?_
     refine OL.nil ?_
     obtain⟨J_3,H,HK_3⟩:=H
     refine W.seqJ (fun aa ww=>∃inner12 h12,St 106 [(0,Value.map vw0),(3,Value.int .i64 way3),(5,Value.pointer (some p5)),(6,Value.pointer (some p6)),(9,Value.slice out9_2.a out9_2.n out9_2.c),(11,Value.int .i64 i11),(12,Value.int .i64 inner12)] h12 w0 aa ww∧J_3 inner12 h12) ?_ ?_
     ·
      clear HK_3
      refine W.seq ?_
      refine W.region ?_
      refine OL.zf S fa35_0 fun _ S=>?_
      obtain⟨x68,c_12,H⟩:=H
      refine OL.zl S fl3 c_12 fun _ S=>?_
      refine OL.zq S (Lf.run_eql (S.ev rfl) (S.ev rfl)) fun _ S=>?_
      refine OL.zm S fun _ S=>?_
      obtain⟨J_4,H,HK_4⟩:=H
      refine OL.cutN 3 (fun aa ww=>∃x73,St 106 ((73,Value.bool x73) :: [(0,Value.map vw0),(3,Value.int .i64 way3),(5,Value.pointer (some p5)),(6,Value.pointer (some p6)),(9,Value.slice out9_2.a out9_2.n out9_2.c),(11,Value.int .i64 i11),(12,Value.int .i64 way3),(67,Value.pointer (some p5)),(68,Value.int .i64 x68),(69,Value.bool (x68 == 7)),(70,Value.bool (x68 == 7))]) h10 w0 aa ww∧J_4 x73) ?_ ?_
      ·
       rcases Bool.eq_false_or_eq_true (x68 == 7) with hb_5|hb_5
       ·
        replace H:=H.1 hb_5
        refine OL.zf (hg:=GOk.mk rfl rfl hb_5) S fa35_2 fun _ S=>?_
        obtain⟨x72,c_13,H⟩:=H
        refine OL.zl (hg:=GOk.mk rfl rfl hb_5) S fl4 c_13 fun _ S=>?_
        refine OL.zq S (Lf.run_pickT (S.ev rfl) hb_5 (S.ev rfl)) fun _ S=>?_
        refine OL.nil ?_
        exact⟨_,S.sub _ ⟨rfl,rfl,rfl,rfl,rfl,rfl,rfl,rfl,rfl,rfl,rfl,rfl,trivial⟩,H⟩
       ·
        replace H:=H.2 hb_5
        refine OL.zn S (GNo.mk rfl rfl hb_5) fun _ S=>?_
        refine OL.zn S (GNo.mk rfl rfl hb_5) fun _ S=>?_
        refine OL.zq S (Lf.run_pickF (S.ev rfl) hb_5 (S.ev rfl)) fun _ S=>?_
        refine OL.nil ?_
        exact⟨_,S.sub _ ⟨rfl,rfl,rfl,rfl,rfl,rfl,rfl,rfl,rfl,rfl,rfl,rfl,trivial⟩,H⟩
      ·
       clear S
       rintro aa ww ⟨x73,S,HJ⟩
       replace H:=HK_4 _ HJ
       clear HK_4 HJ
       refine OL.nil ?_
       refine W.cond S (b:=x73) rfl (fun hb_6=>?_) (fun hb_6=>?_)
       ·
        replace H:=H.1 hb_6
        refine W.region ?_
        refine OL.zm S fun _ S=>?_
        refine ol_cal S H isfn57 rfl rfl trivial ?_
        clear S H;intro u_4 aa ww h11 H S
        obtain⟨x75,rfl,H⟩:=H
        refine OL.za S fun _ S=>?_
        refine OL.nil ?_
        exact⟨x75,h11,S.sub _ ⟨rfl,rfl,rfl,rfl,rfl,rfl,rfl,trivial⟩,H⟩
       ·
        replace H:=H.2 hb_6
        refine W.skip ?_
        exact⟨way3,h10,S.sub _ ⟨rfl,rfl,rfl,rfl,rfl,rfl,rfl,trivial⟩,H⟩
     ·
      clear H S
      rintro aa ww ⟨inner12,h12,S,HJ⟩
      have H:=HK_3 _ _ HJ
      clear HK_3 HJ
      obtain⟨J_5,H,HK_5⟩:=H
      refine W.seqJ (fun aa ww=>∃inner12_1 h15,St 106 [(0,Value.map vw0),(3,Value.int .i64 way3),(5,Value.pointer (some p5)),(6,Value.pointer (some p6)),(9,Value.slice out9_2.a out9_2.n out9_2.c),(11,Value.int .i64 i11),(12,Value.int .i64 inner12_1)] h15 w0 aa ww∧J_5 inner12_1 h15) ?_ ?_
      ·
       clear HK_5
       refine W.seq ?_
       refine W.region ?_
       refine OL.zf S fa35_0 fun _ S=>?_
       obtain⟨x77,c_14,H⟩:=H
       refine OL.zl S fl3 c_14 fun _ S=>?_
       refine OL.zq S (Lf.run_eql (S.ev rfl) (S.ev rfl)) fun _ S=>?_
       refine OL.nil ?_
       refine W.cond S (b:=(x77 == 5)) rfl (fun hb_7=>?_) (fun hb_7=>?_)
       ·
        replace H:=H.1 hb_7
        refine W.region ?_
        refine OL.zm S fun _ S=>?_
        refine OL.zm S fun _ S=>?_
        refine OL.zf S fa35_1 fun _ S=>?_
        obtain⟨x82,c_15,H⟩:=H
        refine OL.zl S fl9 c_15 fun _ S=>?_
        refine OL.zf S fa35_4 fun _ S=>?_
        obtain⟨x84,c_16,H⟩:=H
        refine OL.zl S fl25 c_16 fun _ S=>?_
        refine OL.zq S (Lf.run_lens (S.ev rfl) rfl Try.underlying25) fun _ S=>?_
        refine OL.zm S fun _ S=>?_
        refine OL.zq S (Lf.run_add (S.ev rfl) (S.ev rfl)) fun _ S=>?_
        refine ol_cal S H isfn58 rfl rfl trivial ?_
        clear S H;intro u_5 aa ww h13 H S
        obtain⟨x88,rfl,H⟩:=H
        refine ol_cal S H isfn57 rfl rfl trivial ?_
        clear S H;intro u_6 aa ww h14 H S
        obtain⟨x89,rfl,H⟩:=H
        refine OL.za S fun _ S=>?_
        refine OL.nil ?_
        exact⟨x89,h14,S.sub _ ⟨rfl,rfl,rfl,rfl,rfl,rfl,rfl,trivial⟩,H⟩
       ·
        replace H:=H.2 hb_7
        refine W.skip ?_
        exact⟨inner12,h12,S.sub _ ⟨rfl,rfl,rfl,rfl,rfl,rfl,rfl,trivial⟩,H⟩
      ·
       clear H S
       rintro aa ww ⟨inner12_1,h15,S,HJ⟩
       have H:=HK_5 _ _ HJ
       clear HK_5 HJ
       replace S:=S.sub [(0,Value.map vw0),(3,Value.int .i64 way3),(5,Value.pointer (some p5)),(6,Value.pointer (some p6)),(9,Value.slice out9_2.a out9_2.n out9_2.c),(11,Value.int .i64 i11),(12,Value.int .i64 inner12_1)] ⟨rfl,rfl,rfl,rfl,rfl,rfl,rfl,trivial⟩
       refine W.regionD S (by kernel_rfl) ?_
       clear S;intro ww S
       refine AN.zq 0 S rfl (fun _=>Lf.run_move (S.ev rfl)) fun _ S=>?_
       refine AN.zq 1 S rfl (fun _=>Lf.run_move (S.ev rfl)) fun _ S=>?_
       refine AN.zq 2 S rfl (fun _=>Lf.run_fa (S.ev rfl) fa35_5) fun _ S=>?_
       obtain⟨x93,c_17,H⟩:=H
       refine AN.zl 3 S rfl (fun _ hx=>Lf.run_ld (S.ev rfl) fl24 (hx.cell _ _ (S.cl c_17))) fun _ S=>?_
       refine AN.zq 4 S rfl (fun _=>Lf.run_move (S.ev rfl)) fun _ S=>?_
       obtain⟨q95,e_6,e_7,e_8,H⟩:=H
       refine AN.zq 5 S rfl (fun _=>Lf.run_ixs (S.ev rfl) (S.ev rfl) Try.underlying24 ti35 e_6 e_7 e_8) fun _ S=>?_
       obtain⟨y96,y96_1,y96_2,y96_3,y96_4,y96_5,c_27,c_28,c_29,c_30,c_31,c_32,H⟩:=H
       refine AN.zl 6 S rfl (fun _ hx=>Lf.run_ldA (cs:=[Value.int .i64 y96,Value.string y96_1,Value.bool y96_2,Value.int .i64 y96_3,Value.slice y96_4.a y96_4.n y96_4.c,Value.slice y96_5.a y96_5.n y96_5.c]) (S.ev rfl) ag35 ti35 (hx.row (S.row ⟨c_27,c_28,c_29,c_30,c_31,c_32,trivial⟩))) fun _ S=>?_
       refine AN.zq 7 S rfl (fun _=>Lf.run_fa (S.ev rfl) fa35_5) fun _ S=>?_
       obtain⟨x98,c_19,H⟩:=H
       refine AN.zl 8 S rfl (fun _ hx=>Lf.run_ld (S.ev rfl) fl24 (hx.cell _ _ (S.cl c_19))) fun _ S=>?_
       refine AN.zq 9 S rfl (fun _=>Lf.run_move (S.ev rfl)) fun _ S=>?_
       obtain⟨q100,e_9,e_10,e_11,H⟩:=H
       refine AN.zq 10 S rfl (fun _=>Lf.run_ixs (S.ev rfl) (S.ev rfl) Try.underlying24 ti35 e_9 e_10 e_11) fun _ S=>?_
       obtain⟨y101,y101_1,y101_2,y101_3,y101_4,y101_5,c_21,c_22,c_23,c_24,c_25,c_26,H⟩:=H
       refine AN.zl 11 S rfl (fun _ hx=>Lf.run_ldA (cs:=[Value.int .i64 y101,Value.string y101_1,Value.bool y101_2,Value.int .i64 y101_3,Value.slice y101_4.a y101_4.n y101_4.c,Value.slice y101_5.a y101_5.n y101_5.c]) (S.ev rfl) ag35 ti35 (hx.row (S.row ⟨c_21,c_22,c_23,c_24,c_25,c_26,trivial⟩))) fun _ S=>?_
       refine AN.zq 12 S rfl (fun _=>Lf.run_move (S.ev rfl)) fun _ S=>?_
       refine AN.eff 13 rfl (by kernel_rfl) ?_
       refine ol_cal S H isfn35 rfl rfl trivial ?_
       clear S H;intro u_7 aa ww h16 H S
       obtain⟨x103,rfl,H⟩:=H
       refine OL.nil ?_
       refine AN.eff 14 rfl (by kernel_rfl) ?_
       refine ol_appS S H Try.underlying22 ti56 rfl rfl rfl trivial ?_
       clear S H;intro s104 aa ww h17 H S
       refine OL.nil ?_
       refine AN.zq 15 S rfl (fun _=>Lf.run_assign (S.ev rfl)) fun _ S=>?_
       refine AN.done (by kernel_rfl) ?_
       refine W.region ?_
       refine OL.zm S fun _ S=>?_
       refine OL.zq S (Lf.run_add (S.ev rfl) (S.ev rfl)) fun _ S=>?_
       refine OL.za S fun _ S=>?_
       refine OL.nil ?_
       exact⟨(s104,(IntKind.i64.wrap (i11+1)),h17),⟨S.sub _ ⟨rfl,rfl,rfl,rfl,rfl,rfl,trivial⟩,H.1⟩,H.2⟩
    ·
     replace H:=H.2 hb_4
     refine W.exit_ ?_
     refine xhit ?_
     refine W.seq ?_
     refine W.region ?_
     refine OL.zm S fun _ S=>?_
     refine OL.za S fun _ S=>?_
     refine OL.nil ?_
     refine W.ret ?_
     exact Ret.one S rfl rfl H
def L36 (x0:Int) (x0_1:ByteArray) (x0_2:Bool) (x0_3:Int) (x0_4:Sv) (x0_5:Sv) (free1:Int) (vby2:Int) (h:Heap) (R:Value→Heap→Prop):Prop:=
 new 35 #[Value.int .i64 x0,Value.string x0_1,Value.bool x0_2,Value.int .i64 x0_3,Value.slice x0_4.a x0_4.n x0_4.c,Value.slice x0_5.a x0_5.n x0_5.c] h fun p3 h1=>
 new 35 #[Value.int .i64 0,Value.string (⟨#[]⟩:ByteArray),Value.bool false,Value.int .i64 0,Value.slice (⟨none,0,0⟩:Sv).a (⟨none,0,0⟩:Sv).n (⟨none,0,0⟩:Sv).c,Value.slice (⟨none,0,0⟩:Sv).a (⟨none,0,0⟩:Sv).n (⟨none,0,0⟩:Sv).c] h1 fun p6 h2=>
 ∃(y11:Int) (y11_1:ByteArray) (y11_2:Bool) (y11_3:Int) (y11_4:Sv) (y11_5:Sv),cl h2 p3=some (Value.int .i64 y11)∧cl h2 (p3.add 1)=some (Value.string y11_1)∧cl h2 (p3.add 2)=some (Value.bool y11_2)∧cl h2 (p3.add 3)=some (Value.int .i64 y11_3)∧cl h2 (p3.add 4)=some (Value.slice y11_4.a y11_4.n y11_4.c)∧cl h2 (p3.add 5)=some (Value.slice y11_5.a y11_5.n y11_5.c) ∧
 cal Try.prog 52 #[Value.agg #[Value.int .i64 y11,Value.string y11_1,Value.bool y11_2,Value.int .i64 y11_3,Value.slice y11_4.a y11_4.n y11_4.c,Value.slice y11_5.a y11_5.n y11_5.c]] h2 fun u h3=>asS u fun x12=>
 ∃(I:Int→Heap→Prop) (m:Int→Heap→Nat),I 0 h3∧∀i8 h4,I i8 h4 →
 ifb (decide (i8<((x12.n:Nat):Int))) (
  ∃J:Heap→Prop,(
   ixS x12 i8 fun q21=>
   ldI .i64 h4 (q21.add ((i8:Int).toNat*1)) fun x22=>
   ifb (decide (free1<x22)) (
    ixS x12 i8 fun q29=>
    ldI .i64 h4 (q29.add ((i8:Int).toNat*1)) fun x30=>
    ixS x12 i8 fun q33=>
    sto h4 (q33.add ((i8:Int).toNat*1)) (Value.int .i64 (IntKind.i64.wrap (x30+vby2))) fun h5=>
    J h5) (
    J h4))∧(∀h6,J h6 →
  I (IntKind.i64.wrap (i8+1)) h6∧m (IntKind.i64.wrap (i8+1)) h6<m i8 h4)) (
  ∃(y35:Int) (y35_1:ByteArray) (y35_2:Bool) (y35_3:Int) (y35_4:Sv) (y35_5:Sv),cl h4 p3=some (Value.int .i64 y35)∧cl h4 (p3.add 1)=some (Value.string y35_1)∧cl h4 (p3.add 2)=some (Value.bool y35_2)∧cl h4 (p3.add 3)=some (Value.int .i64 y35_3)∧cl h4 (p3.add 4)=some (Value.slice y35_4.a y35_4.n y35_4.c)∧cl h4 (p3.add 5)=some (Value.slice y35_5.a y35_5.n y35_5.c) ∧
  cal Try.prog 59 #[Value.agg #[Value.int .i64 y35,Value.string y35_1,Value.bool y35_2,Value.int .i64 y35_3,Value.slice y35_4.a y35_4.n y35_4.c,Value.slice y35_5.a y35_5.n y35_5.c],Value.slice x12.a x12.n x12.c] h4 fun u_1 h7=>∃(y37:Int) (y37_1:ByteArray) (y37_2:Bool) (y37_3:Int) (y37_4:Sv) (y37_5:Sv) (x37:Sv),u_1=Value.tuple #[Value.agg #[Value.int .i64 y37,Value.string y37_1,Value.bool y37_2,Value.int .i64 y37_3,Value.slice y37_4.a y37_4.n y37_4.c,Value.slice y37_5.a y37_5.n y37_5.c],Value.slice x37.a x37.n x37.c] ∧
  new 35 #[Value.int .i64 0,Value.string (⟨#[]⟩:ByteArray),Value.bool false,Value.int .i64 0,Value.slice (⟨none,0,0⟩:Sv).a (⟨none,0,0⟩:Sv).n (⟨none,0,0⟩:Sv).c,Value.slice (⟨none,0,0⟩:Sv).a (⟨none,0,0⟩:Sv).n (⟨none,0,0⟩:Sv).c] h7 fun p9 h8=>
  stoA h8 p9 [Value.int .i64 y37,Value.string y37_1,Value.bool y37_2,Value.int .i64 y37_3,Value.slice y37_4.a y37_4.n y37_4.c,Value.slice y37_5.a y37_5.n y37_5.c] fun h9=>
  ∃(y40:Int) (y40_1:ByteArray) (y40_2:Bool) (y40_3:Int) (y40_4:Sv) (y40_5:Sv),cl h9 p9=some (Value.int .i64 y40)∧cl h9 (p9.add 1)=some (Value.string y40_1)∧cl h9 (p9.add 2)=some (Value.bool y40_2)∧cl h9 (p9.add 3)=some (Value.int .i64 y40_3)∧cl h9 (p9.add 4)=some (Value.slice y40_4.a y40_4.n y40_4.c)∧cl h9 (p9.add 5)=some (Value.slice y40_5.a y40_5.n y40_5.c) ∧
  stoA h9 p6 [Value.int .i64 y40,Value.string y40_1,Value.bool y40_2,Value.int .i64 y40_3,Value.slice y40_4.a y40_4.n y40_4.c,Value.slice y40_5.a y40_5.n y40_5.c] fun h10=>
  ∃(y:Int) (y_1:ByteArray) (y_2:Bool) (y_3:Int) (y_4:Sv) (y_5:Sv),cl h10 p6=some (Value.int .i64 y)∧cl h10 (p6.add 1)=some (Value.string y_1)∧cl h10 (p6.add 2)=some (Value.bool y_2)∧cl h10 (p6.add 3)=some (Value.int .i64 y_3)∧cl h10 (p6.add 4)=some (Value.slice y_4.a y_4.n y_4.c)∧cl h10 (p6.add 5)=some (Value.slice y_5.a y_5.n y_5.c) ∧
  R (Value.agg #[Value.int .i64 y,Value.string y_1,Value.bool y_2,Value.int .i64 y_3,Value.slice y_4.a y_4.n y_4.c,Value.slice y_5.a y_5.n y_5.c]) h10)
set_option maxRecDepth 100000 in
theorem F36 {x0 x0_1 x0_2 x0_3 x0_4 x0_5 free1 vby2 h:_} {R:Value→Heap→Prop} (H:L36 x0 x0_1 x0_2 x0_3 x0_4 x0_5 free1 vby2 h R):CallsH Try.prog 36 #[Value.agg #[Value.int .i64 x0,Value.string x0_1,Value.bool x0_2,Value.int .i64 x0_3,Value.slice x0_4.a x0_4.n x0_4.c,Value.slice x0_5.a x0_5.n x0_5.c],Value.int .i64 free1,Value.int .i64 vby2] h R:=by
 refine CallsH.enter (n:=41) Try.func36 rfl rfl rfl rfl ?_
 intro w0 aa ww S
 unfold L36 at H
 refine W.seq ?_
 refine W.region ?_
 refine ol_box S H rfl rfl rfl trivial ?_
 clear S H;intro p3 aa ww h1 H S
 refine ol_alloc S H ti35 rfl rfl trivial ?_
 clear S H;intro p6 aa ww h2 H S
 refine OL.nil ?_
 refine W.seq ?_
 refine W.region ?_
 obtain⟨y11,y11_1,y11_2,y11_3,y11_4,y11_5,c_23,c_24,c_25,c_26,c_27,c_28,H⟩:=H
 refine OL.zq S (Lf.run_ldA (cs:=[Value.int .i64 y11,Value.string y11_1,Value.bool y11_2,Value.int .i64 y11_3,Value.slice y11_4.a y11_4.n y11_4.c,Value.slice y11_5.a y11_5.n y11_5.c]) (S.ev rfl) ag35 ti35 (by rw[S.heap];exact RowL.toRow ⟨c_23,c_24,c_25,c_26,c_27,c_28,trivial⟩)) fun _ S=>?_
 refine ol_cal S H isfn52 rfl rfl trivial ?_
 clear S H;intro u aa ww h3 H S
 obtain⟨x12,rfl,H⟩:=H
 refine OL.za S fun _ S=>?_
 refine OL.nil ?_
 refine W.seq ?_
 refine W.seq ?_
 refine W.region ?_
 refine OL.za S fun _ S=>?_
 refine OL.nil ?_
 refine W.block ?_
 obtain⟨I,m,H,HB⟩:=H
 refine W.loopS (σ:=Int×Heap) (fun s aa ww=>St 41 [(1,Value.int .i64 free1),(2,Value.int .i64 vby2),(3,Value.pointer (some p3)),(6,Value.pointer (some p6)),(7,Value.slice x12.a x12.n x12.c),(8,Value.int .i64 s.1)] s.2 w0 aa ww∧I s.1 s.2) (fun s=>m s.1 s.2) (0,h3) ⟨S.sub _ ⟨rfl,rfl,rfl,rfl,rfl,rfl,trivial⟩,H⟩ ?_
 clear H S
 rintro ⟨i8,h4⟩ aa ww ⟨S,HI⟩
 replace S:St 41 [(1,Value.int .i64 free1),(2,Value.int .i64 vby2),(3,Value.pointer (some p3)),(6,Value.pointer (some p6)),(7,Value.slice x12.a x12.n x12.c),(8,Value.int .i64 i8)] h4 w0 aa ww:=S
 have H:=HB i8 h4 HI
 clear HI
 refine W.seq ?_
 refine W.seq ?_
 refine W.region ?_
 refine OL.zm S fun _ S=>?_
 refine OL.zm S fun _ S=>?_
 refine OL.zq S (Lf.run_lens (S.ev rfl) rfl Try.underlying25) fun _ S=>?_
 refine OL.zq S (Lf.run_lss (S.ev rfl) (S.ev rfl)) fun _ S=>?_
 refine OL.nil ?_
 refine W.cond S (b:=(decide (i8<((x12.n:Nat):Int)))) rfl (fun hb=>?_) (fun hb=>?_)
 ·
  replace H:=H.1 hb
  refine W.skip ?_
  obtain⟨J,H,HK⟩:=H
  refine W.seqJ (fun aa ww=>∃h6,St 41 [(1,Value.int .i64 free1),(2,Value.int .i64 vby2),(3,Value.pointer (some p3)),(6,Value.pointer (some p6)),(7,Value.slice x12.a x12.n x12.c),(8,Value.int .i64 i8)] h6 w0 aa ww∧J h6) ?_ ?_
  ·
   clear HK
   refine W.block ?_
   refine W.seq ?_
   refine W.region ?_
   refine OL.zm S fun _ S=>?_
   refine OL.zm S fun _ S=>?_
   obtain⟨q21,e,e_1,e_2,H⟩:=H
   refine OL.zq S (Lf.run_ixs (S.ev rfl) (S.ev rfl) Try.underlying25 ti3 e e_1 e_2) fun _ S=>?_
   obtain⟨x22,c_1,H⟩:=H
   refine OL.zl S fl3 c_1 fun _ S=>?_
   refine OL.zm S fun _ S=>?_
   refine OL.zq S (Lf.run_gtr (S.ev rfl) (S.ev rfl)) fun _ S=>?_
   refine OL.nil ?_
   refine W.cond S (b:=(decide (free1<x22))) rfl (fun hb_1=>?_) (fun hb_1=>?_)
   ·
    replace H:=H.1 hb_1
    refine W.region ?_
    refine OL.zm S fun _ S=>?_
    refine OL.zm S fun _ S=>?_
    refine OL.zm S fun _ S=>?_
    refine OL.zm S fun _ S=>?_
    obtain⟨q29,e_3,e_4,e_5,H⟩:=H
    refine OL.zq S (Lf.run_ixs (S.ev rfl) (S.ev rfl) Try.underlying25 ti3 e_3 e_4 e_5) fun _ S=>?_
    obtain⟨x30,c_2,H⟩:=H
    refine OL.zl S fl3 c_2 fun _ S=>?_
    refine OL.zm S fun _ S=>?_
    refine OL.zq S (Lf.run_add (S.ev rfl) (S.ev rfl)) fun _ S=>?_
    obtain⟨q33,e_6,e_7,e_8,H⟩:=H
    refine OL.zq S (Lf.run_ixs (S.ev rfl) (S.ev rfl) Try.underlying25 ti3 e_6 e_7 e_8) fun _ S=>?_
    refine ol_sto S H rfl rfl rfl ti3 trivial ?_
    clear S H;intro aa ww h5 H S
    refine OL.nil ?_
    exact⟨h5,S.sub _ ⟨rfl,rfl,rfl,rfl,rfl,rfl,trivial⟩,H⟩
   ·
    replace H:=H.2 hb_1
    refine W.skip ?_
    exact⟨h4,S.sub _ ⟨rfl,rfl,rfl,rfl,rfl,rfl,trivial⟩,H⟩
  ·
   clear H S
   rintro aa ww ⟨h6,S,HJ⟩
   have H:=HK _ HJ
   clear HK HJ
   refine W.region ?_
   refine OL.zm S fun _ S=>?_
   refine OL.zq S (Lf.run_add (S.ev rfl) (S.ev rfl)) fun _ S=>?_
   refine OL.za S fun _ S=>?_
   refine OL.nil ?_
   exact⟨((IntKind.i64.wrap (i8+1)),h6),⟨S.sub _ ⟨rfl,rfl,rfl,rfl,rfl,rfl,trivial⟩,H.1⟩,H.2⟩
 ·
  replace H:=H.2 hb
  refine W.exit_ ?_
  refine xhit ?_
  refine W.seq ?_
  refine W.region ?_
  obtain⟨y35,y35_1,y35_2,y35_3,y35_4,y35_5,c_17,c_18,c_19,c_20,c_21,c_22,H⟩:=H
  refine OL.zq S (Lf.run_ldA (cs:=[Value.int .i64 y35,Value.string y35_1,Value.bool y35_2,Value.int .i64 y35_3,Value.slice y35_4.a y35_4.n y35_4.c,Value.slice y35_5.a y35_5.n y35_5.c]) (S.ev rfl) ag35 ti35 (by rw[S.heap];exact RowL.toRow ⟨c_17,c_18,c_19,c_20,c_21,c_22,trivial⟩)) fun _ S=>?_
  refine OL.zm S fun _ S=>?_
  refine ol_cal S H isfn59 rfl rfl trivial ?_
  clear S H;intro u_1 aa ww h7 H S
  obtain⟨y37,y37_1,y37_2,y37_3,y37_4,y37_5,x37,rfl,H⟩:=H
  refine OL.zm S fun _ S=>?_
  refine OL.zq S (Lf.run_ex (S.ev rfl) rfl) fun _ S=>?_
  refine OL.zq S (Lf.run_ex (S.ev rfl) rfl) fun _ S=>?_
  refine ol_alloc S H ti35 rfl rfl trivial ?_
  clear S H;intro p9 aa ww h8 H S
  refine ol_stoA S H rfl rfl ti35 trivial ?_
  clear S H;intro aa ww h9 H S
  refine OL.za S fun _ S=>?_
  refine OL.nil ?_
  refine W.seq ?_
  refine W.region ?_
  obtain⟨y40,y40_1,y40_2,y40_3,y40_4,y40_5,c_11,c_12,c_13,c_14,c_15,c_16,H⟩:=H
  refine OL.zq S (Lf.run_ldA (cs:=[Value.int .i64 y40,Value.string y40_1,Value.bool y40_2,Value.int .i64 y40_3,Value.slice y40_4.a y40_4.n y40_4.c,Value.slice y40_5.a y40_5.n y40_5.c]) (S.ev rfl) ag35 ti35 (by rw[S.heap];exact RowL.toRow ⟨c_11,c_12,c_13,c_14,c_15,c_16,trivial⟩)) fun _ S=>?_
  refine ol_stoA S H rfl rfl ti35 trivial ?_
  clear S H;intro aa ww h10 H S
  refine OL.nil ?_
  refine W.ret ?_
  obtain⟨y,y_1,y_2,y_3,y_4,y_5,c_5,c_6,c_7,c_8,c_9,c_10,H⟩:=H
  exact Ret.gen S rfl (RV.cellA (cs:=[Value.int .i64 y,Value.string y_1,Value.bool y_2,Value.int .i64 y_3,Value.slice y_4.a y_4.n y_4.c,Value.slice y_5.a y_5.n y_5.c]) rfl ag35 ti35 ⟨c_5,c_6,c_7,c_8,c_9,c_10,trivial⟩ RV.nil) rfl H
def L37 (x0:Int) (x0_1:ByteArray) (x0_2:Bool) (x0_3:Int) (x0_4:Sv) (x0_5:Sv) (l1:Sv) (vat2:Int) (most3:Int) (h:Heap) (R:Value→Heap→Prop):Prop:=
 new 35 #[Value.int .i64 x0,Value.string x0_1,Value.bool x0_2,Value.int .i64 x0_3,Value.slice x0_4.a x0_4.n x0_4.c,Value.slice x0_5.a x0_5.n x0_5.c] h fun p4 h1=>
 new 35 #[Value.int .i64 0,Value.string (⟨#[]⟩:ByteArray),Value.bool false,Value.int .i64 0,Value.slice (⟨none,0,0⟩:Sv).a (⟨none,0,0⟩:Sv).n (⟨none,0,0⟩:Sv).c,Value.slice (⟨none,0,0⟩:Sv).a (⟨none,0,0⟩:Sv).n (⟨none,0,0⟩:Sv).c] h1 fun p8 h2=>
 ∃(y15:Int) (y15_1:ByteArray) (y15_2:Bool) (y15_3:Int) (y15_4:Sv) (y15_5:Sv),cl h2 p4=some (Value.int .i64 y15)∧cl h2 (p4.add 1)=some (Value.string y15_1)∧cl h2 (p4.add 2)=some (Value.bool y15_2)∧cl h2 (p4.add 3)=some (Value.int .i64 y15_3)∧cl h2 (p4.add 4)=some (Value.slice y15_4.a y15_4.n y15_4.c)∧cl h2 (p4.add 5)=some (Value.slice y15_5.a y15_5.n y15_5.c) ∧
 cal Try.prog 52 #[Value.agg #[Value.int .i64 y15,Value.string y15_1,Value.bool y15_2,Value.int .i64 y15_3,Value.slice y15_4.a y15_4.n y15_4.c,Value.slice y15_5.a y15_5.n y15_5.c]] h2 fun u h3=>asS u fun x16=>
 ∃(I:Sv→Int→Heap→Prop) (m:Sv→Int→Heap→Nat),I (⟨none,0,0⟩:Sv) 0 h3∧∀all10 i11 h4,I all10 i11 h4 →
 ifb (decide (i11<((x16.n:Nat):Int))) (
  ∃J:Int→Heap→Prop,(
   ifb (decide (0<((l1.n:Nat):Int))) (
    (((l1.n:Nat):Int)≠0) ∧
    ixS l1 (((IntKind.i64.wrap (vat2+i11)):Int).tmod ((l1.n:Nat):Int)) fun q33=>
    ldI .i64 h4 (q33.add (((((IntKind.i64.wrap (vat2+i11)):Int).tmod ((l1.n:Nat):Int)):Int).toNat*1)) fun x34=>
    ((IntKind.u64.wrap (IntKind.i64.wrap (most3+1)))≠0) ∧
    J (IntKind.i64.wrap (((IntKind.u64.wrap x34):Int).tmod (IntKind.u64.wrap (IntKind.i64.wrap (most3+1))))) h4) (
    J 0 h4))∧(∀r12 h5,J r12 h5 →
  newS 3 #[Value.int .i64 r12] 1 h5 fun s43 h6=>
  appS 3 (Value.int .i64 0).cells 1 8 h6 all10 s43 fun s44 h7=>
  I s44 (IntKind.i64.wrap (i11+1)) h7∧m s44 (IntKind.i64.wrap (i11+1)) h7<m all10 i11 h4)) (
  ∃(y46:Int) (y46_1:ByteArray) (y46_2:Bool) (y46_3:Int) (y46_4:Sv) (y46_5:Sv),cl h4 p4=some (Value.int .i64 y46)∧cl h4 (p4.add 1)=some (Value.string y46_1)∧cl h4 (p4.add 2)=some (Value.bool y46_2)∧cl h4 (p4.add 3)=some (Value.int .i64 y46_3)∧cl h4 (p4.add 4)=some (Value.slice y46_4.a y46_4.n y46_4.c)∧cl h4 (p4.add 5)=some (Value.slice y46_5.a y46_5.n y46_5.c) ∧
  cal Try.prog 59 #[Value.agg #[Value.int .i64 y46,Value.string y46_1,Value.bool y46_2,Value.int .i64 y46_3,Value.slice y46_4.a y46_4.n y46_4.c,Value.slice y46_5.a y46_5.n y46_5.c],Value.slice all10.a all10.n all10.c] h4 fun u_1 h8=>∃(y48:Int) (y48_1:ByteArray) (y48_2:Bool) (y48_3:Int) (y48_4:Sv) (y48_5:Sv) (x48:Sv),u_1=Value.tuple #[Value.agg #[Value.int .i64 y48,Value.string y48_1,Value.bool y48_2,Value.int .i64 y48_3,Value.slice y48_4.a y48_4.n y48_4.c,Value.slice y48_5.a y48_5.n y48_5.c],Value.slice x48.a x48.n x48.c] ∧
  new 35 #[Value.int .i64 0,Value.string (⟨#[]⟩:ByteArray),Value.bool false,Value.int .i64 0,Value.slice (⟨none,0,0⟩:Sv).a (⟨none,0,0⟩:Sv).n (⟨none,0,0⟩:Sv).c,Value.slice (⟨none,0,0⟩:Sv).a (⟨none,0,0⟩:Sv).n (⟨none,0,0⟩:Sv).c] h8 fun p13 h9=>
  stoA h9 p13 [Value.int .i64 y48,Value.string y48_1,Value.bool y48_2,Value.int .i64 y48_3,Value.slice y48_4.a y48_4.n y48_4.c,Value.slice y48_5.a y48_5.n y48_5.c] fun h10=>
  ∃(y51:Int) (y51_1:ByteArray) (y51_2:Bool) (y51_3:Int) (y51_4:Sv) (y51_5:Sv),cl h10 p13=some (Value.int .i64 y51)∧cl h10 (p13.add 1)=some (Value.string y51_1)∧cl h10 (p13.add 2)=some (Value.bool y51_2)∧cl h10 (p13.add 3)=some (Value.int .i64 y51_3)∧cl h10 (p13.add 4)=some (Value.slice y51_4.a y51_4.n y51_4.c)∧cl h10 (p13.add 5)=some (Value.slice y51_5.a y51_5.n y51_5.c) ∧
  stoA h10 p8 [Value.int .i64 y51,Value.string y51_1,Value.bool y51_2,Value.int .i64 y51_3,Value.slice y51_4.a y51_4.n y51_4.c,Value.slice y51_5.a y51_5.n y51_5.c] fun h11=>
  ∃(y:Int) (y_1:ByteArray) (y_2:Bool) (y_3:Int) (y_4:Sv) (y_5:Sv),cl h11 p8=some (Value.int .i64 y)∧cl h11 (p8.add 1)=some (Value.string y_1)∧cl h11 (p8.add 2)=some (Value.bool y_2)∧cl h11 (p8.add 3)=some (Value.int .i64 y_3)∧cl h11 (p8.add 4)=some (Value.slice y_4.a y_4.n y_4.c)∧cl h11 (p8.add 5)=some (Value.slice y_5.a y_5.n y_5.c) ∧
  R (Value.agg #[Value.int .i64 y,Value.string y_1,Value.bool y_2,Value.int .i64 y_3,Value.slice y_4.a y_4.n y_4.c,Value.slice y_5.a y_5.n y_5.c]) h11)
set_option maxRecDepth 100000 in
theorem F37 {x0 x0_1 x0_2 x0_3 x0_4 x0_5 l1 vat2 most3 h:_} {R:Value→Heap→Prop} (H:L37 x0 x0_1 x0_2 x0_3 x0_4 x0_5 l1 vat2 most3 h R):CallsH Try.prog 37 #[Value.agg #[Value.int .i64 x0,Value.string x0_1,Value.bool x0_2,Value.int .i64 x0_3,Value.slice x0_4.a x0_4.n x0_4.c,Value.slice x0_5.a x0_5.n x0_5.c],Value.slice l1.a l1.n l1.c,Value.int .i64 vat2,Value.int .i64 most3] h R:=by
 refine CallsH.enter (n:=52) Try.func37 rfl rfl rfl rfl ?_
 intro w0 aa ww S
 unfold L37 at H
 refine W.seq ?_
 refine W.region ?_
 refine ol_box S H rfl rfl rfl trivial ?_
 clear S H;intro p4 aa ww h1 H S
 refine ol_alloc S H ti35 rfl rfl trivial ?_
 clear S H;intro p8 aa ww h2 H S
 refine OL.nil ?_
 refine W.seq ?_
 refine W.region ?_
 obtain⟨y15,y15_1,y15_2,y15_3,y15_4,y15_5,c_24,c_25,c_26,c_27,c_28,c_29,H⟩:=H
 refine OL.zq S (Lf.run_ldA (cs:=[Value.int .i64 y15,Value.string y15_1,Value.bool y15_2,Value.int .i64 y15_3,Value.slice y15_4.a y15_4.n y15_4.c,Value.slice y15_5.a y15_5.n y15_5.c]) (S.ev rfl) ag35 ti35 (by rw[S.heap];exact RowL.toRow ⟨c_24,c_25,c_26,c_27,c_28,c_29,trivial⟩)) fun _ S=>?_
 refine ol_cal S H isfn52 rfl rfl trivial ?_
 clear S H;intro u aa ww h3 H S
 obtain⟨x16,rfl,H⟩:=H
 refine OL.zq S (Lf.run_lens (S.ev rfl) rfl Try.underlying25) fun _ S=>?_
 refine OL.za S fun _ S=>?_
 refine OL.nil ?_
 refine W.seq ?_
 refine W.region ?_
 refine OL.za S fun _ S=>?_
 refine OL.nil ?_
 refine W.seq ?_
 refine W.seq ?_
 refine W.region ?_
 refine OL.za S fun _ S=>?_
 refine OL.nil ?_
 refine W.block ?_
 obtain⟨I,m,H,HB⟩:=H
 refine W.loopS (σ:=Sv×Int×Heap) (fun s aa ww=>St 52 [(1,Value.slice l1.a l1.n l1.c),(2,Value.int .i64 vat2),(3,Value.int .i64 most3),(4,Value.pointer (some p4)),(8,Value.pointer (some p8)),(9,Value.int .i64 ((x16.n:Nat):Int)),(10,Value.slice s.1.a s.1.n s.1.c),(11,Value.int .i64 s.2.1)] s.2.2 w0 aa ww∧I s.1 s.2.1 s.2.2) (fun s=>m s.1 s.2.1 s.2.2) ((⟨none,0,0⟩:Sv),0,h3) ⟨S.sub _ ⟨rfl,rfl,rfl,rfl,rfl,rfl,rfl,rfl,trivial⟩,H⟩ ?_
 clear H S
 rintro ⟨all10,i11,h4⟩ aa ww ⟨S,HI⟩
 replace S:St 52 [(1,Value.slice l1.a l1.n l1.c),(2,Value.int .i64 vat2),(3,Value.int .i64 most3),(4,Value.pointer (some p4)),(8,Value.pointer (some p8)),(9,Value.int .i64 ((x16.n:Nat):Int)),(10,Value.slice all10.a all10.n all10.c),(11,Value.int .i64 i11)] h4 w0 aa ww:=S
 have H:=HB all10 i11 h4 HI
 clear HI
 refine W.seq ?_
 refine W.seq ?_
 refine W.region ?_
 refine OL.zm S fun _ S=>?_
 refine OL.zm S fun _ S=>?_
 refine OL.zq S (Lf.run_lss (S.ev rfl) (S.ev rfl)) fun _ S=>?_
 refine OL.nil ?_
 refine W.cond S (b:=(decide (i11<((x16.n:Nat):Int)))) rfl (fun hb=>?_) (fun hb=>?_)
 ·
  replace H:=H.1 hb
  refine W.skip ?_
  refine W.seq ?_
  refine W.block ?_
  refine W.seq ?_
  refine W.region ?_
  refine OL.za S fun _ S=>?_
  refine OL.nil ?_
  obtain⟨J,H,HK⟩:=H
  refine W.seqJ (fun aa ww=>∃r12 h5,St 52 [(1,Value.slice l1.a l1.n l1.c),(2,Value.int .i64 vat2),(3,Value.int .i64 most3),(4,Value.pointer (some p4)),(8,Value.pointer (some p8)),(9,Value.int .i64 ((x16.n:Nat):Int)),(10,Value.slice all10.a all10.n all10.c),(11,Value.int .i64 i11),(12,Value.int .i64 r12)] h5 w0 aa ww∧J r12 h5) ?_ ?_
  ·
   clear HK
   refine W.seq ?_
   refine W.region ?_
   refine OL.zm S fun _ S=>?_
   refine OL.zq S (Lf.run_lens (S.ev rfl) rfl Try.underlying25) fun _ S=>?_
   refine OL.zq S (Lf.run_gtr (S.ev rfl) (S.ev rfl)) fun _ S=>?_
   refine OL.nil ?_
   refine W.cond S (b:=(decide (0<((l1.n:Nat):Int)))) rfl (fun hb_1=>?_) (fun hb_1=>?_)
   ·
    replace H:=H.1 hb_1
    refine W.region ?_
    refine OL.zm S fun _ S=>?_
    refine OL.zm S fun _ S=>?_
    refine OL.zm S fun _ S=>?_
    refine OL.zq S (Lf.run_add (S.ev rfl) (S.ev rfl)) fun _ S=>?_
    refine OL.zm S fun _ S=>?_
    refine OL.zq S (Lf.run_lens (S.ev rfl) rfl Try.underlying25) fun _ S=>?_
    obtain⟨c_3,H⟩:=H
    refine OL.zq S (Lf.run_rem (S.ev rfl) (S.ev rfl) c_3) fun _ S=>?_
    obtain⟨q33,e,e_1,e_2,H⟩:=H
    refine OL.zq S (Lf.run_ixs (S.ev rfl) (S.ev rfl) Try.underlying25 ti3 e e_1 e_2) fun _ S=>?_
    obtain⟨x34,c_1,H⟩:=H
    refine OL.zl S fl3 c_1 fun _ S=>?_
    refine OL.zq S (Lf.run_cvi Try.underlying3 Try.underlying23 (S.ev rfl)) fun _ S=>?_
    refine OL.zm S fun _ S=>?_
    refine OL.zq S (Lf.run_add (S.ev rfl) (S.ev rfl)) fun _ S=>?_
    refine OL.zq S (Lf.run_cvi Try.underlying3 Try.underlying23 (S.ev rfl)) fun _ S=>?_
    obtain⟨c_2,H⟩:=H
    refine OL.zq S (Lf.run_rem (S.ev rfl) (S.ev rfl) c_2) fun _ S=>?_
    refine OL.zq S (Lf.run_cvi Try.underlying23 Try.underlying3 (S.ev rfl)) fun _ S=>?_
    refine OL.za S fun _ S=>?_
    refine OL.nil ?_
    exact⟨(IntKind.i64.wrap (((IntKind.u64.wrap x34):Int).tmod (IntKind.u64.wrap (IntKind.i64.wrap (most3+1))))),h4,S.sub _ ⟨rfl,rfl,rfl,rfl,rfl,rfl,rfl,rfl,rfl,trivial⟩,H⟩
   ·
    replace H:=H.2 hb_1
    refine W.skip ?_
    exact⟨0,h4,S.sub _ ⟨rfl,rfl,rfl,rfl,rfl,rfl,rfl,rfl,rfl,trivial⟩,H⟩
  ·
   clear H S
   rintro aa ww ⟨r12,h5,S,HJ⟩
   have H:=HK _ _ HJ
   clear HK HJ
   refine W.region ?_
   refine OL.zm S fun _ S=>?_
   refine OL.zm S fun _ S=>?_
   refine ol_newS S H Try.underlying25 ti3 (by decide) (parts_map S rfl) (by kernel_rfl) (by decide) rfl trivial ?_
   clear S H;intro s43 aa ww h6 H S
   refine ol_appS S H Try.underlying25 ti3 rfl rfl rfl trivial ?_
   clear S H;intro s44 aa ww h7 H S
   refine OL.za S fun _ S=>?_
   refine OL.nil ?_
   refine W.region ?_
   refine OL.zm S fun _ S=>?_
   refine OL.zq S (Lf.run_add (S.ev rfl) (S.ev rfl)) fun _ S=>?_
   refine OL.za S fun _ S=>?_
   refine OL.nil ?_
   exact⟨(s44,(IntKind.i64.wrap (i11+1)),h7),⟨S.sub _ ⟨rfl,rfl,rfl,rfl,rfl,rfl,rfl,rfl,trivial⟩,H.1⟩,H.2⟩
 ·
  replace H:=H.2 hb
  refine W.exit_ ?_
  refine xhit ?_
  refine W.seq ?_
  refine W.region ?_
  obtain⟨y46,y46_1,y46_2,y46_3,y46_4,y46_5,c_18,c_19,c_20,c_21,c_22,c_23,H⟩:=H
  refine OL.zq S (Lf.run_ldA (cs:=[Value.int .i64 y46,Value.string y46_1,Value.bool y46_2,Value.int .i64 y46_3,Value.slice y46_4.a y46_4.n y46_4.c,Value.slice y46_5.a y46_5.n y46_5.c]) (S.ev rfl) ag35 ti35 (by rw[S.heap];exact RowL.toRow ⟨c_18,c_19,c_20,c_21,c_22,c_23,trivial⟩)) fun _ S=>?_
  refine OL.zm S fun _ S=>?_
  refine ol_cal S H isfn59 rfl rfl trivial ?_
  clear S H;intro u_1 aa ww h8 H S
  obtain⟨y48,y48_1,y48_2,y48_3,y48_4,y48_5,x48,rfl,H⟩:=H
  refine OL.zm S fun _ S=>?_
  refine OL.zq S (Lf.run_ex (S.ev rfl) rfl) fun _ S=>?_
  refine OL.zq S (Lf.run_ex (S.ev rfl) rfl) fun _ S=>?_
  refine ol_alloc S H ti35 rfl rfl trivial ?_
  clear S H;intro p13 aa ww h9 H S
  refine ol_stoA S H rfl rfl ti35 trivial ?_
  clear S H;intro aa ww h10 H S
  refine OL.za S fun _ S=>?_
  refine OL.nil ?_
  refine W.seq ?_
  refine W.region ?_
  obtain⟨y51,y51_1,y51_2,y51_3,y51_4,y51_5,c_12,c_13,c_14,c_15,c_16,c_17,H⟩:=H
  refine OL.zq S (Lf.run_ldA (cs:=[Value.int .i64 y51,Value.string y51_1,Value.bool y51_2,Value.int .i64 y51_3,Value.slice y51_4.a y51_4.n y51_4.c,Value.slice y51_5.a y51_5.n y51_5.c]) (S.ev rfl) ag35 ti35 (by rw[S.heap];exact RowL.toRow ⟨c_12,c_13,c_14,c_15,c_16,c_17,trivial⟩)) fun _ S=>?_
  refine ol_stoA S H rfl rfl ti35 trivial ?_
  clear S H;intro aa ww h11 H S
  refine OL.nil ?_
  refine W.ret ?_
  obtain⟨y,y_1,y_2,y_3,y_4,y_5,c_6,c_7,c_8,c_9,c_10,c_11,H⟩:=H
  exact Ret.gen S rfl (RV.cellA (cs:=[Value.int .i64 y,Value.string y_1,Value.bool y_2,Value.int .i64 y_3,Value.slice y_4.a y_4.n y_4.c,Value.slice y_5.a y_5.n y_5.c]) rfl ag35 ti35 ⟨c_6,c_7,c_8,c_9,c_10,c_11,trivial⟩ RV.nil) rfl H
def L38 (r0:Int) (x1:Addr) (h:Heap) (R:Value→Heap→Prop):Prop:=
 ∃J:Bool→Prop,(orr (decide (r0<0)) (fun k=>
  ldI .i64 h x1 fun x8=>
  k (decide (x8<r0))) J)∧∀x10,J x10 →
 R (Value.bool x10) h
set_option maxRecDepth 100000 in
theorem F38 {r0 x1 h:_} {R:Value→Heap→Prop} (H:L38 r0 x1 h R):CallsH Try.prog 38 #[Value.int .i64 r0,Value.pointer (some x1)] h R:=by
 refine CallsH.enter (n:=11) Try.func38 rfl rfl rfl rfl ?_
 intro w0 aa ww S
 unfold L38 at H
 refine W.seq ?_
 refine W.region ?_
 refine OL.za S fun _ S=>?_
 refine OL.nil ?_
 refine W.seq ?_
 refine W.region ?_
 refine OL.zm S fun _ S=>?_
 refine OL.zq S (Lf.run_lss (S.ev rfl) (S.ev rfl)) fun _ S=>?_
 refine OL.zm S fun _ S=>?_
 obtain⟨J,H,HK⟩:=H
 refine OL.cutN 4 (fun aa ww=>∃x10,St 11 ((10,Value.bool x10) :: [(0,Value.int .i64 r0),(1,Value.pointer (some x1)),(4,Value.int .i64 r0),(5,Value.bool (decide (r0<0))),(6,Value.bool (decide (r0<0)))]) h w0 aa ww∧J x10) ?_ ?_
 ·
  rcases Bool.eq_false_or_eq_true (decide (r0<0)) with hb|hb
  ·
   replace H:=H.1 hb
   refine OL.zn S (GNo.mk rfl rfl hb) fun _ S=>?_
   refine OL.zn S (GNo.mk rfl rfl hb) fun _ S=>?_
   refine OL.zn S (GNo.mk rfl rfl hb) fun _ S=>?_
   refine OL.zq S (Lf.run_pickT (S.ev rfl) hb (S.ev rfl)) fun _ S=>?_
   refine OL.nil ?_
   exact⟨_,S.sub _ ⟨rfl,rfl,rfl,rfl,rfl,rfl,trivial⟩,H⟩
  ·
   replace H:=H.2 hb
   refine OL.zm (hg:=GOk.mk rfl rfl hb) S fun _ S=>?_
   obtain⟨x8,c,H⟩:=H
   refine OL.zl (hg:=GOk.mk rfl rfl hb) S fl3 c fun _ S=>?_
   refine OL.zq (hg:=GOk.mk rfl rfl hb) S (Lf.run_gtr (S.ev rfl) (S.ev rfl)) fun _ S=>?_
   refine OL.zq S (Lf.run_pickF (S.ev rfl) hb (S.ev rfl)) fun _ S=>?_
   refine OL.nil ?_
   exact⟨_,S.sub _ ⟨rfl,rfl,rfl,rfl,rfl,rfl,trivial⟩,H⟩
 ·
  clear S
  rintro aa ww ⟨x10,S,HJ⟩
  replace H:=HK _ HJ
  clear HK HJ
  refine OL.za S fun _ S=>?_
  refine OL.nil ?_
  refine W.ret ?_
  exact Ret.one S rfl rfl H
def L39 (s0:Sv) (f1:Value) (h:Heap) (R:Value→Heap→Prop):Prop:=
 cal Try.prog 60 #[Value.slice s0.a s0.n s0.c,f1] h fun u h1=>asI .i64 u fun x7=>
 R (Value.bool (decide (0≤x7))) h1
set_option maxRecDepth 100000 in
theorem F39 {s0 f1 h:_} {R:Value→Heap→Prop} (H:L39 s0 f1 h R):CallsH Try.prog 39 #[Value.slice s0.a s0.n s0.c,f1] h R:=by
 refine CallsH.enter (n:=9) Try.func39 rfl rfl rfl rfl ?_
 intro w0 aa ww S
 unfold L39 at H
 refine W.seq ?_
 refine W.region ?_
 refine OL.za S fun _ S=>?_
 refine OL.nil ?_
 refine W.seq ?_
 refine W.region ?_
 refine OL.zm S fun _ S=>?_
 refine OL.zm S fun _ S=>?_
 refine ol_cal S H isfn60 rfl rfl trivial ?_
 clear S H;intro u aa ww h1 H S
 obtain⟨x7,rfl,H⟩:=H
 refine OL.zq S (Lf.run_geq (S.ev rfl) (S.ev rfl)) fun _ S=>?_
 refine OL.za S fun _ S=>?_
 refine OL.nil ?_
 refine W.ret ?_
 exact Ret.one S rfl rfl H
def L40 (s0:Int) (s0_1:Sv) (s0_2:Sv) (s0_3:Int) (s0_4:ByteArray) (s0_5:Bool) (s0_6:Int) (s0_7:Sv) (s0_8:Sv) (h:Heap) (R:Value→Heap→Prop):Prop:=
 new 37 #[Value.int .i64 s0,Value.slice s0_1.a s0_1.n s0_1.c,Value.slice s0_2.a s0_2.n s0_2.c,Value.int .i64 s0_3,Value.string s0_4,Value.bool s0_5,Value.int .i64 s0_6,Value.slice s0_7.a s0_7.n s0_7.c,Value.slice s0_8.a s0_8.n s0_8.c] h fun p1 h1=>
 ldS h1 (p1.add 2) fun x4=>
 ∃T:Heap→Heap→Prop,Pre T ∧
 ∃(y7:Int) (y7_1:ByteArray) (y7_2:Bool) (y7_3:Int) (y7_4:Sv) (y7_5:Sv),hld (T h1) (p1.add 3) (Value.int .i64 y7)∧hld (T h1) ((p1.add 3).add 1) (Value.string y7_1)∧hld (T h1) ((p1.add 3).add 2) (Value.bool y7_2)∧hld (T h1) ((p1.add 3).add 3) (Value.int .i64 y7_3)∧hld (T h1) ((p1.add 3).add 4) (Value.slice y7_4.a y7_4.n y7_4.c)∧hld (T h1) ((p1.add 3).add 5) (Value.slice y7_5.a y7_5.n y7_5.c) ∧
 ∃Fq2:Sv→Nat→Nat→Heap→Prop,(∀x5 lo hi h h',T h h'→Fq2 x5 lo hi h→Fq2 x5 lo hi h') ∧
 ∃Fq5:Sv→Nat→Nat→Heap→Prop,(∀s8 lo hi h h',T h h'→Fq5 s8 lo hi h→Fq5 s8 lo hi h') ∧
 (∀(h2:Heap),T h1 h2 →
  cal Try.prog 61 #[Value.slice x4.a x4.n x4.c] h2 fun u h3=>asS u fun x5=>
  T h2 h3∧Fq2 x5 h2.size h3.size h3) ∧
 (∀(h6:Heap),T h1 h6 →
  newS 35 #[Value.int .i64 y7,Value.string y7_1,Value.bool y7_2,Value.int .i64 y7_3,Value.slice y7_4.a y7_4.n y7_4.c,Value.slice y7_5.a y7_5.n y7_5.c] 1 h6 fun s8 h7=>
  T h6 h7∧Fq5 s8 h6.size h7.size h7) ∧
 (∀(x5:Sv) (lo2 hi2:Nat) (s8:Sv) (lo5 hi5:Nat) (h10:Heap),T h1 h10→Dis h1.size h10.size [(lo2,hi2),(lo5,hi5)]→Fq2 x5 lo2 hi2 h10→Fq5 s8 lo5 hi5 h10 →
 appS 35 (Value.agg #[Value.int .i64 0,Value.string (⟨#[]⟩:ByteArray),Value.bool false,Value.int .i64 0,Value.slice (⟨none,0,0⟩:Sv).a (⟨none,0,0⟩:Sv).n (⟨none,0,0⟩:Sv).c,Value.slice (⟨none,0,0⟩:Sv).a (⟨none,0,0⟩:Sv).n (⟨none,0,0⟩:Sv).c]).cells 6 88 h10 x5 s8 fun s9 h11=>
 R (Value.slice s9.a s9.n s9.c) h11)
set_option maxRecDepth 100000 in
theorem F40 {s0 s0_1 s0_2 s0_3 s0_4 s0_5 s0_6 s0_7 s0_8 h:_} {R:Value→Heap→Prop} (H:L40 s0 s0_1 s0_2 s0_3 s0_4 s0_5 s0_6 s0_7 s0_8 h R):CallsH Try.prog 40 #[Value.agg #[Value.int .i64 s0,Value.slice s0_1.a s0_1.n s0_1.c,Value.slice s0_2.a s0_2.n s0_2.c,Value.int .i64 s0_3,Value.string s0_4,Value.bool s0_5,Value.int .i64 s0_6,Value.slice s0_7.a s0_7.n s0_7.c,Value.slice s0_8.a s0_8.n s0_8.c]] h R:=by
 refine CallsH.enter (n:=10) Try.func40 rfl rfl rfl rfl ?_
 intro w0 aa ww S
 unfold L40 at H
 refine W.seq ?_
 refine W.region ?_
 refine ol_box S H rfl rfl rfl trivial ?_
 clear S H;intro p1 aa ww h1 H S
 refine OL.za S fun _ S=>?_
 refine OL.nil ?_
 refine W.seq ?_
 replace S:=S.sub [(1,Value.pointer (some p1))] ⟨rfl,trivial⟩
 refine W.regionD S (by kernel_rfl) ?_
 clear S;intro ww S
 refine AN.zq 0 S rfl (fun _=>Lf.run_fa (S.ev rfl) fa37_2) fun _ S=>?_
 obtain⟨x4,c,H⟩:=H
 refine AN.zl 1 S rfl (fun _ hx=>Lf.run_ld (S.ev rfl) fl24 (hx.cell _ _ (S.cl c))) fun _ S=>?_
 refine AN.zq 3 S rfl (fun _=>Lf.run_fa (S.ev rfl) fa37_3) fun _ S=>?_
 obtain⟨T,hT,H⟩:=H
 obtain⟨y7,y7_1,y7_2,y7_3,y7_4,y7_5,c_1,c_2,c_3,c_4,c_5,c_6,H⟩:=H
 obtain⟨Fq2,sq,H⟩:=H
 obtain⟨Fq5,sq_1,H⟩:=H
 obtain⟨Oq,Oq_1,H⟩:=H
 let gq2:GOp:=⟨2,5,true,[2],fun lq=>Value.slice (pS (nth lq 0)).a (pS (nth lq 0)).n (pS (nth lq 0)).c,fun lq lo hi h=>Fq2 (pS (nth lq 0)) lo hi h⟩
 let gq4:GOp:=⟨4,7,false,[4],fun lq=>Value.agg #[Value.int .i64 y7,Value.string y7_1,Value.bool y7_2,Value.int .i64 y7_3,Value.slice y7_4.a y7_4.n y7_4.c,Value.slice y7_5.a y7_5.n y7_5.c],fun _ _ _ _=>True⟩
 let gq5:GOp:=⟨5,8,true,[5],fun lq=>Value.slice (pS (nth lq 0)).a (pS (nth lq 0)).n (pS (nth lq 0)).c,fun lq lo hi h=>Fq5 (pS (nth lq 0)) lo hi h⟩
 replace S:=S.sub [(1,Value.pointer (some p1)),(3,Value.pointer (some (p1.add 2))),(4,Value.slice x4.a x4.n x4.c),(6,Value.pointer (some (p1.add 3)))] ⟨rfl,rfl,rfl,rfl,trivial⟩
 refine AN.group (fuel:=2) T hT [(gq2,[]),(gq4,[]),(gq5,[gq4])] [(2,5,[2],[]),(4,7,[4],[]),(5,8,[5],[4])] [1,3,4,6] S rfl rfl (by kernel_rfl) (by simp) ⟨?_,?_,?_,trivial⟩ ?_
 ·
  refine⟨_,rfl,rfl,fun _ _ _ _ _ ht hf=>sq _ _ _ _ _ ht hf,?_⟩
  intro Xg Bg aa ww h4 Ef S hTg hok
  replace S:St 10 ((1,Value.pointer (some p1)) :: (3,Value.pointer (some (p1.add 2))) :: (4,Value.slice x4.a x4.n x4.c) :: (6,Value.pointer (some (p1.add 3))) :: Ef) h4 w0 aa ww:=S
  have H:=Oq h4 hTg
  refine ol_cal S H isfn61 rfl rfl trivial ?_
  clear S H;intro u_1 aa ww h5 H S
  obtain⟨x5_1,rfl,H⟩:=H
  refine OL.nil ?_
  exact⟨Value.slice x5_1.a x5_1.n x5_1.c,_,S,H.1,H.2⟩
 ·
  refine⟨_,rfl,rfl,fun _ _ _ _ _ _ _=>trivial,?_⟩
  intro Xg Bg aa ww h12 Ef S hTg hok
  replace S:St 10 ((1,Value.pointer (some p1)) :: (3,Value.pointer (some (p1.add 2))) :: (4,Value.slice x4.a x4.n x4.c) :: (6,Value.pointer (some (p1.add 3))) :: Ef) h12 w0 aa ww:=S
  refine OL.zq S (Lf.run_ldA (cs:=[Value.int .i64 y7,Value.string y7_1,Value.bool y7_2,Value.int .i64 y7_3,Value.slice y7_4.a y7_4.n y7_4.c,Value.slice y7_5.a y7_5.n y7_5.c]) (S.ev rfl) ag35 ti35 (by rw[S.heap];exact RowL.toRow ⟨c_1 _ hTg,c_2 _ hTg,c_3 _ hTg,c_4 _ hTg,c_5 _ hTg,c_6 _ hTg,trivial⟩)) fun _ S=>?_
  refine OL.nil ?_
  exact⟨undef,_,S,hT.refl _,trivial⟩
 ·
  refine⟨_,rfl,rfl,fun _ _ _ _ _ ht hf=>sq_1 _ _ _ _ _ ht hf,?_⟩
  intro Xg Bg aa ww h8 Ef S hTg hok
  obtain⟨kq4,-⟩:=hok
  replace S:St 10 ((7,Value.agg #[Value.int .i64 y7,Value.string y7_1,Value.bool y7_2,Value.int .i64 y7_3,Value.slice y7_4.a y7_4.n y7_4.c,Value.slice y7_5.a y7_5.n y7_5.c]) :: (1,Value.pointer (some p1)) :: (3,Value.pointer (some (p1.add 2))) :: (4,Value.slice x4.a x4.n x4.c) :: (6,Value.pointer (some (p1.add 3))) :: Ef) h8 w0 aa ww:=S
  have H:=Oq_1 h8 hTg
  refine ol_newS S H Try.underlying24 ti35 (by decide) (parts_map S rfl) (by kernel_rfl) (by decide) rfl trivial ?_
  clear S H;intro s8_1 aa ww h9 H S
  refine OL.nil ?_
  exact⟨Value.slice s8_1.a s8_1.n s8_1.c,_,S,H.1,H.2⟩
 clear S
 intro Xg Bg aa ww h10 S hTg hok hdis
 obtain⟨kq2,kq4,kq5,-⟩:=hok
 replace H:=H (pS (Xg 2)) (Bg 2).1 (Bg 2).2 (pS (Xg 5)) (Bg 5).1 (Bg 5).2 h10 hTg hdis kq2 kq5
 replace S:=S.sub [(1,Value.pointer (some p1)),(3,Value.pointer (some (p1.add 2))),(4,Value.slice x4.a x4.n x4.c),(5,Value.slice (pS (Xg 2)).a (pS (Xg 2)).n (pS (Xg 2)).c),(6,Value.pointer (some (p1.add 3))),(7,Value.agg #[Value.int .i64 y7,Value.string y7_1,Value.bool y7_2,Value.int .i64 y7_3,Value.slice y7_4.a y7_4.n y7_4.c,Value.slice y7_5.a y7_5.n y7_5.c]),(8,Value.slice (pS (Xg 5)).a (pS (Xg 5)).n (pS (Xg 5)).c)] ⟨rfl,rfl,rfl,rfl,rfl,rfl,rfl,trivial⟩
 generalize (pS (Xg 2))=x5 at H S
 generalize (pS (Xg 5))=s8 at H S
 generalize Bg 2=bq2 at H
 generalize Bg 5=bq5 at H
 clear hTg hdis kq5 kq4 kq2 gq5 gq4 gq2 Oq Oq_1 sq sq_1
 refine AN.eff 6 rfl (by kernel_rfl) ?_
 refine ol_appS S H Try.underlying24 ti35 rfl rfl rfl trivial ?_
 clear S H;intro s9 aa ww h11 H S
 refine OL.nil ?_
 refine AN.zq 7 S rfl (fun _=>Lf.run_assign (S.ev rfl)) fun _ S=>?_
 refine AN.done (by kernel_rfl) ?_
 refine W.ret ?_
 exact Ret.one S rfl rfl H
def L41 (x0:Int) (x0_1:ByteArray) (x0_2:Bool) (x0_3:Int) (x0_4:Sv) (x0_5:Sv) (x1:Addr) (h:Heap) (R:Value→Heap→Prop):Prop:=
 new 35 #[Value.int .i64 x0,Value.string x0_1,Value.bool x0_2,Value.int .i64 x0_3,Value.slice x0_4.a x0_4.n x0_4.c,Value.slice x0_5.a x0_5.n x0_5.c] h fun p2 h1=>
 ∃Sq:Heap→Prop,Sq h1∧(
  ∃(y4:Int) (y4_1:ByteArray) (y4_2:Bool) (y4_3:Int) (y4_4:Sv) (y4_5:Sv),cl h1 p2=some (Value.int .i64 y4)∧cl h1 (p2.add 1)=some (Value.string y4_1)∧cl h1 (p2.add 2)=some (Value.bool y4_2)∧cl h1 (p2.add 3)=some (Value.int .i64 y4_3)∧cl h1 (p2.add 4)=some (Value.slice y4_4.a y4_4.n y4_4.c)∧cl h1 (p2.add 5)=some (Value.slice y4_5.a y4_5.n y4_5.c) ∧
  hlV Sq x1 fun x6=>
  cal Try.prog 43 #[Value.agg #[Value.int .i64 y4,Value.string y4_1,Value.bool y4_2,Value.int .i64 y4_3,Value.slice y4_4.a y4_4.n y4_4.c,Value.slice y4_5.a y4_5.n y4_5.c]] h1 fun u h2=>asS u fun x5=>
  Sq h2 ∧
  cal Try.prog 42 #[Value.slice x5.a x5.n x5.c,x6] h2 fun u_1 h3=>asB u_1 fun x7=>
  R (Value.bool x7) h3)
set_option maxRecDepth 100000 in
theorem F41 {x0 x0_1 x0_2 x0_3 x0_4 x0_5 x1 h:_} {R:Value→Heap→Prop} (H:L41 x0 x0_1 x0_2 x0_3 x0_4 x0_5 x1 h R):CallsH Try.prog 41 #[Value.agg #[Value.int .i64 x0,Value.string x0_1,Value.bool x0_2,Value.int .i64 x0_3,Value.slice x0_4.a x0_4.n x0_4.c,Value.slice x0_5.a x0_5.n x0_5.c],Value.pointer (some x1)] h R:=by
 refine CallsH.enter (n:=8) Try.func41 rfl rfl rfl rfl ?_
 intro w0 aa ww S
 unfold L41 at H
 refine W.seq ?_
 refine W.region ?_
 refine ol_box S H rfl rfl rfl trivial ?_
 clear S H;intro p2 aa ww h1 H S
 refine OL.za S fun _ S=>?_
 refine OL.nil ?_
 refine W.seq ?_
 replace S:=S.sub [(1,Value.pointer (some x1)),(2,Value.pointer (some p2))] ⟨rfl,rfl,trivial⟩
 obtain⟨Sq,HS,H⟩:=H
 refine W.regionN [2] [1,3] Sq S (by kernel_rfl) ?_
 clear S;intro ww S
 obtain⟨y4,y4_1,y4_2,y4_3,y4_4,y4_5,c_2,c_3,c_4,c_5,c_6,c_7,H⟩:=H
 refine BN.load 0 S (fun _=>HS) rfl (by kernel_rfl) (by kernel_rfl) (fun _ hx=>Lf.run_ldA (cs:=[Value.int .i64 y4,Value.string y4_1,Value.bool y4_2,Value.int .i64 y4_3,Value.slice y4_4.a y4_4.n y4_4.c,Value.slice y4_5.a y4_5.n y4_5.c]) (S.ev rfl) ag35 ti35 (hx.row (S.row ⟨c_2,c_3,c_4,c_5,c_6,c_7,trivial⟩))) rfl rfl trivial fun _ S=>?_
 obtain⟨x6,c_1,H⟩:=H
 refine BN.held 2 S HS rfl (by kernel_rfl) (fun _ hq=>Lf.run_ld (S.ev rfl) fl78 (c_1 _ hq)) rfl rfl trivial fun _ S=>?_
 refine BN.eff 1 rfl (by kernel_rfl) ?_
 refine ol_cal S H isfn43 rfl rfl trivial ?_
 clear S H;intro u aa ww h2 H S
 obtain⟨x5,rfl,H⟩:=H
 refine OL.nil ?_
 clear HS;obtain⟨HS,H⟩:=H
 refine⟨fun _=>by rw[S.heap];exact HS,?_⟩
 refine BN.eff 3 rfl (by kernel_rfl) ?_
 refine ol_cal S H isfn42 rfl rfl trivial ?_
 clear S H;intro u_1 aa ww h3 H S
 obtain⟨x7,rfl,H⟩:=H
 refine OL.nil ?_
 refine⟨noNeed (by kernel_rfl),?_⟩
 refine BN.pure 4 S (noNeed (by kernel_rfl)) rfl (by kernel_rfl) (by kernel_rfl) (fun _=>Lf.run_assign (S.ev rfl)) rfl rfl trivial fun _ S=>?_
 refine BN.done (by kernel_rfl) ?_
 refine W.ret ?_
 exact Ret.one S rfl rfl H
def L42 (s0:Sv) (f1:Value) (h:Heap) (R:Value→Heap→Prop):Prop:=
 cal Try.prog 62 #[Value.slice s0.a s0.n s0.c,f1] h fun u h1=>asI .i64 u fun x7=>
 R (Value.bool (decide (0≤x7))) h1
set_option maxRecDepth 100000 in
theorem F42 {s0 f1 h:_} {R:Value→Heap→Prop} (H:L42 s0 f1 h R):CallsH Try.prog 42 #[Value.slice s0.a s0.n s0.c,f1] h R:=by
 refine CallsH.enter (n:=9) Try.func42 rfl rfl rfl rfl ?_
 intro w0 aa ww S
 unfold L42 at H
 refine W.seq ?_
 refine W.region ?_
 refine OL.za S fun _ S=>?_
 refine OL.nil ?_
 refine W.seq ?_
 refine W.region ?_
 refine OL.zm S fun _ S=>?_
 refine OL.zm S fun _ S=>?_
 refine ol_cal S H isfn62 rfl rfl trivial ?_
 clear S H;intro u aa ww h1 H S
 obtain⟨x7,rfl,H⟩:=H
 refine OL.zq S (Lf.run_geq (S.ev rfl) (S.ev rfl)) fun _ S=>?_
 refine OL.za S fun _ S=>?_
 refine OL.nil ?_
 refine W.ret ?_
 exact Ret.one S rfl rfl H
def L43 (x0:Int) (x0_1:ByteArray) (x0_2:Bool) (x0_3:Int) (x0_4:Sv) (x0_5:Sv) (h:Heap) (R:Value→Heap→Prop):Prop:=
 new 35 #[Value.int .i64 x0,Value.string x0_1,Value.bool x0_2,Value.int .i64 x0_3,Value.slice x0_4.a x0_4.n x0_4.c,Value.slice x0_5.a x0_5.n x0_5.c] h fun p1 h1=>
 ∃J:Sv→Heap→Prop,(
  ∃(y6:Int) (y6_1:ByteArray) (y6_2:Bool) (y6_3:Int) (y6_4:Sv) (y6_5:Sv),cl h1 p1=some (Value.int .i64 y6)∧cl h1 (p1.add 1)=some (Value.string y6_1)∧cl h1 (p1.add 2)=some (Value.bool y6_2)∧cl h1 (p1.add 3)=some (Value.int .i64 y6_3)∧cl h1 (p1.add 4)=some (Value.slice y6_4.a y6_4.n y6_4.c)∧cl h1 (p1.add 5)=some (Value.slice y6_5.a y6_5.n y6_5.c) ∧
  cal Try.prog 63 #[Value.agg #[Value.int .i64 y6,Value.string y6_1,Value.bool y6_2,Value.int .i64 y6_3,Value.slice y6_4.a y6_4.n y6_4.c,Value.slice y6_5.a y6_5.n y6_5.c]] h1 fun u h2=>asB u fun x7=>
  ifb x7 (
   ldI .i64 h2 (p1.add 3) fun x10=>
   newS 3 #[Value.int .i64 x10] 1 h2 fun s11 h3=>
   appS 3 (Value.int .i64 0).cells 1 8 h3 (⟨none,0,0⟩:Sv) s11 fun s12 h4=>
   J s12 h4) (
   J (⟨none,0,0⟩:Sv) h2))∧(∀l3 h5,J l3 h5 →
 ∃J_1:Sv→Heap→Prop,(
  ldI .i64 h5 p1 fun x14=>
  ifb (x14 == 5) (
   ldS h5 (p1.add 4) fun x18=>
   appS 3 (Value.int .i64 0).cells 1 8 h5 l3 x18 fun s19 h6=>
   J_1 s19 h6) (
   J_1 l3 h5))∧(∀l3_1 h7,J_1 l3_1 h7 →
 ldS h7 (p1.add 5) fun x21=>
 ∃(I:Sv→Int→Heap→Prop) (m:Sv→Int→Heap→Nat),I l3_1 0 h7∧∀l3_2 x23 h8,I l3_2 x23 h8 →
 ifb (decide (x23<((x21.n:Nat):Int))) (
  ixS x21 x23 fun q25=>
  ∃(y26:Int) (y26_1:ByteArray) (y26_2:Bool) (y26_3:Int) (y26_4:Sv) (y26_5:Sv),cl h8 (q25.add ((x23:Int).toNat*6))=some (Value.int .i64 y26)∧cl h8 ((q25.add ((x23:Int).toNat*6)).add 1)=some (Value.string y26_1)∧cl h8 ((q25.add ((x23:Int).toNat*6)).add 2)=some (Value.bool y26_2)∧cl h8 ((q25.add ((x23:Int).toNat*6)).add 3)=some (Value.int .i64 y26_3)∧cl h8 ((q25.add ((x23:Int).toNat*6)).add 4)=some (Value.slice y26_4.a y26_4.n y26_4.c)∧cl h8 ((q25.add ((x23:Int).toNat*6)).add 5)=some (Value.slice y26_5.a y26_5.n y26_5.c) ∧
  new 35 #[Value.int .i64 0,Value.string (⟨#[]⟩:ByteArray),Value.bool false,Value.int .i64 0,Value.slice (⟨none,0,0⟩:Sv).a (⟨none,0,0⟩:Sv).n (⟨none,0,0⟩:Sv).c,Value.slice (⟨none,0,0⟩:Sv).a (⟨none,0,0⟩:Sv).n (⟨none,0,0⟩:Sv).c] h8 fun p5 h9=>
  stoA h9 p5 [Value.int .i64 y26,Value.string y26_1,Value.bool y26_2,Value.int .i64 y26_3,Value.slice y26_4.a y26_4.n y26_4.c,Value.slice y26_5.a y26_5.n y26_5.c] fun h10=>
  ∃(y28:Int) (y28_1:ByteArray) (y28_2:Bool) (y28_3:Int) (y28_4:Sv) (y28_5:Sv),cl h10 p5=some (Value.int .i64 y28)∧cl h10 (p5.add 1)=some (Value.string y28_1)∧cl h10 (p5.add 2)=some (Value.bool y28_2)∧cl h10 (p5.add 3)=some (Value.int .i64 y28_3)∧cl h10 (p5.add 4)=some (Value.slice y28_4.a y28_4.n y28_4.c)∧cl h10 (p5.add 5)=some (Value.slice y28_5.a y28_5.n y28_5.c) ∧
  cal Try.prog 43 #[Value.agg #[Value.int .i64 y28,Value.string y28_1,Value.bool y28_2,Value.int .i64 y28_3,Value.slice y28_4.a y28_4.n y28_4.c,Value.slice y28_5.a y28_5.n y28_5.c]] h10 fun u_1 h11=>asS u_1 fun x29=>
  appS 3 (Value.int .i64 0).cells 1 8 h11 l3_2 x29 fun s30 h12=>
  I s30 (IntKind.i64.wrap (x23+1)) h12∧m s30 (IntKind.i64.wrap (x23+1)) h12<m l3_2 x23 h8) (
  R (Value.slice l3_2.a l3_2.n l3_2.c) h8)))
set_option maxRecDepth 100000 in
theorem F43 {x0 x0_1 x0_2 x0_3 x0_4 x0_5 h:_} {R:Value→Heap→Prop} (H:L43 x0 x0_1 x0_2 x0_3 x0_4 x0_5 h R):CallsH Try.prog 43 #[Value.agg #[Value.int .i64 x0,Value.string x0_1,Value.bool x0_2,Value.int .i64 x0_3,Value.slice x0_4.a x0_4.n x0_4.c,Value.slice x0_5.a x0_5.n x0_5.c]] h R:=by
 refine CallsH.enter (n:=33) Try.func43 rfl rfl rfl rfl ?_
 intro w0 aa ww S
 unfold L43 at H
 refine W.seq ?_
 refine W.region ?_
 refine ol_box S H rfl rfl rfl trivial ?_
 clear S H;intro p1 aa ww h1 H S
 refine OL.za S fun _ S=>?_
 refine OL.nil ?_
 refine W.seq ?_
 refine W.region ?_
 refine OL.za S fun _ S=>?_
 refine OL.nil ?_
 obtain⟨J,H,HK⟩:=H
 refine W.seqJ (fun aa ww=>∃l3 h5,St 33 [(1,Value.pointer (some p1)),(3,Value.slice l3.a l3.n l3.c)] h5 w0 aa ww∧J l3 h5) ?_ ?_
 ·
  clear HK
  refine W.seq ?_
  refine W.region ?_
  obtain⟨y6,y6_1,y6_2,y6_3,y6_4,y6_5,c_2,c_3,c_4,c_5,c_6,c_7,H⟩:=H
  refine OL.zq S (Lf.run_ldA (cs:=[Value.int .i64 y6,Value.string y6_1,Value.bool y6_2,Value.int .i64 y6_3,Value.slice y6_4.a y6_4.n y6_4.c,Value.slice y6_5.a y6_5.n y6_5.c]) (S.ev rfl) ag35 ti35 (by rw[S.heap];exact RowL.toRow ⟨c_2,c_3,c_4,c_5,c_6,c_7,trivial⟩)) fun _ S=>?_
  refine ol_cal S H isfn63 rfl rfl trivial ?_
  clear S H;intro u aa ww h2 H S
  obtain⟨x7,rfl,H⟩:=H
  refine OL.nil ?_
  refine W.cond S (b:=x7) rfl (fun hb=>?_) (fun hb=>?_)
  ·
   replace H:=H.1 hb
   refine W.region ?_
   refine OL.zm S fun _ S=>?_
   refine OL.zf S fa35_3 fun _ S=>?_
   obtain⟨x10,c_1,H⟩:=H
   refine OL.zl S fl3 c_1 fun _ S=>?_
   refine ol_newS S H Try.underlying25 ti3 (by decide) (parts_map S rfl) (by kernel_rfl) (by decide) rfl trivial ?_
   clear S H;intro s11 aa ww h3 H S
   refine ol_appS S H Try.underlying25 ti3 rfl rfl rfl trivial ?_
   clear S H;intro s12 aa ww h4 H S
   refine OL.za S fun _ S=>?_
   refine OL.nil ?_
   exact⟨s12,h4,S.sub _ ⟨rfl,rfl,trivial⟩,H⟩
  ·
   replace H:=H.2 hb
   refine W.skip ?_
   exact⟨(⟨none,0,0⟩:Sv),h2,S.sub _ ⟨rfl,rfl,trivial⟩,H⟩
 ·
  clear H S
  rintro aa ww ⟨l3,h5,S,HJ⟩
  have H:=HK _ _ HJ
  clear HK HJ
  obtain⟨J_1,H,HK_1⟩:=H
  refine W.seqJ (fun aa ww=>∃l3_1 h7,St 33 [(1,Value.pointer (some p1)),(3,Value.slice l3_1.a l3_1.n l3_1.c)] h7 w0 aa ww∧J_1 l3_1 h7) ?_ ?_
  ·
   clear HK_1
   refine W.seq ?_
   refine W.region ?_
   refine OL.zf S fa35_0 fun _ S=>?_
   obtain⟨x14,c_8,H⟩:=H
   refine OL.zl S fl3 c_8 fun _ S=>?_
   refine OL.zq S (Lf.run_eql (S.ev rfl) (S.ev rfl)) fun _ S=>?_
   refine OL.nil ?_
   refine W.cond S (b:=(x14 == 5)) rfl (fun hb_1=>?_) (fun hb_1=>?_)
   ·
    replace H:=H.1 hb_1
    refine W.region ?_
    refine OL.zm S fun _ S=>?_
    refine OL.zf S fa35_4 fun _ S=>?_
    obtain⟨x18,c_9,H⟩:=H
    refine OL.zl S fl25 c_9 fun _ S=>?_
    refine ol_appS S H Try.underlying25 ti3 rfl rfl rfl trivial ?_
    clear S H;intro s19 aa ww h6 H S
    refine OL.za S fun _ S=>?_
    refine OL.nil ?_
    exact⟨s19,h6,S.sub _ ⟨rfl,rfl,trivial⟩,H⟩
   ·
    replace H:=H.2 hb_1
    refine W.skip ?_
    exact⟨l3,h5,S.sub _ ⟨rfl,rfl,trivial⟩,H⟩
  ·
   clear H S
   rintro aa ww ⟨l3_1,h7,S,HJ⟩
   have H:=HK_1 _ _ HJ
   clear HK_1 HJ
   refine W.seq ?_
   refine W.seq ?_
   refine W.region ?_
   refine OL.zf S fa35_5 fun _ S=>?_
   obtain⟨x21,c_10,H⟩:=H
   refine OL.zl S fl24 c_10 fun _ S=>?_
   refine OL.zq S (Lf.run_lens (S.ev rfl) rfl Try.underlying24) fun _ S=>?_
   refine OL.zm S fun _ S=>?_
   refine OL.nil ?_
   refine W.block ?_
   obtain⟨I,m,H,HB⟩:=H
   refine W.loopS (σ:=Sv×Int×Heap) (fun s aa ww=>St 33 [(3,Value.slice s.1.a s.1.n s.1.c),(21,Value.slice x21.a x21.n x21.c),(22,Value.int .i64 ((x21.n:Nat):Int)),(23,Value.int .i64 s.2.1)] s.2.2 w0 aa ww∧I s.1 s.2.1 s.2.2) (fun s=>m s.1 s.2.1 s.2.2) (l3_1,0,h7) ⟨S.sub _ ⟨rfl,rfl,rfl,rfl,trivial⟩,H⟩ ?_
   clear H S
   rintro ⟨l3_2,x23,h8⟩ aa ww ⟨S,HI⟩
   replace S:St 33 [(3,Value.slice l3_2.a l3_2.n l3_2.c),(21,Value.slice x21.a x21.n x21.c),(22,Value.int .i64 ((x21.n:Nat):Int)),(23,Value.int .i64 x23)] h8 w0 aa ww:=S
   have H:=HB l3_2 x23 h8 HI
   clear HI
   refine W.seq ?_
   refine W.region ?_
   refine OL.zq S (Lf.run_lss (S.ev rfl) (S.ev rfl)) fun _ S=>?_
   refine OL.nil ?_
   refine W.seq ?_
   refine W.cond S (b:=(decide (x23<((x21.n:Nat):Int)))) rfl (fun hb_2=>?_) (fun hb_2=>?_)
   ·
    replace H:=H.1 hb_2
    refine W.skip ?_
    refine W.seq ?_
    refine W.block ?_
    refine W.seq ?_
    refine W.region ?_
    obtain⟨q25,e,e_1,e_2,H⟩:=H
    refine OL.zq S (Lf.run_ixs (S.ev rfl) (S.ev rfl) Try.underlying24 ti35 e e_1 e_2) fun _ S=>?_
    obtain⟨y26,y26_1,y26_2,y26_3,y26_4,y26_5,c_19,c_20,c_21,c_22,c_23,c_24,H⟩:=H
    refine OL.zq S (Lf.run_ldA (cs:=[Value.int .i64 y26,Value.string y26_1,Value.bool y26_2,Value.int .i64 y26_3,Value.slice y26_4.a y26_4.n y26_4.c,Value.slice y26_5.a y26_5.n y26_5.c]) (S.ev rfl) ag35 ti35 (by rw[S.heap];exact RowL.toRow ⟨c_19,c_20,c_21,c_22,c_23,c_24,trivial⟩)) fun _ S=>?_
    refine ol_alloc S H ti35 rfl rfl trivial ?_
    clear S H;intro p5 aa ww h9 H S
    refine ol_stoA S H rfl rfl ti35 trivial ?_
    clear S H;intro aa ww h10 H S
    refine OL.nil ?_
    refine W.region ?_
    refine OL.zm S fun _ S=>?_
    obtain⟨y28,y28_1,y28_2,y28_3,y28_4,y28_5,c_13,c_14,c_15,c_16,c_17,c_18,H⟩:=H
    refine OL.zq S (Lf.run_ldA (cs:=[Value.int .i64 y28,Value.string y28_1,Value.bool y28_2,Value.int .i64 y28_3,Value.slice y28_4.a y28_4.n y28_4.c,Value.slice y28_5.a y28_5.n y28_5.c]) (S.ev rfl) ag35 ti35 (by rw[S.heap];exact RowL.toRow ⟨c_13,c_14,c_15,c_16,c_17,c_18,trivial⟩)) fun _ S=>?_
    refine ol_cal S H isfn43 rfl rfl trivial ?_
    clear S H;intro u_1 aa ww h11 H S
    obtain⟨x29,rfl,H⟩:=H
    refine ol_appS S H Try.underlying25 ti3 rfl rfl rfl trivial ?_
    clear S H;intro s30 aa ww h12 H S
    refine OL.za S fun _ S=>?_
    refine OL.nil ?_
    refine W.region ?_
    refine OL.zq S (Lf.run_add (S.ev rfl) (S.ev rfl)) fun _ S=>?_
    refine OL.zm S fun _ S=>?_
    refine OL.nil ?_
    exact⟨(s30,(IntKind.i64.wrap (x23+1)),h12),⟨S.sub _ ⟨rfl,rfl,rfl,rfl,trivial⟩,H.1⟩,H.2⟩
   ·
    replace H:=H.2 hb_2
    refine W.exit_ ?_
    refine xhit ?_
    refine W.seq ?_
    refine W.region ?_
    refine OL.zm S fun _ S=>?_
    refine OL.za S fun _ S=>?_
    refine OL.nil ?_
    refine W.ret ?_
    exact Ret.one S rfl rfl H
def L44 (x0:Int) (x0_1:ByteArray) (x0_2:Bool) (x0_3:Int) (x0_4:Sv) (x0_5:Sv) (needs1:Option Nat) (h:Heap) (R:Value→Heap→Prop):Prop:=
 new 35 #[Value.int .i64 x0,Value.string x0_1,Value.bool x0_2,Value.int .i64 x0_3,Value.slice x0_4.a x0_4.n x0_4.c,Value.slice x0_5.a x0_5.n x0_5.c] h fun p2 h1=>
 ∃J:Sv→Heap→Prop,(
  ldI .i64 h1 p2 fun x13=>
  ifb (x13 == 7) (
   ldS h1 (p2.add 5) fun x17=>
   ∃(I:Sv→Int→Heap→Prop) (m:Sv→Int→Heap→Nat),I (⟨none,0,0⟩:Sv) 0 h1∧∀l5 x19 h2,I l5 x19 h2 →
   ifb (decide (x19<((x17.n:Nat):Int))) (
    ixS x17 x19 fun q21=>
    ∃(y22:Int) (y22_1:ByteArray) (y22_2:Bool) (y22_3:Int) (y22_4:Sv) (y22_5:Sv),cl h2 (q21.add ((x19:Int).toNat*6))=some (Value.int .i64 y22)∧cl h2 ((q21.add ((x19:Int).toNat*6)).add 1)=some (Value.string y22_1)∧cl h2 ((q21.add ((x19:Int).toNat*6)).add 2)=some (Value.bool y22_2)∧cl h2 ((q21.add ((x19:Int).toNat*6)).add 3)=some (Value.int .i64 y22_3)∧cl h2 ((q21.add ((x19:Int).toNat*6)).add 4)=some (Value.slice y22_4.a y22_4.n y22_4.c)∧cl h2 ((q21.add ((x19:Int).toNat*6)).add 5)=some (Value.slice y22_5.a y22_5.n y22_5.c) ∧
    new 35 #[Value.int .i64 0,Value.string (⟨#[]⟩:ByteArray),Value.bool false,Value.int .i64 0,Value.slice (⟨none,0,0⟩:Sv).a (⟨none,0,0⟩:Sv).n (⟨none,0,0⟩:Sv).c,Value.slice (⟨none,0,0⟩:Sv).a (⟨none,0,0⟩:Sv).n (⟨none,0,0⟩:Sv).c] h2 fun p7 h3=>
    stoA h3 p7 [Value.int .i64 y22,Value.string y22_1,Value.bool y22_2,Value.int .i64 y22_3,Value.slice y22_4.a y22_4.n y22_4.c,Value.slice y22_5.a y22_5.n y22_5.c] fun h4=>
    ∃(y24:Int) (y24_1:ByteArray) (y24_2:Bool) (y24_3:Int) (y24_4:Sv) (y24_5:Sv),cl h4 p7=some (Value.int .i64 y24)∧cl h4 (p7.add 1)=some (Value.string y24_1)∧cl h4 (p7.add 2)=some (Value.bool y24_2)∧cl h4 (p7.add 3)=some (Value.int .i64 y24_3)∧cl h4 (p7.add 4)=some (Value.slice y24_4.a y24_4.n y24_4.c)∧cl h4 (p7.add 5)=some (Value.slice y24_5.a y24_5.n y24_5.c) ∧
    ∃T:Heap→Heap→Prop,Pre T ∧
    hlI .i64 (T h4) (p2.add 3) fun x27=>
    ∃Fq2:Sv→Nat→Nat→Heap→Prop,(∀x25 lo hi h h',T h h'→Fq2 x25 lo hi h→Fq2 x25 lo hi h') ∧
    ∃Fq5:Sv→Nat→Nat→Heap→Prop,(∀s28 lo hi h h',T h h'→Fq5 s28 lo hi h→Fq5 s28 lo hi h') ∧
    (∀(h5:Heap),T h4 h5 →
     cal Try.prog 43 #[Value.agg #[Value.int .i64 y24,Value.string y24_1,Value.bool y24_2,Value.int .i64 y24_3,Value.slice y24_4.a y24_4.n y24_4.c,Value.slice y24_5.a y24_5.n y24_5.c]] h5 fun u h6=>asS u fun x25=>
     T h5 h6∧Fq2 x25 h5.size h6.size h6) ∧
    (∀(h9:Heap),T h4 h9 →
     newS 3 #[Value.int .i64 x27] 1 h9 fun s28 h10=>
     T h9 h10∧Fq5 s28 h9.size h10.size h10) ∧
    (∀(x25:Sv) (lo2 hi2:Nat) (s28:Sv) (lo5 hi5:Nat) (h13:Heap),T h4 h13→Dis h4.size h13.size [(lo2,hi2),(lo5,hi5)]→Fq2 x25 lo2 hi2 h13→Fq5 s28 lo5 hi5 h13 →
    cal Try.prog 64 #[Value.slice l5.a l5.n l5.c,Value.slice x25.a x25.n x25.c,Value.slice s28.a s28.n s28.c] h13 fun u_2 h14=>asS u_2 fun x29=>
    I x29 (IntKind.i64.wrap (x19+1)) h14∧m x29 (IntKind.i64.wrap (x19+1)) h14<m l5 x19 h2)) (
    J l5 h2)) (
   ifb (x13 == 5) (
    ldT h1 (p2.add 1) fun x35=>
    lkS h1 (Value.map needs1) x35 (Value.slice (⟨none,0,0⟩:Sv).a (⟨none,0,0⟩:Sv).n (⟨none,0,0⟩:Sv).c) fun u_3=>asS u_3 fun x36=>
    ∃(I_1:Sv→Int→Heap→Prop) (m_1:Sv→Int→Heap→Nat),I_1 (⟨none,0,0⟩:Sv) 0 h1∧∀l5_1 x38 h16,I_1 l5_1 x38 h16 →
    ifb (decide (x38<((x36.n:Nat):Int))) (
     ixS x36 x38 fun q40=>
     ∃(y41:Int) (y41_1:Int),cl h16 (q40.add ((x38:Int).toNat*2))=some (Value.int .i64 y41)∧cl h16 ((q40.add ((x38:Int).toNat*2)).add 1)=some (Value.int .i64 y41_1) ∧
     new 56 #[Value.int .i64 0,Value.int .i64 0] h16 fun p9 h17=>
     stoA h17 p9 [Value.int .i64 y41,Value.int .i64 y41_1] fun h18=>
     ∃Sq:Heap→Prop,Sq h18∧(
      ∃(y43:Int) (y43_1:ByteArray) (y43_2:Bool) (y43_3:Int) (y43_4:Sv) (y43_5:Sv),cl h18 p2=some (Value.int .i64 y43)∧cl h18 (p2.add 1)=some (Value.string y43_1)∧cl h18 (p2.add 2)=some (Value.bool y43_2)∧cl h18 (p2.add 3)=some (Value.int .i64 y43_3)∧cl h18 (p2.add 4)=some (Value.slice y43_4.a y43_4.n y43_4.c)∧cl h18 (p2.add 5)=some (Value.slice y43_5.a y43_5.n y43_5.c) ∧
      ldI .i64 h18 p9 fun x45=>
      ∃(y47:Int) (y47_1:ByteArray) (y47_2:Bool) (y47_3:Int) (y47_4:Sv) (y47_5:Sv),hld Sq p2 (Value.int .i64 y47)∧hld Sq (p2.add 1) (Value.string y47_1)∧hld Sq (p2.add 2) (Value.bool y47_2)∧hld Sq (p2.add 3) (Value.int .i64 y47_3)∧hld Sq (p2.add 4) (Value.slice y47_4.a y47_4.n y47_4.c)∧hld Sq (p2.add 5) (Value.slice y47_5.a y47_5.n y47_5.c) ∧
      hlI .i64 Sq (p9.add 1) fun x49=>
      cal Try.prog 65 #[Value.agg #[Value.int .i64 y43,Value.string y43_1,Value.bool y43_2,Value.int .i64 y43_3,Value.slice y43_4.a y43_4.n y43_4.c,Value.slice y43_5.a y43_5.n y43_5.c],Value.int .i64 x45] h18 fun u_4 h19=>asS u_4 fun x46=>
      Sq h19 ∧
      cal Try.prog 65 #[Value.agg #[Value.int .i64 y47,Value.string y47_1,Value.bool y47_2,Value.int .i64 y47_3,Value.slice y47_4.a y47_4.n y47_4.c,Value.slice y47_5.a y47_5.n y47_5.c],Value.int .i64 x49] h19 fun u_5 h20=>asS u_5 fun x50=>
      cal Try.prog 64 #[Value.slice l5_1.a l5_1.n l5_1.c,Value.slice x46.a x46.n x46.c,Value.slice x50.a x50.n x50.c] h20 fun u_6 h21=>asS u_6 fun x51=>
      I_1 x51 (IntKind.i64.wrap (x38+1)) h21∧m_1 x51 (IntKind.i64.wrap (x38+1)) h21<m_1 l5_1 x38 h16)) (
     J l5_1 h16)) (
    J (⟨none,0,0⟩:Sv) h1)))∧(∀l5_2 h22,J l5_2 h22 →
 ldS h22 (p2.add 5) fun x54=>
 ∃(I_2:Sv→Int→Heap→Prop) (m_2:Sv→Int→Heap→Nat),I_2 l5_2 0 h22∧∀l5_3 x56 h23,I_2 l5_3 x56 h23 →
 ifb (decide (x56<((x54.n:Nat):Int))) (
  ixS x54 x56 fun q58=>
  ∃(y59:Int) (y59_1:ByteArray) (y59_2:Bool) (y59_3:Int) (y59_4:Sv) (y59_5:Sv),cl h23 (q58.add ((x56:Int).toNat*6))=some (Value.int .i64 y59)∧cl h23 ((q58.add ((x56:Int).toNat*6)).add 1)=some (Value.string y59_1)∧cl h23 ((q58.add ((x56:Int).toNat*6)).add 2)=some (Value.bool y59_2)∧cl h23 ((q58.add ((x56:Int).toNat*6)).add 3)=some (Value.int .i64 y59_3)∧cl h23 ((q58.add ((x56:Int).toNat*6)).add 4)=some (Value.slice y59_4.a y59_4.n y59_4.c)∧cl h23 ((q58.add ((x56:Int).toNat*6)).add 5)=some (Value.slice y59_5.a y59_5.n y59_5.c) ∧
  new 35 #[Value.int .i64 0,Value.string (⟨#[]⟩:ByteArray),Value.bool false,Value.int .i64 0,Value.slice (⟨none,0,0⟩:Sv).a (⟨none,0,0⟩:Sv).n (⟨none,0,0⟩:Sv).c,Value.slice (⟨none,0,0⟩:Sv).a (⟨none,0,0⟩:Sv).n (⟨none,0,0⟩:Sv).c] h23 fun p11 h24=>
  stoA h24 p11 [Value.int .i64 y59,Value.string y59_1,Value.bool y59_2,Value.int .i64 y59_3,Value.slice y59_4.a y59_4.n y59_4.c,Value.slice y59_5.a y59_5.n y59_5.c] fun h25=>
  ∃(y61:Int) (y61_1:ByteArray) (y61_2:Bool) (y61_3:Int) (y61_4:Sv) (y61_5:Sv),cl h25 p11=some (Value.int .i64 y61)∧cl h25 (p11.add 1)=some (Value.string y61_1)∧cl h25 (p11.add 2)=some (Value.bool y61_2)∧cl h25 (p11.add 3)=some (Value.int .i64 y61_3)∧cl h25 (p11.add 4)=some (Value.slice y61_4.a y61_4.n y61_4.c)∧cl h25 (p11.add 5)=some (Value.slice y61_5.a y61_5.n y61_5.c) ∧
  cal Try.prog 44 #[Value.agg #[Value.int .i64 y61,Value.string y61_1,Value.bool y61_2,Value.int .i64 y61_3,Value.slice y61_4.a y61_4.n y61_4.c,Value.slice y61_5.a y61_5.n y61_5.c],Value.map needs1] h25 fun u_7 h26=>asS u_7 fun x63=>
  appS 56 (Value.agg #[Value.int .i64 0,Value.int .i64 0]).cells 2 16 h26 l5_3 x63 fun s64 h27=>
  I_2 s64 (IntKind.i64.wrap (x56+1)) h27∧m_2 s64 (IntKind.i64.wrap (x56+1)) h27<m_2 l5_3 x56 h23) (
  R (Value.slice l5_3.a l5_3.n l5_3.c) h23))
set_option maxRecDepth 100000 in
theorem F44 {x0 x0_1 x0_2 x0_3 x0_4 x0_5 needs1 h:_} {R:Value→Heap→Prop} (H:L44 x0 x0_1 x0_2 x0_3 x0_4 x0_5 needs1 h R):CallsH Try.prog 44 #[Value.agg #[Value.int .i64 x0,Value.string x0_1,Value.bool x0_2,Value.int .i64 x0_3,Value.slice x0_4.a x0_4.n x0_4.c,Value.slice x0_5.a x0_5.n x0_5.c],Value.map needs1] h R:=by
 refine CallsH.enter (n:=67) Try.func44 rfl rfl rfl rfl ?_
 intro w0 aa ww S
 unfold L44 at H
 refine W.seq ?_
 refine W.region ?_
 refine ol_box S H rfl rfl rfl trivial ?_
 clear S H;intro p2 aa ww h1 H S
 refine OL.za S fun _ S=>?_
 refine OL.nil ?_
 refine W.seq ?_
 refine W.region ?_
 refine OL.za S fun _ S=>?_
 refine OL.nil ?_
 obtain⟨J,H,HK⟩:=H
 refine W.seqJ (fun aa ww=>∃l5_2 h22,St 67 [(1,Value.map needs1),(2,Value.pointer (some p2)),(5,Value.slice l5_2.a l5_2.n l5_2.c)] h22 w0 aa ww∧J l5_2 h22) ?_ ?_
 ·
  clear HK
  refine W.seq ?_
  refine W.region ?_
  refine OL.zf S fa35_0 fun _ S=>?_
  obtain⟨x13,c,H⟩:=H
  refine OL.zl S fl3 c fun _ S=>?_
  refine OL.nil ?_
  refine W.block ?_
  refine W.seq ?_
  refine W.region ?_
  refine OL.zq S (Lf.run_eql (S.ev rfl) (S.ev rfl)) fun _ S=>?_
  refine OL.za S fun _ S=>?_
  refine OL.nil ?_
  refine W.cond S (b:=(x13 == 7)) rfl (fun hb=>?_) (fun hb=>?_)
  ·
   replace H:=H.1 hb
   refine W.seq ?_
   refine W.region ?_
   refine OL.zf S fa35_5 fun _ S=>?_
   obtain⟨x17,c_1,H⟩:=H
   refine OL.zl S fl24 c_1 fun _ S=>?_
   refine OL.zq S (Lf.run_lens (S.ev rfl) rfl Try.underlying24) fun _ S=>?_
   refine OL.zm S fun _ S=>?_
   refine OL.nil ?_
   refine W.block ?_
   obtain⟨I,m,H,HB⟩:=H
   refine W.loopS (σ:=Sv×Int×Heap) (fun s aa ww=>St 67 [(1,Value.map needs1),(2,Value.pointer (some p2)),(5,Value.slice s.1.a s.1.n s.1.c),(17,Value.slice x17.a x17.n x17.c),(18,Value.int .i64 ((x17.n:Nat):Int)),(19,Value.int .i64 s.2.1)] s.2.2 w0 aa ww∧I s.1 s.2.1 s.2.2) (fun s=>m s.1 s.2.1 s.2.2) ((⟨none,0,0⟩:Sv),0,h1) ⟨S.sub _ ⟨rfl,rfl,rfl,rfl,rfl,rfl,trivial⟩,H⟩ ?_
   clear H S
   rintro ⟨l5,x19,h2⟩ aa ww ⟨S,HI⟩
   replace S:St 67 [(1,Value.map needs1),(2,Value.pointer (some p2)),(5,Value.slice l5.a l5.n l5.c),(17,Value.slice x17.a x17.n x17.c),(18,Value.int .i64 ((x17.n:Nat):Int)),(19,Value.int .i64 x19)] h2 w0 aa ww:=S
   have H:=HB l5 x19 h2 HI
   clear HI
   refine W.seq ?_
   refine W.region ?_
   refine OL.zq S (Lf.run_lss (S.ev rfl) (S.ev rfl)) fun _ S=>?_
   refine OL.nil ?_
   refine W.seq ?_
   refine W.cond S (b:=(decide (x19<((x17.n:Nat):Int)))) rfl (fun hb_1=>?_) (fun hb_1=>?_)
   ·
    replace H:=H.1 hb_1
    refine W.skip ?_
    refine W.seq ?_
    refine W.block ?_
    refine W.seq ?_
    refine W.region ?_
    obtain⟨q21,e,e_1,e_2,H⟩:=H
    refine OL.zq S (Lf.run_ixs (S.ev rfl) (S.ev rfl) Try.underlying24 ti35 e e_1 e_2) fun _ S=>?_
    obtain⟨y22,y22_1,y22_2,y22_3,y22_4,y22_5,c_11,c_12,c_13,c_14,c_15,c_16,H⟩:=H
    refine OL.zq S (Lf.run_ldA (cs:=[Value.int .i64 y22,Value.string y22_1,Value.bool y22_2,Value.int .i64 y22_3,Value.slice y22_4.a y22_4.n y22_4.c,Value.slice y22_5.a y22_5.n y22_5.c]) (S.ev rfl) ag35 ti35 (by rw[S.heap];exact RowL.toRow ⟨c_11,c_12,c_13,c_14,c_15,c_16,trivial⟩)) fun _ S=>?_
    refine ol_alloc S H ti35 rfl rfl trivial ?_
    clear S H;intro p7 aa ww h3 H S
    refine ol_stoA S H rfl rfl ti35 trivial ?_
    clear S H;intro aa ww h4 H S
    refine OL.nil ?_
    replace S:=S.sub [(1,Value.map needs1),(2,Value.pointer (some p2)),(5,Value.slice l5.a l5.n l5.c),(7,Value.pointer (some p7)),(17,Value.slice x17.a x17.n x17.c),(18,Value.int .i64 ((x17.n:Nat):Int)),(19,Value.int .i64 x19)] ⟨rfl,rfl,rfl,rfl,rfl,rfl,rfl,trivial⟩
    refine W.regionD S (by kernel_rfl) ?_
    clear S;intro ww S
    refine AN.zq 0 S rfl (fun _=>Lf.run_move (S.ev rfl)) fun _ S=>?_
    obtain⟨y24,y24_1,y24_2,y24_3,y24_4,y24_5,c_5,c_6,c_7,c_8,c_9,c_10,H⟩:=H
    refine AN.zl 1 S rfl (fun _ hx=>Lf.run_ldA (cs:=[Value.int .i64 y24,Value.string y24_1,Value.bool y24_2,Value.int .i64 y24_3,Value.slice y24_4.a y24_4.n y24_4.c,Value.slice y24_5.a y24_5.n y24_5.c]) (S.ev rfl) ag35 ti35 (hx.row (S.row ⟨c_5,c_6,c_7,c_8,c_9,c_10,trivial⟩))) fun _ S=>?_
    refine AN.zq 3 S rfl (fun _=>Lf.run_fa (S.ev rfl) fa35_3) fun _ S=>?_
    obtain⟨T,hT,H⟩:=H
    obtain⟨x27,c_4,H⟩:=H
    obtain⟨Fq2,sq,H⟩:=H
    obtain⟨Fq5,sq_1,H⟩:=H
    obtain⟨Oq,Oq_1,H⟩:=H
    let gq2:GOp:=⟨2,25,true,[2],fun lq=>Value.slice (pS (nth lq 0)).a (pS (nth lq 0)).n (pS (nth lq 0)).c,fun lq lo hi h=>Fq2 (pS (nth lq 0)) lo hi h⟩
    let gq4:GOp:=⟨4,27,false,[4],fun lq=>Value.int .i64 x27,fun _ _ _ _=>True⟩
    let gq5:GOp:=⟨5,28,true,[5],fun lq=>Value.slice (pS (nth lq 0)).a (pS (nth lq 0)).n (pS (nth lq 0)).c,fun lq lo hi h=>Fq5 (pS (nth lq 0)) lo hi h⟩
    replace S:=S.sub [(1,Value.map needs1),(2,Value.pointer (some p2)),(5,Value.slice l5.a l5.n l5.c),(7,Value.pointer (some p7)),(17,Value.slice x17.a x17.n x17.c),(18,Value.int .i64 ((x17.n:Nat):Int)),(19,Value.int .i64 x19),(23,Value.slice l5.a l5.n l5.c),(24,Value.agg #[Value.int .i64 y24,Value.string y24_1,Value.bool y24_2,Value.int .i64 y24_3,Value.slice y24_4.a y24_4.n y24_4.c,Value.slice y24_5.a y24_5.n y24_5.c]),(26,Value.pointer (some (p2.add 3)))] ⟨rfl,rfl,rfl,rfl,rfl,rfl,rfl,rfl,rfl,rfl,trivial⟩
    refine AN.group (fuel:=2) T hT [(gq2,[]),(gq4,[]),(gq5,[gq4])] [(2,25,[2],[]),(4,27,[4],[]),(5,28,[5],[4])] [1,2,5,7,17,18,19,23,24,26] S rfl rfl (by kernel_rfl) (by simp) ⟨?_,?_,?_,trivial⟩ ?_
    ·
     refine⟨_,rfl,rfl,fun _ _ _ _ _ ht hf=>sq _ _ _ _ _ ht hf,?_⟩
     intro Xg Bg aa ww h7 Ef S hTg hok
     replace S:St 67 ((1,Value.map needs1) :: (2,Value.pointer (some p2)) :: (5,Value.slice l5.a l5.n l5.c) :: (7,Value.pointer (some p7)) :: (17,Value.slice x17.a x17.n x17.c) :: (18,Value.int .i64 ((x17.n:Nat):Int)) :: (19,Value.int .i64 x19) :: (23,Value.slice l5.a l5.n l5.c) :: (24,Value.agg #[Value.int .i64 y24,Value.string y24_1,Value.bool y24_2,Value.int .i64 y24_3,Value.slice y24_4.a y24_4.n y24_4.c,Value.slice y24_5.a y24_5.n y24_5.c]) :: (26,Value.pointer (some (p2.add 3))) :: Ef) h7 w0 aa ww:=S
     have H:=Oq h7 hTg
     refine ol_cal S H isfn43 rfl rfl trivial ?_
     clear S H;intro u_1 aa ww h8 H S
     obtain⟨x25_1,rfl,H⟩:=H
     refine OL.nil ?_
     exact⟨Value.slice x25_1.a x25_1.n x25_1.c,_,S,H.1,H.2⟩
    ·
     refine⟨_,rfl,rfl,fun _ _ _ _ _ _ _=>trivial,?_⟩
     intro Xg Bg aa ww h15 Ef S hTg hok
     replace S:St 67 ((1,Value.map needs1) :: (2,Value.pointer (some p2)) :: (5,Value.slice l5.a l5.n l5.c) :: (7,Value.pointer (some p7)) :: (17,Value.slice x17.a x17.n x17.c) :: (18,Value.int .i64 ((x17.n:Nat):Int)) :: (19,Value.int .i64 x19) :: (23,Value.slice l5.a l5.n l5.c) :: (24,Value.agg #[Value.int .i64 y24,Value.string y24_1,Value.bool y24_2,Value.int .i64 y24_3,Value.slice y24_4.a y24_4.n y24_4.c,Value.slice y24_5.a y24_5.n y24_5.c]) :: (26,Value.pointer (some (p2.add 3))) :: Ef) h15 w0 aa ww:=S
     refine OL.zq S (Lf.run_ld (S.ev rfl) fl3 (S.cl (c_4 _ hTg))) fun _ S=>?_
     refine OL.nil ?_
     exact⟨undef,_,S,hT.refl _,trivial⟩
    ·
     refine⟨_,rfl,rfl,fun _ _ _ _ _ ht hf=>sq_1 _ _ _ _ _ ht hf,?_⟩
     intro Xg Bg aa ww h11 Ef S hTg hok
     obtain⟨kq4,-⟩:=hok
     replace S:St 67 ((27,Value.int .i64 x27) :: (1,Value.map needs1) :: (2,Value.pointer (some p2)) :: (5,Value.slice l5.a l5.n l5.c) :: (7,Value.pointer (some p7)) :: (17,Value.slice x17.a x17.n x17.c) :: (18,Value.int .i64 ((x17.n:Nat):Int)) :: (19,Value.int .i64 x19) :: (23,Value.slice l5.a l5.n l5.c) :: (24,Value.agg #[Value.int .i64 y24,Value.string y24_1,Value.bool y24_2,Value.int .i64 y24_3,Value.slice y24_4.a y24_4.n y24_4.c,Value.slice y24_5.a y24_5.n y24_5.c]) :: (26,Value.pointer (some (p2.add 3))) :: Ef) h11 w0 aa ww:=S
     have H:=Oq_1 h11 hTg
     refine ol_newS S H Try.underlying25 ti3 (by decide) (parts_map S rfl) (by kernel_rfl) (by decide) rfl trivial ?_
     clear S H;intro s28_1 aa ww h12 H S
     refine OL.nil ?_
     exact⟨Value.slice s28_1.a s28_1.n s28_1.c,_,S,H.1,H.2⟩
    clear S
    intro Xg Bg aa ww h13 S hTg hok hdis
    obtain⟨kq2,kq4,kq5,-⟩:=hok
    replace H:=H (pS (Xg 2)) (Bg 2).1 (Bg 2).2 (pS (Xg 5)) (Bg 5).1 (Bg 5).2 h13 hTg hdis kq2 kq5
    replace S:=S.sub [(1,Value.map needs1),(2,Value.pointer (some p2)),(5,Value.slice l5.a l5.n l5.c),(7,Value.pointer (some p7)),(17,Value.slice x17.a x17.n x17.c),(18,Value.int .i64 ((x17.n:Nat):Int)),(19,Value.int .i64 x19),(23,Value.slice l5.a l5.n l5.c),(24,Value.agg #[Value.int .i64 y24,Value.string y24_1,Value.bool y24_2,Value.int .i64 y24_3,Value.slice y24_4.a y24_4.n y24_4.c,Value.slice y24_5.a y24_5.n y24_5.c]),(25,Value.slice (pS (Xg 2)).a (pS (Xg 2)).n (pS (Xg 2)).c),(26,Value.pointer (some (p2.add 3))),(27,Value.int .i64 x27),(28,Value.slice (pS (Xg 5)).a (pS (Xg 5)).n (pS (Xg 5)).c)] ⟨rfl,rfl,rfl,rfl,rfl,rfl,rfl,rfl,rfl,rfl,rfl,rfl,rfl,trivial⟩
    generalize (pS (Xg 2))=x25 at H S
    generalize (pS (Xg 5))=s28 at H S
    generalize Bg 2=bq2 at H
    generalize Bg 5=bq5 at H
    clear hTg hdis kq5 kq4 kq2 gq5 gq4 gq2 Oq Oq_1 sq sq_1
    refine AN.eff 6 rfl (by kernel_rfl) ?_
    refine ol_cal S H isfn64 rfl rfl trivial ?_
    clear S H;intro u_2 aa ww h14 H S
    obtain⟨x29,rfl,H⟩:=H
    refine OL.nil ?_
    refine AN.zq 7 S rfl (fun _=>Lf.run_assign (S.ev rfl)) fun _ S=>?_
    refine AN.done (by kernel_rfl) ?_
    refine W.region ?_
    refine OL.zq S (Lf.run_add (S.ev rfl) (S.ev rfl)) fun _ S=>?_
    refine OL.zm S fun _ S=>?_
    refine OL.nil ?_
    exact⟨(x29,(IntKind.i64.wrap (x19+1)),h14),⟨S.sub _ ⟨rfl,rfl,rfl,rfl,rfl,rfl,trivial⟩,H.1⟩,H.2⟩
   ·
    replace H:=H.2 hb_1
    refine W.exit_ ?_
    refine xhit ?_
    exact⟨l5,h2,S.sub _ ⟨rfl,rfl,rfl,trivial⟩,H⟩
  ·
   replace H:=H.2 hb
   refine W.seq ?_
   refine W.region ?_
   refine OL.zq S (Lf.run_eql (S.ev rfl) (S.ev rfl)) fun _ S=>?_
   refine OL.za S fun _ S=>?_
   refine OL.nil ?_
   refine W.cond S (b:=(x13 == 5)) rfl (fun hb_2=>?_) (fun hb_2=>?_)
   ·
    replace H:=H.1 hb_2
    refine W.seq ?_
    refine W.region ?_
    refine OL.zm S fun _ S=>?_
    refine OL.zf S fa35_1 fun _ S=>?_
    obtain⟨x35,c_17,H⟩:=H
    refine OL.zl S fl9 c_17 fun _ S=>?_
    refine ol_lkS S H Try.underlying31 Try.underlying9 ti22 rfl rfl rfl trivial ?_
    clear S H;intro u_3 aa H S
    obtain⟨x36,rfl,H⟩:=H
    refine OL.zq S (Lf.run_lens (S.ev rfl) rfl Try.underlying22) fun _ S=>?_
    refine OL.zm S fun _ S=>?_
    refine OL.nil ?_
    refine W.block ?_
    obtain⟨I_1,m_1,H,HB_1⟩:=H
    refine W.loopS (σ:=Sv×Int×Heap) (fun s aa ww=>St 67 [(1,Value.map needs1),(2,Value.pointer (some p2)),(5,Value.slice s.1.a s.1.n s.1.c),(36,Value.slice x36.a x36.n x36.c),(37,Value.int .i64 ((x36.n:Nat):Int)),(38,Value.int .i64 s.2.1)] s.2.2 w0 aa ww∧I_1 s.1 s.2.1 s.2.2) (fun s=>m_1 s.1 s.2.1 s.2.2) ((⟨none,0,0⟩:Sv),0,h1) ⟨S.sub _ ⟨rfl,rfl,rfl,rfl,rfl,rfl,trivial⟩,H⟩ ?_
    clear H S
    rintro ⟨l5_1,x38,h16⟩ aa ww ⟨S,HI⟩
    replace S:St 67 [(1,Value.map needs1),(2,Value.pointer (some p2)),(5,Value.slice l5_1.a l5_1.n l5_1.c),(36,Value.slice x36.a x36.n x36.c),(37,Value.int .i64 ((x36.n:Nat):Int)),(38,Value.int .i64 x38)] h16 w0 aa ww:=S
    have H:=HB_1 l5_1 x38 h16 HI
    clear HI
    refine W.seq ?_
    refine W.region ?_
    refine OL.zq S (Lf.run_lss (S.ev rfl) (S.ev rfl)) fun _ S=>?_
    refine OL.nil ?_
    refine W.seq ?_
    refine W.cond S (b:=(decide (x38<((x36.n:Nat):Int)))) rfl (fun hb_3=>?_) (fun hb_3=>?_)
    ·
     replace H:=H.1 hb_3
     refine W.skip ?_
     refine W.seq ?_
     refine W.block ?_
     refine W.seq ?_
     refine W.region ?_
     obtain⟨q40,e_3,e_4,e_5,H⟩:=H
     refine OL.zq S (Lf.run_ixs (S.ev rfl) (S.ev rfl) Try.underlying22 ti56 e_3 e_4 e_5) fun _ S=>?_
     obtain⟨y41,y41_1,c_35,c_36,H⟩:=H
     refine OL.zq S (Lf.run_ldA (cs:=[Value.int .i64 y41,Value.int .i64 y41_1]) (S.ev rfl) ag56 ti56 (by rw[S.heap];exact RowL.toRow ⟨c_35,c_36,trivial⟩)) fun _ S=>?_
     refine ol_alloc S H ti56 rfl rfl trivial ?_
     clear S H;intro p9 aa ww h17 H S
     refine ol_stoA S H rfl rfl ti56 trivial ?_
     clear S H;intro aa ww h18 H S
     refine OL.nil ?_
     replace S:=S.sub [(1,Value.map needs1),(2,Value.pointer (some p2)),(5,Value.slice l5_1.a l5_1.n l5_1.c),(9,Value.pointer (some p9)),(36,Value.slice x36.a x36.n x36.c),(37,Value.int .i64 ((x36.n:Nat):Int)),(38,Value.int .i64 x38)] ⟨rfl,rfl,rfl,rfl,rfl,rfl,rfl,trivial⟩
     obtain⟨Sq,HS,H⟩:=H
     refine W.regionN [5,7] [4,8,9] Sq S (by kernel_rfl) ?_
     clear S;intro ww S
     refine BN.pure 0 S (fun _=>HS) rfl (by kernel_rfl) (by kernel_rfl) (fun _=>Lf.run_move (S.ev rfl)) rfl rfl trivial fun _ S=>?_
     obtain⟨y43,y43_1,y43_2,y43_3,y43_4,y43_5,c_29,c_30,c_31,c_32,c_33,c_34,H⟩:=H
     refine BN.load 1 S (fun _=>HS) rfl (by kernel_rfl) (by kernel_rfl) (fun _ hx=>Lf.run_ldA (cs:=[Value.int .i64 y43,Value.string y43_1,Value.bool y43_2,Value.int .i64 y43_3,Value.slice y43_4.a y43_4.n y43_4.c,Value.slice y43_5.a y43_5.n y43_5.c]) (S.ev rfl) ag35 ti35 (hx.row (S.row ⟨c_29,c_30,c_31,c_32,c_33,c_34,trivial⟩))) rfl rfl trivial fun _ S=>?_
     refine BN.pure 2 S (fun _=>HS) rfl (by kernel_rfl) (by kernel_rfl) (fun _=>Lf.run_ixa (S.ev rfl) (S.ev rfl) Try.underlying56 ti3 (by decide) (by decide)) rfl rfl trivial fun _ S=>?_
     obtain⟨x45,c_20,H⟩:=H
     refine BN.load 3 S (fun _=>HS) rfl (by kernel_rfl) (by kernel_rfl) (fun _ hx=>Lf.run_ld (S.ev rfl) fl3 (hx.cell _ _ (S.cl c_20))) rfl rfl trivial fun _ S=>?_
     refine BN.pure 6 S (fun _=>HS) rfl (by kernel_rfl) (by kernel_rfl) (fun _=>Lf.run_ixa (S.ev rfl) (S.ev rfl) Try.underlying56 ti3 (by decide) (by decide)) rfl rfl trivial fun _ S=>?_
     obtain⟨y47,y47_1,y47_2,y47_3,y47_4,y47_5,c_23,c_24,c_25,c_26,c_27,c_28,H⟩:=H
     refine BN.held 5 S HS rfl (by kernel_rfl) (fun _ hq=>Lf.run_ldA (cs:=[Value.int .i64 y47,Value.string y47_1,Value.bool y47_2,Value.int .i64 y47_3,Value.slice y47_4.a y47_4.n y47_4.c,Value.slice y47_5.a y47_5.n y47_5.c]) (S.ev rfl) ag35 ti35 (hlRow hq fun h_ hs_=>⟨c_23 h_ hs_,c_24 h_ hs_,c_25 h_ hs_,c_26 h_ hs_,c_27 h_ hs_,c_28 h_ hs_,trivial⟩)) rfl rfl trivial fun _ S=>?_
     obtain⟨x49,c_22,H⟩:=H
     refine BN.held 7 S HS rfl (by kernel_rfl) (fun _ hq=>Lf.run_ld (S.ev rfl) fl3 (c_22 _ hq)) rfl rfl trivial fun _ S=>?_
     refine BN.eff 4 rfl (by kernel_rfl) ?_
     refine ol_cal S H isfn65 rfl rfl trivial ?_
     clear S H;intro u_4 aa ww h19 H S
     obtain⟨x46,rfl,H⟩:=H
     refine OL.nil ?_
     clear HS;obtain⟨HS,H⟩:=H
     refine⟨fun _=>by rw[S.heap];exact HS,?_⟩
     refine BN.eff 8 rfl (by kernel_rfl) ?_
     refine ol_cal S H isfn65 rfl rfl trivial ?_
     clear S H;intro u_5 aa ww h20 H S
     obtain⟨x50,rfl,H⟩:=H
     refine OL.nil ?_
     refine⟨noNeed (by kernel_rfl),?_⟩
     refine BN.eff 9 rfl (by kernel_rfl) ?_
     refine ol_cal S H isfn64 rfl rfl trivial ?_
     clear S H;intro u_6 aa ww h21 H S
     obtain⟨x51,rfl,H⟩:=H
     refine OL.nil ?_
     refine⟨noNeed (by kernel_rfl),?_⟩
     refine BN.pure 10 S (noNeed (by kernel_rfl)) rfl (by kernel_rfl) (by kernel_rfl) (fun _=>Lf.run_assign (S.ev rfl)) rfl rfl trivial fun _ S=>?_
     refine BN.done (by kernel_rfl) ?_
     refine W.region ?_
     refine OL.zq S (Lf.run_add (S.ev rfl) (S.ev rfl)) fun _ S=>?_
     refine OL.zm S fun _ S=>?_
     refine OL.nil ?_
     exact⟨(x51,(IntKind.i64.wrap (x38+1)),h21),⟨S.sub _ ⟨rfl,rfl,rfl,rfl,rfl,rfl,trivial⟩,H.1⟩,H.2⟩
    ·
     replace H:=H.2 hb_3
     refine W.exit_ ?_
     refine xhit ?_
     exact⟨l5_1,h16,S.sub _ ⟨rfl,rfl,rfl,trivial⟩,H⟩
   ·
    replace H:=H.2 hb_2
    refine W.skip ?_
    exact⟨(⟨none,0,0⟩:Sv),h1,S.sub _ ⟨rfl,rfl,rfl,trivial⟩,H⟩
 ·
  clear H S
  rintro aa ww ⟨l5_2,h22,S,HJ⟩
  have H:=HK _ _ HJ
  clear HK HJ
  refine W.seq ?_
  refine W.seq ?_
  refine W.region ?_
  refine OL.zf S fa35_5 fun _ S=>?_
  obtain⟨x54,c_37,H⟩:=H
  refine OL.zl S fl24 c_37 fun _ S=>?_
  refine OL.zq S (Lf.run_lens (S.ev rfl) rfl Try.underlying24) fun _ S=>?_
  refine OL.zm S fun _ S=>?_
  refine OL.nil ?_
  refine W.block ?_
  obtain⟨I_2,m_2,H,HB_2⟩:=H
  refine W.loopS (σ:=Sv×Int×Heap) (fun s aa ww=>St 67 [(1,Value.map needs1),(5,Value.slice s.1.a s.1.n s.1.c),(54,Value.slice x54.a x54.n x54.c),(55,Value.int .i64 ((x54.n:Nat):Int)),(56,Value.int .i64 s.2.1)] s.2.2 w0 aa ww∧I_2 s.1 s.2.1 s.2.2) (fun s=>m_2 s.1 s.2.1 s.2.2) (l5_2,0,h22) ⟨S.sub _ ⟨rfl,rfl,rfl,rfl,rfl,trivial⟩,H⟩ ?_
  clear H S
  rintro ⟨l5_3,x56,h23⟩ aa ww ⟨S,HI⟩
  replace S:St 67 [(1,Value.map needs1),(5,Value.slice l5_3.a l5_3.n l5_3.c),(54,Value.slice x54.a x54.n x54.c),(55,Value.int .i64 ((x54.n:Nat):Int)),(56,Value.int .i64 x56)] h23 w0 aa ww:=S
  have H:=HB_2 l5_3 x56 h23 HI
  clear HI
  refine W.seq ?_
  refine W.region ?_
  refine OL.zq S (Lf.run_lss (S.ev rfl) (S.ev rfl)) fun _ S=>?_
  refine OL.nil ?_
  refine W.seq ?_
  refine W.cond S (b:=(decide (x56<((x54.n:Nat):Int)))) rfl (fun hb_4=>?_) (fun hb_4=>?_)
  ·
   replace H:=H.1 hb_4
   refine W.skip ?_
   refine W.seq ?_
   refine W.block ?_
   refine W.seq ?_
   refine W.region ?_
   obtain⟨q58,e_10,e_11,e_12,H⟩:=H
   refine OL.zq S (Lf.run_ixs (S.ev rfl) (S.ev rfl) Try.underlying24 ti35 e_10 e_11 e_12) fun _ S=>?_
   obtain⟨y59,y59_1,y59_2,y59_3,y59_4,y59_5,c_46,c_47,c_48,c_49,c_50,c_51,H⟩:=H
   refine OL.zq S (Lf.run_ldA (cs:=[Value.int .i64 y59,Value.string y59_1,Value.bool y59_2,Value.int .i64 y59_3,Value.slice y59_4.a y59_4.n y59_4.c,Value.slice y59_5.a y59_5.n y59_5.c]) (S.ev rfl) ag35 ti35 (by rw[S.heap];exact RowL.toRow ⟨c_46,c_47,c_48,c_49,c_50,c_51,trivial⟩)) fun _ S=>?_
   refine ol_alloc S H ti35 rfl rfl trivial ?_
   clear S H;intro p11 aa ww h24 H S
   refine ol_stoA S H rfl rfl ti35 trivial ?_
   clear S H;intro aa ww h25 H S
   refine OL.nil ?_
   refine W.region ?_
   refine OL.zm S fun _ S=>?_
   obtain⟨y61,y61_1,y61_2,y61_3,y61_4,y61_5,c_40,c_41,c_42,c_43,c_44,c_45,H⟩:=H
   refine OL.zq S (Lf.run_ldA (cs:=[Value.int .i64 y61,Value.string y61_1,Value.bool y61_2,Value.int .i64 y61_3,Value.slice y61_4.a y61_4.n y61_4.c,Value.slice y61_5.a y61_5.n y61_5.c]) (S.ev rfl) ag35 ti35 (by rw[S.heap];exact RowL.toRow ⟨c_40,c_41,c_42,c_43,c_44,c_45,trivial⟩)) fun _ S=>?_
   refine OL.zm S fun _ S=>?_
   refine ol_cal S H isfn44 rfl rfl trivial ?_
   clear S H;intro u_7 aa ww h26 H S
   obtain⟨x63,rfl,H⟩:=H
   refine ol_appS S H Try.underlying22 ti56 rfl rfl rfl trivial ?_
   clear S H;intro s64 aa ww h27 H S
   refine OL.za S fun _ S=>?_
   refine OL.nil ?_
   refine W.region ?_
   refine OL.zq S (Lf.run_add (S.ev rfl) (S.ev rfl)) fun _ S=>?_
   refine OL.zm S fun _ S=>?_
   refine OL.nil ?_
   exact⟨(s64,(IntKind.i64.wrap (x56+1)),h27),⟨S.sub _ ⟨rfl,rfl,rfl,rfl,rfl,trivial⟩,H.1⟩,H.2⟩
  ·
   replace H:=H.2 hb_4
   refine W.exit_ ?_
   refine xhit ?_
   refine W.seq ?_
   refine W.region ?_
   refine OL.zm S fun _ S=>?_
   refine OL.za S fun _ S=>?_
   refine OL.nil ?_
   refine W.ret ?_
   exact Ret.one S rfl rfl H
def L45 (r0:Option Addr) (a1:Int) (h:Heap) (R:Value→Heap→Prop):Prop:=
 ∃J:Bool→Prop,(andr ((Option.isSome r0) && (decide (0≤a1))) (fun k=>
  nn r0 fun p14=>
  ldI .i64 h p14 fun x16=>
  k (decide (a1≤x16))) J)∧∀x18,J x18 →
 R (Value.bool x18) h
set_option maxRecDepth 100000 in
theorem F45 {r0 a1 h:_} {R:Value→Heap→Prop} (H:L45 r0 a1 h R):CallsH Try.prog 45 #[Value.pointer r0,Value.int .i64 a1] h R:=by
 refine CallsH.enter (n:=19) Try.func45 rfl rfl rfl rfl ?_
 intro w0 aa ww S
 unfold L45 at H
 refine W.seq ?_
 refine W.region ?_
 refine OL.za S fun _ S=>?_
 refine OL.nil ?_
 refine W.seq ?_
 refine W.region ?_
 refine OL.zm S fun _ S=>?_
 refine OL.zq S (Lf.run_neqpn Try.underlying63 (S.ev rfl) (S.ev rfl)) fun _ S=>?_
 refine OL.zm S fun _ S=>?_
 refine OL.cutN 3 (fun aa ww=>St 19 ((10,Value.bool ((Option.isSome r0) && (decide (0≤a1)))) :: [(0,Value.pointer r0),(1,Value.int .i64 a1),(5,Value.pointer r0),(6,Value.bool (Option.isSome r0)),(7,Value.bool (Option.isSome r0))]) h w0 aa ww) ?_ ?_
 ·
  rcases Bool.eq_false_or_eq_true (Option.isSome r0) with hb|hb
  ·
   refine OL.zm (hg:=GOk.mk rfl rfl hb) S fun _ S=>?_
   refine OL.zq (hg:=GOk.mk rfl rfl hb) S (Lf.run_geq (S.ev rfl) (S.ev rfl)) fun _ S=>?_
   refine OL.zq S (Lf.run_pickT (S.ev rfl) hb (S.ev rfl)) fun _ S=>?_
   refine OL.nil ?_
   exact (S.hd (by rw[hb,Bool.true_and])).sub _ ⟨rfl,rfl,rfl,rfl,rfl,rfl,trivial⟩
  ·
   refine OL.zn S (GNo.mk rfl rfl hb) fun _ S=>?_
   refine OL.zn S (GNo.mk rfl rfl hb) fun _ S=>?_
   refine OL.zq S (Lf.run_pickF (S.ev rfl) hb (S.ev rfl)) fun _ S=>?_
   refine OL.nil ?_
   exact (S.hd (by rw[hb,Bool.false_and])).sub _ ⟨rfl,rfl,rfl,rfl,rfl,rfl,trivial⟩
 ·
  clear S
  intro aa ww S
  refine OL.zm S fun _ S=>?_
  obtain⟨J,H,HK⟩:=H
  refine OL.cutN 7 (fun aa ww=>∃x18,St 19 ((18,Value.bool x18) :: [(0,Value.pointer r0),(1,Value.int .i64 a1),(5,Value.pointer r0),(6,Value.bool (Option.isSome r0)),(7,Value.bool (Option.isSome r0)),(10,Value.bool ((Option.isSome r0) && (decide (0≤a1)))),(11,Value.bool ((Option.isSome r0) && (decide (0≤a1))))]) h w0 aa ww∧J x18) ?_ ?_
  ·
   rcases Bool.eq_false_or_eq_true ((Option.isSome r0) && (decide (0≤a1))) with hb_1|hb_1
   ·
    replace H:=H.1 hb_1
    refine OL.zm (hg:=GOk.mk rfl rfl hb_1) S fun _ S=>?_
    refine OL.zm (hg:=GOk.mk rfl rfl hb_1) S fun _ S=>?_
    obtain⟨p14,e,H⟩:=H
    refine OL.zq (hg:=GOk.mk rfl rfl hb_1) S (Lf.run_nc' (S.ev rfl) e) fun _ S=>?_
    refine OL.zf (hg:=GOk.mk rfl rfl hb_1) S fa86_0 fun _ S=>?_
    obtain⟨x16,c,H⟩:=H
    refine OL.zl (hg:=GOk.mk rfl rfl hb_1) S fl3 c fun _ S=>?_
    refine OL.zq (hg:=GOk.mk rfl rfl hb_1) S (Lf.run_leq (S.ev rfl) (S.ev rfl)) fun _ S=>?_
    refine OL.zq S (Lf.run_pickT (S.ev rfl) hb_1 (S.ev rfl)) fun _ S=>?_
    refine OL.nil ?_
    exact⟨_,S.sub _ ⟨rfl,rfl,rfl,rfl,rfl,rfl,rfl,rfl,trivial⟩,H⟩
   ·
    replace H:=H.2 hb_1
    refine OL.zn S (GNo.mk rfl rfl hb_1) fun _ S=>?_
    refine OL.zn S (GNo.mk rfl rfl hb_1) fun _ S=>?_
    refine OL.zn S (GNo.mk rfl rfl hb_1) fun _ S=>?_
    refine OL.zn S (GNo.mk rfl rfl hb_1) fun _ S=>?_
    refine OL.zn S (GNo.mk rfl rfl hb_1) fun _ S=>?_
    refine OL.zn S (GNo.mk rfl rfl hb_1) fun _ S=>?_
    refine OL.zq S (Lf.run_pickF (S.ev rfl) hb_1 (S.ev rfl)) fun _ S=>?_
    refine OL.nil ?_
    exact⟨_,S.sub _ ⟨rfl,rfl,rfl,rfl,rfl,rfl,rfl,rfl,trivial⟩,H⟩
  ·
   clear S
   rintro aa ww ⟨x18,S,HJ⟩
   replace H:=HK _ HJ
   clear HK HJ
   refine OL.za S fun _ S=>?_
   refine OL.nil ?_
   refine W.ret ?_
   exact Ret.one S rfl rfl H
def L46 (ways0:Option Nat) (a1:Int) (a1_1:ByteArray) (a1_2:Bool) (a1_3:Int) (a1_4:Sv) (a1_5:Sv) (b2:Int) (b2_1:ByteArray) (b2_2:Bool) (b2_3:Int) (b2_4:Sv) (b2_5:Sv) (h:Heap) (R:Value→Heap→Prop):Prop:=
 new 35 #[Value.int .i64 a1,Value.string a1_1,Value.bool a1_2,Value.int .i64 a1_3,Value.slice a1_4.a a1_4.n a1_4.c,Value.slice a1_5.a a1_5.n a1_5.c] h fun p4 h1=>
 new 35 #[Value.int .i64 b2,Value.string b2_1,Value.bool b2_2,Value.int .i64 b2_3,Value.slice b2_4.a b2_4.n b2_4.c,Value.slice b2_5.a b2_5.n b2_5.c] h1 fun p5 h2=>
 ∃(y9:Int) (y9_1:ByteArray) (y9_2:Bool) (y9_3:Int) (y9_4:Sv) (y9_5:Sv),cl h2 p4=some (Value.int .i64 y9)∧cl h2 (p4.add 1)=some (Value.string y9_1)∧cl h2 (p4.add 2)=some (Value.bool y9_2)∧cl h2 (p4.add 3)=some (Value.int .i64 y9_3)∧cl h2 (p4.add 4)=some (Value.slice y9_4.a y9_4.n y9_4.c)∧cl h2 (p4.add 5)=some (Value.slice y9_5.a y9_5.n y9_5.c) ∧
 ∃(y10:Int) (y10_1:ByteArray) (y10_2:Bool) (y10_3:Int) (y10_4:Sv) (y10_5:Sv),cl h2 p5=some (Value.int .i64 y10)∧cl h2 (p5.add 1)=some (Value.string y10_1)∧cl h2 (p5.add 2)=some (Value.bool y10_2)∧cl h2 (p5.add 3)=some (Value.int .i64 y10_3)∧cl h2 (p5.add 4)=some (Value.slice y10_4.a y10_4.n y10_4.c)∧cl h2 (p5.add 5)=some (Value.slice y10_5.a y10_5.n y10_5.c) ∧
 cal Try.prog 66 #[Value.agg #[Value.int .i64 y9,Value.string y9_1,Value.bool y9_2,Value.int .i64 y9_3,Value.slice y9_4.a y9_4.n y9_4.c,Value.slice y9_5.a y9_5.n y9_5.c],Value.agg #[Value.int .i64 y10,Value.string y10_1,Value.bool y10_2,Value.int .i64 y10_3,Value.slice y10_4.a y10_4.n y10_4.c,Value.slice y10_5.a y10_5.n y10_5.c]] h2 fun u h3=>asB u fun x11=>
 ifb (!x11) (
  R (.tuple #[Value.slice (⟨none,0,0⟩:Sv).a (⟨none,0,0⟩:Sv).n (⟨none,0,0⟩:Sv).c,Value.bool false]) h3) (
  new 106 #[Value.map ways0,Value.slice (⟨none,0,0⟩:Sv).a (⟨none,0,0⟩:Sv).n (⟨none,0,0⟩:Sv).c] h3 fun p15 h4=>
  ∃(y17:Int) (y17_1:ByteArray) (y17_2:Bool) (y17_3:Int) (y17_4:Sv) (y17_5:Sv),cl h4 p4=some (Value.int .i64 y17)∧cl h4 (p4.add 1)=some (Value.string y17_1)∧cl h4 (p4.add 2)=some (Value.bool y17_2)∧cl h4 (p4.add 3)=some (Value.int .i64 y17_3)∧cl h4 (p4.add 4)=some (Value.slice y17_4.a y17_4.n y17_4.c)∧cl h4 (p4.add 5)=some (Value.slice y17_5.a y17_5.n y17_5.c) ∧
  ∃(y18:Int) (y18_1:ByteArray) (y18_2:Bool) (y18_3:Int) (y18_4:Sv) (y18_5:Sv),cl h4 p5=some (Value.int .i64 y18)∧cl h4 (p5.add 1)=some (Value.string y18_1)∧cl h4 (p5.add 2)=some (Value.bool y18_2)∧cl h4 (p5.add 3)=some (Value.int .i64 y18_3)∧cl h4 (p5.add 4)=some (Value.slice y18_4.a y18_4.n y18_4.c)∧cl h4 (p5.add 5)=some (Value.slice y18_5.a y18_5.n y18_5.c) ∧
  cal Try.prog 67 #[Value.pointer (some p15),Value.agg #[Value.int .i64 y17,Value.string y17_1,Value.bool y17_2,Value.int .i64 y17_3,Value.slice y17_4.a y17_4.n y17_4.c,Value.slice y17_5.a y17_5.n y17_5.c],Value.agg #[Value.int .i64 y18,Value.string y18_1,Value.bool y18_2,Value.int .i64 y18_3,Value.slice y18_4.a y18_4.n y18_4.c,Value.slice y18_5.a y18_5.n y18_5.c],Value.int .i64 1] h4 fun u_1 h5=>
  ldS h5 (p15.add 1) fun x23=>
  R (.tuple #[Value.slice x23.a x23.n x23.c,Value.bool true]) h5)
set_option maxRecDepth 100000 in
theorem F46 {ways0 a1 a1_1 a1_2 a1_3 a1_4 a1_5 b2 b2_1 b2_2 b2_3 b2_4 b2_5 h:_} {R:Value→Heap→Prop} (H:L46 ways0 a1 a1_1 a1_2 a1_3 a1_4 a1_5 b2 b2_1 b2_2 b2_3 b2_4 b2_5 h R):CallsH Try.prog 46 #[Value.map ways0,Value.agg #[Value.int .i64 a1,Value.string a1_1,Value.bool a1_2,Value.int .i64 a1_3,Value.slice a1_4.a a1_4.n a1_4.c,Value.slice a1_5.a a1_5.n a1_5.c],Value.agg #[Value.int .i64 b2,Value.string b2_1,Value.bool b2_2,Value.int .i64 b2_3,Value.slice b2_4.a b2_4.n b2_4.c,Value.slice b2_5.a b2_5.n b2_5.c]] h R:=by
 refine CallsH.enter (n:=24) Try.func46 rfl rfl rfl rfl ?_
 intro w0 aa ww S
 unfold L46 at H
 refine W.seq ?_
 refine W.region ?_
 refine ol_box S H rfl rfl rfl trivial ?_
 clear S H;intro p4 aa ww h1 H S
 refine ol_box S H rfl rfl rfl trivial ?_
 clear S H;intro p5 aa ww h2 H S
 refine OL.za S fun _ S=>?_
 refine OL.za S fun _ S=>?_
 refine OL.nil ?_
 refine W.seq ?_
 refine W.seq ?_
 refine W.region ?_
 obtain⟨y9,y9_1,y9_2,y9_3,y9_4,y9_5,c_23,c_24,c_25,c_26,c_27,c_28,H⟩:=H
 refine OL.zq S (Lf.run_ldA (cs:=[Value.int .i64 y9,Value.string y9_1,Value.bool y9_2,Value.int .i64 y9_3,Value.slice y9_4.a y9_4.n y9_4.c,Value.slice y9_5.a y9_5.n y9_5.c]) (S.ev rfl) ag35 ti35 (by rw[S.heap];exact RowL.toRow ⟨c_23,c_24,c_25,c_26,c_27,c_28,trivial⟩)) fun _ S=>?_
 obtain⟨y10,y10_1,y10_2,y10_3,y10_4,y10_5,c_17,c_18,c_19,c_20,c_21,c_22,H⟩:=H
 refine OL.zq S (Lf.run_ldA (cs:=[Value.int .i64 y10,Value.string y10_1,Value.bool y10_2,Value.int .i64 y10_3,Value.slice y10_4.a y10_4.n y10_4.c,Value.slice y10_5.a y10_5.n y10_5.c]) (S.ev rfl) ag35 ti35 (by rw[S.heap];exact RowL.toRow ⟨c_17,c_18,c_19,c_20,c_21,c_22,trivial⟩)) fun _ S=>?_
 refine ol_cal S H isfn66 rfl rfl trivial ?_
 clear S H;intro u aa ww h3 H S
 obtain⟨x11,rfl,H⟩:=H
 refine OL.zq S (Lf.run_not (S.ev rfl)) fun _ S=>?_
 refine OL.nil ?_
 refine W.cond S (b:=(!x11)) rfl (fun hb=>?_) (fun hb=>?_)
 ·
  replace H:=H.1 hb
  refine W.seq ?_
  refine W.region ?_
  refine OL.za S fun _ S=>?_
  refine OL.za S fun _ S=>?_
  refine OL.nil ?_
  refine W.ret ?_
  exact Ret.two S rfl rfl rfl H
 ·
  replace H:=H.2 hb
  refine W.skip ?_
  refine W.seq ?_
  refine W.region ?_
  refine OL.zm S fun _ S=>?_
  refine OL.zq S (Lf.run_build (cs:=#[Value.map ways0,Value.slice (⟨none,0,0⟩:Sv).a (⟨none,0,0⟩:Sv).n (⟨none,0,0⟩:Sv).c]) pl106 ti106 (parts_map S rfl) (by kernel_rfl)) fun _ S=>?_
  refine ol_box S H rfl rfl rfl trivial ?_
  clear S H;intro p15 aa ww h4 H S
  refine OL.za S fun _ S=>?_
  refine OL.nil ?_
  refine W.seq ?_
  refine W.region ?_
  refine OL.zm S fun _ S=>?_
  obtain⟨y17,y17_1,y17_2,y17_3,y17_4,y17_5,c_11,c_12,c_13,c_14,c_15,c_16,H⟩:=H
  refine OL.zq S (Lf.run_ldA (cs:=[Value.int .i64 y17,Value.string y17_1,Value.bool y17_2,Value.int .i64 y17_3,Value.slice y17_4.a y17_4.n y17_4.c,Value.slice y17_5.a y17_5.n y17_5.c]) (S.ev rfl) ag35 ti35 (by rw[S.heap];exact RowL.toRow ⟨c_11,c_12,c_13,c_14,c_15,c_16,trivial⟩)) fun _ S=>?_
  obtain⟨y18,y18_1,y18_2,y18_3,y18_4,y18_5,c_5,c_6,c_7,c_8,c_9,c_10,H⟩:=H
  refine OL.zq S (Lf.run_ldA (cs:=[Value.int .i64 y18,Value.string y18_1,Value.bool y18_2,Value.int .i64 y18_3,Value.slice y18_4.a y18_4.n y18_4.c,Value.slice y18_5.a y18_5.n y18_5.c]) (S.ev rfl) ag35 ti35 (by rw[S.heap];exact RowL.toRow ⟨c_5,c_6,c_7,c_8,c_9,c_10,trivial⟩)) fun _ S=>?_
  refine ol_cal S H isfn67 rfl rfl trivial ?_
  clear S H;intro u_1 aa ww h5 H S
  refine OL.nil ?_
  refine W.seq ?_
  refine W.region ?_
  refine OL.zm S fun _ S=>?_
  refine OL.zq S (Lf.run_nc (S.ev rfl)) fun _ S=>?_
  refine OL.zf S fa106_1 fun _ S=>?_
  obtain⟨x23,c_4,H⟩:=H
  refine OL.zl S fl22 c_4 fun _ S=>?_
  refine OL.za S fun _ S=>?_
  refine OL.za S fun _ S=>?_
  refine OL.nil ?_
  refine W.ret ?_
  exact Ret.two S rfl rfl rfl H
def L47 (r0:Int) (x1:Addr) (x2:Addr) (h:Heap) (R:Value→Heap→Prop):Prop:=
 ldI .i64 h x1 fun x6=>
 ifb (decide (x6<r0)) (
  ldI .i64 h x2 fun x9=>
  R (Value.int .i64 (IntKind.i64.wrap (r0+x9))) h) (
  R (Value.int .i64 r0) h)
set_option maxRecDepth 100000 in
theorem F47 {r0 x1 x2 h:_} {R:Value→Heap→Prop} (H:L47 r0 x1 x2 h R):CallsH Try.prog 47 #[Value.int .i64 r0,Value.pointer (some x1),Value.pointer (some x2)] h R:=by
 refine CallsH.enter (n:=12) Try.func47 rfl rfl rfl rfl ?_
 intro w0 aa ww S
 unfold L47 at H
 refine W.seq ?_
 refine W.region ?_
 refine OL.za S fun _ S=>?_
 refine OL.nil ?_
 refine W.seq ?_
 refine W.seq ?_
 refine W.region ?_
 refine OL.zm S fun _ S=>?_
 obtain⟨x6,c,H⟩:=H
 refine OL.zl S fl3 c fun _ S=>?_
 refine OL.zq S (Lf.run_gtr (S.ev rfl) (S.ev rfl)) fun _ S=>?_
 refine OL.nil ?_
 refine W.cond S (b:=(decide (x6<r0))) rfl (fun hb=>?_) (fun hb=>?_)
 ·
  replace H:=H.1 hb
  refine W.seq ?_
  refine W.region ?_
  refine OL.zm S fun _ S=>?_
  obtain⟨x9,c_1,H⟩:=H
  refine OL.zl S fl3 c_1 fun _ S=>?_
  refine OL.zq S (Lf.run_add (S.ev rfl) (S.ev rfl)) fun _ S=>?_
  refine OL.za S fun _ S=>?_
  refine OL.nil ?_
  refine W.ret ?_
  exact Ret.one S rfl rfl H
 ·
  replace H:=H.2 hb
  refine W.skip ?_
  refine W.seq ?_
  refine W.region ?_
  refine OL.zm S fun _ S=>?_
  refine OL.za S fun _ S=>?_
  refine OL.nil ?_
  refine W.ret ?_
  exact Ret.one S rfl rfl H
def L48 (x0:Int) (x0_1:ByteArray) (x0_2:Bool) (x0_3:Int) (x0_4:Sv) (x0_5:Sv) (f1:Value) (h:Heap) (R:Value→Heap→Prop):Prop:=
 new 35 #[Value.int .i64 x0,Value.string x0_1,Value.bool x0_2,Value.int .i64 x0_3,Value.slice x0_4.a x0_4.n x0_4.c,Value.slice x0_5.a x0_5.n x0_5.c] h fun p2 h1=>
 new 35 #[Value.int .i64 0,Value.string (⟨#[]⟩:ByteArray),Value.bool false,Value.int .i64 0,Value.slice (⟨none,0,0⟩:Sv).a (⟨none,0,0⟩:Sv).n (⟨none,0,0⟩:Sv).c,Value.slice (⟨none,0,0⟩:Sv).a (⟨none,0,0⟩:Sv).n (⟨none,0,0⟩:Sv).c] h1 fun p4 h2=>
 askF (isNilF f1) fun b10=>
 ifb b10 (
  ∃(y11:Int) (y11_1:ByteArray) (y11_2:Bool) (y11_3:Int) (y11_4:Sv) (y11_5:Sv),cl h2 p2=some (Value.int .i64 y11)∧cl h2 (p2.add 1)=some (Value.string y11_1)∧cl h2 (p2.add 2)=some (Value.bool y11_2)∧cl h2 (p2.add 3)=some (Value.int .i64 y11_3)∧cl h2 (p2.add 4)=some (Value.slice y11_4.a y11_4.n y11_4.c)∧cl h2 (p2.add 5)=some (Value.slice y11_5.a y11_5.n y11_5.c) ∧
  stoA h2 p4 [Value.int .i64 y11,Value.string y11_1,Value.bool y11_2,Value.int .i64 y11_3,Value.slice y11_4.a y11_4.n y11_4.c,Value.slice y11_5.a y11_5.n y11_5.c] fun h3=>
  ∃(y:Int) (y_1:ByteArray) (y_2:Bool) (y_3:Int) (y_4:Sv) (y_5:Sv),cl h3 p4=some (Value.int .i64 y)∧cl h3 (p4.add 1)=some (Value.string y_1)∧cl h3 (p4.add 2)=some (Value.bool y_2)∧cl h3 (p4.add 3)=some (Value.int .i64 y_3)∧cl h3 (p4.add 4)=some (Value.slice y_4.a y_4.n y_4.c)∧cl h3 (p4.add 5)=some (Value.slice y_5.a y_5.n y_5.c) ∧
  R (Value.agg #[Value.int .i64 y,Value.string y_1,Value.bool y_2,Value.int .i64 y_3,Value.slice y_4.a y_4.n y_4.c,Value.slice y_5.a y_5.n y_5.c]) h3) (
  ∃J:Heap→Prop,(
   ∃(y12:Int) (y12_1:ByteArray) (y12_2:Bool) (y12_3:Int) (y12_4:Sv) (y12_5:Sv),cl h2 p2=some (Value.int .i64 y12)∧cl h2 (p2.add 1)=some (Value.string y12_1)∧cl h2 (p2.add 2)=some (Value.bool y12_2)∧cl h2 (p2.add 3)=some (Value.int .i64 y12_3)∧cl h2 (p2.add 4)=some (Value.slice y12_4.a y12_4.n y12_4.c)∧cl h2 (p2.add 5)=some (Value.slice y12_5.a y12_5.n y12_5.c) ∧
   cal Try.prog 63 #[Value.agg #[Value.int .i64 y12,Value.string y12_1,Value.bool y12_2,Value.int .i64 y12_3,Value.slice y12_4.a y12_4.n y12_4.c,Value.slice y12_5.a y12_5.n y12_5.c]] h2 fun u h4=>asB u fun x13=>
   ifb x13 (
    ldI .i64 h4 (p2.add 3) fun x16=>
    calV Try.prog f1 #[Value.int .i64 x16] h4 fun u_1 h5=>asI .i64 u_1 fun x17=>
    sto h5 (p2.add 3) (Value.int .i64 x17) fun h6=>
    J h6) (
    J h4))∧(∀h7,J h7 →
  ∃J_1:Heap→Prop,(
   ldI .i64 h7 p2 fun x20=>
   ifb (x20 == 5) (
    ldS h7 (p2.add 4) fun x23=>
    cal Try.prog 68 #[Value.slice x23.a x23.n x23.c] h7 fun u_2 h8=>asS u_2 fun x24=>
    sto h8 (p2.add 4) (Value.slice x24.a x24.n x24.c) fun h9=>
    ldS h9 (p2.add 4) fun x27=>
    ∃(I:Int→Heap→Prop) (m:Int→Heap→Nat),I 0 h9∧∀x29 h10,I x29 h10 →
    ifb (decide (x29<((x27.n:Nat):Int))) (
     ixS x27 x29 fun q32=>
     ldI .i64 h10 (q32.add ((x29:Int).toNat*1)) fun x33=>
     ∃Sq:Heap→Prop,Sq h10∧(
      hlS Sq (p2.add 4) fun x35=>
      calV Try.prog f1 #[Value.int .i64 x33] h10 fun u_3 h11=>asI .i64 u_3 fun x39=>
      Sq h11 ∧
      ixS x35 x29 fun q40=>
      sto h11 (q40.add ((x29:Int).toNat*1)) (Value.int .i64 x39) fun h12=>
      I (IntKind.i64.wrap (x29+1)) h12∧m (IntKind.i64.wrap (x29+1)) h12<m x29 h10)) (
     J_1 h10)) (
    J_1 h7))∧(∀h13,J_1 h13 →
  ldS h13 (p2.add 5) fun x43=>
  cal Try.prog 61 #[Value.slice x43.a x43.n x43.c] h13 fun u_4 h14=>asS u_4 fun x44=>
  sto h14 (p2.add 5) (Value.slice x44.a x44.n x44.c) fun h15=>
  ldS h15 (p2.add 5) fun x47=>
  ∃(I_1:Int→Heap→Prop) (m_1:Int→Heap→Nat),I_1 0 h15∧∀x49 h16,I_1 x49 h16 →
  ifb (decide (x49<((x47.n:Nat):Int))) (
   ixS x47 x49 fun q52=>
   ∃(y53:Int) (y53_1:ByteArray) (y53_2:Bool) (y53_3:Int) (y53_4:Sv) (y53_5:Sv),cl h16 (q52.add ((x49:Int).toNat*6))=some (Value.int .i64 y53)∧cl h16 ((q52.add ((x49:Int).toNat*6)).add 1)=some (Value.string y53_1)∧cl h16 ((q52.add ((x49:Int).toNat*6)).add 2)=some (Value.bool y53_2)∧cl h16 ((q52.add ((x49:Int).toNat*6)).add 3)=some (Value.int .i64 y53_3)∧cl h16 ((q52.add ((x49:Int).toNat*6)).add 4)=some (Value.slice y53_4.a y53_4.n y53_4.c)∧cl h16 ((q52.add ((x49:Int).toNat*6)).add 5)=some (Value.slice y53_5.a y53_5.n y53_5.c) ∧
   new 35 #[Value.int .i64 0,Value.string (⟨#[]⟩:ByteArray),Value.bool false,Value.int .i64 0,Value.slice (⟨none,0,0⟩:Sv).a (⟨none,0,0⟩:Sv).n (⟨none,0,0⟩:Sv).c,Value.slice (⟨none,0,0⟩:Sv).a (⟨none,0,0⟩:Sv).n (⟨none,0,0⟩:Sv).c] h16 fun p8 h17=>
   stoA h17 p8 [Value.int .i64 y53,Value.string y53_1,Value.bool y53_2,Value.int .i64 y53_3,Value.slice y53_4.a y53_4.n y53_4.c,Value.slice y53_5.a y53_5.n y53_5.c] fun h18=>
   ∃Sq_1:Heap→Prop,Sq_1 h18∧(
    ∃(y57:Int) (y57_1:ByteArray) (y57_2:Bool) (y57_3:Int) (y57_4:Sv) (y57_5:Sv),cl h18 p8=some (Value.int .i64 y57)∧cl h18 (p8.add 1)=some (Value.string y57_1)∧cl h18 (p8.add 2)=some (Value.bool y57_2)∧cl h18 (p8.add 3)=some (Value.int .i64 y57_3)∧cl h18 (p8.add 4)=some (Value.slice y57_4.a y57_4.n y57_4.c)∧cl h18 (p8.add 5)=some (Value.slice y57_5.a y57_5.n y57_5.c) ∧
    hlS Sq_1 (p2.add 5) fun x55=>
    cal Try.prog 48 #[Value.agg #[Value.int .i64 y57,Value.string y57_1,Value.bool y57_2,Value.int .i64 y57_3,Value.slice y57_4.a y57_4.n y57_4.c,Value.slice y57_5.a y57_5.n y57_5.c],f1] h18 fun u_5 h19=>∃(y59:Int) (y59_1:ByteArray) (y59_2:Bool) (y59_3:Int) (y59_4:Sv) (y59_5:Sv),u_5=Value.agg #[Value.int .i64 y59,Value.string y59_1,Value.bool y59_2,Value.int .i64 y59_3,Value.slice y59_4.a y59_4.n y59_4.c,Value.slice y59_5.a y59_5.n y59_5.c] ∧
    Sq_1 h19 ∧
    ixS x55 x49 fun q60=>
    stoA h19 (q60.add ((x49:Int).toNat*6)) [Value.int .i64 y59,Value.string y59_1,Value.bool y59_2,Value.int .i64 y59_3,Value.slice y59_4.a y59_4.n y59_4.c,Value.slice y59_5.a y59_5.n y59_5.c] fun h20=>
    I_1 (IntKind.i64.wrap (x49+1)) h20∧m_1 (IntKind.i64.wrap (x49+1)) h20<m_1 x49 h16)) (
   ∃(y62:Int) (y62_1:ByteArray) (y62_2:Bool) (y62_3:Int) (y62_4:Sv) (y62_5:Sv),cl h16 p2=some (Value.int .i64 y62)∧cl h16 (p2.add 1)=some (Value.string y62_1)∧cl h16 (p2.add 2)=some (Value.bool y62_2)∧cl h16 (p2.add 3)=some (Value.int .i64 y62_3)∧cl h16 (p2.add 4)=some (Value.slice y62_4.a y62_4.n y62_4.c)∧cl h16 (p2.add 5)=some (Value.slice y62_5.a y62_5.n y62_5.c) ∧
   stoA h16 p4 [Value.int .i64 y62,Value.string y62_1,Value.bool y62_2,Value.int .i64 y62_3,Value.slice y62_4.a y62_4.n y62_4.c,Value.slice y62_5.a y62_5.n y62_5.c] fun h21=>
   ∃(y_6:Int) (y_7:ByteArray) (y_8:Bool) (y_9:Int) (y_10:Sv) (y_11:Sv),cl h21 p4=some (Value.int .i64 y_6)∧cl h21 (p4.add 1)=some (Value.string y_7)∧cl h21 (p4.add 2)=some (Value.bool y_8)∧cl h21 (p4.add 3)=some (Value.int .i64 y_9)∧cl h21 (p4.add 4)=some (Value.slice y_10.a y_10.n y_10.c)∧cl h21 (p4.add 5)=some (Value.slice y_11.a y_11.n y_11.c) ∧
   R (Value.agg #[Value.int .i64 y_6,Value.string y_7,Value.bool y_8,Value.int .i64 y_9,Value.slice y_10.a y_10.n y_10.c,Value.slice y_11.a y_11.n y_11.c]) h21))))
set_option maxRecDepth 100000 in
theorem F48 {x0 x0_1 x0_2 x0_3 x0_4 x0_5 f1 h:_} {R:Value→Heap→Prop} (H:L48 x0 x0_1 x0_2 x0_3 x0_4 x0_5 f1 h R):CallsH Try.prog 48 #[Value.agg #[Value.int .i64 x0,Value.string x0_1,Value.bool x0_2,Value.int .i64 x0_3,Value.slice x0_4.a x0_4.n x0_4.c,Value.slice x0_5.a x0_5.n x0_5.c],f1] h R:=by
 refine CallsH.enter (n:=63) Try.func48 rfl rfl rfl rfl ?_
 intro w0 aa ww S
 unfold L48 at H
 refine W.seq ?_
 refine W.region ?_
 refine ol_box S H rfl rfl rfl trivial ?_
 clear S H;intro p2 aa ww h1 H S
 refine ol_alloc S H ti35 rfl rfl trivial ?_
 clear S H;intro p4 aa ww h2 H S
 refine OL.nil ?_
 refine W.seq ?_
 refine W.seq ?_
 refine W.region ?_
 refine OL.zm S fun _ S=>?_
 obtain⟨b10,e,H⟩:=H
 refine OL.zq S (Lf.run_eqlfn Try.underlying89 (S.ev rfl) (S.ev rfl) e) fun _ S=>?_
 refine OL.nil ?_
 refine W.cond S (b:=b10) rfl (fun hb=>?_) (fun hb=>?_)
 ·
  replace H:=H.1 hb
  refine W.seq ?_
  refine W.region ?_
  obtain⟨y11,y11_1,y11_2,y11_3,y11_4,y11_5,c_7,c_8,c_9,c_10,c_11,c_12,H⟩:=H
  refine OL.zq S (Lf.run_ldA (cs:=[Value.int .i64 y11,Value.string y11_1,Value.bool y11_2,Value.int .i64 y11_3,Value.slice y11_4.a y11_4.n y11_4.c,Value.slice y11_5.a y11_5.n y11_5.c]) (S.ev rfl) ag35 ti35 (by rw[S.heap];exact RowL.toRow ⟨c_7,c_8,c_9,c_10,c_11,c_12,trivial⟩)) fun _ S=>?_
  refine ol_stoA S H rfl rfl ti35 trivial ?_
  clear S H;intro aa ww h3 H S
  refine OL.nil ?_
  refine W.ret ?_
  obtain⟨y,y_1,y_2,y_3,y_4,y_5,c_1,c_2,c_3,c_4,c_5,c_6,H⟩:=H
  exact Ret.gen S rfl (RV.cellA (cs:=[Value.int .i64 y,Value.string y_1,Value.bool y_2,Value.int .i64 y_3,Value.slice y_4.a y_4.n y_4.c,Value.slice y_5.a y_5.n y_5.c]) rfl ag35 ti35 ⟨c_1,c_2,c_3,c_4,c_5,c_6,trivial⟩ RV.nil) rfl H
 ·
  replace H:=H.2 hb
  refine W.skip ?_
  obtain⟨J,H,HK⟩:=H
  refine W.seqJ (fun aa ww=>∃h7,St 63 [(1,f1),(2,Value.pointer (some p2)),(4,Value.pointer (some p4))] h7 w0 aa ww∧J h7) ?_ ?_
  ·
   clear HK
   refine W.seq ?_
   refine W.region ?_
   obtain⟨y12,y12_1,y12_2,y12_3,y12_4,y12_5,c_15,c_16,c_17,c_18,c_19,c_20,H⟩:=H
   refine OL.zq S (Lf.run_ldA (cs:=[Value.int .i64 y12,Value.string y12_1,Value.bool y12_2,Value.int .i64 y12_3,Value.slice y12_4.a y12_4.n y12_4.c,Value.slice y12_5.a y12_5.n y12_5.c]) (S.ev rfl) ag35 ti35 (by rw[S.heap];exact RowL.toRow ⟨c_15,c_16,c_17,c_18,c_19,c_20,trivial⟩)) fun _ S=>?_
   refine ol_cal S H isfn63 rfl rfl trivial ?_
   clear S H;intro u aa ww h4 H S
   obtain⟨x13,rfl,H⟩:=H
   refine OL.nil ?_
   refine W.cond S (b:=x13) rfl (fun hb_1=>?_) (fun hb_1=>?_)
   ·
    replace H:=H.1 hb_1
    refine W.region ?_
    refine OL.zm S fun _ S=>?_
    refine OL.zf S fa35_3 fun _ S=>?_
    obtain⟨x16,c_14,H⟩:=H
    refine OL.zl S fl3 c_14 fun _ S=>?_
    refine ol_calV S H rfl rfl rfl trivial ?_
    clear S H;intro u_1 aa ww h5 H S
    obtain⟨x17,rfl,H⟩:=H
    refine OL.zf S fa35_3 fun _ S=>?_
    refine ol_sto S H rfl rfl rfl ti3 trivial ?_
    clear S H;intro aa ww h6 H S
    refine OL.nil ?_
    exact⟨h6,S.sub _ ⟨rfl,rfl,rfl,trivial⟩,H⟩
   ·
    replace H:=H.2 hb_1
    refine W.skip ?_
    exact⟨h4,S.sub _ ⟨rfl,rfl,rfl,trivial⟩,H⟩
  ·
   clear H S
   rintro aa ww ⟨h7,S,HJ⟩
   have H:=HK _ HJ
   clear HK HJ
   obtain⟨J_1,H,HK_1⟩:=H
   refine W.seqJ (fun aa ww=>∃h13,St 63 [(1,f1),(2,Value.pointer (some p2)),(4,Value.pointer (some p4))] h13 w0 aa ww∧J_1 h13) ?_ ?_
   ·
    clear HK_1
    refine W.seq ?_
    refine W.region ?_
    refine OL.zf S fa35_0 fun _ S=>?_
    obtain⟨x20,c_21,H⟩:=H
    refine OL.zl S fl3 c_21 fun _ S=>?_
    refine OL.zq S (Lf.run_eql (S.ev rfl) (S.ev rfl)) fun _ S=>?_
    refine OL.nil ?_
    refine W.cond S (b:=(x20 == 5)) rfl (fun hb_2=>?_) (fun hb_2=>?_)
    ·
     replace H:=H.1 hb_2
     refine W.seq ?_
     refine W.region ?_
     refine OL.zf S fa35_4 fun _ S=>?_
     obtain⟨x23,c_22,H⟩:=H
     refine OL.zl S fl25 c_22 fun _ S=>?_
     refine ol_cal S H isfn68 rfl rfl trivial ?_
     clear S H;intro u_2 aa ww h8 H S
     obtain⟨x24,rfl,H⟩:=H
     refine OL.zf S fa35_4 fun _ S=>?_
     refine ol_sto S H rfl rfl rfl ti25 trivial ?_
     clear S H;intro aa ww h9 H S
     refine OL.nil ?_
     refine W.seq ?_
     refine W.region ?_
     refine OL.zf S fa35_4 fun _ S=>?_
     obtain⟨x27,c_23,H⟩:=H
     refine OL.zl S fl25 c_23 fun _ S=>?_
     refine OL.zq S (Lf.run_lens (S.ev rfl) rfl Try.underlying25) fun _ S=>?_
     refine OL.zm S fun _ S=>?_
     refine OL.nil ?_
     refine W.block ?_
     obtain⟨I,m,H,HB⟩:=H
     refine W.loopS (σ:=Int×Heap) (fun s aa ww=>St 63 [(1,f1),(2,Value.pointer (some p2)),(4,Value.pointer (some p4)),(27,Value.slice x27.a x27.n x27.c),(28,Value.int .i64 ((x27.n:Nat):Int)),(29,Value.int .i64 s.1)] s.2 w0 aa ww∧I s.1 s.2) (fun s=>m s.1 s.2) (0,h9) ⟨S.sub _ ⟨rfl,rfl,rfl,rfl,rfl,rfl,trivial⟩,H⟩ ?_
     clear H S
     rintro ⟨x29,h10⟩ aa ww ⟨S,HI⟩
     replace S:St 63 [(1,f1),(2,Value.pointer (some p2)),(4,Value.pointer (some p4)),(27,Value.slice x27.a x27.n x27.c),(28,Value.int .i64 ((x27.n:Nat):Int)),(29,Value.int .i64 x29)] h10 w0 aa ww:=S
     have H:=HB x29 h10 HI
     clear HI
     refine W.seq ?_
     refine W.region ?_
     refine OL.zq S (Lf.run_lss (S.ev rfl) (S.ev rfl)) fun _ S=>?_
     refine OL.nil ?_
     refine W.seq ?_
     refine W.cond S (b:=(decide (x29<((x27.n:Nat):Int)))) rfl (fun hb_3=>?_) (fun hb_3=>?_)
     ·
      replace H:=H.1 hb_3
      refine W.skip ?_
      refine W.seq ?_
      refine W.block ?_
      refine W.seq ?_
      refine W.region ?_
      refine OL.zm S fun _ S=>?_
      obtain⟨q32,e_1,e_2,e_3,H⟩:=H
      refine OL.zq S (Lf.run_ixs (S.ev rfl) (S.ev rfl) Try.underlying25 ti3 e_1 e_2 e_3) fun _ S=>?_
      obtain⟨x33,c_24,H⟩:=H
      refine OL.zl S fl3 c_24 fun _ S=>?_
      refine OL.za S fun _ S=>?_
      refine OL.za S fun _ S=>?_
      refine OL.nil ?_
      replace S:=S.sub [(1,f1),(2,Value.pointer (some p2)),(4,Value.pointer (some p4)),(5,Value.int .i64 x29),(6,Value.int .i64 x33),(27,Value.slice x27.a x27.n x27.c),(28,Value.int .i64 ((x27.n:Nat):Int)),(29,Value.int .i64 x29)] ⟨rfl,rfl,rfl,rfl,rfl,rfl,rfl,rfl,trivial⟩
      obtain⟨Sq,HS,H⟩:=H
      refine W.regionN [1] [5,7] Sq S (by kernel_rfl) ?_
      clear S;intro ww S
      refine BN.pure 0 S (fun _=>HS) rfl (by kernel_rfl) (by kernel_rfl) (fun _=>Lf.run_fa (S.ev rfl) fa35_4) rfl rfl trivial fun _ S=>?_
      refine BN.pure 2 S (fun _=>HS) rfl (by kernel_rfl) (by kernel_rfl) (fun _=>Lf.run_move (S.ev rfl)) rfl rfl trivial fun _ S=>?_
      refine BN.pure 3 S (fun _=>HS) rfl (by kernel_rfl) (by kernel_rfl) (fun _=>Lf.run_move (S.ev rfl)) rfl rfl trivial fun _ S=>?_
      refine BN.pure 4 S (fun _=>HS) rfl (by kernel_rfl) (by kernel_rfl) (fun _=>Lf.run_move (S.ev rfl)) rfl rfl trivial fun _ S=>?_
      obtain⟨x35,c_25,H⟩:=H
      refine BN.held 1 S HS rfl (by kernel_rfl) (fun _ hq=>Lf.run_ld (S.ev rfl) fl25 (c_25 _ hq)) rfl rfl trivial fun _ S=>?_
      refine BN.eff 5 rfl (by kernel_rfl) ?_
      refine ol_calV S H rfl rfl rfl trivial ?_
      clear S H;intro u_3 aa ww h11 H S
      obtain⟨x39,rfl,H⟩:=H
      refine OL.nil ?_
      clear HS;obtain⟨HS,H⟩:=H
      refine⟨fun _=>by rw[S.heap];exact HS,?_⟩
      obtain⟨q40,e_4,e_5,e_6,H⟩:=H
      refine BN.pure 6 S (fun _=>HS) rfl (by kernel_rfl) (by kernel_rfl) (fun _=>Lf.run_ixs (S.ev rfl) (S.ev rfl) Try.underlying25 ti3 e_4 e_5 e_6) rfl rfl trivial fun _ S=>?_
      refine BN.eff 7 rfl (by kernel_rfl) ?_
      refine ol_sto S H rfl rfl rfl ti3 trivial ?_
      clear S H;intro aa ww h12 H S
      refine OL.nil ?_
      refine⟨noNeed (by kernel_rfl),?_⟩
      refine BN.done (by kernel_rfl) ?_
      refine W.region ?_
      refine OL.zq S (Lf.run_add (S.ev rfl) (S.ev rfl)) fun _ S=>?_
      refine OL.zm S fun _ S=>?_
      refine OL.nil ?_
      exact⟨((IntKind.i64.wrap (x29+1)),h12),⟨S.sub _ ⟨rfl,rfl,rfl,rfl,rfl,rfl,trivial⟩,H.1⟩,H.2⟩
     ·
      replace H:=H.2 hb_3
      refine W.exit_ ?_
      refine xhit ?_
      exact⟨h10,S.sub _ ⟨rfl,rfl,rfl,trivial⟩,H⟩
    ·
     replace H:=H.2 hb_2
     refine W.skip ?_
     exact⟨h7,S.sub _ ⟨rfl,rfl,rfl,trivial⟩,H⟩
   ·
    clear H S
    rintro aa ww ⟨h13,S,HJ⟩
    have H:=HK_1 _ HJ
    clear HK_1 HJ
    refine W.seq ?_
    refine W.region ?_
    refine OL.zf S fa35_5 fun _ S=>?_
    obtain⟨x43,c_26,H⟩:=H
    refine OL.zl S fl24 c_26 fun _ S=>?_
    refine ol_cal S H isfn61 rfl rfl trivial ?_
    clear S H;intro u_4 aa ww h14 H S
    obtain⟨x44,rfl,H⟩:=H
    refine OL.zf S fa35_5 fun _ S=>?_
    refine ol_sto S H rfl rfl rfl ti24 trivial ?_
    clear S H;intro aa ww h15 H S
    refine OL.nil ?_
    refine W.seq ?_
    refine W.seq ?_
    refine W.region ?_
    refine OL.zf S fa35_5 fun _ S=>?_
    obtain⟨x47,c_27,H⟩:=H
    refine OL.zl S fl24 c_27 fun _ S=>?_
    refine OL.zq S (Lf.run_lens (S.ev rfl) rfl Try.underlying24) fun _ S=>?_
    refine OL.zm S fun _ S=>?_
    refine OL.nil ?_
    refine W.block ?_
    obtain⟨I_1,m_1,H,HB_1⟩:=H
    refine W.loopS (σ:=Int×Heap) (fun s aa ww=>St 63 [(1,f1),(2,Value.pointer (some p2)),(4,Value.pointer (some p4)),(47,Value.slice x47.a x47.n x47.c),(48,Value.int .i64 ((x47.n:Nat):Int)),(49,Value.int .i64 s.1)] s.2 w0 aa ww∧I_1 s.1 s.2) (fun s=>m_1 s.1 s.2) (0,h15) ⟨S.sub _ ⟨rfl,rfl,rfl,rfl,rfl,rfl,trivial⟩,H⟩ ?_
    clear H S
    rintro ⟨x49,h16⟩ aa ww ⟨S,HI⟩
    replace S:St 63 [(1,f1),(2,Value.pointer (some p2)),(4,Value.pointer (some p4)),(47,Value.slice x47.a x47.n x47.c),(48,Value.int .i64 ((x47.n:Nat):Int)),(49,Value.int .i64 x49)] h16 w0 aa ww:=S
    have H:=HB_1 x49 h16 HI
    clear HI
    refine W.seq ?_
    refine W.region ?_
    refine OL.zq S (Lf.run_lss (S.ev rfl) (S.ev rfl)) fun _ S=>?_
    refine OL.nil ?_
    refine W.seq ?_
    refine W.cond S (b:=(decide (x49<((x47.n:Nat):Int)))) rfl (fun hb_4=>?_) (fun hb_4=>?_)
    ·
     replace H:=H.1 hb_4
     refine W.skip ?_
     refine W.seq ?_
     refine W.block ?_
     refine W.seq ?_
     refine W.region ?_
     refine OL.zm S fun _ S=>?_
     obtain⟨q52,e_7,e_8,e_9,H⟩:=H
     refine OL.zq S (Lf.run_ixs (S.ev rfl) (S.ev rfl) Try.underlying24 ti35 e_7 e_8 e_9) fun _ S=>?_
     obtain⟨y53,y53_1,y53_2,y53_3,y53_4,y53_5,c_37,c_38,c_39,c_40,c_41,c_42,H⟩:=H
     refine OL.zq S (Lf.run_ldA (cs:=[Value.int .i64 y53,Value.string y53_1,Value.bool y53_2,Value.int .i64 y53_3,Value.slice y53_4.a y53_4.n y53_4.c,Value.slice y53_5.a y53_5.n y53_5.c]) (S.ev rfl) ag35 ti35 (by rw[S.heap];exact RowL.toRow ⟨c_37,c_38,c_39,c_40,c_41,c_42,trivial⟩)) fun _ S=>?_
     refine ol_alloc S H ti35 rfl rfl trivial ?_
     clear S H;intro p8 aa ww h17 H S
     refine OL.za S fun _ S=>?_
     refine ol_stoA S H rfl rfl ti35 trivial ?_
     clear S H;intro aa ww h18 H S
     refine OL.nil ?_
     replace S:=S.sub [(1,f1),(2,Value.pointer (some p2)),(4,Value.pointer (some p4)),(7,Value.int .i64 x49),(8,Value.pointer (some p8)),(47,Value.slice x47.a x47.n x47.c),(48,Value.int .i64 ((x47.n:Nat):Int)),(49,Value.int .i64 x49)] ⟨rfl,rfl,rfl,rfl,rfl,rfl,rfl,rfl,trivial⟩
     obtain⟨Sq_1,HS_1,H⟩:=H
     refine W.regionN [1] [5,7] Sq_1 S (by kernel_rfl) ?_
     clear S;intro ww S
     refine BN.pure 0 S (fun _=>HS_1) rfl (by kernel_rfl) (by kernel_rfl) (fun _=>Lf.run_fa (S.ev rfl) fa35_5) rfl rfl trivial fun _ S=>?_
     refine BN.pure 2 S (fun _=>HS_1) rfl (by kernel_rfl) (by kernel_rfl) (fun _=>Lf.run_move (S.ev rfl)) rfl rfl trivial fun _ S=>?_
     obtain⟨y57,y57_1,y57_2,y57_3,y57_4,y57_5,c_31,c_32,c_33,c_34,c_35,c_36,H⟩:=H
     refine BN.load 3 S (fun _=>HS_1) rfl (by kernel_rfl) (by kernel_rfl) (fun _ hx=>Lf.run_ldA (cs:=[Value.int .i64 y57,Value.string y57_1,Value.bool y57_2,Value.int .i64 y57_3,Value.slice y57_4.a y57_4.n y57_4.c,Value.slice y57_5.a y57_5.n y57_5.c]) (S.ev rfl) ag35 ti35 (hx.row (S.row ⟨c_31,c_32,c_33,c_34,c_35,c_36,trivial⟩))) rfl rfl trivial fun _ S=>?_
     refine BN.pure 4 S (fun _=>HS_1) rfl (by kernel_rfl) (by kernel_rfl) (fun _=>Lf.run_move (S.ev rfl)) rfl rfl trivial fun _ S=>?_
     obtain⟨x55,c_30,H⟩:=H
     refine BN.held 1 S HS_1 rfl (by kernel_rfl) (fun _ hq=>Lf.run_ld (S.ev rfl) fl24 (c_30 _ hq)) rfl rfl trivial fun _ S=>?_
     refine BN.eff 5 rfl (by kernel_rfl) ?_
     refine ol_cal S H isfn48 rfl rfl trivial ?_
     clear S H;intro u_5 aa ww h19 H S
     obtain⟨y59,y59_1,y59_2,y59_3,y59_4,y59_5,rfl,H⟩:=H
     refine OL.nil ?_
     clear HS_1;obtain⟨HS_1,H⟩:=H
     refine⟨fun _=>by rw[S.heap];exact HS_1,?_⟩
     obtain⟨q60,e_10,e_11,e_12,H⟩:=H
     refine BN.pure 6 S (fun _=>HS_1) rfl (by kernel_rfl) (by kernel_rfl) (fun _=>Lf.run_ixs (S.ev rfl) (S.ev rfl) Try.underlying24 ti35 e_10 e_11 e_12) rfl rfl trivial fun _ S=>?_
     refine BN.eff 7 rfl (by kernel_rfl) ?_
     refine ol_stoA S H rfl rfl ti35 trivial ?_
     clear S H;intro aa ww h20 H S
     refine OL.nil ?_
     refine⟨noNeed (by kernel_rfl),?_⟩
     refine BN.done (by kernel_rfl) ?_
     refine W.region ?_
     refine OL.zq S (Lf.run_add (S.ev rfl) (S.ev rfl)) fun _ S=>?_
     refine OL.zm S fun _ S=>?_
     refine OL.nil ?_
     exact⟨((IntKind.i64.wrap (x49+1)),h20),⟨S.sub _ ⟨rfl,rfl,rfl,rfl,rfl,rfl,trivial⟩,H.1⟩,H.2⟩
    ·
     replace H:=H.2 hb_4
     refine W.exit_ ?_
     refine xhit ?_
     refine W.seq ?_
     refine W.region ?_
     obtain⟨y62,y62_1,y62_2,y62_3,y62_4,y62_5,c_50,c_51,c_52,c_53,c_54,c_55,H⟩:=H
     refine OL.zq S (Lf.run_ldA (cs:=[Value.int .i64 y62,Value.string y62_1,Value.bool y62_2,Value.int .i64 y62_3,Value.slice y62_4.a y62_4.n y62_4.c,Value.slice y62_5.a y62_5.n y62_5.c]) (S.ev rfl) ag35 ti35 (by rw[S.heap];exact RowL.toRow ⟨c_50,c_51,c_52,c_53,c_54,c_55,trivial⟩)) fun _ S=>?_
     refine ol_stoA S H rfl rfl ti35 trivial ?_
     clear S H;intro aa ww h21 H S
     refine OL.nil ?_
     refine W.ret ?_
     obtain⟨y_6,y_7,y_8,y_9,y_10,y_11,c_44,c_45,c_46,c_47,c_48,c_49,H⟩:=H
     exact Ret.gen S rfl (RV.cellA (cs:=[Value.int .i64 y_6,Value.string y_7,Value.bool y_8,Value.int .i64 y_9,Value.slice y_10.a y_10.n y_10.c,Value.slice y_11.a y_11.n y_11.c]) rfl ag35 ti35 ⟨c_44,c_45,c_46,c_47,c_48,c_49,trivial⟩ RV.nil) rfl H
def L49 (r0:Option Addr) (h:Heap) (R:Value→Heap→Prop):Prop:=
 ifb (Option.isNone r0) (
  R (Value.int .i64 0) h) (
  nn r0 fun p6=>
  ldI .i64 h p6 fun x8=>
  R (Value.int .i64 x8) h)
set_option maxRecDepth 100000 in
theorem F49 {r0 h:_} {R:Value→Heap→Prop} (H:L49 r0 h R):CallsH Try.prog 49 #[Value.pointer r0] h R:=by
 refine CallsH.enter (n:=9) Try.func49 rfl rfl rfl rfl ?_
 intro w0 aa ww S
 unfold L49 at H
 refine W.seq ?_
 refine W.region ?_
 refine OL.za S fun _ S=>?_
 refine OL.nil ?_
 refine W.seq ?_
 refine W.seq ?_
 refine W.region ?_
 refine OL.zm S fun _ S=>?_
 refine OL.zq S (Lf.run_eqlpn Try.underlying63 (S.ev rfl) (S.ev rfl)) fun _ S=>?_
 refine OL.nil ?_
 refine W.cond S (b:=(Option.isNone r0)) rfl (fun hb=>?_) (fun hb=>?_)
 ·
  replace H:=H.1 hb
  refine W.seq ?_
  refine W.region ?_
  refine OL.za S fun _ S=>?_
  refine OL.nil ?_
  refine W.ret ?_
  exact Ret.one S rfl rfl H
 ·
  replace H:=H.2 hb
  refine W.skip ?_
  refine W.seq ?_
  refine W.region ?_
  refine OL.zm S fun _ S=>?_
  obtain⟨p6,e,H⟩:=H
  refine OL.zq S (Lf.run_nc' (S.ev rfl) e) fun _ S=>?_
  refine OL.zf S fa86_0 fun _ S=>?_
  obtain⟨x8,c,H⟩:=H
  refine OL.zl S fl3 c fun _ S=>?_
  refine OL.za S fun _ S=>?_
  refine OL.nil ?_
  refine W.ret ?_
  exact Ret.one S rfl rfl H
end Go.Proofs.Yteofligmdngdgaa

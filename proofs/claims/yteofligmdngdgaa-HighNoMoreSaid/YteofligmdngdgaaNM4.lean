/- HighNoMore: where the program says that one function does not do for another one, and the types do, there are sets of regions, with all that is known, for which none for the one's own lifetimes will do: proved for every input, with no conditions. -/
import Derived.Test.YteofligmdngdgaaNM3
namespace Go.Proofs.Yteofligmdngdgaa
open Go Go.Lf
set_option linter.unusedVariables false
set_option maxRecDepth 100000
def L50 (vfrom0:Int) (l1:Sv) (h:Heap) (R:Value→Heap→Prop):Prop:=
 newS 3 #[Value.int .i64 vfrom0] 1 h fun s10 h1=>
 ∃(I:Sv→Int→Heap→Prop) (m:Sv→Int→Heap→Nat),I s10 0 h1∧∀out5 vat6 h2,I out5 vat6 h2 →
 ifb (decide (vat6<((out5.n:Nat):Int))) (
  ∃(I_1:Sv→Int→Heap→Prop) (m_1:Sv→Int→Heap→Nat),I_1 out5 0 h2∧∀out5_1 x19 h3,I_1 out5_1 x19 h3 →
  ifb (decide (x19<((l1.n:Nat):Int))) (
   ∃J:Sv→Heap→Prop,(
    ixS l1 x19 fun q21=>
    ∃(y22:Int) (y22_1:Int),cl h3 (q21.add ((x19:Int).toNat*2))=some (Value.int .i64 y22)∧cl h3 ((q21.add ((x19:Int).toNat*2)).add 1)=some (Value.int .i64 y22_1) ∧
    new 56 #[Value.int .i64 0,Value.int .i64 0] h3 fun p8 h4=>
    stoA h4 p8 [Value.int .i64 y22,Value.int .i64 y22_1] fun h5=>
    ∃J_1:Bool→Heap→Prop,(
     ldI .i64 h5 p8 fun x24=>
     ixS out5_1 vat6 fun q27=>
     ldI .i64 h5 (q27.add ((vat6:Int).toNat*1)) fun x28=>
     ifb (x24 == x28) (
      ldI .i64 h5 (p8.add 1) fun x33=>
      cal Try.prog 69 #[Value.slice out5_1.a out5_1.n out5_1.c,Value.int .i64 x33] h5 fun u h6=>asB u fun x34=>
      J_1 (!x34) h6) (
      J_1 false h5))∧(∀x36 h7,J_1 x36 h7 →
    ifb x36 (
     ldI .i64 h7 (p8.add 1) fun x39=>
     newS 3 #[Value.int .i64 x39] 1 h7 fun s40 h8=>
     appS 3 (Value.int .i64 0).cells 1 8 h8 out5_1 s40 fun s41 h9=>
     J s41 h9) (
     J out5_1 h7)))∧(∀out5_2 h10,J out5_2 h10 →
   I_1 out5_2 (IntKind.i64.wrap (x19+1)) h10∧m_1 out5_2 (IntKind.i64.wrap (x19+1)) h10<m_1 out5_1 x19 h3)) (
   I out5_1 (IntKind.i64.wrap (vat6+1)) h3∧m out5_1 (IntKind.i64.wrap (vat6+1)) h3<m out5 vat6 h2)) (
  R (Value.slice out5.a out5.n out5.c) h2)
set_option maxRecDepth 100000 in
theorem F50 {vfrom0 l1 h:_} {R:Value→Heap→Prop} (H:L50 vfrom0 l1 h R):CallsH Try.prog 50 #[Value.int .i64 vfrom0,Value.slice l1.a l1.n l1.c] h R:=by
 refine CallsH.enter (n:=44) Try.func50 rfl rfl rfl rfl ?_
 intro w0 aa ww S
 unfold L50 at H
 refine W.seq ?_
 refine W.region ?_
 refine OL.za S fun _ S=>?_
 refine OL.nil ?_
 refine W.seq ?_
 refine W.region ?_
 refine OL.zm S fun _ S=>?_
 refine ol_newS S H Try.underlying25 ti3 (by decide) (parts_map S rfl) (by kernel_rfl) (by decide) rfl trivial ?_
 clear S H;intro s10 aa ww h1 H S
 refine OL.za S fun _ S=>?_
 refine OL.nil ?_
 refine W.seq ?_
 refine W.seq ?_
 refine W.region ?_
 refine OL.za S fun _ S=>?_
 refine OL.nil ?_
 refine W.block ?_
 obtain⟨I,m,H,HB_1⟩:=H
 refine W.loopS (σ:=Sv×Int×Heap) (fun s aa ww=>St 44 [(1,Value.slice l1.a l1.n l1.c),(5,Value.slice s.1.a s.1.n s.1.c),(6,Value.int .i64 s.2.1)] s.2.2 w0 aa ww∧I s.1 s.2.1 s.2.2) (fun s=>m s.1 s.2.1 s.2.2) (s10,0,h1) ⟨S.sub _ ⟨rfl,rfl,rfl,trivial⟩,H⟩ ?_
 clear H S
 rintro ⟨out5,vat6,h2⟩ aa ww ⟨S,HI⟩
 replace S:St 44 [(1,Value.slice l1.a l1.n l1.c),(5,Value.slice out5.a out5.n out5.c),(6,Value.int .i64 vat6)] h2 w0 aa ww:=S
 have H:=HB_1 out5 vat6 h2 HI
 clear HI
 refine W.seq ?_
 refine W.seq ?_
 refine W.region ?_
 refine OL.zm S fun _ S=>?_
 refine OL.zm S fun _ S=>?_
 refine OL.zq S (Lf.run_lens (S.ev rfl) rfl Try.underlying25) fun _ S=>?_
 refine OL.zq S (Lf.run_lss (S.ev rfl) (S.ev rfl)) fun _ S=>?_
 refine OL.nil ?_
 refine W.cond S (b:=(decide (vat6<((out5.n:Nat):Int)))) rfl (fun hb=>?_) (fun hb=>?_)
 ·
  replace H:=H.1 hb
  refine W.skip ?_
  refine W.seq ?_
  refine W.block ?_
  refine W.seq ?_
  refine W.region ?_
  refine OL.zm S fun _ S=>?_
  refine OL.zq S (Lf.run_lens (S.ev rfl) rfl Try.underlying22) fun _ S=>?_
  refine OL.zm S fun _ S=>?_
  refine OL.nil ?_
  refine W.block ?_
  obtain⟨I_1,m_1,H,HB⟩:=H
  refine W.loopS (σ:=Sv×Int×Heap) (fun s aa ww=>St 44 [(1,Value.slice l1.a l1.n l1.c),(5,Value.slice s.1.a s.1.n s.1.c),(6,Value.int .i64 vat6),(17,Value.slice l1.a l1.n l1.c),(18,Value.int .i64 ((l1.n:Nat):Int)),(19,Value.int .i64 s.2.1)] s.2.2 w0 aa ww∧I_1 s.1 s.2.1 s.2.2) (fun s=>m_1 s.1 s.2.1 s.2.2) (out5,0,h2) ⟨S.sub _ ⟨rfl,rfl,rfl,rfl,rfl,rfl,trivial⟩,H⟩ ?_
  clear H S
  rintro ⟨out5_1,x19,h3⟩ aa ww ⟨S,HI⟩
  replace S:St 44 [(1,Value.slice l1.a l1.n l1.c),(5,Value.slice out5_1.a out5_1.n out5_1.c),(6,Value.int .i64 vat6),(17,Value.slice l1.a l1.n l1.c),(18,Value.int .i64 ((l1.n:Nat):Int)),(19,Value.int .i64 x19)] h3 w0 aa ww:=S
  have H:=HB out5_1 x19 h3 HI
  clear HI
  refine W.seq ?_
  refine W.region ?_
  refine OL.zq S (Lf.run_lss (S.ev rfl) (S.ev rfl)) fun _ S=>?_
  refine OL.nil ?_
  refine W.seq ?_
  refine W.cond S (b:=(decide (x19<((l1.n:Nat):Int)))) rfl (fun hb_1=>?_) (fun hb_1=>?_)
  ·
   replace H:=H.1 hb_1
   refine W.skip ?_
   obtain⟨J,H,HK⟩:=H
   refine W.seqJ (fun aa ww=>∃out5_2 h10,St 44 [(1,Value.slice l1.a l1.n l1.c),(5,Value.slice out5_2.a out5_2.n out5_2.c),(6,Value.int .i64 vat6),(17,Value.slice l1.a l1.n l1.c),(18,Value.int .i64 ((l1.n:Nat):Int)),(19,Value.int .i64 x19)] h10 w0 aa ww∧J out5_2 h10) ?_ ?_
   ·
    clear HK
    refine W.block ?_
    refine W.seq ?_
    refine W.region ?_
    obtain⟨q21,e,e_1,e_2,H⟩:=H
    refine OL.zq S (Lf.run_ixs (S.ev rfl) (S.ev rfl) Try.underlying22 ti56 e e_1 e_2) fun _ S=>?_
    obtain⟨y22,y22_1,c_5,c_6,H⟩:=H
    refine OL.zq S (Lf.run_ldA (cs:=[Value.int .i64 y22,Value.int .i64 y22_1]) (S.ev rfl) ag56 ti56 (by rw[S.heap];exact RowL.toRow ⟨c_5,c_6,trivial⟩)) fun _ S=>?_
    refine ol_alloc S H ti56 rfl rfl trivial ?_
    clear S H;intro p8 aa ww h4 H S
    refine ol_stoA S H rfl rfl ti56 trivial ?_
    clear S H;intro aa ww h5 H S
    refine OL.nil ?_
    refine W.seq ?_
    replace S:=S.sub [(1,Value.slice l1.a l1.n l1.c),(5,Value.slice out5_1.a out5_1.n out5_1.c),(6,Value.int .i64 vat6),(8,Value.pointer (some p8)),(17,Value.slice l1.a l1.n l1.c),(18,Value.int .i64 ((l1.n:Nat):Int)),(19,Value.int .i64 x19)] ⟨rfl,rfl,rfl,rfl,rfl,rfl,rfl,trivial⟩
    obtain⟨J_1,H,HK_1⟩:=H
    refine W.mono (N':=fun aa ww=>∃x36 h7,St 44 [(1,Value.slice l1.a l1.n l1.c),(5,Value.slice out5_1.a out5_1.n out5_1.c),(6,Value.int .i64 vat6),(8,Value.pointer (some p8)),(17,Value.slice l1.a l1.n l1.c),(18,Value.int .i64 ((l1.n:Nat):Int)),(19,Value.int .i64 x19),(36,Value.bool x36)] h7 w0 aa ww∧J_1 x36 h7) ?_ ?_
    ·
     refine W.regionD S (by kernel_rfl) ?_
     clear S;intro ww S
     refine AN.zq 0 S rfl (fun _=>Lf.run_ixa (S.ev rfl) (S.ev rfl) Try.underlying56 ti3 (by decide) (by decide)) fun _ S=>?_
     obtain⟨x24,c_1,H⟩:=H
     refine AN.zl 1 S rfl (fun _ hx=>Lf.run_ld (S.ev rfl) fl3 (hx.cell _ _ (S.cl c_1))) fun _ S=>?_
     refine AN.zq 2 S rfl (fun _=>Lf.run_move (S.ev rfl)) fun _ S=>?_
     refine AN.zq 3 S rfl (fun _=>Lf.run_move (S.ev rfl)) fun _ S=>?_
     obtain⟨q27,e_5,e_6,e_7,H⟩:=H
     refine AN.zq 4 S rfl (fun _=>Lf.run_ixs (S.ev rfl) (S.ev rfl) Try.underlying25 ti3 e_5 e_6 e_7) fun _ S=>?_
     obtain⟨x28,c_2,H⟩:=H
     refine AN.zl 5 S rfl (fun _ hx=>Lf.run_ld (S.ev rfl) fl3 (hx.cell _ _ (S.cl c_2))) fun _ S=>?_
     refine AN.zq 6 S rfl (fun _=>Lf.run_eql (S.ev rfl) (S.ev rfl)) fun _ S=>?_
     refine AN.zq 7 S rfl (fun _=>Lf.run_move (S.ev rfl)) fun _ S=>?_
     rcases Bool.eq_false_or_eq_true (x24 == x28) with hb_2|hb_2
     ·
      replace H:=H.1 hb_2
      refine AN.zq (hg:=GOk.mk rfl rfl hb_2) 8 S rfl (fun _=>Lf.run_move (S.ev rfl)) fun _ S=>?_
      refine AN.zq (hg:=GOk.mk rfl rfl hb_2) 9 S rfl (fun _=>Lf.run_ixa (S.ev rfl) (S.ev rfl) Try.underlying56 ti3 (by decide) (by decide)) fun _ S=>?_
      obtain⟨x33,c_3,H⟩:=H
      refine AN.zl (hg:=GOk.mk rfl rfl hb_2) 10 S rfl (fun _ hx=>Lf.run_ld (S.ev rfl) fl3 (hx.cell _ _ (S.cl c_3))) fun _ S=>?_
      refine AN.eff 11 rfl (by kernel_rfl) ?_
      refine ol_cal S H isfn69 rfl rfl (GOk.mk rfl rfl hb_2) ?_
      clear S H;intro u aa ww h6 H S
      obtain⟨x34,rfl,H⟩:=H
      refine OL.nil ?_
      refine AN.zq (hg:=GOk.mk rfl rfl hb_2) 12 S rfl (fun _=>Lf.run_not (S.ev rfl)) fun _ S=>?_
      refine AN.zq 13 S rfl (fun _=>run_pickT (S.ev rfl) hb_2 (S.ev rfl)) fun _ S=>?_
      refine AN.done (by kernel_rfl) ?_
      exact⟨(!x34),h6,S.sub _ ⟨rfl,rfl,rfl,rfl,rfl,rfl,rfl,rfl,trivial⟩,H⟩
     ·
      replace H:=H.2 hb_2
      refine AN.zn 8 S rfl (GNo.mk rfl rfl hb_2) fun _ S=>?_
      refine AN.zn 9 S rfl (GNo.mk rfl rfl hb_2) fun _ S=>?_
      refine AN.zn 10 S rfl (GNo.mk rfl rfl hb_2) fun _ S=>?_
      refine AN.zn 11 S rfl (GNo.mk rfl rfl hb_2) fun _ S=>?_
      refine AN.zn 12 S rfl (GNo.mk rfl rfl hb_2) fun _ S=>?_
      refine AN.zq 13 S rfl (fun _=>run_pickF (S.ev rfl) hb_2 (S.ev rfl)) fun _ S=>?_
      refine AN.done (by kernel_rfl) ?_
      exact⟨false,h5,S.sub _ ⟨rfl,rfl,rfl,rfl,rfl,rfl,rfl,rfl,trivial⟩,H⟩
    ·
     clear H S
     rintro aa ww ⟨x36,h7,S,HJ⟩
     have H:=HK_1 _ _ HJ
     clear HK_1 HJ
     refine W.cond S (b:=x36) rfl (fun hb_3=>?_) (fun hb_3=>?_)
     ·
      replace H:=H.1 hb_3
      refine W.region ?_
      refine OL.zm S fun _ S=>?_
      refine OL.zq S (Lf.run_ixa (S.ev rfl) (S.ev rfl) Try.underlying56 ti3 (by decide) (by decide)) fun _ S=>?_
      obtain⟨x39,c_4,H⟩:=H
      refine OL.zl S fl3 c_4 fun _ S=>?_
      refine ol_newS S H Try.underlying25 ti3 (by decide) (parts_map S rfl) (by kernel_rfl) (by decide) rfl trivial ?_
      clear S H;intro s40 aa ww h8 H S
      refine ol_appS S H Try.underlying25 ti3 rfl rfl rfl trivial ?_
      clear S H;intro s41 aa ww h9 H S
      refine OL.za S fun _ S=>?_
      refine OL.nil ?_
      exact⟨s41,h9,S.sub _ ⟨rfl,rfl,rfl,rfl,rfl,rfl,trivial⟩,H⟩
     ·
      replace H:=H.2 hb_3
      refine W.skip ?_
      exact⟨out5_1,h7,S.sub _ ⟨rfl,rfl,rfl,rfl,rfl,rfl,trivial⟩,H⟩
   ·
    clear H S
    rintro aa ww ⟨out5_2,h10,S,HJ⟩
    have H:=HK _ _ HJ
    clear HK HJ
    refine W.region ?_
    refine OL.zq S (Lf.run_add (S.ev rfl) (S.ev rfl)) fun _ S=>?_
    refine OL.zm S fun _ S=>?_
    refine OL.nil ?_
    exact⟨(out5_2,(IntKind.i64.wrap (x19+1)),h10),⟨S.sub _ ⟨rfl,rfl,rfl,rfl,rfl,rfl,trivial⟩,H.1⟩,H.2⟩
  ·
   replace H:=H.2 hb_1
   refine W.exit_ ?_
   refine xhit ?_
   refine W.region ?_
   refine OL.zm S fun _ S=>?_
   refine OL.zq S (Lf.run_add (S.ev rfl) (S.ev rfl)) fun _ S=>?_
   refine OL.za S fun _ S=>?_
   refine OL.nil ?_
   exact⟨(out5_1,(IntKind.i64.wrap (vat6+1)),h3),⟨S.sub _ ⟨rfl,rfl,rfl,trivial⟩,H.1⟩,H.2⟩
 ·
  replace H:=H.2 hb
  refine W.exit_ ?_
  refine xhit ?_
  refine W.seq ?_
  refine W.region ?_
  refine OL.zm S fun _ S=>?_
  refine OL.za S fun _ S=>?_
  refine OL.nil ?_
  refine W.ret ?_
  exact Ret.one S rfl rfl H
def L51 (r0:Option Addr) (a1:Int) (b2:Int) (h:Heap) (R:Value→Heap→Prop):Prop:=
 cal Try.prog 45 #[Value.pointer r0,Value.int .i64 a1] h fun u h1=>asB u fun x9=>
 ∃J:Bool→Heap→Prop,(andj x9 (fun k=>
  cal Try.prog 45 #[Value.pointer r0,Value.int .i64 b2] h1 fun u_1 h3=>asB u_1 fun x13=>
  k x13 h3) h1 J)∧∀x14 h2,J x14 h2 →
 ∃J_1:Bool→Prop,(andr x14 (fun k_1=>
  nn r0 fun p17=>
  ldS h2 (p17.add 1) fun x19=>
  ixS x19 a1 fun q21=>
  ldS h2 (q21.add ((a1:Int).toNat*1)) fun x22=>
  ixS x22 b2 fun q24=>
  ldB h2 (q24.add ((b2:Int).toNat*1)) fun x25=>
  k_1 x25) J_1)∧∀x26,J_1 x26 →
 R (Value.bool x26) h2
set_option maxRecDepth 100000 in
theorem F51 {r0 a1 b2 h:_} {R:Value→Heap→Prop} (H:L51 r0 a1 b2 h R):CallsH Try.prog 51 #[Value.pointer r0,Value.int .i64 a1,Value.int .i64 b2] h R:=by
 refine CallsH.enter (n:=27) Try.func51 rfl rfl rfl rfl ?_
 intro w0 aa ww S
 unfold L51 at H
 refine W.seq ?_
 refine W.region ?_
 refine OL.za S fun _ S=>?_
 refine OL.nil ?_
 refine W.seq ?_
 refine W.region ?_
 refine OL.zm S fun _ S=>?_
 refine OL.zm S fun _ S=>?_
 refine ol_cal S H isfn45 rfl rfl trivial ?_
 clear S H;intro u aa ww h1 H S
 obtain⟨x9,rfl,H⟩:=H
 refine OL.zm S fun _ S=>?_
 obtain⟨J,H,HK⟩:=H
 refine OL.cutN 4 (fun aa ww=>∃x14 h2,St 27 ((14,Value.bool x14) :: [(0,Value.pointer r0),(1,Value.int .i64 a1),(2,Value.int .i64 b2),(7,Value.pointer r0),(8,Value.int .i64 a1),(9,Value.bool x9),(10,Value.bool x9)]) h2 w0 aa ww∧J x14 h2) ?_ ?_
 ·
  rcases Bool.eq_false_or_eq_true x9 with hb|hb
  ·
   replace H:=H.1 hb
   refine OL.zm (hg:=GOk.mk rfl rfl hb) S fun _ S=>?_
   refine OL.zm (hg:=GOk.mk rfl rfl hb) S fun _ S=>?_
   refine ol_cal S H isfn45 rfl rfl (GOk.mk rfl rfl hb) ?_
   clear S H;intro u_1 aa ww h3 H S
   obtain⟨x13,rfl,H⟩:=H
   refine OL.zq S (Lf.run_pickT (S.ev rfl) hb (S.ev rfl)) fun _ S=>?_
   refine OL.nil ?_
   exact⟨_,_,S.sub _ ⟨rfl,rfl,rfl,rfl,rfl,rfl,rfl,rfl,trivial⟩,H⟩
  ·
   replace H:=H.2 hb
   refine OL.zn S (GNo.mk rfl rfl hb) fun _ S=>?_
   refine OL.zn S (GNo.mk rfl rfl hb) fun _ S=>?_
   refine OL.zn S (GNo.mk rfl rfl hb) fun _ S=>?_
   refine OL.zq S (Lf.run_pickF (S.ev rfl) hb (S.ev rfl)) fun _ S=>?_
   refine OL.nil ?_
   exact⟨_,_,S.sub _ ⟨rfl,rfl,rfl,rfl,rfl,rfl,rfl,rfl,trivial⟩,H⟩
 ·
  clear S
  rintro aa ww ⟨x14,h2,S,HJ⟩
  replace H:=HK _ _ HJ
  clear HK HJ
  refine OL.zm S fun _ S=>?_
  obtain⟨J_1,H,HK_1⟩:=H
  refine OL.cutN 11 (fun aa ww=>∃x26,St 27 ((26,Value.bool x26) :: [(0,Value.pointer r0),(1,Value.int .i64 a1),(2,Value.int .i64 b2),(7,Value.pointer r0),(8,Value.int .i64 a1),(9,Value.bool x9),(10,Value.bool x9),(14,Value.bool x14),(15,Value.bool x14)]) h2 w0 aa ww∧J_1 x26) ?_ ?_
  ·
   rcases Bool.eq_false_or_eq_true x14 with hb_1|hb_1
   ·
    replace H:=H.1 hb_1
    refine OL.zm (hg:=GOk.mk rfl rfl hb_1) S fun _ S=>?_
    obtain⟨p17,e,H⟩:=H
    refine OL.zq (hg:=GOk.mk rfl rfl hb_1) S (Lf.run_nc' (S.ev rfl) e) fun _ S=>?_
    refine OL.zf (hg:=GOk.mk rfl rfl hb_1) S fa86_1 fun _ S=>?_
    obtain⟨x19,c,H⟩:=H
    refine OL.zl (hg:=GOk.mk rfl rfl hb_1) S fl84 c fun _ S=>?_
    refine OL.zm (hg:=GOk.mk rfl rfl hb_1) S fun _ S=>?_
    obtain⟨q21,e_1,e_2,e_3,H⟩:=H
    refine OL.zq (hg:=GOk.mk rfl rfl hb_1) S (Lf.run_ixs (S.ev rfl) (S.ev rfl) Try.underlying84 ti87 e_1 e_2 e_3) fun _ S=>?_
    obtain⟨x22,c_1,H⟩:=H
    refine OL.zl (hg:=GOk.mk rfl rfl hb_1) S fl87 c_1 fun _ S=>?_
    refine OL.zm (hg:=GOk.mk rfl rfl hb_1) S fun _ S=>?_
    obtain⟨q24,e_4,e_5,e_6,H⟩:=H
    refine OL.zq (hg:=GOk.mk rfl rfl hb_1) S (Lf.run_ixs (S.ev rfl) (S.ev rfl) Try.underlying87 ti4 e_4 e_5 e_6) fun _ S=>?_
    obtain⟨x25,c_2,H⟩:=H
    refine OL.zl (hg:=GOk.mk rfl rfl hb_1) S fl4 c_2 fun _ S=>?_
    refine OL.zq S (Lf.run_pickT (S.ev rfl) hb_1 (S.ev rfl)) fun _ S=>?_
    refine OL.nil ?_
    exact⟨_,S.sub _ ⟨rfl,rfl,rfl,rfl,rfl,rfl,rfl,rfl,rfl,rfl,trivial⟩,H⟩
   ·
    replace H:=H.2 hb_1
    refine OL.zn S (GNo.mk rfl rfl hb_1) fun _ S=>?_
    refine OL.zn S (GNo.mk rfl rfl hb_1) fun _ S=>?_
    refine OL.zn S (GNo.mk rfl rfl hb_1) fun _ S=>?_
    refine OL.zn S (GNo.mk rfl rfl hb_1) fun _ S=>?_
    refine OL.zn S (GNo.mk rfl rfl hb_1) fun _ S=>?_
    refine OL.zn S (GNo.mk rfl rfl hb_1) fun _ S=>?_
    refine OL.zn S (GNo.mk rfl rfl hb_1) fun _ S=>?_
    refine OL.zn S (GNo.mk rfl rfl hb_1) fun _ S=>?_
    refine OL.zn S (GNo.mk rfl rfl hb_1) fun _ S=>?_
    refine OL.zn S (GNo.mk rfl rfl hb_1) fun _ S=>?_
    refine OL.zq S (Lf.run_pickF (S.ev rfl) hb_1 (S.ev rfl)) fun _ S=>?_
    refine OL.nil ?_
    exact⟨_,S.sub _ ⟨rfl,rfl,rfl,rfl,rfl,rfl,rfl,rfl,rfl,rfl,trivial⟩,H⟩
  ·
   clear S
   rintro aa ww ⟨x26,S,HJ⟩
   replace H:=HK_1 _ HJ
   clear HK_1 HJ
   refine OL.za S fun _ S=>?_
   refine OL.nil ?_
   refine W.ret ?_
   exact Ret.one S rfl rfl H
def L52 (x0:Int) (x0_1:ByteArray) (x0_2:Bool) (x0_3:Int) (x0_4:Sv) (x0_5:Sv) (h:Heap) (R:Value→Heap→Prop):Prop:=
 new 35 #[Value.int .i64 x0,Value.string x0_1,Value.bool x0_2,Value.int .i64 x0_3,Value.slice x0_4.a x0_4.n x0_4.c,Value.slice x0_5.a x0_5.n x0_5.c] h fun p1 h1=>
 newS 3 #[] 0 h1 fun s5 h2=>
 ∃(y6:Int) (y6_1:ByteArray) (y6_2:Bool) (y6_3:Int) (y6_4:Sv) (y6_5:Sv),cl h2 p1=some (Value.int .i64 y6)∧cl h2 (p1.add 1)=some (Value.string y6_1)∧cl h2 (p1.add 2)=some (Value.bool y6_2)∧cl h2 (p1.add 3)=some (Value.int .i64 y6_3)∧cl h2 (p1.add 4)=some (Value.slice y6_4.a y6_4.n y6_4.c)∧cl h2 (p1.add 5)=some (Value.slice y6_5.a y6_5.n y6_5.c) ∧
 cal Try.prog 55 #[Value.agg #[Value.int .i64 y6,Value.string y6_1,Value.bool y6_2,Value.int .i64 y6_3,Value.slice y6_4.a y6_4.n y6_4.c,Value.slice y6_5.a y6_5.n y6_5.c]] h2 fun u h3=>asS u fun x7=>
 appS 3 (Value.int .i64 0).cells 1 8 h3 s5 x7 fun s8 h4=>
 ∃(I:Sv→Int→Heap→Prop) (m:Sv→Int→Heap→Nat),I s8 0 h4∧∀out3 i4 h5,I out3 i4 h5 →
 ldS h5 (p1.add 5) fun x11=>
 ifb (decide (i4<((x11.n:Nat):Int))) (
  ldS h5 (p1.add 5) fun x18=>
  ixS x18 i4 fun q20=>
  ∃(y21:Int) (y21_1:ByteArray) (y21_2:Bool) (y21_3:Int) (y21_4:Sv) (y21_5:Sv),cl h5 (q20.add ((i4:Int).toNat*6))=some (Value.int .i64 y21)∧cl h5 ((q20.add ((i4:Int).toNat*6)).add 1)=some (Value.string y21_1)∧cl h5 ((q20.add ((i4:Int).toNat*6)).add 2)=some (Value.bool y21_2)∧cl h5 ((q20.add ((i4:Int).toNat*6)).add 3)=some (Value.int .i64 y21_3)∧cl h5 ((q20.add ((i4:Int).toNat*6)).add 4)=some (Value.slice y21_4.a y21_4.n y21_4.c)∧cl h5 ((q20.add ((i4:Int).toNat*6)).add 5)=some (Value.slice y21_5.a y21_5.n y21_5.c) ∧
  cal Try.prog 52 #[Value.agg #[Value.int .i64 y21,Value.string y21_1,Value.bool y21_2,Value.int .i64 y21_3,Value.slice y21_4.a y21_4.n y21_4.c,Value.slice y21_5.a y21_5.n y21_5.c]] h5 fun u_1 h6=>asS u_1 fun x22=>
  appS 3 (Value.int .i64 0).cells 1 8 h6 out3 x22 fun s23 h7=>
  I s23 (IntKind.i64.wrap (i4+1)) h7∧m s23 (IntKind.i64.wrap (i4+1)) h7<m out3 i4 h5) (
  R (Value.slice out3.a out3.n out3.c) h5)
set_option maxRecDepth 100000 in
theorem F52 {x0 x0_1 x0_2 x0_3 x0_4 x0_5 h:_} {R:Value→Heap→Prop} (H:L52 x0 x0_1 x0_2 x0_3 x0_4 x0_5 h R):CallsH Try.prog 52 #[Value.agg #[Value.int .i64 x0,Value.string x0_1,Value.bool x0_2,Value.int .i64 x0_3,Value.slice x0_4.a x0_4.n x0_4.c,Value.slice x0_5.a x0_5.n x0_5.c]] h R:=by
 refine CallsH.enter (n:=25) Try.func52 rfl rfl rfl rfl ?_
 intro w0 aa ww S
 unfold L52 at H
 refine W.seq ?_
 refine W.region ?_
 refine ol_box S H rfl rfl rfl trivial ?_
 clear S H;intro p1 aa ww h1 H S
 refine OL.za S fun _ S=>?_
 refine OL.nil ?_
 refine W.seq ?_
 refine W.region ?_
 refine ol_newS0 S H Try.underlying25 ti3 rfl rfl trivial ?_
 clear S H;intro s5 aa ww h2 H S
 obtain⟨y6,y6_1,y6_2,y6_3,y6_4,y6_5,c_10,c_11,c_12,c_13,c_14,c_15,H⟩:=H
 refine OL.zq S (Lf.run_ldA (cs:=[Value.int .i64 y6,Value.string y6_1,Value.bool y6_2,Value.int .i64 y6_3,Value.slice y6_4.a y6_4.n y6_4.c,Value.slice y6_5.a y6_5.n y6_5.c]) (S.ev rfl) ag35 ti35 (by rw[S.heap];exact RowL.toRow ⟨c_10,c_11,c_12,c_13,c_14,c_15,trivial⟩)) fun _ S=>?_
 refine ol_cal S H isfn55 rfl rfl trivial ?_
 clear S H;intro u aa ww h3 H S
 obtain⟨x7,rfl,H⟩:=H
 refine ol_appS S H Try.underlying25 ti3 rfl rfl rfl trivial ?_
 clear S H;intro s8 aa ww h4 H S
 refine OL.za S fun _ S=>?_
 refine OL.nil ?_
 refine W.seq ?_
 refine W.seq ?_
 refine W.region ?_
 refine OL.za S fun _ S=>?_
 refine OL.nil ?_
 refine W.block ?_
 obtain⟨I,m,H,HB⟩:=H
 refine W.loopS (σ:=Sv×Int×Heap) (fun s aa ww=>St 25 [(1,Value.pointer (some p1)),(3,Value.slice s.1.a s.1.n s.1.c),(4,Value.int .i64 s.2.1)] s.2.2 w0 aa ww∧I s.1 s.2.1 s.2.2) (fun s=>m s.1 s.2.1 s.2.2) (s8,0,h4) ⟨S.sub _ ⟨rfl,rfl,rfl,trivial⟩,H⟩ ?_
 clear H S
 rintro ⟨out3,i4,h5⟩ aa ww ⟨S,HI⟩
 replace S:St 25 [(1,Value.pointer (some p1)),(3,Value.slice out3.a out3.n out3.c),(4,Value.int .i64 i4)] h5 w0 aa ww:=S
 have H:=HB out3 i4 h5 HI
 clear HI
 refine W.seq ?_
 refine W.seq ?_
 refine W.region ?_
 refine OL.zm S fun _ S=>?_
 refine OL.zf S fa35_5 fun _ S=>?_
 obtain⟨x11,c_1,H⟩:=H
 refine OL.zl S fl24 c_1 fun _ S=>?_
 refine OL.zq S (Lf.run_lens (S.ev rfl) rfl Try.underlying24) fun _ S=>?_
 refine OL.zq S (Lf.run_lss (S.ev rfl) (S.ev rfl)) fun _ S=>?_
 refine OL.nil ?_
 refine W.cond S (b:=(decide (i4<((x11.n:Nat):Int)))) rfl (fun hb=>?_) (fun hb=>?_)
 ·
  replace H:=H.1 hb
  refine W.skip ?_
  refine W.seq ?_
  refine W.block ?_
  refine W.region ?_
  refine OL.zm S fun _ S=>?_
  refine OL.zf S fa35_5 fun _ S=>?_
  obtain⟨x18,c_2,H⟩:=H
  refine OL.zl S fl24 c_2 fun _ S=>?_
  refine OL.zm S fun _ S=>?_
  obtain⟨q20,e,e_1,e_2,H⟩:=H
  refine OL.zq S (Lf.run_ixs (S.ev rfl) (S.ev rfl) Try.underlying24 ti35 e e_1 e_2) fun _ S=>?_
  obtain⟨y21,y21_1,y21_2,y21_3,y21_4,y21_5,c_4,c_5,c_6,c_7,c_8,c_9,H⟩:=H
  refine OL.zq S (Lf.run_ldA (cs:=[Value.int .i64 y21,Value.string y21_1,Value.bool y21_2,Value.int .i64 y21_3,Value.slice y21_4.a y21_4.n y21_4.c,Value.slice y21_5.a y21_5.n y21_5.c]) (S.ev rfl) ag35 ti35 (by rw[S.heap];exact RowL.toRow ⟨c_4,c_5,c_6,c_7,c_8,c_9,trivial⟩)) fun _ S=>?_
  refine ol_cal S H isfn52 rfl rfl trivial ?_
  clear S H;intro u_1 aa ww h6 H S
  obtain⟨x22,rfl,H⟩:=H
  refine ol_appS S H Try.underlying25 ti3 rfl rfl rfl trivial ?_
  clear S H;intro s23 aa ww h7 H S
  refine OL.za S fun _ S=>?_
  refine OL.nil ?_
  refine W.region ?_
  refine OL.zm S fun _ S=>?_
  refine OL.zq S (Lf.run_add (S.ev rfl) (S.ev rfl)) fun _ S=>?_
  refine OL.za S fun _ S=>?_
  refine OL.nil ?_
  exact⟨(s23,(IntKind.i64.wrap (i4+1)),h7),⟨S.sub _ ⟨rfl,rfl,rfl,trivial⟩,H.1⟩,H.2⟩
 ·
  replace H:=H.2 hb
  refine W.exit_ ?_
  refine xhit ?_
  refine W.seq ?_
  refine W.region ?_
  refine OL.zm S fun _ S=>?_
  refine OL.za S fun _ S=>?_
  refine OL.nil ?_
  refine W.ret ?_
  exact Ret.one S rfl rfl H
def L53 (a0:Sv) (b1:Sv) (h:Heap) (R:Value→Heap→Prop):Prop:=
 ∃(I:Sv→Int→Heap→Prop) (m:Sv→Int→Heap→Nat),I (⟨none,0,0⟩:Sv) 0 h∧∀out5 i6 h1,I out5 i6 h1 →
 ifb (decide (i6<((a0.n:Nat):Int))) (
  ∃(I_1:Sv→Int→Heap→Prop) (m_1:Sv→Int→Heap→Nat),I_1 out5 0 h1∧∀out5_1 k7 h2,I_1 out5_1 k7 h2 →
  ifb (decide (k7<((b1.n:Nat):Int))) (
   ixS a0 i6 fun q23=>
   ldI .i64 h2 (q23.add ((i6:Int).toNat*1)) fun x24=>
   ixS b1 k7 fun q27=>
   ldI .i64 h2 (q27.add ((k7:Int).toNat*1)) fun x28=>
   newS 56 #[Value.int .i64 x24,Value.int .i64 x28] 1 h2 fun s30 h3=>
   appS 56 (Value.agg #[Value.int .i64 0,Value.int .i64 0]).cells 2 16 h3 out5_1 s30 fun s31 h4=>
   I_1 s31 (IntKind.i64.wrap (k7+1)) h4∧m_1 s31 (IntKind.i64.wrap (k7+1)) h4<m_1 out5_1 k7 h2) (
   I out5_1 (IntKind.i64.wrap (i6+1)) h2∧m out5_1 (IntKind.i64.wrap (i6+1)) h2<m out5 i6 h1)) (
  R (Value.slice out5.a out5.n out5.c) h1)
set_option maxRecDepth 100000 in
theorem F53 {a0 b1 h:_} {R:Value→Heap→Prop} (H:L53 a0 b1 h R):CallsH Try.prog 53 #[Value.slice a0.a a0.n a0.c,Value.slice b1.a b1.n b1.c] h R:=by
 refine CallsH.enter (n:=33) Try.func53 rfl rfl rfl rfl ?_
 intro w0 aa ww S
 unfold L53 at H
 refine W.seq ?_
 refine W.region ?_
 refine OL.za S fun _ S=>?_
 refine OL.nil ?_
 refine W.seq ?_
 refine W.region ?_
 refine OL.za S fun _ S=>?_
 refine OL.nil ?_
 refine W.seq ?_
 refine W.seq ?_
 refine W.region ?_
 refine OL.za S fun _ S=>?_
 refine OL.nil ?_
 refine W.block ?_
 obtain⟨I,m,H,HB_1⟩:=H
 refine W.loopS (σ:=Sv×Int×Heap) (fun s aa ww=>St 33 [(0,Value.slice a0.a a0.n a0.c),(1,Value.slice b1.a b1.n b1.c),(5,Value.slice s.1.a s.1.n s.1.c),(6,Value.int .i64 s.2.1)] s.2.2 w0 aa ww∧I s.1 s.2.1 s.2.2) (fun s=>m s.1 s.2.1 s.2.2) ((⟨none,0,0⟩:Sv),0,h) ⟨S.sub _ ⟨rfl,rfl,rfl,rfl,trivial⟩,H⟩ ?_
 clear H S
 rintro ⟨out5,i6,h1⟩ aa ww ⟨S,HI⟩
 replace S:St 33 [(0,Value.slice a0.a a0.n a0.c),(1,Value.slice b1.a b1.n b1.c),(5,Value.slice out5.a out5.n out5.c),(6,Value.int .i64 i6)] h1 w0 aa ww:=S
 have H:=HB_1 out5 i6 h1 HI
 clear HI
 refine W.seq ?_
 refine W.seq ?_
 refine W.region ?_
 refine OL.zm S fun _ S=>?_
 refine OL.zm S fun _ S=>?_
 refine OL.zq S (Lf.run_lens (S.ev rfl) rfl Try.underlying25) fun _ S=>?_
 refine OL.zq S (Lf.run_lss (S.ev rfl) (S.ev rfl)) fun _ S=>?_
 refine OL.nil ?_
 refine W.cond S (b:=(decide (i6<((a0.n:Nat):Int)))) rfl (fun hb=>?_) (fun hb=>?_)
 ·
  replace H:=H.1 hb
  refine W.skip ?_
  refine W.seq ?_
  refine W.block ?_
  refine W.seq ?_
  refine W.region ?_
  refine OL.za S fun _ S=>?_
  refine OL.nil ?_
  refine W.block ?_
  obtain⟨I_1,m_1,H,HB⟩:=H
  refine W.loopS (σ:=Sv×Int×Heap) (fun s aa ww=>St 33 [(0,Value.slice a0.a a0.n a0.c),(1,Value.slice b1.a b1.n b1.c),(5,Value.slice s.1.a s.1.n s.1.c),(6,Value.int .i64 i6),(7,Value.int .i64 s.2.1)] s.2.2 w0 aa ww∧I_1 s.1 s.2.1 s.2.2) (fun s=>m_1 s.1 s.2.1 s.2.2) (out5,0,h1) ⟨S.sub _ ⟨rfl,rfl,rfl,rfl,rfl,trivial⟩,H⟩ ?_
  clear H S
  rintro ⟨out5_1,k7,h2⟩ aa ww ⟨S,HI⟩
  replace S:St 33 [(0,Value.slice a0.a a0.n a0.c),(1,Value.slice b1.a b1.n b1.c),(5,Value.slice out5_1.a out5_1.n out5_1.c),(6,Value.int .i64 i6),(7,Value.int .i64 k7)] h2 w0 aa ww:=S
  have H:=HB out5_1 k7 h2 HI
  clear HI
  refine W.seq ?_
  refine W.seq ?_
  refine W.region ?_
  refine OL.zm S fun _ S=>?_
  refine OL.zm S fun _ S=>?_
  refine OL.zq S (Lf.run_lens (S.ev rfl) rfl Try.underlying25) fun _ S=>?_
  refine OL.zq S (Lf.run_lss (S.ev rfl) (S.ev rfl)) fun _ S=>?_
  refine OL.nil ?_
  refine W.cond S (b:=(decide (k7<((b1.n:Nat):Int)))) rfl (fun hb_1=>?_) (fun hb_1=>?_)
  ·
   replace H:=H.1 hb_1
   refine W.skip ?_
   refine W.seq ?_
   refine W.block ?_
   replace S:=S.sub [(0,Value.slice a0.a a0.n a0.c),(1,Value.slice b1.a b1.n b1.c),(5,Value.slice out5_1.a out5_1.n out5_1.c),(6,Value.int .i64 i6),(7,Value.int .i64 k7)] ⟨rfl,rfl,rfl,rfl,rfl,trivial⟩
   refine W.regionD S (by kernel_rfl) ?_
   clear S;intro ww S
   refine AN.zq 0 S rfl (fun _=>Lf.run_move (S.ev rfl)) fun _ S=>?_
   refine AN.zq 1 S rfl (fun _=>Lf.run_move (S.ev rfl)) fun _ S=>?_
   refine AN.zq 2 S rfl (fun _=>Lf.run_move (S.ev rfl)) fun _ S=>?_
   obtain⟨q23,e,e_1,e_2,H⟩:=H
   refine AN.zq 3 S rfl (fun _=>Lf.run_ixs (S.ev rfl) (S.ev rfl) Try.underlying25 ti3 e e_1 e_2) fun _ S=>?_
   obtain⟨x24,c,H⟩:=H
   refine AN.zl 4 S rfl (fun _ hx=>Lf.run_ld (S.ev rfl) fl3 (hx.cell _ _ (S.cl c))) fun _ S=>?_
   refine AN.zq 5 S rfl (fun _=>Lf.run_move (S.ev rfl)) fun _ S=>?_
   refine AN.zq 6 S rfl (fun _=>Lf.run_move (S.ev rfl)) fun _ S=>?_
   obtain⟨q27,e_3,e_4,e_5,H⟩:=H
   refine AN.zq 7 S rfl (fun _=>Lf.run_ixs (S.ev rfl) (S.ev rfl) Try.underlying25 ti3 e_3 e_4 e_5) fun _ S=>?_
   obtain⟨x28,c_1,H⟩:=H
   refine AN.zl 8 S rfl (fun _ hx=>Lf.run_ld (S.ev rfl) fl3 (hx.cell _ _ (S.cl c_1))) fun _ S=>?_
   refine AN.zq 9 S rfl (fun _=>Lf.run_buildArr (cs:=#[Value.int .i64 x24,Value.int .i64 x28]) Try.underlying56 ti3 ti56 (parts_map S rfl) (by kernel_rfl)) fun _ S=>?_
   refine AN.eff 10 rfl (by kernel_rfl) ?_
   refine ol_newS S H Try.underlying22 ti56 (by decide) (parts_map S rfl) (by kernel_rfl) (by decide) rfl trivial ?_
   clear S H;intro s30 aa ww h3 H S
   refine OL.nil ?_
   refine AN.eff 11 rfl (by kernel_rfl) ?_
   refine ol_appS S H Try.underlying22 ti56 rfl rfl rfl trivial ?_
   clear S H;intro s31 aa ww h4 H S
   refine OL.nil ?_
   refine AN.zq 12 S rfl (fun _=>Lf.run_assign (S.ev rfl)) fun _ S=>?_
   refine AN.done (by kernel_rfl) ?_
   refine W.region ?_
   refine OL.zm S fun _ S=>?_
   refine OL.zq S (Lf.run_add (S.ev rfl) (S.ev rfl)) fun _ S=>?_
   refine OL.za S fun _ S=>?_
   refine OL.nil ?_
   exact⟨(s31,(IntKind.i64.wrap (k7+1)),h4),⟨S.sub _ ⟨rfl,rfl,rfl,rfl,rfl,trivial⟩,H.1⟩,H.2⟩
  ·
   replace H:=H.2 hb_1
   refine W.exit_ ?_
   refine xhit ?_
   refine W.region ?_
   refine OL.zm S fun _ S=>?_
   refine OL.zq S (Lf.run_add (S.ev rfl) (S.ev rfl)) fun _ S=>?_
   refine OL.za S fun _ S=>?_
   refine OL.nil ?_
   exact⟨(out5_1,(IntKind.i64.wrap (i6+1)),h2),⟨S.sub _ ⟨rfl,rfl,rfl,rfl,trivial⟩,H.1⟩,H.2⟩
 ·
  replace H:=H.2 hb
  refine W.exit_ ?_
  refine xhit ?_
  refine W.seq ?_
  refine W.region ?_
  refine OL.zm S fun _ S=>?_
  refine OL.za S fun _ S=>?_
  refine OL.nil ?_
  refine W.ret ?_
  exact Ret.one S rfl rfl H
def L54 (x0:Int) (x0_1:ByteArray) (x0_2:Bool) (x0_3:Int) (x0_4:Sv) (x0_5:Sv) (i1:Int) (h:Heap) (R:Value→Heap→Prop):Prop:=
 new 35 #[Value.int .i64 x0,Value.string x0_1,Value.bool x0_2,Value.int .i64 x0_3,Value.slice x0_4.a x0_4.n x0_4.c,Value.slice x0_5.a x0_5.n x0_5.c] h fun p2 h1=>
 ifb (decide (i1<0)) (
  R (Value.slice (⟨none,0,0⟩:Sv).a (⟨none,0,0⟩:Sv).n (⟨none,0,0⟩:Sv).c) h1) (
  ifb (i1 == 0) (
   newS 3 #[Value.int .i64 0] 1 h1 fun s9 h2=>
   R (Value.slice s9.a s9.n s9.c) h2) (
   ldS h1 (p2.add 4) fun x12=>
   ifb (decide (i1≤((x12.n:Nat):Int))) (
    ldS h1 (p2.add 4) fun x16=>
    ixS x16 (IntKind.i64.wrap (i1 - 1)) fun q19=>
    ldI .i64 h1 (q19.add (((IntKind.i64.wrap (i1 - 1)):Int).toNat*1)) fun x20=>
    newS 3 #[Value.int .i64 x20] 1 h1 fun s21 h3=>
    R (Value.slice s21.a s21.n s21.c) h3) (
    ldS h1 (p2.add 4) fun x24=>
    ldS h1 (p2.add 5) fun x28=>
    ifb (decide ((IntKind.i64.wrap (i1 - ((x24.n:Nat):Int)))≤((x28.n:Nat):Int))) (
     ldS h1 (p2.add 5) fun x32=>
     ldS h1 (p2.add 4) fun x35=>
     ixS x32 (IntKind.i64.wrap ((IntKind.i64.wrap (i1 - ((x35.n:Nat):Int))) - 1)) fun q39=>
     ∃(y40:Int) (y40_1:ByteArray) (y40_2:Bool) (y40_3:Int) (y40_4:Sv) (y40_5:Sv),cl h1 (q39.add (((IntKind.i64.wrap ((IntKind.i64.wrap (i1 - ((x35.n:Nat):Int))) - 1)):Int).toNat*6))=some (Value.int .i64 y40)∧cl h1 ((q39.add (((IntKind.i64.wrap ((IntKind.i64.wrap (i1 - ((x35.n:Nat):Int))) - 1)):Int).toNat*6)).add 1)=some (Value.string y40_1)∧cl h1 ((q39.add (((IntKind.i64.wrap ((IntKind.i64.wrap (i1 - ((x35.n:Nat):Int))) - 1)):Int).toNat*6)).add 2)=some (Value.bool y40_2)∧cl h1 ((q39.add (((IntKind.i64.wrap ((IntKind.i64.wrap (i1 - ((x35.n:Nat):Int))) - 1)):Int).toNat*6)).add 3)=some (Value.int .i64 y40_3)∧cl h1 ((q39.add (((IntKind.i64.wrap ((IntKind.i64.wrap (i1 - ((x35.n:Nat):Int))) - 1)):Int).toNat*6)).add 4)=some (Value.slice y40_4.a y40_4.n y40_4.c)∧cl h1 ((q39.add (((IntKind.i64.wrap ((IntKind.i64.wrap (i1 - ((x35.n:Nat):Int))) - 1)):Int).toNat*6)).add 5)=some (Value.slice y40_5.a y40_5.n y40_5.c) ∧
     cal Try.prog 52 #[Value.agg #[Value.int .i64 y40,Value.string y40_1,Value.bool y40_2,Value.int .i64 y40_3,Value.slice y40_4.a y40_4.n y40_4.c,Value.slice y40_5.a y40_5.n y40_5.c]] h1 fun u h4=>asS u fun x41=>
     R (Value.slice x41.a x41.n x41.c) h4) (
     R (Value.slice (⟨none,0,0⟩:Sv).a (⟨none,0,0⟩:Sv).n (⟨none,0,0⟩:Sv).c) h1))))
set_option maxRecDepth 100000 in
theorem F54 {x0 x0_1 x0_2 x0_3 x0_4 x0_5 i1 h:_} {R:Value→Heap→Prop} (H:L54 x0 x0_1 x0_2 x0_3 x0_4 x0_5 i1 h R):CallsH Try.prog 54 #[Value.agg #[Value.int .i64 x0,Value.string x0_1,Value.bool x0_2,Value.int .i64 x0_3,Value.slice x0_4.a x0_4.n x0_4.c,Value.slice x0_5.a x0_5.n x0_5.c],Value.int .i64 i1] h R:=by
 refine CallsH.enter (n:=42) Try.func54 rfl rfl rfl rfl ?_
 intro w0 aa ww S
 unfold L54 at H
 refine W.seq ?_
 refine W.region ?_
 refine ol_box S H rfl rfl rfl trivial ?_
 clear S H;intro p2 aa ww h1 H S
 refine OL.za S fun _ S=>?_
 refine OL.nil ?_
 refine W.seq ?_
 refine W.seq ?_
 refine W.region ?_
 refine OL.zm S fun _ S=>?_
 refine OL.zq S (Lf.run_lss (S.ev rfl) (S.ev rfl)) fun _ S=>?_
 refine OL.nil ?_
 refine W.cond S (b:=(decide (i1<0))) rfl (fun hb=>?_) (fun hb=>?_)
 ·
  replace H:=H.1 hb
  refine W.seq ?_
  refine W.region ?_
  refine OL.za S fun _ S=>?_
  refine OL.nil ?_
  refine W.ret ?_
  exact Ret.one S rfl rfl H
 ·
  replace H:=H.2 hb
  refine W.skip ?_
  refine W.seq ?_
  refine W.seq ?_
  refine W.region ?_
  refine OL.zm S fun _ S=>?_
  refine OL.zq S (Lf.run_eql (S.ev rfl) (S.ev rfl)) fun _ S=>?_
  refine OL.nil ?_
  refine W.cond S (b:=(i1 == 0)) rfl (fun hb_1=>?_) (fun hb_1=>?_)
  ·
   replace H:=H.1 hb_1
   refine W.seq ?_
   refine W.region ?_
   refine ol_newS S H Try.underlying25 ti3 (by decide) (parts_map S rfl) (by kernel_rfl) (by decide) rfl trivial ?_
   clear S H;intro s9 aa ww h2 H S
   refine OL.za S fun _ S=>?_
   refine OL.nil ?_
   refine W.ret ?_
   exact Ret.one S rfl rfl H
  ·
   replace H:=H.2 hb_1
   refine W.skip ?_
   refine W.seq ?_
   refine W.seq ?_
   refine W.region ?_
   refine OL.zm S fun _ S=>?_
   refine OL.zf S fa35_4 fun _ S=>?_
   obtain⟨x12,c,H⟩:=H
   refine OL.zl S fl25 c fun _ S=>?_
   refine OL.zq S (Lf.run_lens (S.ev rfl) rfl Try.underlying25) fun _ S=>?_
   refine OL.zq S (Lf.run_leq (S.ev rfl) (S.ev rfl)) fun _ S=>?_
   refine OL.nil ?_
   refine W.cond S (b:=(decide (i1≤((x12.n:Nat):Int)))) rfl (fun hb_2=>?_) (fun hb_2=>?_)
   ·
    replace H:=H.1 hb_2
    refine W.seq ?_
    refine W.region ?_
    refine OL.zf S fa35_4 fun _ S=>?_
    obtain⟨x16,c_1,H⟩:=H
    refine OL.zl S fl25 c_1 fun _ S=>?_
    refine OL.zm S fun _ S=>?_
    refine OL.zq S (Lf.run_sub (S.ev rfl) (S.ev rfl)) fun _ S=>?_
    obtain⟨q19,e,e_1,e_2,H⟩:=H
    refine OL.zq S (Lf.run_ixs (S.ev rfl) (S.ev rfl) Try.underlying25 ti3 e e_1 e_2) fun _ S=>?_
    obtain⟨x20,c_2,H⟩:=H
    refine OL.zl S fl3 c_2 fun _ S=>?_
    refine ol_newS S H Try.underlying25 ti3 (by decide) (parts_map S rfl) (by kernel_rfl) (by decide) rfl trivial ?_
    clear S H;intro s21 aa ww h3 H S
    refine OL.za S fun _ S=>?_
    refine OL.nil ?_
    refine W.ret ?_
    exact Ret.one S rfl rfl H
   ·
    replace H:=H.2 hb_2
    refine W.skip ?_
    refine W.seq ?_
    refine W.seq ?_
    refine W.region ?_
    refine OL.zm S fun _ S=>?_
    refine OL.zf S fa35_4 fun _ S=>?_
    obtain⟨x24,c_3,H⟩:=H
    refine OL.zl S fl25 c_3 fun _ S=>?_
    refine OL.zq S (Lf.run_lens (S.ev rfl) rfl Try.underlying25) fun _ S=>?_
    refine OL.zq S (Lf.run_sub (S.ev rfl) (S.ev rfl)) fun _ S=>?_
    refine OL.zf S fa35_5 fun _ S=>?_
    obtain⟨x28,c_4,H⟩:=H
    refine OL.zl S fl24 c_4 fun _ S=>?_
    refine OL.zq S (Lf.run_lens (S.ev rfl) rfl Try.underlying24) fun _ S=>?_
    refine OL.zq S (Lf.run_leq (S.ev rfl) (S.ev rfl)) fun _ S=>?_
    refine OL.nil ?_
    refine W.cond S (b:=(decide ((IntKind.i64.wrap (i1 - ((x24.n:Nat):Int)))≤((x28.n:Nat):Int)))) rfl (fun hb_3=>?_) (fun hb_3=>?_)
    ·
     replace H:=H.1 hb_3
     refine W.seq ?_
     refine W.region ?_
     refine OL.zf S fa35_5 fun _ S=>?_
     obtain⟨x32,c_5,H⟩:=H
     refine OL.zl S fl24 c_5 fun _ S=>?_
     refine OL.zm S fun _ S=>?_
     refine OL.zf S fa35_4 fun _ S=>?_
     obtain⟨x35,c_6,H⟩:=H
     refine OL.zl S fl25 c_6 fun _ S=>?_
     refine OL.zq S (Lf.run_lens (S.ev rfl) rfl Try.underlying25) fun _ S=>?_
     refine OL.zq S (Lf.run_sub (S.ev rfl) (S.ev rfl)) fun _ S=>?_
     refine OL.zq S (Lf.run_sub (S.ev rfl) (S.ev rfl)) fun _ S=>?_
     obtain⟨q39,e_3,e_4,e_5,H⟩:=H
     refine OL.zq S (Lf.run_ixs (S.ev rfl) (S.ev rfl) Try.underlying24 ti35 e_3 e_4 e_5) fun _ S=>?_
     obtain⟨y40,y40_1,y40_2,y40_3,y40_4,y40_5,c_8,c_9,c_10,c_11,c_12,c_13,H⟩:=H
     refine OL.zq S (Lf.run_ldA (cs:=[Value.int .i64 y40,Value.string y40_1,Value.bool y40_2,Value.int .i64 y40_3,Value.slice y40_4.a y40_4.n y40_4.c,Value.slice y40_5.a y40_5.n y40_5.c]) (S.ev rfl) ag35 ti35 (by rw[S.heap];exact RowL.toRow ⟨c_8,c_9,c_10,c_11,c_12,c_13,trivial⟩)) fun _ S=>?_
     refine ol_cal S H isfn52 rfl rfl trivial ?_
     clear S H;intro u aa ww h4 H S
     obtain⟨x41,rfl,H⟩:=H
     refine OL.za S fun _ S=>?_
     refine OL.nil ?_
     refine W.ret ?_
     exact Ret.one S rfl rfl H
    ·
     replace H:=H.2 hb_3
     refine W.skip ?_
     refine W.seq ?_
     refine W.region ?_
     refine OL.za S fun _ S=>?_
     refine OL.nil ?_
     refine W.ret ?_
     exact Ret.one S rfl rfl H
def L55 (x0:Int) (x0_1:ByteArray) (x0_2:Bool) (x0_3:Int) (x0_4:Sv) (x0_5:Sv) (h:Heap) (R:Value→Heap→Prop):Prop:=
 new 35 #[Value.int .i64 x0,Value.string x0_1,Value.bool x0_2,Value.int .i64 x0_3,Value.slice x0_4.a x0_4.n x0_4.c,Value.slice x0_5.a x0_5.n x0_5.c] h fun p1 h1=>
 ldI .i64 h1 p1 fun x4=>
 ∃J:Bool→Prop,(andr (decide (7≤x4)) (fun k=>
  ldI .i64 h1 p1 fun x8=>
  k (decide (x8≤9))) J)∧∀x10,J x10 →
 ifb x10 (
  ldI .i64 h1 (p1.add 3) fun x12=>
  newS 3 #[Value.int .i64 x12] 1 h1 fun s13 h2=>
  R (Value.slice s13.a s13.n s13.c) h2) (
  ldI .i64 h1 p1 fun x15=>
  ifb (x15 == 5) (
   ldS h1 (p1.add 4) fun x18=>
   R (Value.slice x18.a x18.n x18.c) h1) (
   R (Value.slice (⟨none,0,0⟩:Sv).a (⟨none,0,0⟩:Sv).n (⟨none,0,0⟩:Sv).c) h1))
set_option maxRecDepth 100000 in
theorem F55 {x0 x0_1 x0_2 x0_3 x0_4 x0_5 h:_} {R:Value→Heap→Prop} (H:L55 x0 x0_1 x0_2 x0_3 x0_4 x0_5 h R):CallsH Try.prog 55 #[Value.agg #[Value.int .i64 x0,Value.string x0_1,Value.bool x0_2,Value.int .i64 x0_3,Value.slice x0_4.a x0_4.n x0_4.c,Value.slice x0_5.a x0_5.n x0_5.c]] h R:=by
 refine CallsH.enter (n:=19) Try.func55 rfl rfl rfl rfl ?_
 intro w0 aa ww S
 unfold L55 at H
 refine W.seq ?_
 refine W.region ?_
 refine ol_box S H rfl rfl rfl trivial ?_
 clear S H;intro p1 aa ww h1 H S
 refine OL.za S fun _ S=>?_
 refine OL.nil ?_
 refine W.seq ?_
 refine W.seq ?_
 refine W.region ?_
 refine OL.zf S fa35_0 fun _ S=>?_
 obtain⟨x4,c,H⟩:=H
 refine OL.zl S fl3 c fun _ S=>?_
 refine OL.zq S (Lf.run_geq (S.ev rfl) (S.ev rfl)) fun _ S=>?_
 refine OL.zm S fun _ S=>?_
 obtain⟨J,H,HK⟩:=H
 refine OL.cutN 4 (fun aa ww=>∃x10,St 19 ((10,Value.bool x10) :: [(1,Value.pointer (some p1)),(3,Value.pointer (some p1)),(4,Value.int .i64 x4),(5,Value.bool (decide (7≤x4))),(6,Value.bool (decide (7≤x4)))]) h1 w0 aa ww∧J x10) ?_ ?_
 ·
  rcases Bool.eq_false_or_eq_true (decide (7≤x4)) with hb|hb
  ·
   replace H:=H.1 hb
   refine OL.zf (hg:=GOk.mk rfl rfl hb) S fa35_0 fun _ S=>?_
   obtain⟨x8,c_1,H⟩:=H
   refine OL.zl (hg:=GOk.mk rfl rfl hb) S fl3 c_1 fun _ S=>?_
   refine OL.zq (hg:=GOk.mk rfl rfl hb) S (Lf.run_leq (S.ev rfl) (S.ev rfl)) fun _ S=>?_
   refine OL.zq S (Lf.run_pickT (S.ev rfl) hb (S.ev rfl)) fun _ S=>?_
   refine OL.nil ?_
   exact⟨_,S.sub _ ⟨rfl,rfl,rfl,rfl,rfl,rfl,trivial⟩,H⟩
  ·
   replace H:=H.2 hb
   refine OL.zn S (GNo.mk rfl rfl hb) fun _ S=>?_
   refine OL.zn S (GNo.mk rfl rfl hb) fun _ S=>?_
   refine OL.zn S (GNo.mk rfl rfl hb) fun _ S=>?_
   refine OL.zq S (Lf.run_pickF (S.ev rfl) hb (S.ev rfl)) fun _ S=>?_
   refine OL.nil ?_
   exact⟨_,S.sub _ ⟨rfl,rfl,rfl,rfl,rfl,rfl,trivial⟩,H⟩
 ·
  clear S
  rintro aa ww ⟨x10,S,HJ⟩
  replace H:=HK _ HJ
  clear HK HJ
  refine OL.nil ?_
  refine W.cond S (b:=x10) rfl (fun hb_1=>?_) (fun hb_1=>?_)
  ·
   replace H:=H.1 hb_1
   refine W.seq ?_
   refine W.region ?_
   refine OL.zf S fa35_3 fun _ S=>?_
   obtain⟨x12,c_2,H⟩:=H
   refine OL.zl S fl3 c_2 fun _ S=>?_
   refine ol_newS S H Try.underlying25 ti3 (by decide) (parts_map S rfl) (by kernel_rfl) (by decide) rfl trivial ?_
   clear S H;intro s13 aa ww h2 H S
   refine OL.za S fun _ S=>?_
   refine OL.nil ?_
   refine W.ret ?_
   exact Ret.one S rfl rfl H
  ·
   replace H:=H.2 hb_1
   refine W.skip ?_
   refine W.seq ?_
   refine W.seq ?_
   refine W.region ?_
   refine OL.zf S fa35_0 fun _ S=>?_
   obtain⟨x15,c_3,H⟩:=H
   refine OL.zl S fl3 c_3 fun _ S=>?_
   refine OL.zq S (Lf.run_eql (S.ev rfl) (S.ev rfl)) fun _ S=>?_
   refine OL.nil ?_
   refine W.cond S (b:=(x15 == 5)) rfl (fun hb_2=>?_) (fun hb_2=>?_)
   ·
    replace H:=H.1 hb_2
    refine W.seq ?_
    refine W.region ?_
    refine OL.zf S fa35_4 fun _ S=>?_
    obtain⟨x18,c_4,H⟩:=H
    refine OL.zl S fl25 c_4 fun _ S=>?_
    refine OL.za S fun _ S=>?_
    refine OL.nil ?_
    refine W.ret ?_
    exact Ret.one S rfl rfl H
   ·
    replace H:=H.2 hb_2
    refine W.skip ?_
    refine W.seq ?_
    refine W.region ?_
    refine OL.za S fun _ S=>?_
    refine OL.nil ?_
    refine W.ret ?_
    exact Ret.one S rfl rfl H
def L56 (x0:Int) (y1:Int) (way2:Int) (h:Heap) (R:Value→Heap→Prop):Prop:=
 ifb (way2 == 1) (
  newS 56 #[Value.int .i64 x0,Value.int .i64 y1] 1 h fun s13 h1=>
  R (Value.slice s13.a s13.n s13.c) h1) (
  ifb (way2 == 2) (
   newS 56 #[Value.int .i64 y1,Value.int .i64 x0] 1 h fun s19 h2=>
   R (Value.slice s19.a s19.n s19.c) h2) (
   ifb (way2 == 3) (
    newS 56 #[Value.int .i64 x0,Value.int .i64 y1,Value.int .i64 y1,Value.int .i64 x0] 2 h fun s28 h3=>
    R (Value.slice s28.a s28.n s28.c) h3) (
    R (Value.slice (⟨none,0,0⟩:Sv).a (⟨none,0,0⟩:Sv).n (⟨none,0,0⟩:Sv).c) h)))
set_option maxRecDepth 100000 in
theorem F56 {x0 y1 way2 h:_} {R:Value→Heap→Prop} (H:L56 x0 y1 way2 h R):CallsH Try.prog 56 #[Value.int .i64 x0,Value.int .i64 y1,Value.int .i64 way2] h R:=by
 refine CallsH.enter (n:=29) Try.func56 rfl rfl rfl rfl ?_
 intro w0 aa ww S
 unfold L56 at H
 refine W.seq ?_
 refine W.region ?_
 refine OL.za S fun _ S=>?_
 refine OL.nil ?_
 refine W.seq ?_
 refine W.seq ?_
 refine W.region ?_
 refine OL.zm S fun _ S=>?_
 refine OL.nil ?_
 refine W.block ?_
 refine W.seq ?_
 refine W.region ?_
 refine OL.zq S (Lf.run_eql (S.ev rfl) (S.ev rfl)) fun _ S=>?_
 refine OL.za S fun _ S=>?_
 refine OL.nil ?_
 refine W.cond S (b:=(way2 == 1)) rfl (fun hb=>?_) (fun hb=>?_)
 ·
  replace H:=H.1 hb
  refine W.seq ?_
  refine W.region ?_
  refine OL.zm S fun _ S=>?_
  refine OL.zm S fun _ S=>?_
  refine OL.zq S (Lf.run_buildArr (cs:=#[Value.int .i64 x0,Value.int .i64 y1]) Try.underlying56 ti3 ti56 (parts_map S rfl) (by kernel_rfl)) fun _ S=>?_
  refine ol_newS S H Try.underlying22 ti56 (by decide) (parts_map S rfl) (by kernel_rfl) (by decide) rfl trivial ?_
  clear S H;intro s13 aa ww h1 H S
  refine OL.za S fun _ S=>?_
  refine OL.nil ?_
  refine W.ret ?_
  exact Ret.one S rfl rfl H
 ·
  replace H:=H.2 hb
  refine W.seq ?_
  refine W.region ?_
  refine OL.zq S (Lf.run_eql (S.ev rfl) (S.ev rfl)) fun _ S=>?_
  refine OL.za S fun _ S=>?_
  refine OL.nil ?_
  refine W.cond S (b:=(way2 == 2)) rfl (fun hb_1=>?_) (fun hb_1=>?_)
  ·
   replace H:=H.1 hb_1
   refine W.seq ?_
   refine W.region ?_
   refine OL.zm S fun _ S=>?_
   refine OL.zm S fun _ S=>?_
   refine OL.zq S (Lf.run_buildArr (cs:=#[Value.int .i64 y1,Value.int .i64 x0]) Try.underlying56 ti3 ti56 (parts_map S rfl) (by kernel_rfl)) fun _ S=>?_
   refine ol_newS S H Try.underlying22 ti56 (by decide) (parts_map S rfl) (by kernel_rfl) (by decide) rfl trivial ?_
   clear S H;intro s19 aa ww h2 H S
   refine OL.za S fun _ S=>?_
   refine OL.nil ?_
   refine W.ret ?_
   exact Ret.one S rfl rfl H
  ·
   replace H:=H.2 hb_1
   refine W.seq ?_
   refine W.region ?_
   refine OL.zq S (Lf.run_eql (S.ev rfl) (S.ev rfl)) fun _ S=>?_
   refine OL.za S fun _ S=>?_
   refine OL.nil ?_
   refine W.cond S (b:=(way2 == 3)) rfl (fun hb_2=>?_) (fun hb_2=>?_)
   ·
    replace H:=H.1 hb_2
    refine W.seq ?_
    refine W.region ?_
    refine OL.zm S fun _ S=>?_
    refine OL.zm S fun _ S=>?_
    refine OL.zq S (Lf.run_buildArr (cs:=#[Value.int .i64 x0,Value.int .i64 y1]) Try.underlying56 ti3 ti56 (parts_map S rfl) (by kernel_rfl)) fun _ S=>?_
    refine OL.zm S fun _ S=>?_
    refine OL.zm S fun _ S=>?_
    refine OL.zq S (Lf.run_buildArr (cs:=#[Value.int .i64 y1,Value.int .i64 x0]) Try.underlying56 ti3 ti56 (parts_map S rfl) (by kernel_rfl)) fun _ S=>?_
    refine ol_newS S H Try.underlying22 ti56 (by decide) (parts_map S rfl) (by kernel_rfl) (by decide) rfl trivial ?_
    clear S H;intro s28 aa ww h3 H S
    refine OL.za S fun _ S=>?_
    refine OL.nil ?_
    refine W.ret ?_
    exact Ret.one S rfl rfl H
   ·
    replace H:=H.2 hb_2
    refine W.skip ?_
    refine W.seq ?_
    refine W.region ?_
    refine OL.za S fun _ S=>?_
    refine OL.nil ?_
    refine W.ret ?_
    exact Ret.one S rfl rfl H
def L57 (a0:Int) (b1:Int) (h:Heap) (R:Value→Heap→Prop):Prop:=
 ifb ((a0 == 0) || (b1 == 0)) (
  R (Value.int .i64 0) h) (
  ifb (a0 == 1) (
   R (Value.int .i64 b1) h) (
   ifb ((a0 == 3) || (b1 == 3)) (
    R (Value.int .i64 3) h) (
    ifb (a0 == b1) (
     R (Value.int .i64 1) h) (
     R (Value.int .i64 2) h))))
set_option maxRecDepth 100000 in
theorem F57 {a0 b1 h:_} {R:Value→Heap→Prop} (H:L57 a0 b1 h R):CallsH Try.prog 57 #[Value.int .i64 a0,Value.int .i64 b1] h R:=by
 refine CallsH.enter (n:=23) Try.func57 rfl rfl rfl rfl ?_
 intro w0 aa ww S
 unfold L57 at H
 refine W.seq ?_
 refine W.region ?_
 refine OL.za S fun _ S=>?_
 refine OL.nil ?_
 refine W.seq ?_
 refine W.seq ?_
 refine W.region ?_
 refine OL.zm S fun _ S=>?_
 refine OL.zq S (Lf.run_eql (S.ev rfl) (S.ev rfl)) fun _ S=>?_
 refine OL.zm S fun _ S=>?_
 refine OL.cutN 3 (fun aa ww=>St 23 ((10,Value.bool ((a0 == 0) || (b1 == 0))) :: [(0,Value.int .i64 a0),(1,Value.int .i64 b1),(5,Value.int .i64 a0),(6,Value.bool (a0 == 0)),(7,Value.bool (a0 == 0))]) h w0 aa ww) ?_ ?_
 ·
  rcases Bool.eq_false_or_eq_true (a0 == 0) with hb|hb
  ·
   refine OL.zn S (GNo.mk rfl rfl hb) fun _ S=>?_
   refine OL.zn S (GNo.mk rfl rfl hb) fun _ S=>?_
   refine OL.zq S (Lf.run_pickT (S.ev rfl) hb (S.ev rfl)) fun _ S=>?_
   refine OL.nil ?_
   exact (S.hd (by rw[hb,Bool.true_or])).sub _ ⟨rfl,rfl,rfl,rfl,rfl,rfl,trivial⟩
  ·
   refine OL.zm (hg:=GOk.mk rfl rfl hb) S fun _ S=>?_
   refine OL.zq (hg:=GOk.mk rfl rfl hb) S (Lf.run_eql (S.ev rfl) (S.ev rfl)) fun _ S=>?_
   refine OL.zq S (Lf.run_pickF (S.ev rfl) hb (S.ev rfl)) fun _ S=>?_
   refine OL.nil ?_
   exact (S.hd (by rw[hb,Bool.false_or])).sub _ ⟨rfl,rfl,rfl,rfl,rfl,rfl,trivial⟩
 ·
  clear S
  intro aa ww S
  refine OL.nil ?_
  refine W.cond S (b:=((a0 == 0) || (b1 == 0))) rfl (fun hb_1=>?_) (fun hb_1=>?_)
  ·
   replace H:=H.1 hb_1
   refine W.seq ?_
   refine W.region ?_
   refine OL.za S fun _ S=>?_
   refine OL.nil ?_
   refine W.ret ?_
   exact Ret.one S rfl rfl H
  ·
   replace H:=H.2 hb_1
   refine W.skip ?_
   refine W.seq ?_
   refine W.seq ?_
   refine W.region ?_
   refine OL.zm S fun _ S=>?_
   refine OL.zq S (Lf.run_eql (S.ev rfl) (S.ev rfl)) fun _ S=>?_
   refine OL.nil ?_
   refine W.cond S (b:=(a0 == 1)) rfl (fun hb_2=>?_) (fun hb_2=>?_)
   ·
    replace H:=H.1 hb_2
    refine W.seq ?_
    refine W.region ?_
    refine OL.zm S fun _ S=>?_
    refine OL.za S fun _ S=>?_
    refine OL.nil ?_
    refine W.ret ?_
    exact Ret.one S rfl rfl H
   ·
    replace H:=H.2 hb_2
    refine W.skip ?_
    refine W.seq ?_
    refine W.seq ?_
    refine W.region ?_
    refine OL.zm S fun _ S=>?_
    refine OL.zq S (Lf.run_eql (S.ev rfl) (S.ev rfl)) fun _ S=>?_
    refine OL.zm S fun _ S=>?_
    refine OL.cutN 3 (fun aa ww=>St 23 ((19,Value.bool ((a0 == 3) || (b1 == 3))) :: [(0,Value.int .i64 a0),(1,Value.int .i64 b1),(14,Value.int .i64 a0),(15,Value.bool (a0 == 3)),(16,Value.bool (a0 == 3))]) h w0 aa ww) ?_ ?_
    ·
     rcases Bool.eq_false_or_eq_true (a0 == 3) with hb_3|hb_3
     ·
      refine OL.zn S (GNo.mk rfl rfl hb_3) fun _ S=>?_
      refine OL.zn S (GNo.mk rfl rfl hb_3) fun _ S=>?_
      refine OL.zq S (Lf.run_pickT (S.ev rfl) hb_3 (S.ev rfl)) fun _ S=>?_
      refine OL.nil ?_
      exact (S.hd (by rw[hb_3,Bool.true_or])).sub _ ⟨rfl,rfl,rfl,rfl,rfl,rfl,trivial⟩
     ·
      refine OL.zm (hg:=GOk.mk rfl rfl hb_3) S fun _ S=>?_
      refine OL.zq (hg:=GOk.mk rfl rfl hb_3) S (Lf.run_eql (S.ev rfl) (S.ev rfl)) fun _ S=>?_
      refine OL.zq S (Lf.run_pickF (S.ev rfl) hb_3 (S.ev rfl)) fun _ S=>?_
      refine OL.nil ?_
      exact (S.hd (by rw[hb_3,Bool.false_or])).sub _ ⟨rfl,rfl,rfl,rfl,rfl,rfl,trivial⟩
    ·
     clear S
     intro aa ww S
     refine OL.nil ?_
     refine W.cond S (b:=((a0 == 3) || (b1 == 3))) rfl (fun hb_4=>?_) (fun hb_4=>?_)
     ·
      replace H:=H.1 hb_4
      refine W.seq ?_
      refine W.region ?_
      refine OL.za S fun _ S=>?_
      refine OL.nil ?_
      refine W.ret ?_
      exact Ret.one S rfl rfl H
     ·
      replace H:=H.2 hb_4
      refine W.skip ?_
      refine W.seq ?_
      refine W.seq ?_
      refine W.region ?_
      refine OL.zm S fun _ S=>?_
      refine OL.zm S fun _ S=>?_
      refine OL.zq S (Lf.run_eql (S.ev rfl) (S.ev rfl)) fun _ S=>?_
      refine OL.nil ?_
      refine W.cond S (b:=(a0 == b1)) rfl (fun hb_5=>?_) (fun hb_5=>?_)
      ·
       replace H:=H.1 hb_5
       refine W.seq ?_
       refine W.region ?_
       refine OL.za S fun _ S=>?_
       refine OL.nil ?_
       refine W.ret ?_
       exact Ret.one S rfl rfl H
      ·
       replace H:=H.2 hb_5
       refine W.skip ?_
       refine W.seq ?_
       refine W.region ?_
       refine OL.za S fun _ S=>?_
       refine OL.nil ?_
       refine W.ret ?_
       exact Ret.one S rfl rfl H
def L58 (vw0:Option Nat) (name1:ByteArray) (i2:Int) (h:Heap) (R:Value→Heap→Prop):Prop:=
 lkS h (Value.map vw0) name1 (Value.slice (⟨none,0,0⟩:Sv).a (⟨none,0,0⟩:Sv).n (⟨none,0,0⟩:Sv).c) fun u=>asS u fun x10=>
 ifb (decide (i2<((x10.n:Nat):Int))) (
  lkS h (Value.map vw0) name1 (Value.slice (⟨none,0,0⟩:Sv).a (⟨none,0,0⟩:Sv).n (⟨none,0,0⟩:Sv).c) fun u_1=>asS u_1 fun x15=>
  ixS x15 i2 fun q17=>
  ldI .i64 h (q17.add ((i2:Int).toNat*1)) fun x18=>
  R (Value.int .i64 x18) h) (
  R (Value.int .i64 3) h)
set_option maxRecDepth 100000 in
theorem F58 {vw0 name1 i2 h:_} {R:Value→Heap→Prop} (H:L58 vw0 name1 i2 h R):CallsH Try.prog 58 #[Value.map vw0,Value.string name1,Value.int .i64 i2] h R:=by
 refine CallsH.enter (n:=19) Try.func58 rfl rfl rfl rfl ?_
 intro w0 aa ww S
 unfold L58 at H
 refine W.seq ?_
 refine W.region ?_
 refine OL.za S fun _ S=>?_
 refine OL.nil ?_
 refine W.seq ?_
 refine W.seq ?_
 refine W.region ?_
 refine OL.zm S fun _ S=>?_
 refine OL.zm S fun _ S=>?_
 refine OL.zm S fun _ S=>?_
 refine ol_lkS S H Try.underlying29 Try.underlying9 ti25 rfl rfl rfl trivial ?_
 clear S H;intro u aa H S
 obtain⟨x10,rfl,H⟩:=H
 refine OL.zq S (Lf.run_lens (S.ev rfl) rfl Try.underlying25) fun _ S=>?_
 refine OL.zq S (Lf.run_lss (S.ev rfl) (S.ev rfl)) fun _ S=>?_
 refine OL.nil ?_
 refine W.cond S (b:=(decide (i2<((x10.n:Nat):Int)))) rfl (fun hb=>?_) (fun hb=>?_)
 ·
  replace H:=H.1 hb
  refine W.seq ?_
  refine W.region ?_
  refine OL.zm S fun _ S=>?_
  refine OL.zm S fun _ S=>?_
  refine ol_lkS S H Try.underlying29 Try.underlying9 ti25 rfl rfl rfl trivial ?_
  clear S H;intro u_1 aa H S
  obtain⟨x15,rfl,H⟩:=H
  refine OL.zm S fun _ S=>?_
  obtain⟨q17,e,e_1,e_2,H⟩:=H
  refine OL.zq S (Lf.run_ixs (S.ev rfl) (S.ev rfl) Try.underlying25 ti3 e e_1 e_2) fun _ S=>?_
  obtain⟨x18,c,H⟩:=H
  refine OL.zl S fl3 c fun _ S=>?_
  refine OL.za S fun _ S=>?_
  refine OL.nil ?_
  refine W.ret ?_
  exact Ret.one S rfl rfl H
 ·
  replace H:=H.2 hb
  refine W.skip ?_
  refine W.seq ?_
  refine W.region ?_
  refine OL.za S fun _ S=>?_
  refine OL.nil ?_
  refine W.ret ?_
  exact Ret.one S rfl rfl H
def L59 (x0:Int) (x0_1:ByteArray) (x0_2:Bool) (x0_3:Int) (x0_4:Sv) (x0_5:Sv) (l1:Sv) (h:Heap) (R:Value→Heap→Prop):Prop:=
 new 35 #[Value.int .i64 x0,Value.string x0_1,Value.bool x0_2,Value.int .i64 x0_3,Value.slice x0_4.a x0_4.n x0_4.c,Value.slice x0_5.a x0_5.n x0_5.c] h fun p2 h1=>
 new 35 #[Value.int .i64 0,Value.string (⟨#[]⟩:ByteArray),Value.bool false,Value.int .i64 0,Value.slice (⟨none,0,0⟩:Sv).a (⟨none,0,0⟩:Sv).n (⟨none,0,0⟩:Sv).c,Value.slice (⟨none,0,0⟩:Sv).a (⟨none,0,0⟩:Sv).n (⟨none,0,0⟩:Sv).c] h1 fun p4 h2=>
 ldI .i64 h2 p2 fun x12=>
 ldT h2 (p2.add 1) fun x14=>
 ldB h2 (p2.add 2) fun x16=>
 ldI .i64 h2 (p2.add 3) fun x18=>
 ldS h2 (p2.add 4) fun x20=>
 new 35 #[Value.int .i64 0,Value.string (⟨#[]⟩:ByteArray),Value.bool false,Value.int .i64 0,Value.slice (⟨none,0,0⟩:Sv).a (⟨none,0,0⟩:Sv).n (⟨none,0,0⟩:Sv).c,Value.slice (⟨none,0,0⟩:Sv).a (⟨none,0,0⟩:Sv).n (⟨none,0,0⟩:Sv).c] h2 fun p6 h3=>
 stoA h3 p6 [Value.int .i64 x12,Value.string x14,Value.bool x16,Value.int .i64 x18,Value.slice x20.a x20.n x20.c,Value.slice (⟨none,0,0⟩:Sv).a (⟨none,0,0⟩:Sv).n (⟨none,0,0⟩:Sv).c] fun h4=>
 ∃(y22:Int) (y22_1:ByteArray) (y22_2:Bool) (y22_3:Int) (y22_4:Sv) (y22_5:Sv),cl h4 p2=some (Value.int .i64 y22)∧cl h4 (p2.add 1)=some (Value.string y22_1)∧cl h4 (p2.add 2)=some (Value.bool y22_2)∧cl h4 (p2.add 3)=some (Value.int .i64 y22_3)∧cl h4 (p2.add 4)=some (Value.slice y22_4.a y22_4.n y22_4.c)∧cl h4 (p2.add 5)=some (Value.slice y22_5.a y22_5.n y22_5.c) ∧
 cal Try.prog 55 #[Value.agg #[Value.int .i64 y22,Value.string y22_1,Value.bool y22_2,Value.int .i64 y22_3,Value.slice y22_4.a y22_4.n y22_4.c,Value.slice y22_5.a y22_5.n y22_5.c]] h4 fun u h5=>asS u fun x23=>
 ifb (decide (((l1.n:Nat):Int)<((x23.n:Nat):Int))) (
  ∃(y29:Int) (y29_1:ByteArray) (y29_2:Bool) (y29_3:Int) (y29_4:Sv) (y29_5:Sv),cl h5 p6=some (Value.int .i64 y29)∧cl h5 (p6.add 1)=some (Value.string y29_1)∧cl h5 (p6.add 2)=some (Value.bool y29_2)∧cl h5 (p6.add 3)=some (Value.int .i64 y29_3)∧cl h5 (p6.add 4)=some (Value.slice y29_4.a y29_4.n y29_4.c)∧cl h5 (p6.add 5)=some (Value.slice y29_5.a y29_5.n y29_5.c) ∧
  stoA h5 p4 [Value.int .i64 y29,Value.string y29_1,Value.bool y29_2,Value.int .i64 y29_3,Value.slice y29_4.a y29_4.n y29_4.c,Value.slice y29_5.a y29_5.n y29_5.c] fun h6=>
  ∃(y:Int) (y_1:ByteArray) (y_2:Bool) (y_3:Int) (y_4:Sv) (y_5:Sv),cl h6 p4=some (Value.int .i64 y)∧cl h6 (p4.add 1)=some (Value.string y_1)∧cl h6 (p4.add 2)=some (Value.bool y_2)∧cl h6 (p4.add 3)=some (Value.int .i64 y_3)∧cl h6 (p4.add 4)=some (Value.slice y_4.a y_4.n y_4.c)∧cl h6 (p4.add 5)=some (Value.slice y_5.a y_5.n y_5.c) ∧
  R (.tuple #[Value.agg #[Value.int .i64 y,Value.string y_1,Value.bool y_2,Value.int .i64 y_3,Value.slice y_4.a y_4.n y_4.c,Value.slice y_5.a y_5.n y_5.c],Value.slice (⟨none,0,0⟩:Sv).a (⟨none,0,0⟩:Sv).n (⟨none,0,0⟩:Sv).c]) h6) (
  ∃J:Heap→Prop,(
   ldI .i64 h5 p2 fun x31=>
   ifb (x31 == 5) (
    newS 3 #[] 0 h5 fun s33 h7=>
    slS l1 1 0 ((x23.n:Nat):Int) fun s36=>
    appS 3 (Value.int .i64 0).cells 1 8 h7 s33 s36 fun s37 h8=>
    sto h8 (p6.add 4) (Value.slice s37.a s37.n s37.c) fun h9=>
    J h9) (
    ifb (((x23.n:Nat):Int) == 1) (
     ixS l1 0 fun q42=>
     ldI .i64 h5 q42 fun x43=>
     sto h5 (p6.add 3) (Value.int .i64 x43) fun h10=>
     J h10) (
     J h5)))∧(∀h11,J h11 →
  slS l1 1 ((x23.n:Nat):Int) ((l1.n:Nat):Int) fun s47=>
  ∃(I:Sv→Int→Heap→Prop) (m:Sv→Int→Heap→Nat),I s47 0 h11∧∀l1_1 i8 h12,I l1_1 i8 h12 →
  ldS h12 (p2.add 5) fun x50=>
  ifb (decide (i8<((x50.n:Nat):Int))) (
   ldS h12 (p2.add 5) fun x57=>
   ixS x57 i8 fun q59=>
   ∃(y60:Int) (y60_1:ByteArray) (y60_2:Bool) (y60_3:Int) (y60_4:Sv) (y60_5:Sv),cl h12 (q59.add ((i8:Int).toNat*6))=some (Value.int .i64 y60)∧cl h12 ((q59.add ((i8:Int).toNat*6)).add 1)=some (Value.string y60_1)∧cl h12 ((q59.add ((i8:Int).toNat*6)).add 2)=some (Value.bool y60_2)∧cl h12 ((q59.add ((i8:Int).toNat*6)).add 3)=some (Value.int .i64 y60_3)∧cl h12 ((q59.add ((i8:Int).toNat*6)).add 4)=some (Value.slice y60_4.a y60_4.n y60_4.c)∧cl h12 ((q59.add ((i8:Int).toNat*6)).add 5)=some (Value.slice y60_5.a y60_5.n y60_5.c) ∧
   cal Try.prog 59 #[Value.agg #[Value.int .i64 y60,Value.string y60_1,Value.bool y60_2,Value.int .i64 y60_3,Value.slice y60_4.a y60_4.n y60_4.c,Value.slice y60_5.a y60_5.n y60_5.c],Value.slice l1_1.a l1_1.n l1_1.c] h12 fun u_1 h13=>asTup u_1 fun r62=>
   elt r62 0 fun u_2=>∃(y63:Int) (y63_1:ByteArray) (y63_2:Bool) (y63_3:Int) (y63_4:Sv) (y63_5:Sv),u_2=Value.agg #[Value.int .i64 y63,Value.string y63_1,Value.bool y63_2,Value.int .i64 y63_3,Value.slice y63_4.a y63_4.n y63_4.c,Value.slice y63_5.a y63_5.n y63_5.c] ∧
   elt r62 1 fun u_3=>asS u_3 fun x64=>
   new 35 #[Value.int .i64 0,Value.string (⟨#[]⟩:ByteArray),Value.bool false,Value.int .i64 0,Value.slice (⟨none,0,0⟩:Sv).a (⟨none,0,0⟩:Sv).n (⟨none,0,0⟩:Sv).c,Value.slice (⟨none,0,0⟩:Sv).a (⟨none,0,0⟩:Sv).n (⟨none,0,0⟩:Sv).c] h13 fun p9 h14=>
   stoA h14 p9 [Value.int .i64 y63,Value.string y63_1,Value.bool y63_2,Value.int .i64 y63_3,Value.slice y63_4.a y63_4.n y63_4.c,Value.slice y63_5.a y63_5.n y63_5.c] fun h15=>
   ldS h15 (p6.add 5) fun x66=>
   ∃(y67:Int) (y67_1:ByteArray) (y67_2:Bool) (y67_3:Int) (y67_4:Sv) (y67_5:Sv),cl h15 p9=some (Value.int .i64 y67)∧cl h15 (p9.add 1)=some (Value.string y67_1)∧cl h15 (p9.add 2)=some (Value.bool y67_2)∧cl h15 (p9.add 3)=some (Value.int .i64 y67_3)∧cl h15 (p9.add 4)=some (Value.slice y67_4.a y67_4.n y67_4.c)∧cl h15 (p9.add 5)=some (Value.slice y67_5.a y67_5.n y67_5.c) ∧
   newS 35 #[Value.int .i64 y67,Value.string y67_1,Value.bool y67_2,Value.int .i64 y67_3,Value.slice y67_4.a y67_4.n y67_4.c,Value.slice y67_5.a y67_5.n y67_5.c] 1 h15 fun s68 h16=>
   appS 35 (Value.agg #[Value.int .i64 0,Value.string (⟨#[]⟩:ByteArray),Value.bool false,Value.int .i64 0,Value.slice (⟨none,0,0⟩:Sv).a (⟨none,0,0⟩:Sv).n (⟨none,0,0⟩:Sv).c,Value.slice (⟨none,0,0⟩:Sv).a (⟨none,0,0⟩:Sv).n (⟨none,0,0⟩:Sv).c]).cells 6 88 h16 x66 s68 fun s69 h17=>
   sto h17 (p6.add 5) (Value.slice s69.a s69.n s69.c) fun h18=>
   I x64 (IntKind.i64.wrap (i8+1)) h18∧m x64 (IntKind.i64.wrap (i8+1)) h18<m l1_1 i8 h12) (
   ∃(y72:Int) (y72_1:ByteArray) (y72_2:Bool) (y72_3:Int) (y72_4:Sv) (y72_5:Sv),cl h12 p6=some (Value.int .i64 y72)∧cl h12 (p6.add 1)=some (Value.string y72_1)∧cl h12 (p6.add 2)=some (Value.bool y72_2)∧cl h12 (p6.add 3)=some (Value.int .i64 y72_3)∧cl h12 (p6.add 4)=some (Value.slice y72_4.a y72_4.n y72_4.c)∧cl h12 (p6.add 5)=some (Value.slice y72_5.a y72_5.n y72_5.c) ∧
   stoA h12 p4 [Value.int .i64 y72,Value.string y72_1,Value.bool y72_2,Value.int .i64 y72_3,Value.slice y72_4.a y72_4.n y72_4.c,Value.slice y72_5.a y72_5.n y72_5.c] fun h19=>
   ∃(y_6:Int) (y_7:ByteArray) (y_8:Bool) (y_9:Int) (y_10:Sv) (y_11:Sv),cl h19 p4=some (Value.int .i64 y_6)∧cl h19 (p4.add 1)=some (Value.string y_7)∧cl h19 (p4.add 2)=some (Value.bool y_8)∧cl h19 (p4.add 3)=some (Value.int .i64 y_9)∧cl h19 (p4.add 4)=some (Value.slice y_10.a y_10.n y_10.c)∧cl h19 (p4.add 5)=some (Value.slice y_11.a y_11.n y_11.c) ∧
   R (.tuple #[Value.agg #[Value.int .i64 y_6,Value.string y_7,Value.bool y_8,Value.int .i64 y_9,Value.slice y_10.a y_10.n y_10.c,Value.slice y_11.a y_11.n y_11.c],Value.slice l1_1.a l1_1.n l1_1.c]) h19)))
set_option maxRecDepth 100000 in
theorem F59 {x0 x0_1 x0_2 x0_3 x0_4 x0_5 l1 h:_} {R:Value→Heap→Prop} (H:L59 x0 x0_1 x0_2 x0_3 x0_4 x0_5 l1 h R):CallsH Try.prog 59 #[Value.agg #[Value.int .i64 x0,Value.string x0_1,Value.bool x0_2,Value.int .i64 x0_3,Value.slice x0_4.a x0_4.n x0_4.c,Value.slice x0_5.a x0_5.n x0_5.c],Value.slice l1.a l1.n l1.c] h R:=by
 refine CallsH.enter (n:=74) Try.func59 rfl rfl rfl rfl ?_
 intro w0 aa ww S
 unfold L59 at H
 refine W.seq ?_
 refine W.region ?_
 refine ol_box S H rfl rfl rfl trivial ?_
 clear S H;intro p2 aa ww h1 H S
 refine ol_alloc S H ti35 rfl rfl trivial ?_
 clear S H;intro p4 aa ww h2 H S
 refine OL.za S fun _ S=>?_
 refine OL.nil ?_
 refine W.seq ?_
 refine W.region ?_
 refine OL.zf S fa35_0 fun _ S=>?_
 obtain⟨x12,c,H⟩:=H
 refine OL.zl S fl3 c fun _ S=>?_
 refine OL.zf S fa35_1 fun _ S=>?_
 obtain⟨x14,c_1,H⟩:=H
 refine OL.zl S fl9 c_1 fun _ S=>?_
 refine OL.zf S fa35_2 fun _ S=>?_
 obtain⟨x16,c_2,H⟩:=H
 refine OL.zl S fl4 c_2 fun _ S=>?_
 refine OL.zf S fa35_3 fun _ S=>?_
 obtain⟨x18,c_3,H⟩:=H
 refine OL.zl S fl3 c_3 fun _ S=>?_
 refine OL.zf S fa35_4 fun _ S=>?_
 obtain⟨x20,c_4,H⟩:=H
 refine OL.zl S fl25 c_4 fun _ S=>?_
 refine OL.zq S (Lf.run_build (cs:=#[Value.int .i64 x12,Value.string x14,Value.bool x16,Value.int .i64 x18,Value.slice x20.a x20.n x20.c,Value.slice (⟨none,0,0⟩:Sv).a (⟨none,0,0⟩:Sv).n (⟨none,0,0⟩:Sv).c]) pl35 ti35 (parts_map S rfl) (by kernel_rfl)) fun _ S=>?_
 refine ol_alloc S H ti35 rfl rfl trivial ?_
 clear S H;intro p6 aa ww h3 H S
 refine ol_stoA S H rfl rfl ti35 trivial ?_
 clear S H;intro aa ww h4 H S
 refine OL.nil ?_
 refine W.seq ?_
 refine W.region ?_
 obtain⟨y22,y22_1,y22_2,y22_3,y22_4,y22_5,c_59,c_60,c_61,c_62,c_63,c_64,H⟩:=H
 refine OL.zq S (Lf.run_ldA (cs:=[Value.int .i64 y22,Value.string y22_1,Value.bool y22_2,Value.int .i64 y22_3,Value.slice y22_4.a y22_4.n y22_4.c,Value.slice y22_5.a y22_5.n y22_5.c]) (S.ev rfl) ag35 ti35 (by rw[S.heap];exact RowL.toRow ⟨c_59,c_60,c_61,c_62,c_63,c_64,trivial⟩)) fun _ S=>?_
 refine ol_cal S H isfn55 rfl rfl trivial ?_
 clear S H;intro u aa ww h5 H S
 obtain⟨x23,rfl,H⟩:=H
 refine OL.zq S (Lf.run_lens (S.ev rfl) rfl Try.underlying25) fun _ S=>?_
 refine OL.za S fun _ S=>?_
 refine OL.nil ?_
 refine W.seq ?_
 refine W.seq ?_
 refine W.region ?_
 refine OL.zm S fun _ S=>?_
 refine OL.zm S fun _ S=>?_
 refine OL.zq S (Lf.run_lens (S.ev rfl) rfl Try.underlying25) fun _ S=>?_
 refine OL.zq S (Lf.run_gtr (S.ev rfl) (S.ev rfl)) fun _ S=>?_
 refine OL.nil ?_
 refine W.cond S (b:=(decide (((l1.n:Nat):Int)<((x23.n:Nat):Int)))) rfl (fun hb=>?_) (fun hb=>?_)
 ·
  replace H:=H.1 hb
  refine W.seq ?_
  refine W.region ?_
  obtain⟨y29,y29_1,y29_2,y29_3,y29_4,y29_5,c_13,c_14,c_15,c_16,c_17,c_18,H⟩:=H
  refine OL.zq S (Lf.run_ldA (cs:=[Value.int .i64 y29,Value.string y29_1,Value.bool y29_2,Value.int .i64 y29_3,Value.slice y29_4.a y29_4.n y29_4.c,Value.slice y29_5.a y29_5.n y29_5.c]) (S.ev rfl) ag35 ti35 (by rw[S.heap];exact RowL.toRow ⟨c_13,c_14,c_15,c_16,c_17,c_18,trivial⟩)) fun _ S=>?_
  refine ol_stoA S H rfl rfl ti35 trivial ?_
  clear S H;intro aa ww h6 H S
  refine OL.za S fun _ S=>?_
  refine OL.nil ?_
  refine W.ret ?_
  obtain⟨y,y_1,y_2,y_3,y_4,y_5,c_7,c_8,c_9,c_10,c_11,c_12,H⟩:=H
  exact Ret.gen S rfl (RV.cellA (cs:=[Value.int .i64 y,Value.string y_1,Value.bool y_2,Value.int .i64 y_3,Value.slice y_4.a y_4.n y_4.c,Value.slice y_5.a y_5.n y_5.c]) rfl ag35 ti35 ⟨c_7,c_8,c_9,c_10,c_11,c_12,trivial⟩ (RV.tmp rfl RV.nil)) rfl H
 ·
  replace H:=H.2 hb
  refine W.skip ?_
  obtain⟨J,H,HK⟩:=H
  refine W.seqJ (fun aa ww=>∃h11,St 74 [(1,Value.slice l1.a l1.n l1.c),(2,Value.pointer (some p2)),(4,Value.pointer (some p4)),(6,Value.pointer (some p6)),(7,Value.int .i64 ((x23.n:Nat):Int))] h11 w0 aa ww∧J h11) ?_ ?_
  ·
   clear HK
   refine W.seq ?_
   refine W.region ?_
   refine OL.zf S fa35_0 fun _ S=>?_
   obtain⟨x31,c_19,H⟩:=H
   refine OL.zl S fl3 c_19 fun _ S=>?_
   refine OL.zq S (Lf.run_eql (S.ev rfl) (S.ev rfl)) fun _ S=>?_
   refine OL.nil ?_
   refine W.cond S (b:=(x31 == 5)) rfl (fun hb_1=>?_) (fun hb_1=>?_)
   ·
    replace H:=H.1 hb_1
    refine W.region ?_
    refine ol_newS0 S H Try.underlying25 ti3 rfl rfl trivial ?_
    clear S H;intro s33 aa ww h7 H S
    refine OL.zm S fun _ S=>?_
    refine OL.zm S fun _ S=>?_
    obtain⟨s36,c_20,c_21,c_22,c_23,H⟩:=slS_ex H
    refine OL.zq S (Lf.run_slNS Try.underlying25 ti3 (S.ev rfl) (S.ev rfl) c_21 c_22 c_23) fun _ S=>?_
    refine ol_appS S H Try.underlying25 ti3 rfl rfl rfl trivial ?_
    clear S H;intro s37 aa ww h8 H S
    refine OL.zf S fa35_4 fun _ S=>?_
    refine ol_sto S H rfl rfl rfl ti25 trivial ?_
    clear S H;intro aa ww h9 H S
    refine OL.nil ?_
    exact⟨h9,S.sub _ ⟨rfl,rfl,rfl,rfl,rfl,trivial⟩,H⟩
   ·
    replace H:=H.2 hb_1
    refine W.seq ?_
    refine W.region ?_
    refine OL.zm S fun _ S=>?_
    refine OL.zq S (Lf.run_eql (S.ev rfl) (S.ev rfl)) fun _ S=>?_
    refine OL.nil ?_
    refine W.cond S (b:=(((x23.n:Nat):Int) == 1)) rfl (fun hb_2=>?_) (fun hb_2=>?_)
    ·
     replace H:=H.1 hb_2
     refine W.region ?_
     refine OL.zm S fun _ S=>?_
     obtain⟨q42,e,e_1,e_2,H⟩:=H
     refine OL.zq S (Lf.run_ixs (S.ev rfl) (S.ev rfl) Try.underlying25 ti3 e e_1 e_2) fun _ S=>?_
     obtain⟨x43,c_24,H⟩:=H
     refine OL.zl S fl3 c_24 fun _ S=>?_
     refine OL.zf S fa35_3 fun _ S=>?_
     refine ol_sto S H rfl rfl rfl ti3 trivial ?_
     clear S H;intro aa ww h10 H S
     refine OL.nil ?_
     exact⟨h10,S.sub _ ⟨rfl,rfl,rfl,rfl,rfl,trivial⟩,H⟩
    ·
     replace H:=H.2 hb_2
     refine W.skip ?_
     exact⟨h5,S.sub _ ⟨rfl,rfl,rfl,rfl,rfl,trivial⟩,H⟩
  ·
   clear H S
   rintro aa ww ⟨h11,S,HJ⟩
   have H:=HK _ HJ
   clear HK HJ
   refine W.seq ?_
   refine W.region ?_
   refine OL.zm S fun _ S=>?_
   refine OL.zm S fun _ S=>?_
   obtain⟨s47,c_25,c_26,c_27,c_28,H⟩:=slS_ex H
   refine OL.zq S (Lf.run_slSN Try.underlying25 ti3 (S.ev rfl) (S.ev rfl) c_25 c_26 c_27 c_28) fun _ S=>?_
   refine OL.za S fun _ S=>?_
   refine OL.nil ?_
   refine W.seq ?_
   refine W.seq ?_
   refine W.region ?_
   refine OL.za S fun _ S=>?_
   refine OL.nil ?_
   refine W.block ?_
   obtain⟨I,m,H,HB⟩:=H
   refine W.loopS (σ:=Sv×Int×Heap) (fun s aa ww=>St 74 [(1,Value.slice s.1.a s.1.n s.1.c),(2,Value.pointer (some p2)),(4,Value.pointer (some p4)),(6,Value.pointer (some p6)),(8,Value.int .i64 s.2.1)] s.2.2 w0 aa ww∧I s.1 s.2.1 s.2.2) (fun s=>m s.1 s.2.1 s.2.2) (s47,0,h11) ⟨S.sub _ ⟨rfl,rfl,rfl,rfl,rfl,trivial⟩,H⟩ ?_
   clear H S
   rintro ⟨l1_1,i8,h12⟩ aa ww ⟨S,HI⟩
   replace S:St 74 [(1,Value.slice l1_1.a l1_1.n l1_1.c),(2,Value.pointer (some p2)),(4,Value.pointer (some p4)),(6,Value.pointer (some p6)),(8,Value.int .i64 i8)] h12 w0 aa ww:=S
   have H:=HB l1_1 i8 h12 HI
   clear HI
   refine W.seq ?_
   refine W.seq ?_
   refine W.region ?_
   refine OL.zm S fun _ S=>?_
   refine OL.zf S fa35_5 fun _ S=>?_
   obtain⟨x50,c_29,H⟩:=H
   refine OL.zl S fl24 c_29 fun _ S=>?_
   refine OL.zq S (Lf.run_lens (S.ev rfl) rfl Try.underlying24) fun _ S=>?_
   refine OL.zq S (Lf.run_lss (S.ev rfl) (S.ev rfl)) fun _ S=>?_
   refine OL.nil ?_
   refine W.cond S (b:=(decide (i8<((x50.n:Nat):Int)))) rfl (fun hb_3=>?_) (fun hb_3=>?_)
   ·
    replace H:=H.1 hb_3
    refine W.skip ?_
    refine W.seq ?_
    refine W.block ?_
    refine W.seq ?_
    refine W.region ?_
    refine OL.zf S fa35_5 fun _ S=>?_
    obtain⟨x57,c_30,H⟩:=H
    refine OL.zl S fl24 c_30 fun _ S=>?_
    refine OL.zm S fun _ S=>?_
    obtain⟨q59,e_3,e_4,e_5,H⟩:=H
    refine OL.zq S (Lf.run_ixs (S.ev rfl) (S.ev rfl) Try.underlying24 ti35 e_3 e_4 e_5) fun _ S=>?_
    obtain⟨y60,y60_1,y60_2,y60_3,y60_4,y60_5,c_40,c_41,c_42,c_43,c_44,c_45,H⟩:=H
    refine OL.zq S (Lf.run_ldA (cs:=[Value.int .i64 y60,Value.string y60_1,Value.bool y60_2,Value.int .i64 y60_3,Value.slice y60_4.a y60_4.n y60_4.c,Value.slice y60_5.a y60_5.n y60_5.c]) (S.ev rfl) ag35 ti35 (by rw[S.heap];exact RowL.toRow ⟨c_40,c_41,c_42,c_43,c_44,c_45,trivial⟩)) fun _ S=>?_
    refine OL.zm S fun _ S=>?_
    refine ol_cal S H isfn59 rfl rfl trivial ?_
    clear S H;intro u_1 aa ww h13 H S
    obtain⟨r62,rfl,H⟩:=H
    refine OL.zm S fun _ S=>?_
    obtain⟨u_2,e_6,y63,y63_1,y63_2,y63_3,y63_4,y63_5,rfl,H⟩:=H
    refine OL.zq S (Lf.run_ex (S.ev rfl) e_6) fun _ S=>?_
    obtain⟨u_3,e_7,x64,rfl,H⟩:=H
    refine OL.zq S (Lf.run_ex (S.ev rfl) e_7) fun _ S=>?_
    refine ol_alloc S H ti35 rfl rfl trivial ?_
    clear S H;intro p9 aa ww h14 H S
    refine ol_stoA S H rfl rfl ti35 trivial ?_
    clear S H;intro aa ww h15 H S
    refine OL.za S fun _ S=>?_
    refine OL.nil ?_
    refine W.seq ?_
    refine W.region ?_
    refine OL.zf S fa35_5 fun _ S=>?_
    obtain⟨x66,c_32,H⟩:=H
    refine OL.zl S fl24 c_32 fun _ S=>?_
    obtain⟨y67,y67_1,y67_2,y67_3,y67_4,y67_5,c_34,c_35,c_36,c_37,c_38,c_39,H⟩:=H
    refine OL.zq S (Lf.run_ldA (cs:=[Value.int .i64 y67,Value.string y67_1,Value.bool y67_2,Value.int .i64 y67_3,Value.slice y67_4.a y67_4.n y67_4.c,Value.slice y67_5.a y67_5.n y67_5.c]) (S.ev rfl) ag35 ti35 (by rw[S.heap];exact RowL.toRow ⟨c_34,c_35,c_36,c_37,c_38,c_39,trivial⟩)) fun _ S=>?_
    refine ol_newS S H Try.underlying24 ti35 (by decide) (parts_map S rfl) (by kernel_rfl) (by decide) rfl trivial ?_
    clear S H;intro s68 aa ww h16 H S
    refine ol_appS S H Try.underlying24 ti35 rfl rfl rfl trivial ?_
    clear S H;intro s69 aa ww h17 H S
    refine OL.zf S fa35_5 fun _ S=>?_
    refine ol_sto S H rfl rfl rfl ti24 trivial ?_
    clear S H;intro aa ww h18 H S
    refine OL.nil ?_
    refine W.region ?_
    refine OL.zm S fun _ S=>?_
    refine OL.za S fun _ S=>?_
    refine OL.nil ?_
    refine W.region ?_
    refine OL.zm S fun _ S=>?_
    refine OL.zq S (Lf.run_add (S.ev rfl) (S.ev rfl)) fun _ S=>?_
    refine OL.za S fun _ S=>?_
    refine OL.nil ?_
    exact⟨(x64,(IntKind.i64.wrap (i8+1)),h18),⟨S.sub _ ⟨rfl,rfl,rfl,rfl,rfl,trivial⟩,H.1⟩,H.2⟩
   ·
    replace H:=H.2 hb_3
    refine W.exit_ ?_
    refine xhit ?_
    refine W.seq ?_
    refine W.region ?_
    obtain⟨y72,y72_1,y72_2,y72_3,y72_4,y72_5,c_53,c_54,c_55,c_56,c_57,c_58,H⟩:=H
    refine OL.zq S (Lf.run_ldA (cs:=[Value.int .i64 y72,Value.string y72_1,Value.bool y72_2,Value.int .i64 y72_3,Value.slice y72_4.a y72_4.n y72_4.c,Value.slice y72_5.a y72_5.n y72_5.c]) (S.ev rfl) ag35 ti35 (by rw[S.heap];exact RowL.toRow ⟨c_53,c_54,c_55,c_56,c_57,c_58,trivial⟩)) fun _ S=>?_
    refine OL.zm S fun _ S=>?_
    refine ol_stoA S H rfl rfl ti35 trivial ?_
    clear S H;intro aa ww h19 H S
    refine OL.za S fun _ S=>?_
    refine OL.nil ?_
    refine W.ret ?_
    obtain⟨y_6,y_7,y_8,y_9,y_10,y_11,c_47,c_48,c_49,c_50,c_51,c_52,H⟩:=H
    exact Ret.gen S rfl (RV.cellA (cs:=[Value.int .i64 y_6,Value.string y_7,Value.bool y_8,Value.int .i64 y_9,Value.slice y_10.a y_10.n y_10.c,Value.slice y_11.a y_11.n y_11.c]) rfl ag35 ti35 ⟨c_47,c_48,c_49,c_50,c_51,c_52,trivial⟩ (RV.tmp rfl RV.nil)) rfl H
def L60 (s0:Sv) (f1:Value) (h:Heap) (R:Value→Heap→Prop):Prop:=
 ∃(I:Int→Heap→Prop) (m:Int→Heap→Nat),I 0 h∧∀x8 h1,I x8 h1 →
 ifb (decide (x8<((s0.n:Nat):Int))) (
  ixS s0 x8 fun q14=>
  ∃(y15:Int) (y15_1:ByteArray) (y15_2:Bool) (y15_3:Int) (y15_4:Sv) (y15_5:Sv),cl h1 (q14.add ((x8:Int).toNat*6))=some (Value.int .i64 y15)∧cl h1 ((q14.add ((x8:Int).toNat*6)).add 1)=some (Value.string y15_1)∧cl h1 ((q14.add ((x8:Int).toNat*6)).add 2)=some (Value.bool y15_2)∧cl h1 ((q14.add ((x8:Int).toNat*6)).add 3)=some (Value.int .i64 y15_3)∧cl h1 ((q14.add ((x8:Int).toNat*6)).add 4)=some (Value.slice y15_4.a y15_4.n y15_4.c)∧cl h1 ((q14.add ((x8:Int).toNat*6)).add 5)=some (Value.slice y15_5.a y15_5.n y15_5.c) ∧
  calV Try.prog f1 #[Value.agg #[Value.int .i64 y15,Value.string y15_1,Value.bool y15_2,Value.int .i64 y15_3,Value.slice y15_4.a y15_4.n y15_4.c,Value.slice y15_5.a y15_5.n y15_5.c]] h1 fun u h2=>asB u fun x16=>
  ifb x16 (
   R (Value.int .i64 x8) h2) (
   I (IntKind.i64.wrap (x8+1)) h2∧m (IntKind.i64.wrap (x8+1)) h2<m x8 h1)) (
  R (Value.int .i64 (-1)) h1)
set_option maxRecDepth 100000 in
theorem F60 {s0 f1 h:_} {R:Value→Heap→Prop} (H:L60 s0 f1 h R):CallsH Try.prog 60 #[Value.slice s0.a s0.n s0.c,f1] h R:=by
 refine CallsH.enter (n:=19) Try.func60 rfl rfl rfl rfl ?_
 intro w0 aa ww S
 unfold L60 at H
 refine W.seq ?_
 refine W.region ?_
 refine OL.za S fun _ S=>?_
 refine OL.nil ?_
 refine W.seq ?_
 refine W.seq ?_
 refine W.region ?_
 refine OL.zm S fun _ S=>?_
 refine OL.zq S (Lf.run_lens (S.ev rfl) rfl Try.underlying24) fun _ S=>?_
 refine OL.zm S fun _ S=>?_
 refine OL.nil ?_
 refine W.block ?_
 obtain⟨I,m,H,HB⟩:=H
 refine W.loopS (σ:=Int×Heap) (fun s aa ww=>St 19 [(0,Value.slice s0.a s0.n s0.c),(1,f1),(7,Value.int .i64 ((s0.n:Nat):Int)),(8,Value.int .i64 s.1)] s.2 w0 aa ww∧I s.1 s.2) (fun s=>m s.1 s.2) (0,h) ⟨S.sub _ ⟨rfl,rfl,rfl,rfl,trivial⟩,H⟩ ?_
 clear H S
 rintro ⟨x8,h1⟩ aa ww ⟨S,HI⟩
 replace S:St 19 [(0,Value.slice s0.a s0.n s0.c),(1,f1),(7,Value.int .i64 ((s0.n:Nat):Int)),(8,Value.int .i64 x8)] h1 w0 aa ww:=S
 have H:=HB x8 h1 HI
 clear HI
 refine W.seq ?_
 refine W.region ?_
 refine OL.zq S (Lf.run_lss (S.ev rfl) (S.ev rfl)) fun _ S=>?_
 refine OL.nil ?_
 refine W.seq ?_
 refine W.cond S (b:=(decide (x8<((s0.n:Nat):Int)))) rfl (fun hb=>?_) (fun hb=>?_)
 ·
  replace H:=H.1 hb
  refine W.skip ?_
  refine W.seq ?_
  refine W.block ?_
  refine W.seq ?_
  refine W.region ?_
  refine OL.zm S fun _ S=>?_
  refine OL.za S fun _ S=>?_
  refine OL.nil ?_
  refine W.seq ?_
  refine W.region ?_
  refine OL.zm S fun _ S=>?_
  refine OL.zm S fun _ S=>?_
  refine OL.zm S fun _ S=>?_
  obtain⟨q14,e,e_1,e_2,H⟩:=H
  refine OL.zq S (Lf.run_ixs (S.ev rfl) (S.ev rfl) Try.underlying24 ti35 e e_1 e_2) fun _ S=>?_
  obtain⟨y15,y15_1,y15_2,y15_3,y15_4,y15_5,c_1,c_2,c_3,c_4,c_5,c_6,H⟩:=H
  refine OL.zq S (Lf.run_ldA (cs:=[Value.int .i64 y15,Value.string y15_1,Value.bool y15_2,Value.int .i64 y15_3,Value.slice y15_4.a y15_4.n y15_4.c,Value.slice y15_5.a y15_5.n y15_5.c]) (S.ev rfl) ag35 ti35 (by rw[S.heap];exact RowL.toRow ⟨c_1,c_2,c_3,c_4,c_5,c_6,trivial⟩)) fun _ S=>?_
  refine ol_calV S H rfl rfl rfl trivial ?_
  clear S H;intro u aa ww h2 H S
  obtain⟨x16,rfl,H⟩:=H
  refine OL.nil ?_
  refine W.cond S (b:=x16) rfl (fun hb_1=>?_) (fun hb_1=>?_)
  ·
   replace H:=H.1 hb_1
   refine W.seq ?_
   refine W.region ?_
   refine OL.zm S fun _ S=>?_
   refine OL.za S fun _ S=>?_
   refine OL.nil ?_
   refine W.ret ?_
   exact Ret.one S rfl rfl H
  ·
   replace H:=H.2 hb_1
   refine W.skip ?_
   refine W.region ?_
   refine OL.zq S (Lf.run_add (S.ev rfl) (S.ev rfl)) fun _ S=>?_
   refine OL.zm S fun _ S=>?_
   refine OL.nil ?_
   exact⟨((IntKind.i64.wrap (x8+1)),h2),⟨S.sub _ ⟨rfl,rfl,rfl,rfl,trivial⟩,H.1⟩,H.2⟩
 ·
  replace H:=H.2 hb
  refine W.exit_ ?_
  refine xhit ?_
  refine W.seq ?_
  refine W.region ?_
  refine OL.za S fun _ S=>?_
  refine OL.nil ?_
  refine W.ret ?_
  exact Ret.one S rfl rfl H
def L61 (s0:Sv) (h:Heap) (R:Value→Heap→Prop):Prop:=
 ifb (Option.isNone s0.a) (
  R (Value.slice (⟨none,0,0⟩:Sv).a (⟨none,0,0⟩:Sv).n (⟨none,0,0⟩:Sv).c) h) (
  newS 35 #[] 0 h fun s5 h1=>
  appS 35 (Value.agg #[Value.int .i64 0,Value.string (⟨#[]⟩:ByteArray),Value.bool false,Value.int .i64 0,Value.slice (⟨none,0,0⟩:Sv).a (⟨none,0,0⟩:Sv).n (⟨none,0,0⟩:Sv).c,Value.slice (⟨none,0,0⟩:Sv).a (⟨none,0,0⟩:Sv).n (⟨none,0,0⟩:Sv).c]).cells 6 88 h1 s5 s0 fun s7 h2=>
  R (Value.slice s7.a s7.n s7.c) h2)
set_option maxRecDepth 100000 in
theorem F61 {s0 h:_} {R:Value→Heap→Prop} (H:L61 s0 h R):CallsH Try.prog 61 #[Value.slice s0.a s0.n s0.c] h R:=by
 refine CallsH.enter (n:=8) Try.func61 rfl rfl rfl rfl ?_
 intro w0 aa ww S
 unfold L61 at H
 refine W.seq ?_
 refine W.region ?_
 refine OL.za S fun _ S=>?_
 refine OL.nil ?_
 refine W.seq ?_
 refine W.seq ?_
 refine W.region ?_
 refine OL.zm S fun _ S=>?_
 refine OL.zq S (Lf.run_eqlsn Try.underlying24 (S.ev rfl) (S.ev rfl)) fun _ S=>?_
 refine OL.nil ?_
 refine W.cond S (b:=(Option.isNone s0.a)) rfl (fun hb=>?_) (fun hb=>?_)
 ·
  replace H:=H.1 hb
  refine W.seq ?_
  refine W.region ?_
  refine OL.za S fun _ S=>?_
  refine OL.nil ?_
  refine W.ret ?_
  exact Ret.one S rfl rfl H
 ·
  replace H:=H.2 hb
  refine W.skip ?_
  refine W.seq ?_
  refine W.region ?_
  refine ol_newS0 S H Try.underlying24 ti35 rfl rfl trivial ?_
  clear S H;intro s5 aa ww h1 H S
  refine OL.zm S fun _ S=>?_
  refine ol_appS S H Try.underlying24 ti35 rfl rfl rfl trivial ?_
  clear S H;intro s7 aa ww h2 H S
  refine OL.za S fun _ S=>?_
  refine OL.nil ?_
  refine W.ret ?_
  exact Ret.one S rfl rfl H
def L62 (s0:Sv) (f1:Value) (h:Heap) (R:Value→Heap→Prop):Prop:=
 ∃(I:Int→Heap→Prop) (m:Int→Heap→Nat),I 0 h∧∀x8 h1,I x8 h1 →
 ifb (decide (x8<((s0.n:Nat):Int))) (
  ixS s0 x8 fun q14=>
  ldI .i64 h1 (q14.add ((x8:Int).toNat*1)) fun x15=>
  calV Try.prog f1 #[Value.int .i64 x15] h1 fun u h2=>asB u fun x16=>
  ifb x16 (
   R (Value.int .i64 x8) h2) (
   I (IntKind.i64.wrap (x8+1)) h2∧m (IntKind.i64.wrap (x8+1)) h2<m x8 h1)) (
  R (Value.int .i64 (-1)) h1)
set_option maxRecDepth 100000 in
theorem F62 {s0 f1 h:_} {R:Value→Heap→Prop} (H:L62 s0 f1 h R):CallsH Try.prog 62 #[Value.slice s0.a s0.n s0.c,f1] h R:=by
 refine CallsH.enter (n:=19) Try.func62 rfl rfl rfl rfl ?_
 intro w0 aa ww S
 unfold L62 at H
 refine W.seq ?_
 refine W.region ?_
 refine OL.za S fun _ S=>?_
 refine OL.nil ?_
 refine W.seq ?_
 refine W.seq ?_
 refine W.region ?_
 refine OL.zm S fun _ S=>?_
 refine OL.zq S (Lf.run_lens (S.ev rfl) rfl Try.underlying25) fun _ S=>?_
 refine OL.zm S fun _ S=>?_
 refine OL.nil ?_
 refine W.block ?_
 obtain⟨I,m,H,HB⟩:=H
 refine W.loopS (σ:=Int×Heap) (fun s aa ww=>St 19 [(0,Value.slice s0.a s0.n s0.c),(1,f1),(7,Value.int .i64 ((s0.n:Nat):Int)),(8,Value.int .i64 s.1)] s.2 w0 aa ww∧I s.1 s.2) (fun s=>m s.1 s.2) (0,h) ⟨S.sub _ ⟨rfl,rfl,rfl,rfl,trivial⟩,H⟩ ?_
 clear H S
 rintro ⟨x8,h1⟩ aa ww ⟨S,HI⟩
 replace S:St 19 [(0,Value.slice s0.a s0.n s0.c),(1,f1),(7,Value.int .i64 ((s0.n:Nat):Int)),(8,Value.int .i64 x8)] h1 w0 aa ww:=S
 have H:=HB x8 h1 HI
 clear HI
 refine W.seq ?_
 refine W.region ?_
 refine OL.zq S (Lf.run_lss (S.ev rfl) (S.ev rfl)) fun _ S=>?_
 refine OL.nil ?_
 refine W.seq ?_
 refine W.cond S (b:=(decide (x8<((s0.n:Nat):Int)))) rfl (fun hb=>?_) (fun hb=>?_)
 ·
  replace H:=H.1 hb
  refine W.skip ?_
  refine W.seq ?_
  refine W.block ?_
  refine W.seq ?_
  refine W.region ?_
  refine OL.zm S fun _ S=>?_
  refine OL.za S fun _ S=>?_
  refine OL.nil ?_
  refine W.seq ?_
  refine W.region ?_
  refine OL.zm S fun _ S=>?_
  refine OL.zm S fun _ S=>?_
  refine OL.zm S fun _ S=>?_
  obtain⟨q14,e,e_1,e_2,H⟩:=H
  refine OL.zq S (Lf.run_ixs (S.ev rfl) (S.ev rfl) Try.underlying25 ti3 e e_1 e_2) fun _ S=>?_
  obtain⟨x15,c,H⟩:=H
  refine OL.zl S fl3 c fun _ S=>?_
  refine ol_calV S H rfl rfl rfl trivial ?_
  clear S H;intro u aa ww h2 H S
  obtain⟨x16,rfl,H⟩:=H
  refine OL.nil ?_
  refine W.cond S (b:=x16) rfl (fun hb_1=>?_) (fun hb_1=>?_)
  ·
   replace H:=H.1 hb_1
   refine W.seq ?_
   refine W.region ?_
   refine OL.zm S fun _ S=>?_
   refine OL.za S fun _ S=>?_
   refine OL.nil ?_
   refine W.ret ?_
   exact Ret.one S rfl rfl H
  ·
   replace H:=H.2 hb_1
   refine W.skip ?_
   refine W.region ?_
   refine OL.zq S (Lf.run_add (S.ev rfl) (S.ev rfl)) fun _ S=>?_
   refine OL.zm S fun _ S=>?_
   refine OL.nil ?_
   exact⟨((IntKind.i64.wrap (x8+1)),h2),⟨S.sub _ ⟨rfl,rfl,rfl,rfl,trivial⟩,H.1⟩,H.2⟩
 ·
  replace H:=H.2 hb
  refine W.exit_ ?_
  refine xhit ?_
  refine W.seq ?_
  refine W.region ?_
  refine OL.za S fun _ S=>?_
  refine OL.nil ?_
  refine W.ret ?_
  exact Ret.one S rfl rfl H
def L63 (x0:Int) (x0_1:ByteArray) (x0_2:Bool) (x0_3:Int) (x0_4:Sv) (x0_5:Sv) (h:Heap) (R:Value→Heap→Prop):Prop:=
 new 35 #[Value.int .i64 x0,Value.string x0_1,Value.bool x0_2,Value.int .i64 x0_3,Value.slice x0_4.a x0_4.n x0_4.c,Value.slice x0_5.a x0_5.n x0_5.c] h fun p1 h1=>
 ldI .i64 h1 p1 fun x4=>
 ∃J:Bool→Prop,(orr (x4 == 7) (fun k=>
  ldI .i64 h1 p1 fun x8=>
  k (x8 == 8)) J)∧∀x10,J x10 →
 ∃J_1:Bool→Prop,(orr x10 (fun k_1=>
  ldI .i64 h1 p1 fun x13=>
  k_1 (x13 == 9)) J_1)∧∀x15,J_1 x15 →
 R (Value.bool x15) h1
set_option maxRecDepth 100000 in
theorem F63 {x0 x0_1 x0_2 x0_3 x0_4 x0_5 h:_} {R:Value→Heap→Prop} (H:L63 x0 x0_1 x0_2 x0_3 x0_4 x0_5 h R):CallsH Try.prog 63 #[Value.agg #[Value.int .i64 x0,Value.string x0_1,Value.bool x0_2,Value.int .i64 x0_3,Value.slice x0_4.a x0_4.n x0_4.c,Value.slice x0_5.a x0_5.n x0_5.c]] h R:=by
 refine CallsH.enter (n:=16) Try.func63 rfl rfl rfl rfl ?_
 intro w0 aa ww S
 unfold L63 at H
 refine W.seq ?_
 refine W.region ?_
 refine ol_box S H rfl rfl rfl trivial ?_
 clear S H;intro p1 aa ww h1 H S
 refine OL.za S fun _ S=>?_
 refine OL.nil ?_
 refine W.seq ?_
 refine W.region ?_
 refine OL.zf S fa35_0 fun _ S=>?_
 obtain⟨x4,c,H⟩:=H
 refine OL.zl S fl3 c fun _ S=>?_
 refine OL.zq S (Lf.run_eql (S.ev rfl) (S.ev rfl)) fun _ S=>?_
 refine OL.zm S fun _ S=>?_
 obtain⟨J,H,HK⟩:=H
 refine OL.cutN 4 (fun aa ww=>∃x10,St 16 ((10,Value.bool x10) :: [(1,Value.pointer (some p1)),(3,Value.pointer (some p1)),(4,Value.int .i64 x4),(5,Value.bool (x4 == 7)),(6,Value.bool (x4 == 7))]) h1 w0 aa ww∧J x10) ?_ ?_
 ·
  rcases Bool.eq_false_or_eq_true (x4 == 7) with hb|hb
  ·
   replace H:=H.1 hb
   refine OL.zn S (GNo.mk rfl rfl hb) fun _ S=>?_
   refine OL.zn S (GNo.mk rfl rfl hb) fun _ S=>?_
   refine OL.zn S (GNo.mk rfl rfl hb) fun _ S=>?_
   refine OL.zq S (Lf.run_pickT (S.ev rfl) hb (S.ev rfl)) fun _ S=>?_
   refine OL.nil ?_
   exact⟨_,S.sub _ ⟨rfl,rfl,rfl,rfl,rfl,rfl,trivial⟩,H⟩
  ·
   replace H:=H.2 hb
   refine OL.zf (hg:=GOk.mk rfl rfl hb) S fa35_0 fun _ S=>?_
   obtain⟨x8,c_1,H⟩:=H
   refine OL.zl (hg:=GOk.mk rfl rfl hb) S fl3 c_1 fun _ S=>?_
   refine OL.zq (hg:=GOk.mk rfl rfl hb) S (Lf.run_eql (S.ev rfl) (S.ev rfl)) fun _ S=>?_
   refine OL.zq S (Lf.run_pickF (S.ev rfl) hb (S.ev rfl)) fun _ S=>?_
   refine OL.nil ?_
   exact⟨_,S.sub _ ⟨rfl,rfl,rfl,rfl,rfl,rfl,trivial⟩,H⟩
 ·
  clear S
  rintro aa ww ⟨x10,S,HJ⟩
  replace H:=HK _ HJ
  clear HK HJ
  refine OL.zm S fun _ S=>?_
  obtain⟨J_1,H,HK_1⟩:=H
  refine OL.cutN 4 (fun aa ww=>∃x15,St 16 ((15,Value.bool x15) :: [(1,Value.pointer (some p1)),(3,Value.pointer (some p1)),(4,Value.int .i64 x4),(5,Value.bool (x4 == 7)),(6,Value.bool (x4 == 7)),(10,Value.bool x10),(11,Value.bool x10)]) h1 w0 aa ww∧J_1 x15) ?_ ?_
  ·
   rcases Bool.eq_false_or_eq_true x10 with hb_1|hb_1
   ·
    replace H:=H.1 hb_1
    refine OL.zn S (GNo.mk rfl rfl hb_1) fun _ S=>?_
    refine OL.zn S (GNo.mk rfl rfl hb_1) fun _ S=>?_
    refine OL.zn S (GNo.mk rfl rfl hb_1) fun _ S=>?_
    refine OL.zq S (Lf.run_pickT (S.ev rfl) hb_1 (S.ev rfl)) fun _ S=>?_
    refine OL.nil ?_
    exact⟨_,S.sub _ ⟨rfl,rfl,rfl,rfl,rfl,rfl,rfl,rfl,trivial⟩,H⟩
   ·
    replace H:=H.2 hb_1
    refine OL.zf (hg:=GOk.mk rfl rfl hb_1) S fa35_0 fun _ S=>?_
    obtain⟨x13,c_2,H⟩:=H
    refine OL.zl (hg:=GOk.mk rfl rfl hb_1) S fl3 c_2 fun _ S=>?_
    refine OL.zq (hg:=GOk.mk rfl rfl hb_1) S (Lf.run_eql (S.ev rfl) (S.ev rfl)) fun _ S=>?_
    refine OL.zq S (Lf.run_pickF (S.ev rfl) hb_1 (S.ev rfl)) fun _ S=>?_
    refine OL.nil ?_
    exact⟨_,S.sub _ ⟨rfl,rfl,rfl,rfl,rfl,rfl,rfl,rfl,trivial⟩,H⟩
  ·
   clear S
   rintro aa ww ⟨x15,S,HJ⟩
   replace H:=HK_1 _ HJ
   clear HK_1 HJ
   refine OL.za S fun _ S=>?_
   refine OL.nil ?_
   refine W.ret ?_
   exact Ret.one S rfl rfl H
def L64 (l0:Sv) (a1:Sv) (b2:Sv) (h:Heap) (R:Value→Heap→Prop):Prop:=
 ∃(I:Sv→Int→Heap→Prop) (m:Sv→Int→Heap→Nat),I l0 0 h∧∀l0_1 x13 h1,I l0_1 x13 h1 →
 ifb (decide (x13<((a1.n:Nat):Int))) (
  ixS a1 x13 fun q15=>
  ldI .i64 h1 (q15.add ((x13:Int).toNat*1)) fun x16=>
  ∃(I_1:Sv→Int→Heap→Prop) (m_1:Sv→Int→Heap→Nat),I_1 l0_1 0 h1∧∀l0_2 x19 h2,I_1 l0_2 x19 h2 →
  ifb (decide (x19<((b2.n:Nat):Int))) (
   ixS b2 x19 fun q21=>
   ldI .i64 h2 (q21.add ((x19:Int).toNat*1)) fun x22=>
   newS 56 #[Value.int .i64 x16,Value.int .i64 x22] 1 h2 fun s27 h3=>
   appS 56 (Value.agg #[Value.int .i64 0,Value.int .i64 0]).cells 2 16 h3 l0_2 s27 fun s28 h4=>
   I_1 s28 (IntKind.i64.wrap (x19+1)) h4∧m_1 s28 (IntKind.i64.wrap (x19+1)) h4<m_1 l0_2 x19 h2) (
   I l0_2 (IntKind.i64.wrap (x13+1)) h2∧m l0_2 (IntKind.i64.wrap (x13+1)) h2<m l0_1 x13 h1)) (
  R (Value.slice l0_1.a l0_1.n l0_1.c) h1)
set_option maxRecDepth 100000 in
theorem F64 {l0 a1 b2 h:_} {R:Value→Heap→Prop} (H:L64 l0 a1 b2 h R):CallsH Try.prog 64 #[Value.slice l0.a l0.n l0.c,Value.slice a1.a a1.n a1.c,Value.slice b2.a b2.n b2.c] h R:=by
 refine CallsH.enter (n:=32) Try.func64 rfl rfl rfl rfl ?_
 intro w0 aa ww S
 unfold L64 at H
 refine W.seq ?_
 refine W.region ?_
 refine OL.za S fun _ S=>?_
 refine OL.nil ?_
 refine W.seq ?_
 refine W.seq ?_
 refine W.region ?_
 refine OL.zm S fun _ S=>?_
 refine OL.zq S (Lf.run_lens (S.ev rfl) rfl Try.underlying25) fun _ S=>?_
 refine OL.zm S fun _ S=>?_
 refine OL.nil ?_
 refine W.block ?_
 obtain⟨I,m,H,HB_1⟩:=H
 refine W.loopS (σ:=Sv×Int×Heap) (fun s aa ww=>St 32 [(0,Value.slice s.1.a s.1.n s.1.c),(2,Value.slice b2.a b2.n b2.c),(11,Value.slice a1.a a1.n a1.c),(12,Value.int .i64 ((a1.n:Nat):Int)),(13,Value.int .i64 s.2.1)] s.2.2 w0 aa ww∧I s.1 s.2.1 s.2.2) (fun s=>m s.1 s.2.1 s.2.2) (l0,0,h) ⟨S.sub _ ⟨rfl,rfl,rfl,rfl,rfl,trivial⟩,H⟩ ?_
 clear H S
 rintro ⟨l0_1,x13,h1⟩ aa ww ⟨S,HI⟩
 replace S:St 32 [(0,Value.slice l0_1.a l0_1.n l0_1.c),(2,Value.slice b2.a b2.n b2.c),(11,Value.slice a1.a a1.n a1.c),(12,Value.int .i64 ((a1.n:Nat):Int)),(13,Value.int .i64 x13)] h1 w0 aa ww:=S
 have H:=HB_1 l0_1 x13 h1 HI
 clear HI
 refine W.seq ?_
 refine W.region ?_
 refine OL.zq S (Lf.run_lss (S.ev rfl) (S.ev rfl)) fun _ S=>?_
 refine OL.nil ?_
 refine W.seq ?_
 refine W.cond S (b:=(decide (x13<((a1.n:Nat):Int)))) rfl (fun hb=>?_) (fun hb=>?_)
 ·
  replace H:=H.1 hb
  refine W.skip ?_
  refine W.seq ?_
  refine W.block ?_
  refine W.seq ?_
  refine W.region ?_
  obtain⟨q15,e,e_1,e_2,H⟩:=H
  refine OL.zq S (Lf.run_ixs (S.ev rfl) (S.ev rfl) Try.underlying25 ti3 e e_1 e_2) fun _ S=>?_
  obtain⟨x16,c,H⟩:=H
  refine OL.zl S fl3 c fun _ S=>?_
  refine OL.za S fun _ S=>?_
  refine OL.nil ?_
  refine W.seq ?_
  refine W.region ?_
  refine OL.zm S fun _ S=>?_
  refine OL.zq S (Lf.run_lens (S.ev rfl) rfl Try.underlying25) fun _ S=>?_
  refine OL.zm S fun _ S=>?_
  refine OL.nil ?_
  refine W.block ?_
  obtain⟨I_1,m_1,H,HB⟩:=H
  refine W.loopS (σ:=Sv×Int×Heap) (fun s aa ww=>St 32 [(0,Value.slice s.1.a s.1.n s.1.c),(2,Value.slice b2.a b2.n b2.c),(8,Value.int .i64 x16),(11,Value.slice a1.a a1.n a1.c),(12,Value.int .i64 ((a1.n:Nat):Int)),(13,Value.int .i64 x13),(17,Value.slice b2.a b2.n b2.c),(18,Value.int .i64 ((b2.n:Nat):Int)),(19,Value.int .i64 s.2.1)] s.2.2 w0 aa ww∧I_1 s.1 s.2.1 s.2.2) (fun s=>m_1 s.1 s.2.1 s.2.2) (l0_1,0,h1) ⟨S.sub _ ⟨rfl,rfl,rfl,rfl,rfl,rfl,rfl,rfl,rfl,trivial⟩,H⟩ ?_
  clear H S
  rintro ⟨l0_2,x19,h2⟩ aa ww ⟨S,HI⟩
  replace S:St 32 [(0,Value.slice l0_2.a l0_2.n l0_2.c),(2,Value.slice b2.a b2.n b2.c),(8,Value.int .i64 x16),(11,Value.slice a1.a a1.n a1.c),(12,Value.int .i64 ((a1.n:Nat):Int)),(13,Value.int .i64 x13),(17,Value.slice b2.a b2.n b2.c),(18,Value.int .i64 ((b2.n:Nat):Int)),(19,Value.int .i64 x19)] h2 w0 aa ww:=S
  have H:=HB l0_2 x19 h2 HI
  clear HI
  refine W.seq ?_
  refine W.region ?_
  refine OL.zq S (Lf.run_lss (S.ev rfl) (S.ev rfl)) fun _ S=>?_
  refine OL.nil ?_
  refine W.seq ?_
  refine W.cond S (b:=(decide (x19<((b2.n:Nat):Int)))) rfl (fun hb_1=>?_) (fun hb_1=>?_)
  ·
   replace H:=H.1 hb_1
   refine W.skip ?_
   refine W.seq ?_
   refine W.block ?_
   refine W.seq ?_
   refine W.region ?_
   obtain⟨q21,e_3,e_4,e_5,H⟩:=H
   refine OL.zq S (Lf.run_ixs (S.ev rfl) (S.ev rfl) Try.underlying25 ti3 e_3 e_4 e_5) fun _ S=>?_
   obtain⟨x22,c_1,H⟩:=H
   refine OL.zl S fl3 c_1 fun _ S=>?_
   refine OL.za S fun _ S=>?_
   refine OL.nil ?_
   refine W.region ?_
   refine OL.zm S fun _ S=>?_
   refine OL.zm S fun _ S=>?_
   refine OL.zm S fun _ S=>?_
   refine OL.zq S (Lf.run_buildArr (cs:=#[Value.int .i64 x16,Value.int .i64 x22]) Try.underlying56 ti3 ti56 (parts_map S rfl) (by kernel_rfl)) fun _ S=>?_
   refine ol_newS S H Try.underlying22 ti56 (by decide) (parts_map S rfl) (by kernel_rfl) (by decide) rfl trivial ?_
   clear S H;intro s27 aa ww h3 H S
   refine ol_appS S H Try.underlying22 ti56 rfl rfl rfl trivial ?_
   clear S H;intro s28 aa ww h4 H S
   refine OL.za S fun _ S=>?_
   refine OL.nil ?_
   refine W.region ?_
   refine OL.zq S (Lf.run_add (S.ev rfl) (S.ev rfl)) fun _ S=>?_
   refine OL.zm S fun _ S=>?_
   refine OL.nil ?_
   exact⟨(s28,(IntKind.i64.wrap (x19+1)),h4),⟨S.sub _ ⟨rfl,rfl,rfl,rfl,rfl,rfl,rfl,rfl,rfl,trivial⟩,H.1⟩,H.2⟩
  ·
   replace H:=H.2 hb_1
   refine W.exit_ ?_
   refine xhit ?_
   refine W.region ?_
   refine OL.zq S (Lf.run_add (S.ev rfl) (S.ev rfl)) fun _ S=>?_
   refine OL.zm S fun _ S=>?_
   refine OL.nil ?_
   exact⟨(l0_2,(IntKind.i64.wrap (x13+1)),h2),⟨S.sub _ ⟨rfl,rfl,rfl,rfl,rfl,trivial⟩,H.1⟩,H.2⟩
 ·
  replace H:=H.2 hb
  refine W.exit_ ?_
  refine xhit ?_
  refine W.seq ?_
  refine W.region ?_
  refine OL.zm S fun _ S=>?_
  refine OL.za S fun _ S=>?_
  refine OL.nil ?_
  refine W.ret ?_
  exact Ret.one S rfl rfl H
def L65 (x0:Int) (x0_1:ByteArray) (x0_2:Bool) (x0_3:Int) (x0_4:Sv) (x0_5:Sv) (i1:Int) (h:Heap) (R:Value→Heap→Prop):Prop:=
 new 35 #[Value.int .i64 x0,Value.string x0_1,Value.bool x0_2,Value.int .i64 x0_3,Value.slice x0_4.a x0_4.n x0_4.c,Value.slice x0_5.a x0_5.n x0_5.c] h fun p2 h1=>
 ldS h1 (p2.add 4) fun x7=>
 ifb (i1 == 0) (
  newS 3 #[Value.int .i64 0] 1 h1 fun s12 h2=>
  R (Value.slice s12.a s12.n s12.c) h2) (
  ifb ((decide (1≤i1)) && (decide (i1≤((x7.n:Nat):Int)))) (
   ldS h1 (p2.add 4) fun x22=>
   slS x22 1 (IntKind.i64.wrap (i1 - 1)) i1 fun s26=>
   R (Value.slice s26.a s26.n s26.c) h1) (
   ∃J:Bool→Prop,(andr (decide (((x7.n:Nat):Int)<i1)) (fun k=>
    ldS h1 (p2.add 5) fun x36=>
    k (decide ((IntKind.i64.wrap (i1 - ((x7.n:Nat):Int)))≤((x36.n:Nat):Int)))) J)∧∀x39,J x39 →
   ifb x39 (
    ldS h1 (p2.add 5) fun x41=>
    ixS x41 (IntKind.i64.wrap ((IntKind.i64.wrap (i1 - ((x7.n:Nat):Int))) - 1)) fun q46=>
    ∃(y47:Int) (y47_1:ByteArray) (y47_2:Bool) (y47_3:Int) (y47_4:Sv) (y47_5:Sv),cl h1 (q46.add (((IntKind.i64.wrap ((IntKind.i64.wrap (i1 - ((x7.n:Nat):Int))) - 1)):Int).toNat*6))=some (Value.int .i64 y47)∧cl h1 ((q46.add (((IntKind.i64.wrap ((IntKind.i64.wrap (i1 - ((x7.n:Nat):Int))) - 1)):Int).toNat*6)).add 1)=some (Value.string y47_1)∧cl h1 ((q46.add (((IntKind.i64.wrap ((IntKind.i64.wrap (i1 - ((x7.n:Nat):Int))) - 1)):Int).toNat*6)).add 2)=some (Value.bool y47_2)∧cl h1 ((q46.add (((IntKind.i64.wrap ((IntKind.i64.wrap (i1 - ((x7.n:Nat):Int))) - 1)):Int).toNat*6)).add 3)=some (Value.int .i64 y47_3)∧cl h1 ((q46.add (((IntKind.i64.wrap ((IntKind.i64.wrap (i1 - ((x7.n:Nat):Int))) - 1)):Int).toNat*6)).add 4)=some (Value.slice y47_4.a y47_4.n y47_4.c)∧cl h1 ((q46.add (((IntKind.i64.wrap ((IntKind.i64.wrap (i1 - ((x7.n:Nat):Int))) - 1)):Int).toNat*6)).add 5)=some (Value.slice y47_5.a y47_5.n y47_5.c) ∧
    cal Try.prog 43 #[Value.agg #[Value.int .i64 y47,Value.string y47_1,Value.bool y47_2,Value.int .i64 y47_3,Value.slice y47_4.a y47_4.n y47_4.c,Value.slice y47_5.a y47_5.n y47_5.c]] h1 fun u h3=>asS u fun x48=>
    R (Value.slice x48.a x48.n x48.c) h3) (
    R (Value.slice (⟨none,0,0⟩:Sv).a (⟨none,0,0⟩:Sv).n (⟨none,0,0⟩:Sv).c) h1)))
set_option maxRecDepth 100000 in
theorem F65 {x0 x0_1 x0_2 x0_3 x0_4 x0_5 i1 h:_} {R:Value→Heap→Prop} (H:L65 x0 x0_1 x0_2 x0_3 x0_4 x0_5 i1 h R):CallsH Try.prog 65 #[Value.agg #[Value.int .i64 x0,Value.string x0_1,Value.bool x0_2,Value.int .i64 x0_3,Value.slice x0_4.a x0_4.n x0_4.c,Value.slice x0_5.a x0_5.n x0_5.c],Value.int .i64 i1] h R:=by
 refine CallsH.enter (n:=49) Try.func65 rfl rfl rfl rfl ?_
 intro w0 aa ww S
 unfold L65 at H
 refine W.seq ?_
 refine W.region ?_
 refine ol_box S H rfl rfl rfl trivial ?_
 clear S H;intro p2 aa ww h1 H S
 refine OL.za S fun _ S=>?_
 refine OL.nil ?_
 refine W.seq ?_
 refine W.region ?_
 refine OL.zf S fa35_4 fun _ S=>?_
 obtain⟨x7,c,H⟩:=H
 refine OL.zl S fl25 c fun _ S=>?_
 refine OL.zq S (Lf.run_lens (S.ev rfl) rfl Try.underlying25) fun _ S=>?_
 refine OL.za S fun _ S=>?_
 refine OL.nil ?_
 refine W.seq ?_
 refine W.block ?_
 refine W.seq ?_
 refine W.region ?_
 refine OL.zm S fun _ S=>?_
 refine OL.zq S (Lf.run_eql (S.ev rfl) (S.ev rfl)) fun _ S=>?_
 refine OL.za S fun _ S=>?_
 refine OL.nil ?_
 refine W.cond S (b:=(i1 == 0)) rfl (fun hb=>?_) (fun hb=>?_)
 ·
  replace H:=H.1 hb
  refine W.seq ?_
  refine W.region ?_
  refine ol_newS S H Try.underlying25 ti3 (by decide) (parts_map S rfl) (by kernel_rfl) (by decide) rfl trivial ?_
  clear S H;intro s12 aa ww h2 H S
  refine OL.za S fun _ S=>?_
  refine OL.nil ?_
  refine W.ret ?_
  exact Ret.one S rfl rfl H
 ·
  replace H:=H.2 hb
  refine W.seq ?_
  refine W.region ?_
  refine OL.zm S fun _ S=>?_
  refine OL.zq S (Lf.run_geq (S.ev rfl) (S.ev rfl)) fun _ S=>?_
  refine OL.zm S fun _ S=>?_
  refine OL.cutN 4 (fun aa ww=>St 49 ((20,Value.bool ((decide (1≤i1)) && (decide (i1≤((x7.n:Nat):Int))))) :: [(1,Value.int .i64 i1),(2,Value.pointer (some p2)),(5,Value.int .i64 ((x7.n:Nat):Int)),(14,Value.int .i64 i1),(15,Value.bool (decide (1≤i1))),(16,Value.bool (decide (1≤i1)))]) h1 w0 aa ww) ?_ ?_
  ·
   rcases Bool.eq_false_or_eq_true (decide (1≤i1)) with hb_1|hb_1
   ·
    refine OL.zm (hg:=GOk.mk rfl rfl hb_1) S fun _ S=>?_
    refine OL.zm (hg:=GOk.mk rfl rfl hb_1) S fun _ S=>?_
    refine OL.zq (hg:=GOk.mk rfl rfl hb_1) S (Lf.run_leq (S.ev rfl) (S.ev rfl)) fun _ S=>?_
    refine OL.zq S (Lf.run_pickT (S.ev rfl) hb_1 (S.ev rfl)) fun _ S=>?_
    refine OL.nil ?_
    exact (S.hd (by rw[hb_1,Bool.true_and])).sub _ ⟨rfl,rfl,rfl,rfl,rfl,rfl,rfl,trivial⟩
   ·
    refine OL.zn S (GNo.mk rfl rfl hb_1) fun _ S=>?_
    refine OL.zn S (GNo.mk rfl rfl hb_1) fun _ S=>?_
    refine OL.zn S (GNo.mk rfl rfl hb_1) fun _ S=>?_
    refine OL.zq S (Lf.run_pickF (S.ev rfl) hb_1 (S.ev rfl)) fun _ S=>?_
    refine OL.nil ?_
    exact (S.hd (by rw[hb_1,Bool.false_and])).sub _ ⟨rfl,rfl,rfl,rfl,rfl,rfl,rfl,trivial⟩
  ·
   clear S
   intro aa ww S
   refine OL.za S fun _ S=>?_
   refine OL.nil ?_
   refine W.cond S (b:=((decide (1≤i1)) && (decide (i1≤((x7.n:Nat):Int))))) rfl (fun hb_2=>?_) (fun hb_2=>?_)
   ·
    replace H:=H.1 hb_2
    refine W.seq ?_
    refine W.region ?_
    refine OL.zf S fa35_4 fun _ S=>?_
    obtain⟨x22,c_1,H⟩:=H
    refine OL.zl S fl25 c_1 fun _ S=>?_
    refine OL.zm S fun _ S=>?_
    refine OL.zq S (Lf.run_sub (S.ev rfl) (S.ev rfl)) fun _ S=>?_
    refine OL.zm S fun _ S=>?_
    obtain⟨s26,c_2,c_3,c_4,c_5,H⟩:=slS_ex H
    refine OL.zq S (Lf.run_slSS Try.underlying25 ti3 (S.ev rfl) (S.ev rfl) (S.ev rfl) c_2 c_3 c_4 c_5) fun _ S=>?_
    refine OL.za S fun _ S=>?_
    refine OL.nil ?_
    refine W.ret ?_
    exact Ret.one S rfl rfl H
   ·
    replace H:=H.2 hb_2
    refine W.seq ?_
    refine W.region ?_
    refine OL.zm S fun _ S=>?_
    refine OL.zm S fun _ S=>?_
    refine OL.zq S (Lf.run_gtr (S.ev rfl) (S.ev rfl)) fun _ S=>?_
    refine OL.zm S fun _ S=>?_
    obtain⟨J,H,HK⟩:=H
    refine OL.cutN 8 (fun aa ww=>∃x39,St 49 ((39,Value.bool x39) :: [(1,Value.int .i64 i1),(2,Value.pointer (some p2)),(5,Value.int .i64 ((x7.n:Nat):Int)),(28,Value.int .i64 i1),(29,Value.int .i64 ((x7.n:Nat):Int)),(30,Value.bool (decide (((x7.n:Nat):Int)<i1))),(31,Value.bool (decide (((x7.n:Nat):Int)<i1)))]) h1 w0 aa ww∧J x39) ?_ ?_
    ·
     rcases Bool.eq_false_or_eq_true (decide (((x7.n:Nat):Int)<i1)) with hb_3|hb_3
     ·
      replace H:=H.1 hb_3
      refine OL.zm (hg:=GOk.mk rfl rfl hb_3) S fun _ S=>?_
      refine OL.zm (hg:=GOk.mk rfl rfl hb_3) S fun _ S=>?_
      refine OL.zq (hg:=GOk.mk rfl rfl hb_3) S (Lf.run_sub (S.ev rfl) (S.ev rfl)) fun _ S=>?_
      refine OL.zf (hg:=GOk.mk rfl rfl hb_3) S fa35_5 fun _ S=>?_
      obtain⟨x36,c_6,H⟩:=H
      refine OL.zl (hg:=GOk.mk rfl rfl hb_3) S fl24 c_6 fun _ S=>?_
      refine OL.zq (hg:=GOk.mk rfl rfl hb_3) S (Lf.run_lens (S.ev rfl) rfl Try.underlying24) fun _ S=>?_
      refine OL.zq (hg:=GOk.mk rfl rfl hb_3) S (Lf.run_leq (S.ev rfl) (S.ev rfl)) fun _ S=>?_
      refine OL.zq S (Lf.run_pickT (S.ev rfl) hb_3 (S.ev rfl)) fun _ S=>?_
      refine OL.nil ?_
      exact⟨_,S.sub _ ⟨rfl,rfl,rfl,rfl,rfl,rfl,rfl,rfl,trivial⟩,H⟩
     ·
      replace H:=H.2 hb_3
      refine OL.zn S (GNo.mk rfl rfl hb_3) fun _ S=>?_
      refine OL.zn S (GNo.mk rfl rfl hb_3) fun _ S=>?_
      refine OL.zn S (GNo.mk rfl rfl hb_3) fun _ S=>?_
      refine OL.zn S (GNo.mk rfl rfl hb_3) fun _ S=>?_
      refine OL.zn S (GNo.mk rfl rfl hb_3) fun _ S=>?_
      refine OL.zn S (GNo.mk rfl rfl hb_3) fun _ S=>?_
      refine OL.zn S (GNo.mk rfl rfl hb_3) fun _ S=>?_
      refine OL.zq S (Lf.run_pickF (S.ev rfl) hb_3 (S.ev rfl)) fun _ S=>?_
      refine OL.nil ?_
      exact⟨_,S.sub _ ⟨rfl,rfl,rfl,rfl,rfl,rfl,rfl,rfl,trivial⟩,H⟩
    ·
     clear S
     rintro aa ww ⟨x39,S,HJ⟩
     replace H:=HK _ HJ
     clear HK HJ
     refine OL.za S fun _ S=>?_
     refine OL.nil ?_
     refine W.cond S (b:=x39) rfl (fun hb_4=>?_) (fun hb_4=>?_)
     ·
      replace H:=H.1 hb_4
      refine W.seq ?_
      refine W.region ?_
      refine OL.zf S fa35_5 fun _ S=>?_
      obtain⟨x41,c_7,H⟩:=H
      refine OL.zl S fl24 c_7 fun _ S=>?_
      refine OL.zm S fun _ S=>?_
      refine OL.zm S fun _ S=>?_
      refine OL.zq S (Lf.run_sub (S.ev rfl) (S.ev rfl)) fun _ S=>?_
      refine OL.zq S (Lf.run_sub (S.ev rfl) (S.ev rfl)) fun _ S=>?_
      obtain⟨q46,e,e_1,e_2,H⟩:=H
      refine OL.zq S (Lf.run_ixs (S.ev rfl) (S.ev rfl) Try.underlying24 ti35 e e_1 e_2) fun _ S=>?_
      obtain⟨y47,y47_1,y47_2,y47_3,y47_4,y47_5,c_9,c_10,c_11,c_12,c_13,c_14,H⟩:=H
      refine OL.zq S (Lf.run_ldA (cs:=[Value.int .i64 y47,Value.string y47_1,Value.bool y47_2,Value.int .i64 y47_3,Value.slice y47_4.a y47_4.n y47_4.c,Value.slice y47_5.a y47_5.n y47_5.c]) (S.ev rfl) ag35 ti35 (by rw[S.heap];exact RowL.toRow ⟨c_9,c_10,c_11,c_12,c_13,c_14,trivial⟩)) fun _ S=>?_
      refine ol_cal S H isfn43 rfl rfl trivial ?_
      clear S H;intro u aa ww h3 H S
      obtain⟨x48,rfl,H⟩:=H
      refine OL.za S fun _ S=>?_
      refine OL.nil ?_
      refine W.ret ?_
      exact Ret.one S rfl rfl H
     ·
      replace H:=H.2 hb_4
      refine W.skip ?_
      refine W.seq ?_
      refine W.region ?_
      refine OL.za S fun _ S=>?_
      refine OL.nil ?_
      refine W.ret ?_
      exact Ret.one S rfl rfl H
def L66 (a0:Int) (a0_1:ByteArray) (a0_2:Bool) (a0_3:Int) (a0_4:Sv) (a0_5:Sv) (b1:Int) (b1_1:ByteArray) (b1_2:Bool) (b1_3:Int) (b1_4:Sv) (b1_5:Sv) (h:Heap) (R:Value→Heap→Prop):Prop:=
 new 35 #[Value.int .i64 a0,Value.string a0_1,Value.bool a0_2,Value.int .i64 a0_3,Value.slice a0_4.a a0_4.n a0_4.c,Value.slice a0_5.a a0_5.n a0_5.c] h fun p2 h1=>
 new 35 #[Value.int .i64 b1,Value.string b1_1,Value.bool b1_2,Value.int .i64 b1_3,Value.slice b1_4.a b1_4.n b1_4.c,Value.slice b1_5.a b1_5.n b1_5.c] h1 fun p3 h2=>
 ldI .i64 h2 p2 fun x6=>
 ldI .i64 h2 p3 fun x8=>
 ∃J:Bool→Prop,(orr (x6 != x8) (fun k=>
  ldT h2 (p2.add 1) fun x12=>
  ldT h2 (p3.add 1) fun x14=>
  k (x12.toList != x14.toList)) J)∧∀x16,J x16 →
 ∃J_1:Bool→Prop,(orr x16 (fun k_1=>
  ldB h2 (p2.add 2) fun x19=>
  ldB h2 (p3.add 2) fun x21=>
  k_1 (x19 != x21)) J_1)∧∀x23,J_1 x23 →
 ifb x23 (
  R (Value.bool false) h2) (
  ldI .i64 h2 p2 fun x25=>
  ∃J_2:Bool→Prop,(orr (x25 != 5) (fun k_2=>
   ldS h2 (p2.add 4) fun x29=>
   ldS h2 (p3.add 4) fun x32=>
   k_2 (((x29.n:Nat):Int) == ((x32.n:Nat):Int))) J_2)∧∀x35,J_2 x35 →
  ∃J_3:Bool→Heap→Prop,(andj x35 (fun k_3=>
   ldS h2 (p2.add 5) fun x38=>
   ldS h2 (p3.add 5) fun x40=>
   cal Try.prog 70 #[Value.slice x38.a x38.n x38.c,Value.slice x40.a x40.n x40.c,(Value.func (.func 66) #[] #[])] h2 fun u h4=>asB u fun x41=>
   k_3 x41 h4) h2 J_3)∧∀x42 h3,J_3 x42 h3 →
  R (Value.bool x42) h3)
set_option maxRecDepth 100000 in
theorem F66 {a0 a0_1 a0_2 a0_3 a0_4 a0_5 b1 b1_1 b1_2 b1_3 b1_4 b1_5 h:_} {R:Value→Heap→Prop} (H:L66 a0 a0_1 a0_2 a0_3 a0_4 a0_5 b1 b1_1 b1_2 b1_3 b1_4 b1_5 h R):CallsH Try.prog 66 #[Value.agg #[Value.int .i64 a0,Value.string a0_1,Value.bool a0_2,Value.int .i64 a0_3,Value.slice a0_4.a a0_4.n a0_4.c,Value.slice a0_5.a a0_5.n a0_5.c],Value.agg #[Value.int .i64 b1,Value.string b1_1,Value.bool b1_2,Value.int .i64 b1_3,Value.slice b1_4.a b1_4.n b1_4.c,Value.slice b1_5.a b1_5.n b1_5.c]] h R:=by
 refine CallsH.enter (n:=43) Try.func66 rfl rfl rfl rfl ?_
 intro w0 aa ww S
 unfold L66 at H
 refine W.seq ?_
 refine W.region ?_
 refine ol_box S H rfl rfl rfl trivial ?_
 clear S H;intro p2 aa ww h1 H S
 refine ol_box S H rfl rfl rfl trivial ?_
 clear S H;intro p3 aa ww h2 H S
 refine OL.za S fun _ S=>?_
 refine OL.nil ?_
 refine W.seq ?_
 refine W.seq ?_
 refine W.region ?_
 refine OL.zf S fa35_0 fun _ S=>?_
 obtain⟨x6,c,H⟩:=H
 refine OL.zl S fl3 c fun _ S=>?_
 refine OL.zf S fa35_0 fun _ S=>?_
 obtain⟨x8,c_1,H⟩:=H
 refine OL.zl S fl3 c_1 fun _ S=>?_
 refine OL.zq S (Lf.run_neq (S.ev rfl) (S.ev rfl)) fun _ S=>?_
 refine OL.zm S fun _ S=>?_
 obtain⟨J,H,HK⟩:=H
 refine OL.cutN 6 (fun aa ww=>∃x16,St 43 ((16,Value.bool x16) :: [(2,Value.pointer (some p2)),(3,Value.pointer (some p3)),(5,Value.pointer (some p2)),(6,Value.int .i64 x6),(7,Value.pointer (some p3)),(8,Value.int .i64 x8),(9,Value.bool (x6 != x8)),(10,Value.bool (x6 != x8))]) h2 w0 aa ww∧J x16) ?_ ?_
 ·
  rcases Bool.eq_false_or_eq_true (x6 != x8) with hb|hb
  ·
   replace H:=H.1 hb
   refine OL.zn S (GNo.mk rfl rfl hb) fun _ S=>?_
   refine OL.zn S (GNo.mk rfl rfl hb) fun _ S=>?_
   refine OL.zn S (GNo.mk rfl rfl hb) fun _ S=>?_
   refine OL.zn S (GNo.mk rfl rfl hb) fun _ S=>?_
   refine OL.zn S (GNo.mk rfl rfl hb) fun _ S=>?_
   refine OL.zq S (Lf.run_pickT (S.ev rfl) hb (S.ev rfl)) fun _ S=>?_
   refine OL.nil ?_
   exact⟨_,S.sub _ ⟨rfl,rfl,rfl,rfl,rfl,rfl,rfl,rfl,rfl,trivial⟩,H⟩
  ·
   replace H:=H.2 hb
   refine OL.zf (hg:=GOk.mk rfl rfl hb) S fa35_1 fun _ S=>?_
   obtain⟨x12,c_2,H⟩:=H
   refine OL.zl (hg:=GOk.mk rfl rfl hb) S fl9 c_2 fun _ S=>?_
   refine OL.zf (hg:=GOk.mk rfl rfl hb) S fa35_1 fun _ S=>?_
   obtain⟨x14,c_3,H⟩:=H
   refine OL.zl (hg:=GOk.mk rfl rfl hb) S fl9 c_3 fun _ S=>?_
   refine OL.zq (hg:=GOk.mk rfl rfl hb) S (Lf.run_neqt (S.ev rfl) (S.ev rfl)) fun _ S=>?_
   refine OL.zq S (Lf.run_pickF (S.ev rfl) hb (S.ev rfl)) fun _ S=>?_
   refine OL.nil ?_
   exact⟨_,S.sub _ ⟨rfl,rfl,rfl,rfl,rfl,rfl,rfl,rfl,rfl,trivial⟩,H⟩
 ·
  clear S
  rintro aa ww ⟨x16,S,HJ⟩
  replace H:=HK _ HJ
  clear HK HJ
  refine OL.zm S fun _ S=>?_
  obtain⟨J_1,H,HK_1⟩:=H
  refine OL.cutN 6 (fun aa ww=>∃x23,St 43 ((23,Value.bool x23) :: [(2,Value.pointer (some p2)),(3,Value.pointer (some p3)),(5,Value.pointer (some p2)),(6,Value.int .i64 x6),(7,Value.pointer (some p3)),(8,Value.int .i64 x8),(9,Value.bool (x6 != x8)),(10,Value.bool (x6 != x8)),(16,Value.bool x16),(17,Value.bool x16)]) h2 w0 aa ww∧J_1 x23) ?_ ?_
  ·
   rcases Bool.eq_false_or_eq_true x16 with hb_1|hb_1
   ·
    replace H:=H.1 hb_1
    refine OL.zn S (GNo.mk rfl rfl hb_1) fun _ S=>?_
    refine OL.zn S (GNo.mk rfl rfl hb_1) fun _ S=>?_
    refine OL.zn S (GNo.mk rfl rfl hb_1) fun _ S=>?_
    refine OL.zn S (GNo.mk rfl rfl hb_1) fun _ S=>?_
    refine OL.zn S (GNo.mk rfl rfl hb_1) fun _ S=>?_
    refine OL.zq S (Lf.run_pickT (S.ev rfl) hb_1 (S.ev rfl)) fun _ S=>?_
    refine OL.nil ?_
    exact⟨_,S.sub _ ⟨rfl,rfl,rfl,rfl,rfl,rfl,rfl,rfl,rfl,rfl,rfl,trivial⟩,H⟩
   ·
    replace H:=H.2 hb_1
    refine OL.zf (hg:=GOk.mk rfl rfl hb_1) S fa35_2 fun _ S=>?_
    obtain⟨x19,c_4,H⟩:=H
    refine OL.zl (hg:=GOk.mk rfl rfl hb_1) S fl4 c_4 fun _ S=>?_
    refine OL.zf (hg:=GOk.mk rfl rfl hb_1) S fa35_2 fun _ S=>?_
    obtain⟨x21,c_5,H⟩:=H
    refine OL.zl (hg:=GOk.mk rfl rfl hb_1) S fl4 c_5 fun _ S=>?_
    refine OL.zq (hg:=GOk.mk rfl rfl hb_1) S (Lf.run_neqb Try.underlying4 (S.ev rfl) (S.ev rfl)) fun _ S=>?_
    refine OL.zq S (Lf.run_pickF (S.ev rfl) hb_1 (S.ev rfl)) fun _ S=>?_
    refine OL.nil ?_
    exact⟨_,S.sub _ ⟨rfl,rfl,rfl,rfl,rfl,rfl,rfl,rfl,rfl,rfl,rfl,trivial⟩,H⟩
  ·
   clear S
   rintro aa ww ⟨x23,S,HJ⟩
   replace H:=HK_1 _ HJ
   clear HK_1 HJ
   refine OL.nil ?_
   refine W.cond S (b:=x23) rfl (fun hb_2=>?_) (fun hb_2=>?_)
   ·
    replace H:=H.1 hb_2
    refine W.seq ?_
    refine W.region ?_
    refine OL.za S fun _ S=>?_
    refine OL.nil ?_
    refine W.ret ?_
    exact Ret.one S rfl rfl H
   ·
    replace H:=H.2 hb_2
    refine W.skip ?_
    refine W.seq ?_
    refine W.region ?_
    refine OL.zf S fa35_0 fun _ S=>?_
    obtain⟨x25,c_6,H⟩:=H
    refine OL.zl S fl3 c_6 fun _ S=>?_
    refine OL.zq S (Lf.run_neq (S.ev rfl) (S.ev rfl)) fun _ S=>?_
    refine OL.zm S fun _ S=>?_
    obtain⟨J_2,H,HK_2⟩:=H
    refine OL.cutN 8 (fun aa ww=>∃x35,St 43 ((35,Value.bool x35) :: [(2,Value.pointer (some p2)),(3,Value.pointer (some p3)),(24,Value.pointer (some p2)),(25,Value.int .i64 x25),(26,Value.bool (x25 != 5)),(27,Value.bool (x25 != 5))]) h2 w0 aa ww∧J_2 x35) ?_ ?_
    ·
     rcases Bool.eq_false_or_eq_true (x25 != 5) with hb_3|hb_3
     ·
      replace H:=H.1 hb_3
      refine OL.zn S (GNo.mk rfl rfl hb_3) fun _ S=>?_
      refine OL.zn S (GNo.mk rfl rfl hb_3) fun _ S=>?_
      refine OL.zn S (GNo.mk rfl rfl hb_3) fun _ S=>?_
      refine OL.zn S (GNo.mk rfl rfl hb_3) fun _ S=>?_
      refine OL.zn S (GNo.mk rfl rfl hb_3) fun _ S=>?_
      refine OL.zn S (GNo.mk rfl rfl hb_3) fun _ S=>?_
      refine OL.zn S (GNo.mk rfl rfl hb_3) fun _ S=>?_
      refine OL.zq S (Lf.run_pickT (S.ev rfl) hb_3 (S.ev rfl)) fun _ S=>?_
      refine OL.nil ?_
      exact⟨_,S.sub _ ⟨rfl,rfl,rfl,rfl,rfl,rfl,rfl,trivial⟩,H⟩
     ·
      replace H:=H.2 hb_3
      refine OL.zf (hg:=GOk.mk rfl rfl hb_3) S fa35_4 fun _ S=>?_
      obtain⟨x29,c_7,H⟩:=H
      refine OL.zl (hg:=GOk.mk rfl rfl hb_3) S fl25 c_7 fun _ S=>?_
      refine OL.zq (hg:=GOk.mk rfl rfl hb_3) S (Lf.run_lens (S.ev rfl) rfl Try.underlying25) fun _ S=>?_
      refine OL.zf (hg:=GOk.mk rfl rfl hb_3) S fa35_4 fun _ S=>?_
      obtain⟨x32,c_8,H⟩:=H
      refine OL.zl (hg:=GOk.mk rfl rfl hb_3) S fl25 c_8 fun _ S=>?_
      refine OL.zq (hg:=GOk.mk rfl rfl hb_3) S (Lf.run_lens (S.ev rfl) rfl Try.underlying25) fun _ S=>?_
      refine OL.zq (hg:=GOk.mk rfl rfl hb_3) S (Lf.run_eql (S.ev rfl) (S.ev rfl)) fun _ S=>?_
      refine OL.zq S (Lf.run_pickF (S.ev rfl) hb_3 (S.ev rfl)) fun _ S=>?_
      refine OL.nil ?_
      exact⟨_,S.sub _ ⟨rfl,rfl,rfl,rfl,rfl,rfl,rfl,trivial⟩,H⟩
    ·
     clear S
     rintro aa ww ⟨x35,S,HJ⟩
     replace H:=HK_2 _ HJ
     clear HK_2 HJ
     refine OL.zm S fun _ S=>?_
     obtain⟨J_3,H,HK_3⟩:=H
     refine OL.cutN 6 (fun aa ww=>∃x42 h3,St 43 ((42,Value.bool x42) :: [(2,Value.pointer (some p2)),(3,Value.pointer (some p3)),(24,Value.pointer (some p2)),(25,Value.int .i64 x25),(26,Value.bool (x25 != 5)),(27,Value.bool (x25 != 5)),(35,Value.bool x35),(36,Value.bool x35)]) h3 w0 aa ww∧J_3 x42 h3) ?_ ?_
     ·
      rcases Bool.eq_false_or_eq_true x35 with hb_4|hb_4
      ·
       replace H:=H.1 hb_4
       refine OL.zf (hg:=GOk.mk rfl rfl hb_4) S fa35_5 fun _ S=>?_
       obtain⟨x38,c_9,H⟩:=H
       refine OL.zl (hg:=GOk.mk rfl rfl hb_4) S fl24 c_9 fun _ S=>?_
       refine OL.zf (hg:=GOk.mk rfl rfl hb_4) S fa35_5 fun _ S=>?_
       obtain⟨x40,c_10,H⟩:=H
       refine OL.zl (hg:=GOk.mk rfl rfl hb_4) S fl24 c_10 fun _ S=>?_
       refine ol_cal S H isfn70 rfl rfl (GOk.mk rfl rfl hb_4) ?_
       clear S H;intro u aa ww h4 H S
       obtain⟨x41,rfl,H⟩:=H
       refine OL.zq S (Lf.run_pickT (S.ev rfl) hb_4 (S.ev rfl)) fun _ S=>?_
       refine OL.nil ?_
       exact⟨_,_,S.sub _ ⟨rfl,rfl,rfl,rfl,rfl,rfl,rfl,rfl,rfl,trivial⟩,H⟩
      ·
       replace H:=H.2 hb_4
       refine OL.zn S (GNo.mk rfl rfl hb_4) fun _ S=>?_
       refine OL.zn S (GNo.mk rfl rfl hb_4) fun _ S=>?_
       refine OL.zn S (GNo.mk rfl rfl hb_4) fun _ S=>?_
       refine OL.zn S (GNo.mk rfl rfl hb_4) fun _ S=>?_
       refine OL.zn S (GNo.mk rfl rfl hb_4) fun _ S=>?_
       refine OL.zq S (Lf.run_pickF (S.ev rfl) hb_4 (S.ev rfl)) fun _ S=>?_
       refine OL.nil ?_
       exact⟨_,_,S.sub _ ⟨rfl,rfl,rfl,rfl,rfl,rfl,rfl,rfl,rfl,trivial⟩,H⟩
     ·
      clear S
      rintro aa ww ⟨x42,h3,S,HJ⟩
      replace H:=HK_3 _ _ HJ
      clear HK_3 HJ
      refine OL.za S fun _ S=>?_
      refine OL.nil ?_
      refine W.ret ?_
      exact Ret.one S rfl rfl H
def L67 (p0:Option Addr) (a1:Int) (a1_1:ByteArray) (a1_2:Bool) (a1_3:Int) (a1_4:Sv) (a1_5:Sv) (b2:Int) (b2_1:ByteArray) (b2_2:Bool) (b2_3:Int) (b2_4:Sv) (b2_5:Sv) (way3:Int) (h:Heap) (R:Value→Heap→Prop):Prop:=
 new 35 #[Value.int .i64 a1,Value.string a1_1,Value.bool a1_2,Value.int .i64 a1_3,Value.slice a1_4.a a1_4.n a1_4.c,Value.slice a1_5.a a1_5.n a1_5.c] h fun p5 h1=>
 new 35 #[Value.int .i64 b2,Value.string b2_1,Value.bool b2_2,Value.int .i64 b2_3,Value.slice b2_4.a b2_4.n b2_4.c,Value.slice b2_5.a b2_5.n b2_5.c] h1 fun p6 h2=>
 ∃J:Int→Heap→Prop,(
  ldI .i64 h2 p5 fun x15=>
  ifb (x15 == 7) (
   ldI .i64 h2 (p5.add 3) fun x20=>
   ldI .i64 h2 (p6.add 3) fun x22=>
   cal Try.prog 71 #[Value.pointer p0,Value.int .i64 x20,Value.int .i64 x22,Value.int .i64 way3] h2 fun u h3=>
   ldB h3 (p5.add 2) fun x26=>
   ifb x26 (
    cal Try.prog 72 #[Value.int .i64 way3,Value.int .i64 3] h3 fun u_1 h4=>asI .i64 u_1 fun x28=>
    J x28 h4) (
    J way3 h3)) (
   ifb (x15 == 8) (
    ldI .i64 h2 (p5.add 3) fun x33=>
    ldI .i64 h2 (p6.add 3) fun x35=>
    cal Try.prog 71 #[Value.pointer p0,Value.int .i64 x33,Value.int .i64 x35,Value.int .i64 way3] h2 fun u_2 h5=>
    J way3 h5) (
    ifb (x15 == 5) (
     ldS h2 (p5.add 4) fun x41=>
     ldS h2 (p5.add 4) fun x44=>
     ∃(I:Int→Heap→Prop) (m:Int→Heap→Nat),I 0 h2∧∀x46 h6,I x46 h6 →
     ifb (decide (x46<((x44.n:Nat):Int))) (
      ∃Sq:Heap→Prop,Sq h6∧(
       nn p0 fun p62=>
       ldM h6 p62 fun x64=>
       ldT h6 (p5.add 1) fun x66=>
       hlS Sq (p5.add 4) fun x51=>
       ixS x51 x46 fun q53=>
       hlI .i64 Sq (q53.add ((x46:Int).toNat*1)) fun x54=>
       hlS Sq (p6.add 4) fun x56=>
       ixS x56 x46 fun q58=>
       hlI .i64 Sq (q58.add ((x46:Int).toNat*1)) fun x59=>
       cal Try.prog 73 #[Value.map x64,Value.string x66,Value.int .i64 x46] h6 fun u_3 h7=>asI .i64 u_3 fun x68=>
       Sq h7 ∧
       cal Try.prog 72 #[Value.int .i64 way3,Value.int .i64 x68] h7 fun u_4 h8=>asI .i64 u_4 fun x69=>
       Sq h8 ∧
       cal Try.prog 71 #[Value.pointer p0,Value.int .i64 x54,Value.int .i64 x59,Value.int .i64 x69] h8 fun u_5 h9=>
       I (IntKind.i64.wrap (x46+1)) h9∧m (IntKind.i64.wrap (x46+1)) h9<m x46 h6)) (
      ldS h6 (p5.add 5) fun x73=>
      ∃(I_1:Int→Heap→Prop) (m_1:Int→Heap→Nat),I_1 0 h6∧∀x75 h10,I_1 x75 h10 →
      ifb (decide (x75<((x73.n:Nat):Int))) (
       ∃Sq_1:Heap→Prop,Sq_1 h10∧(
        nn p0 fun p91=>
        ldM h10 p91 fun x93=>
        ldT h10 (p5.add 1) fun x95=>
        hlS Sq_1 (p5.add 5) fun x80=>
        ixS x80 x75 fun q82=>
        ∃(y83:Int) (y83_1:ByteArray) (y83_2:Bool) (y83_3:Int) (y83_4:Sv) (y83_5:Sv),hld Sq_1 (q82.add ((x75:Int).toNat*6)) (Value.int .i64 y83)∧hld Sq_1 ((q82.add ((x75:Int).toNat*6)).add 1) (Value.string y83_1)∧hld Sq_1 ((q82.add ((x75:Int).toNat*6)).add 2) (Value.bool y83_2)∧hld Sq_1 ((q82.add ((x75:Int).toNat*6)).add 3) (Value.int .i64 y83_3)∧hld Sq_1 ((q82.add ((x75:Int).toNat*6)).add 4) (Value.slice y83_4.a y83_4.n y83_4.c)∧hld Sq_1 ((q82.add ((x75:Int).toNat*6)).add 5) (Value.slice y83_5.a y83_5.n y83_5.c) ∧
        hlS Sq_1 (p6.add 5) fun x85=>
        ixS x85 x75 fun q87=>
        ∃(y88:Int) (y88_1:ByteArray) (y88_2:Bool) (y88_3:Int) (y88_4:Sv) (y88_5:Sv),hld Sq_1 (q87.add ((x75:Int).toNat*6)) (Value.int .i64 y88)∧hld Sq_1 ((q87.add ((x75:Int).toNat*6)).add 1) (Value.string y88_1)∧hld Sq_1 ((q87.add ((x75:Int).toNat*6)).add 2) (Value.bool y88_2)∧hld Sq_1 ((q87.add ((x75:Int).toNat*6)).add 3) (Value.int .i64 y88_3)∧hld Sq_1 ((q87.add ((x75:Int).toNat*6)).add 4) (Value.slice y88_4.a y88_4.n y88_4.c)∧hld Sq_1 ((q87.add ((x75:Int).toNat*6)).add 5) (Value.slice y88_5.a y88_5.n y88_5.c) ∧
        cal Try.prog 73 #[Value.map x93,Value.string x95,Value.int .i64 (IntKind.i64.wrap (((x41.n:Nat):Int)+x75))] h10 fun u_6 h11=>asI .i64 u_6 fun x99=>
        Sq_1 h11 ∧
        cal Try.prog 72 #[Value.int .i64 way3,Value.int .i64 x99] h11 fun u_7 h12=>asI .i64 u_7 fun x100=>
        Sq_1 h12 ∧
        cal Try.prog 67 #[Value.pointer p0,Value.agg #[Value.int .i64 y83,Value.string y83_1,Value.bool y83_2,Value.int .i64 y83_3,Value.slice y83_4.a y83_4.n y83_4.c,Value.slice y83_5.a y83_5.n y83_5.c],Value.agg #[Value.int .i64 y88,Value.string y88_1,Value.bool y88_2,Value.int .i64 y88_3,Value.slice y88_4.a y88_4.n y88_4.c,Value.slice y88_5.a y88_5.n y88_5.c],Value.int .i64 x100] h12 fun u_8 h13=>
        I_1 (IntKind.i64.wrap (x75+1)) h13∧m_1 (IntKind.i64.wrap (x75+1)) h13<m_1 x75 h10)) (
       R (.tuple #[]) h10))) (
     J way3 h2))))∧(∀inner8 h14,J inner8 h14 →
 ldS h14 (p5.add 5) fun x104=>
 ∃(I_2:Int→Heap→Prop) (m_2:Int→Heap→Nat),I_2 0 h14∧∀x106 h15,I_2 x106 h15 →
 ifb (decide (x106<((x104.n:Nat):Int))) (
  ldS h15 (p5.add 5) fun x111=>
  ixS x111 x106 fun q113=>
  ∃(y114:Int) (y114_1:ByteArray) (y114_2:Bool) (y114_3:Int) (y114_4:Sv) (y114_5:Sv),cl h15 (q113.add ((x106:Int).toNat*6))=some (Value.int .i64 y114)∧cl h15 ((q113.add ((x106:Int).toNat*6)).add 1)=some (Value.string y114_1)∧cl h15 ((q113.add ((x106:Int).toNat*6)).add 2)=some (Value.bool y114_2)∧cl h15 ((q113.add ((x106:Int).toNat*6)).add 3)=some (Value.int .i64 y114_3)∧cl h15 ((q113.add ((x106:Int).toNat*6)).add 4)=some (Value.slice y114_4.a y114_4.n y114_4.c)∧cl h15 ((q113.add ((x106:Int).toNat*6)).add 5)=some (Value.slice y114_5.a y114_5.n y114_5.c) ∧
  ldS h15 (p6.add 5) fun x116=>
  ixS x116 x106 fun q118=>
  ∃(y119:Int) (y119_1:ByteArray) (y119_2:Bool) (y119_3:Int) (y119_4:Sv) (y119_5:Sv),cl h15 (q118.add ((x106:Int).toNat*6))=some (Value.int .i64 y119)∧cl h15 ((q118.add ((x106:Int).toNat*6)).add 1)=some (Value.string y119_1)∧cl h15 ((q118.add ((x106:Int).toNat*6)).add 2)=some (Value.bool y119_2)∧cl h15 ((q118.add ((x106:Int).toNat*6)).add 3)=some (Value.int .i64 y119_3)∧cl h15 ((q118.add ((x106:Int).toNat*6)).add 4)=some (Value.slice y119_4.a y119_4.n y119_4.c)∧cl h15 ((q118.add ((x106:Int).toNat*6)).add 5)=some (Value.slice y119_5.a y119_5.n y119_5.c) ∧
  cal Try.prog 67 #[Value.pointer p0,Value.agg #[Value.int .i64 y114,Value.string y114_1,Value.bool y114_2,Value.int .i64 y114_3,Value.slice y114_4.a y114_4.n y114_4.c,Value.slice y114_5.a y114_5.n y114_5.c],Value.agg #[Value.int .i64 y119,Value.string y119_1,Value.bool y119_2,Value.int .i64 y119_3,Value.slice y119_4.a y119_4.n y119_4.c,Value.slice y119_5.a y119_5.n y119_5.c],Value.int .i64 inner8] h15 fun u_9 h16=>
  I_2 (IntKind.i64.wrap (x106+1)) h16∧m_2 (IntKind.i64.wrap (x106+1)) h16<m_2 x106 h15) (
  R (.tuple #[]) h15))
set_option maxRecDepth 100000 in
theorem F67 {p0 a1 a1_1 a1_2 a1_3 a1_4 a1_5 b2 b2_1 b2_2 b2_3 b2_4 b2_5 way3 h:_} {R:Value→Heap→Prop} (H:L67 p0 a1 a1_1 a1_2 a1_3 a1_4 a1_5 b2 b2_1 b2_2 b2_3 b2_4 b2_5 way3 h R):CallsH Try.prog 67 #[Value.pointer p0,Value.agg #[Value.int .i64 a1,Value.string a1_1,Value.bool a1_2,Value.int .i64 a1_3,Value.slice a1_4.a a1_4.n a1_4.c,Value.slice a1_5.a a1_5.n a1_5.c],Value.agg #[Value.int .i64 b2,Value.string b2_1,Value.bool b2_2,Value.int .i64 b2_3,Value.slice b2_4.a b2_4.n b2_4.c,Value.slice b2_5.a b2_5.n b2_5.c],Value.int .i64 way3] h R:=by
 refine CallsH.enter (n:=123) Try.func67 rfl rfl rfl rfl ?_
 intro w0 aa ww S
 unfold L67 at H
 refine W.seq ?_
 refine W.region ?_
 refine ol_box S H rfl rfl rfl trivial ?_
 clear S H;intro p5 aa ww h1 H S
 refine ol_box S H rfl rfl rfl trivial ?_
 clear S H;intro p6 aa ww h2 H S
 refine OL.nil ?_
 refine W.seq ?_
 refine W.region ?_
 refine OL.zm S fun _ S=>?_
 refine OL.za S fun _ S=>?_
 refine OL.nil ?_
 obtain⟨J,H,HK⟩:=H
 refine W.seqJ (fun aa ww=>∃inner8 h14,St 123 [(0,Value.pointer p0),(5,Value.pointer (some p5)),(6,Value.pointer (some p6)),(8,Value.int .i64 inner8)] h14 w0 aa ww∧J inner8 h14) ?_ ?_
 ·
  clear HK
  refine W.seq ?_
  refine W.region ?_
  refine OL.zf S fa35_0 fun _ S=>?_
  obtain⟨x15,c,H⟩:=H
  refine OL.zl S fl3 c fun _ S=>?_
  refine OL.nil ?_
  refine W.block ?_
  refine W.seq ?_
  refine W.region ?_
  refine OL.zq S (Lf.run_eql (S.ev rfl) (S.ev rfl)) fun _ S=>?_
  refine OL.za S fun _ S=>?_
  refine OL.nil ?_
  refine W.cond S (b:=(x15 == 7)) rfl (fun hb=>?_) (fun hb=>?_)
  ·
   replace H:=H.1 hb
   refine W.seq ?_
   refine W.region ?_
   refine OL.zm S fun _ S=>?_
   refine OL.zf S fa35_3 fun _ S=>?_
   obtain⟨x20,c_1,H⟩:=H
   refine OL.zl S fl3 c_1 fun _ S=>?_
   refine OL.zf S fa35_3 fun _ S=>?_
   obtain⟨x22,c_2,H⟩:=H
   refine OL.zl S fl3 c_2 fun _ S=>?_
   refine OL.zm S fun _ S=>?_
   refine ol_cal S H isfn71 rfl rfl trivial ?_
   clear S H;intro u aa ww h3 H S
   refine OL.nil ?_
   refine W.seq ?_
   refine W.region ?_
   refine OL.zf S fa35_2 fun _ S=>?_
   obtain⟨x26,c_3,H⟩:=H
   refine OL.zl S fl4 c_3 fun _ S=>?_
   refine OL.nil ?_
   refine W.cond S (b:=x26) rfl (fun hb_1=>?_) (fun hb_1=>?_)
   ·
    replace H:=H.1 hb_1
    refine W.region ?_
    refine OL.zm S fun _ S=>?_
    refine ol_cal S H isfn72 rfl rfl trivial ?_
    clear S H;intro u_1 aa ww h4 H S
    obtain⟨x28,rfl,H⟩:=H
    refine OL.za S fun _ S=>?_
    refine OL.nil ?_
    exact⟨x28,h4,S.sub _ ⟨rfl,rfl,rfl,rfl,trivial⟩,H⟩
   ·
    replace H:=H.2 hb_1
    refine W.skip ?_
    exact⟨way3,h3,S.sub _ ⟨rfl,rfl,rfl,rfl,trivial⟩,H⟩
  ·
   replace H:=H.2 hb
   refine W.seq ?_
   refine W.region ?_
   refine OL.zq S (Lf.run_eql (S.ev rfl) (S.ev rfl)) fun _ S=>?_
   refine OL.za S fun _ S=>?_
   refine OL.nil ?_
   refine W.cond S (b:=(x15 == 8)) rfl (fun hb_2=>?_) (fun hb_2=>?_)
   ·
    replace H:=H.1 hb_2
    refine W.region ?_
    refine OL.zm S fun _ S=>?_
    refine OL.zf S fa35_3 fun _ S=>?_
    obtain⟨x33,c_4,H⟩:=H
    refine OL.zl S fl3 c_4 fun _ S=>?_
    refine OL.zf S fa35_3 fun _ S=>?_
    obtain⟨x35,c_5,H⟩:=H
    refine OL.zl S fl3 c_5 fun _ S=>?_
    refine OL.zm S fun _ S=>?_
    refine ol_cal S H isfn71 rfl rfl trivial ?_
    clear S H;intro u_2 aa ww h5 H S
    refine OL.nil ?_
    exact⟨way3,h5,S.sub _ ⟨rfl,rfl,rfl,rfl,trivial⟩,H⟩
   ·
    replace H:=H.2 hb_2
    refine W.seq ?_
    refine W.region ?_
    refine OL.zq S (Lf.run_eql (S.ev rfl) (S.ev rfl)) fun _ S=>?_
    refine OL.za S fun _ S=>?_
    refine OL.nil ?_
    refine W.cond S (b:=(x15 == 5)) rfl (fun hb_3=>?_) (fun hb_3=>?_)
    ·
     replace H:=H.1 hb_3
     refine W.seq ?_
     refine W.region ?_
     refine OL.zf S fa35_4 fun _ S=>?_
     obtain⟨x41,c_6,H⟩:=H
     refine OL.zl S fl25 c_6 fun _ S=>?_
     refine OL.zq S (Lf.run_lens (S.ev rfl) rfl Try.underlying25) fun _ S=>?_
     refine OL.za S fun _ S=>?_
     refine OL.nil ?_
     refine W.seq ?_
     refine W.seq ?_
     refine W.region ?_
     refine OL.zf S fa35_4 fun _ S=>?_
     obtain⟨x44,c_7,H⟩:=H
     refine OL.zl S fl25 c_7 fun _ S=>?_
     refine OL.zq S (Lf.run_lens (S.ev rfl) rfl Try.underlying25) fun _ S=>?_
     refine OL.zm S fun _ S=>?_
     refine OL.nil ?_
     refine W.block ?_
     obtain⟨I,m,H,HB_1⟩:=H
     refine W.loopS (σ:=Int×Heap) (fun s aa ww=>St 123 [(0,Value.pointer p0),(3,Value.int .i64 way3),(5,Value.pointer (some p5)),(6,Value.pointer (some p6)),(9,Value.int .i64 ((x41.n:Nat):Int)),(45,Value.int .i64 ((x44.n:Nat):Int)),(46,Value.int .i64 s.1)] s.2 w0 aa ww∧I s.1 s.2) (fun s=>m s.1 s.2) (0,h2) ⟨S.sub _ ⟨rfl,rfl,rfl,rfl,rfl,rfl,rfl,trivial⟩,H⟩ ?_
     clear H S
     rintro ⟨x46,h6⟩ aa ww ⟨S,HI⟩
     replace S:St 123 [(0,Value.pointer p0),(3,Value.int .i64 way3),(5,Value.pointer (some p5)),(6,Value.pointer (some p6)),(9,Value.int .i64 ((x41.n:Nat):Int)),(45,Value.int .i64 ((x44.n:Nat):Int)),(46,Value.int .i64 x46)] h6 w0 aa ww:=S
     have H:=HB_1 x46 h6 HI
     clear HI
     refine W.seq ?_
     refine W.region ?_
     refine OL.zq S (Lf.run_lss (S.ev rfl) (S.ev rfl)) fun _ S=>?_
     refine OL.nil ?_
     refine W.seq ?_
     refine W.cond S (b:=(decide (x46<((x44.n:Nat):Int)))) rfl (fun hb_4=>?_) (fun hb_4=>?_)
     ·
      replace H:=H.1 hb_4
      refine W.skip ?_
      refine W.seq ?_
      refine W.block ?_
      refine W.seq ?_
      refine W.region ?_
      refine OL.zm S fun _ S=>?_
      refine OL.za S fun _ S=>?_
      refine OL.nil ?_
      replace S:=S.sub [(0,Value.pointer p0),(3,Value.int .i64 way3),(5,Value.pointer (some p5)),(6,Value.pointer (some p6)),(9,Value.int .i64 ((x41.n:Nat):Int)),(10,Value.int .i64 x46),(45,Value.int .i64 ((x44.n:Nat):Int)),(46,Value.int .i64 x46)] ⟨rfl,rfl,rfl,rfl,rfl,rfl,rfl,rfl,trivial⟩
      obtain⟨Sq,HS,H⟩:=H
      refine W.regionN [2,5,7,10] [19,20,21] Sq S (by kernel_rfl) ?_
      clear S;intro ww S
      refine BN.pure 0 S (fun _=>HS) rfl (by kernel_rfl) (by kernel_rfl) (fun _=>Lf.run_move (S.ev rfl)) rfl rfl trivial fun _ S=>?_
      refine BN.pure 1 S (fun _=>HS) rfl (by kernel_rfl) (by kernel_rfl) (fun _=>Lf.run_fa (S.ev rfl) fa35_4) rfl rfl trivial fun _ S=>?_
      refine BN.pure 3 S (fun _=>HS) rfl (by kernel_rfl) (by kernel_rfl) (fun _=>Lf.run_move (S.ev rfl)) rfl rfl trivial fun _ S=>?_
      refine BN.pure 6 S (fun _=>HS) rfl (by kernel_rfl) (by kernel_rfl) (fun _=>Lf.run_fa (S.ev rfl) fa35_4) rfl rfl trivial fun _ S=>?_
      refine BN.pure 8 S (fun _=>HS) rfl (by kernel_rfl) (by kernel_rfl) (fun _=>Lf.run_move (S.ev rfl)) rfl rfl trivial fun _ S=>?_
      refine BN.pure 11 S (fun _=>HS) rfl (by kernel_rfl) (by kernel_rfl) (fun _=>Lf.run_move (S.ev rfl)) rfl rfl trivial fun _ S=>?_
      refine BN.pure 12 S (fun _=>HS) rfl (by kernel_rfl) (by kernel_rfl) (fun _=>Lf.run_move (S.ev rfl)) rfl rfl trivial fun _ S=>?_
      obtain⟨p62,e,H⟩:=H
      refine BN.pure 13 S (fun _=>HS) rfl (by kernel_rfl) (by kernel_rfl) (fun _=>Lf.run_nc' (S.ev rfl) e) rfl rfl trivial fun _ S=>?_
      refine BN.pure 14 S (fun _=>HS) rfl (by kernel_rfl) (by kernel_rfl) (fun _=>Lf.run_fa (S.ev rfl) fa106_0) rfl rfl trivial fun _ S=>?_
      obtain⟨x64,c_8,H⟩:=H
      refine BN.load 15 S (fun _=>HS) rfl (by kernel_rfl) (by kernel_rfl) (fun _ hx=>Lf.run_ld (S.ev rfl) fl29 (hx.cell _ _ (S.cl c_8))) rfl rfl trivial fun _ S=>?_
      refine BN.pure 16 S (fun _=>HS) rfl (by kernel_rfl) (by kernel_rfl) (fun _=>Lf.run_fa (S.ev rfl) fa35_1) rfl rfl trivial fun _ S=>?_
      obtain⟨x66,c_9,H⟩:=H
      refine BN.load 17 S (fun _=>HS) rfl (by kernel_rfl) (by kernel_rfl) (fun _ hx=>Lf.run_ld (S.ev rfl) fl9 (hx.cell _ _ (S.cl c_9))) rfl rfl trivial fun _ S=>?_
      refine BN.pure 18 S (fun _=>HS) rfl (by kernel_rfl) (by kernel_rfl) (fun _=>Lf.run_move (S.ev rfl)) rfl rfl trivial fun _ S=>?_
      obtain⟨x51,c_10,H⟩:=H
      refine BN.held 2 S HS rfl (by kernel_rfl) (fun _ hq=>Lf.run_ld (S.ev rfl) fl25 (c_10 _ hq)) rfl rfl trivial fun _ S=>?_
      obtain⟨q53,e_1,e_2,e_3,H⟩:=H
      refine BN.pure 4 S (fun _=>HS) rfl (by kernel_rfl) (by kernel_rfl) (fun _=>Lf.run_ixs (S.ev rfl) (S.ev rfl) Try.underlying25 ti3 e_1 e_2 e_3) rfl rfl trivial fun _ S=>?_
      obtain⟨x54,c_11,H⟩:=H
      refine BN.held 5 S HS rfl (by kernel_rfl) (fun _ hq=>Lf.run_ld (S.ev rfl) fl3 (c_11 _ hq)) rfl rfl trivial fun _ S=>?_
      obtain⟨x56,c_12,H⟩:=H
      refine BN.held 7 S HS rfl (by kernel_rfl) (fun _ hq=>Lf.run_ld (S.ev rfl) fl25 (c_12 _ hq)) rfl rfl trivial fun _ S=>?_
      obtain⟨q58,e_4,e_5,e_6,H⟩:=H
      refine BN.pure 9 S (fun _=>HS) rfl (by kernel_rfl) (by kernel_rfl) (fun _=>Lf.run_ixs (S.ev rfl) (S.ev rfl) Try.underlying25 ti3 e_4 e_5 e_6) rfl rfl trivial fun _ S=>?_
      obtain⟨x59,c_13,H⟩:=H
      refine BN.held 10 S HS rfl (by kernel_rfl) (fun _ hq=>Lf.run_ld (S.ev rfl) fl3 (c_13 _ hq)) rfl rfl trivial fun _ S=>?_
      refine BN.eff 19 rfl (by kernel_rfl) ?_
      refine ol_cal S H isfn73 rfl rfl trivial ?_
      clear S H;intro u_3 aa ww h7 H S
      obtain⟨x68,rfl,H⟩:=H
      refine OL.nil ?_
      clear HS;obtain⟨HS,H⟩:=H
      refine⟨fun _=>by rw[S.heap];exact HS,?_⟩
      refine BN.eff 20 rfl (by kernel_rfl) ?_
      refine ol_cal S H isfn72 rfl rfl trivial ?_
      clear S H;intro u_4 aa ww h8 H S
      obtain⟨x69,rfl,H⟩:=H
      refine OL.nil ?_
      clear HS;obtain⟨HS,H⟩:=H
      refine⟨fun _=>by rw[S.heap];exact HS,?_⟩
      refine BN.eff 21 rfl (by kernel_rfl) ?_
      refine ol_cal S H isfn71 rfl rfl trivial ?_
      clear S H;intro u_5 aa ww h9 H S
      refine OL.nil ?_
      refine⟨noNeed (by kernel_rfl),?_⟩
      refine BN.done (by kernel_rfl) ?_
      refine W.region ?_
      refine OL.zq S (Lf.run_add (S.ev rfl) (S.ev rfl)) fun _ S=>?_
      refine OL.zm S fun _ S=>?_
      refine OL.nil ?_
      exact⟨((IntKind.i64.wrap (x46+1)),h9),⟨S.sub _ ⟨rfl,rfl,rfl,rfl,rfl,rfl,rfl,trivial⟩,H.1⟩,H.2⟩
     ·
      replace H:=H.2 hb_4
      refine W.exit_ ?_
      refine xhit ?_
      refine W.seq ?_
      refine W.seq ?_
      refine W.region ?_
      refine OL.zf S fa35_5 fun _ S=>?_
      obtain⟨x73,c_14,H⟩:=H
      refine OL.zl S fl24 c_14 fun _ S=>?_
      refine OL.zq S (Lf.run_lens (S.ev rfl) rfl Try.underlying24) fun _ S=>?_
      refine OL.zm S fun _ S=>?_
      refine OL.nil ?_
      refine W.block ?_
      obtain⟨I_1,m_1,H,HB⟩:=H
      refine W.loopS (σ:=Int×Heap) (fun s aa ww=>St 123 [(0,Value.pointer p0),(3,Value.int .i64 way3),(5,Value.pointer (some p5)),(6,Value.pointer (some p6)),(9,Value.int .i64 ((x41.n:Nat):Int)),(74,Value.int .i64 ((x73.n:Nat):Int)),(75,Value.int .i64 s.1)] s.2 w0 aa ww∧I_1 s.1 s.2) (fun s=>m_1 s.1 s.2) (0,h6) ⟨S.sub _ ⟨rfl,rfl,rfl,rfl,rfl,rfl,rfl,trivial⟩,H⟩ ?_
      clear H S
      rintro ⟨x75,h10⟩ aa ww ⟨S,HI⟩
      replace S:St 123 [(0,Value.pointer p0),(3,Value.int .i64 way3),(5,Value.pointer (some p5)),(6,Value.pointer (some p6)),(9,Value.int .i64 ((x41.n:Nat):Int)),(74,Value.int .i64 ((x73.n:Nat):Int)),(75,Value.int .i64 x75)] h10 w0 aa ww:=S
      have H:=HB x75 h10 HI
      clear HI
      refine W.seq ?_
      refine W.region ?_
      refine OL.zq S (Lf.run_lss (S.ev rfl) (S.ev rfl)) fun _ S=>?_
      refine OL.nil ?_
      refine W.seq ?_
      refine W.cond S (b:=(decide (x75<((x73.n:Nat):Int)))) rfl (fun hb_5=>?_) (fun hb_5=>?_)
      ·
       replace H:=H.1 hb_5
       refine W.skip ?_
       refine W.seq ?_
       refine W.block ?_
       refine W.seq ?_
       refine W.region ?_
       refine OL.zm S fun _ S=>?_
       refine OL.za S fun _ S=>?_
       refine OL.nil ?_
       replace S:=S.sub [(0,Value.pointer p0),(3,Value.int .i64 way3),(5,Value.pointer (some p5)),(6,Value.pointer (some p6)),(9,Value.int .i64 ((x41.n:Nat):Int)),(11,Value.int .i64 x75),(74,Value.int .i64 ((x73.n:Nat):Int)),(75,Value.int .i64 x75)] ⟨rfl,rfl,rfl,rfl,rfl,rfl,rfl,rfl,trivial⟩
       obtain⟨Sq_1,HS_1,H⟩:=H
       refine W.regionN [2,5,7,10] [21,22,23] Sq_1 S (by kernel_rfl) ?_
       clear S;intro ww S
       refine BN.pure 0 S (fun _=>HS_1) rfl (by kernel_rfl) (by kernel_rfl) (fun _=>Lf.run_move (S.ev rfl)) rfl rfl trivial fun _ S=>?_
       refine BN.pure 1 S (fun _=>HS_1) rfl (by kernel_rfl) (by kernel_rfl) (fun _=>Lf.run_fa (S.ev rfl) fa35_5) rfl rfl trivial fun _ S=>?_
       refine BN.pure 3 S (fun _=>HS_1) rfl (by kernel_rfl) (by kernel_rfl) (fun _=>Lf.run_move (S.ev rfl)) rfl rfl trivial fun _ S=>?_
       refine BN.pure 6 S (fun _=>HS_1) rfl (by kernel_rfl) (by kernel_rfl) (fun _=>Lf.run_fa (S.ev rfl) fa35_5) rfl rfl trivial fun _ S=>?_
       refine BN.pure 8 S (fun _=>HS_1) rfl (by kernel_rfl) (by kernel_rfl) (fun _=>Lf.run_move (S.ev rfl)) rfl rfl trivial fun _ S=>?_
       refine BN.pure 11 S (fun _=>HS_1) rfl (by kernel_rfl) (by kernel_rfl) (fun _=>Lf.run_move (S.ev rfl)) rfl rfl trivial fun _ S=>?_
       refine BN.pure 12 S (fun _=>HS_1) rfl (by kernel_rfl) (by kernel_rfl) (fun _=>Lf.run_move (S.ev rfl)) rfl rfl trivial fun _ S=>?_
       obtain⟨p91,e_7,H⟩:=H
       refine BN.pure 13 S (fun _=>HS_1) rfl (by kernel_rfl) (by kernel_rfl) (fun _=>Lf.run_nc' (S.ev rfl) e_7) rfl rfl trivial fun _ S=>?_
       refine BN.pure 14 S (fun _=>HS_1) rfl (by kernel_rfl) (by kernel_rfl) (fun _=>Lf.run_fa (S.ev rfl) fa106_0) rfl rfl trivial fun _ S=>?_
       obtain⟨x93,c_15,H⟩:=H
       refine BN.load 15 S (fun _=>HS_1) rfl (by kernel_rfl) (by kernel_rfl) (fun _ hx=>Lf.run_ld (S.ev rfl) fl29 (hx.cell _ _ (S.cl c_15))) rfl rfl trivial fun _ S=>?_
       refine BN.pure 16 S (fun _=>HS_1) rfl (by kernel_rfl) (by kernel_rfl) (fun _=>Lf.run_fa (S.ev rfl) fa35_1) rfl rfl trivial fun _ S=>?_
       obtain⟨x95,c_16,H⟩:=H
       refine BN.load 17 S (fun _=>HS_1) rfl (by kernel_rfl) (by kernel_rfl) (fun _ hx=>Lf.run_ld (S.ev rfl) fl9 (hx.cell _ _ (S.cl c_16))) rfl rfl trivial fun _ S=>?_
       refine BN.pure 18 S (fun _=>HS_1) rfl (by kernel_rfl) (by kernel_rfl) (fun _=>Lf.run_move (S.ev rfl)) rfl rfl trivial fun _ S=>?_
       refine BN.pure 19 S (fun _=>HS_1) rfl (by kernel_rfl) (by kernel_rfl) (fun _=>Lf.run_move (S.ev rfl)) rfl rfl trivial fun _ S=>?_
       refine BN.pure 20 S (fun _=>HS_1) rfl (by kernel_rfl) (by kernel_rfl) (fun _=>Lf.run_add (S.ev rfl) (S.ev rfl)) rfl rfl trivial fun _ S=>?_
       obtain⟨x80,c_17,H⟩:=H
       refine BN.held 2 S HS_1 rfl (by kernel_rfl) (fun _ hq=>Lf.run_ld (S.ev rfl) fl24 (c_17 _ hq)) rfl rfl trivial fun _ S=>?_
       obtain⟨q82,e_8,e_9,e_10,H⟩:=H
       refine BN.pure 4 S (fun _=>HS_1) rfl (by kernel_rfl) (by kernel_rfl) (fun _=>Lf.run_ixs (S.ev rfl) (S.ev rfl) Try.underlying24 ti35 e_8 e_9 e_10) rfl rfl trivial fun _ S=>?_
       obtain⟨y83,y83_1,y83_2,y83_3,y83_4,y83_5,c_27,c_28,c_29,c_30,c_31,c_32,H⟩:=H
       refine BN.held 5 S HS_1 rfl (by kernel_rfl) (fun _ hq=>Lf.run_ldA (cs:=[Value.int .i64 y83,Value.string y83_1,Value.bool y83_2,Value.int .i64 y83_3,Value.slice y83_4.a y83_4.n y83_4.c,Value.slice y83_5.a y83_5.n y83_5.c]) (S.ev rfl) ag35 ti35 (hlRow hq fun h_ hs_=>⟨c_27 h_ hs_,c_28 h_ hs_,c_29 h_ hs_,c_30 h_ hs_,c_31 h_ hs_,c_32 h_ hs_,trivial⟩)) rfl rfl trivial fun _ S=>?_
       obtain⟨x85,c_19,H⟩:=H
       refine BN.held 7 S HS_1 rfl (by kernel_rfl) (fun _ hq=>Lf.run_ld (S.ev rfl) fl24 (c_19 _ hq)) rfl rfl trivial fun _ S=>?_
       obtain⟨q87,e_11,e_12,e_13,H⟩:=H
       refine BN.pure 9 S (fun _=>HS_1) rfl (by kernel_rfl) (by kernel_rfl) (fun _=>Lf.run_ixs (S.ev rfl) (S.ev rfl) Try.underlying24 ti35 e_11 e_12 e_13) rfl rfl trivial fun _ S=>?_
       obtain⟨y88,y88_1,y88_2,y88_3,y88_4,y88_5,c_21,c_22,c_23,c_24,c_25,c_26,H⟩:=H
       refine BN.held 10 S HS_1 rfl (by kernel_rfl) (fun _ hq=>Lf.run_ldA (cs:=[Value.int .i64 y88,Value.string y88_1,Value.bool y88_2,Value.int .i64 y88_3,Value.slice y88_4.a y88_4.n y88_4.c,Value.slice y88_5.a y88_5.n y88_5.c]) (S.ev rfl) ag35 ti35 (hlRow hq fun h_ hs_=>⟨c_21 h_ hs_,c_22 h_ hs_,c_23 h_ hs_,c_24 h_ hs_,c_25 h_ hs_,c_26 h_ hs_,trivial⟩)) rfl rfl trivial fun _ S=>?_
       refine BN.eff 21 rfl (by kernel_rfl) ?_
       refine ol_cal S H isfn73 rfl rfl trivial ?_
       clear S H;intro u_6 aa ww h11 H S
       obtain⟨x99,rfl,H⟩:=H
       refine OL.nil ?_
       clear HS_1;obtain⟨HS_1,H⟩:=H
       refine⟨fun _=>by rw[S.heap];exact HS_1,?_⟩
       refine BN.eff 22 rfl (by kernel_rfl) ?_
       refine ol_cal S H isfn72 rfl rfl trivial ?_
       clear S H;intro u_7 aa ww h12 H S
       obtain⟨x100,rfl,H⟩:=H
       refine OL.nil ?_
       clear HS_1;obtain⟨HS_1,H⟩:=H
       refine⟨fun _=>by rw[S.heap];exact HS_1,?_⟩
       refine BN.eff 23 rfl (by kernel_rfl) ?_
       refine ol_cal S H isfn67 rfl rfl trivial ?_
       clear S H;intro u_8 aa ww h13 H S
       refine OL.nil ?_
       refine⟨noNeed (by kernel_rfl),?_⟩
       refine BN.done (by kernel_rfl) ?_
       refine W.region ?_
       refine OL.zq S (Lf.run_add (S.ev rfl) (S.ev rfl)) fun _ S=>?_
       refine OL.zm S fun _ S=>?_
       refine OL.nil ?_
       exact⟨((IntKind.i64.wrap (x75+1)),h13),⟨S.sub _ ⟨rfl,rfl,rfl,rfl,rfl,rfl,rfl,trivial⟩,H.1⟩,H.2⟩
      ·
       replace H:=H.2 hb_5
       refine W.exit_ ?_
       refine xhit ?_
       refine W.ret ?_
       exact Ret.none S rfl H
    ·
     replace H:=H.2 hb_3
     refine W.skip ?_
     exact⟨way3,h2,S.sub _ ⟨rfl,rfl,rfl,rfl,trivial⟩,H⟩
 ·
  clear H S
  rintro aa ww ⟨inner8,h14,S,HJ⟩
  have H:=HK _ _ HJ
  clear HK HJ
  refine W.seq ?_
  refine W.region ?_
  refine OL.zf S fa35_5 fun _ S=>?_
  obtain⟨x104,c_33,H⟩:=H
  refine OL.zl S fl24 c_33 fun _ S=>?_
  refine OL.zq S (Lf.run_lens (S.ev rfl) rfl Try.underlying24) fun _ S=>?_
  refine OL.zm S fun _ S=>?_
  refine OL.nil ?_
  refine W.block ?_
  obtain⟨I_2,m_2,H,HB_2⟩:=H
  refine W.loopS (σ:=Int×Heap) (fun s aa ww=>St 123 [(0,Value.pointer p0),(5,Value.pointer (some p5)),(6,Value.pointer (some p6)),(8,Value.int .i64 inner8),(105,Value.int .i64 ((x104.n:Nat):Int)),(106,Value.int .i64 s.1)] s.2 w0 aa ww∧I_2 s.1 s.2) (fun s=>m_2 s.1 s.2) (0,h14) ⟨S.sub _ ⟨rfl,rfl,rfl,rfl,rfl,rfl,trivial⟩,H⟩ ?_
  clear H S
  rintro ⟨x106,h15⟩ aa ww ⟨S,HI⟩
  replace S:St 123 [(0,Value.pointer p0),(5,Value.pointer (some p5)),(6,Value.pointer (some p6)),(8,Value.int .i64 inner8),(105,Value.int .i64 ((x104.n:Nat):Int)),(106,Value.int .i64 x106)] h15 w0 aa ww:=S
  have H:=HB_2 x106 h15 HI
  clear HI
  refine W.seq ?_
  refine W.region ?_
  refine OL.zq S (Lf.run_lss (S.ev rfl) (S.ev rfl)) fun _ S=>?_
  refine OL.nil ?_
  refine W.seq ?_
  refine W.cond S (b:=(decide (x106<((x104.n:Nat):Int)))) rfl (fun hb_6=>?_) (fun hb_6=>?_)
  ·
   replace H:=H.1 hb_6
   refine W.skip ?_
   refine W.seq ?_
   refine W.block ?_
   refine W.seq ?_
   refine W.region ?_
   refine OL.zm S fun _ S=>?_
   refine OL.za S fun _ S=>?_
   refine OL.nil ?_
   replace S:=S.sub [(0,Value.pointer p0),(5,Value.pointer (some p5)),(6,Value.pointer (some p6)),(8,Value.int .i64 inner8),(12,Value.int .i64 x106),(105,Value.int .i64 ((x104.n:Nat):Int)),(106,Value.int .i64 x106)] ⟨rfl,rfl,rfl,rfl,rfl,rfl,rfl,trivial⟩
   refine W.regionD S (by kernel_rfl) ?_
   clear S;intro ww S
   refine AN.zq 0 S rfl (fun _=>Lf.run_move (S.ev rfl)) fun _ S=>?_
   refine AN.zq 1 S rfl (fun _=>Lf.run_fa (S.ev rfl) fa35_5) fun _ S=>?_
   obtain⟨x111,c_34,H⟩:=H
   refine AN.zl 2 S rfl (fun _ hx=>Lf.run_ld (S.ev rfl) fl24 (hx.cell _ _ (S.cl c_34))) fun _ S=>?_
   refine AN.zq 3 S rfl (fun _=>Lf.run_move (S.ev rfl)) fun _ S=>?_
   obtain⟨q113,e_14,e_15,e_16,H⟩:=H
   refine AN.zq 4 S rfl (fun _=>Lf.run_ixs (S.ev rfl) (S.ev rfl) Try.underlying24 ti35 e_14 e_15 e_16) fun _ S=>?_
   obtain⟨y114,y114_1,y114_2,y114_3,y114_4,y114_5,c_44,c_45,c_46,c_47,c_48,c_49,H⟩:=H
   refine AN.zl 5 S rfl (fun _ hx=>Lf.run_ldA (cs:=[Value.int .i64 y114,Value.string y114_1,Value.bool y114_2,Value.int .i64 y114_3,Value.slice y114_4.a y114_4.n y114_4.c,Value.slice y114_5.a y114_5.n y114_5.c]) (S.ev rfl) ag35 ti35 (hx.row (S.row ⟨c_44,c_45,c_46,c_47,c_48,c_49,trivial⟩))) fun _ S=>?_
   refine AN.zq 6 S rfl (fun _=>Lf.run_fa (S.ev rfl) fa35_5) fun _ S=>?_
   obtain⟨x116,c_36,H⟩:=H
   refine AN.zl 7 S rfl (fun _ hx=>Lf.run_ld (S.ev rfl) fl24 (hx.cell _ _ (S.cl c_36))) fun _ S=>?_
   refine AN.zq 8 S rfl (fun _=>Lf.run_move (S.ev rfl)) fun _ S=>?_
   obtain⟨q118,e_17,e_18,e_19,H⟩:=H
   refine AN.zq 9 S rfl (fun _=>Lf.run_ixs (S.ev rfl) (S.ev rfl) Try.underlying24 ti35 e_17 e_18 e_19) fun _ S=>?_
   obtain⟨y119,y119_1,y119_2,y119_3,y119_4,y119_5,c_38,c_39,c_40,c_41,c_42,c_43,H⟩:=H
   refine AN.zl 10 S rfl (fun _ hx=>Lf.run_ldA (cs:=[Value.int .i64 y119,Value.string y119_1,Value.bool y119_2,Value.int .i64 y119_3,Value.slice y119_4.a y119_4.n y119_4.c,Value.slice y119_5.a y119_5.n y119_5.c]) (S.ev rfl) ag35 ti35 (hx.row (S.row ⟨c_38,c_39,c_40,c_41,c_42,c_43,trivial⟩))) fun _ S=>?_
   refine AN.zq 11 S rfl (fun _=>Lf.run_move (S.ev rfl)) fun _ S=>?_
   refine AN.eff 12 rfl (by kernel_rfl) ?_
   refine ol_cal S H isfn67 rfl rfl trivial ?_
   clear S H;intro u_9 aa ww h16 H S
   refine OL.nil ?_
   refine AN.done (by kernel_rfl) ?_
   refine W.region ?_
   refine OL.zq S (Lf.run_add (S.ev rfl) (S.ev rfl)) fun _ S=>?_
   refine OL.zm S fun _ S=>?_
   refine OL.nil ?_
   exact⟨((IntKind.i64.wrap (x106+1)),h16),⟨S.sub _ ⟨rfl,rfl,rfl,rfl,rfl,rfl,trivial⟩,H.1⟩,H.2⟩
  ·
   replace H:=H.2 hb_6
   refine W.exit_ ?_
   refine xhit ?_
   exact Ret.none S rfl H
def L68 (s0:Sv) (h:Heap) (R:Value→Heap→Prop):Prop:=
 ifb (Option.isNone s0.a) (
  R (Value.slice (⟨none,0,0⟩:Sv).a (⟨none,0,0⟩:Sv).n (⟨none,0,0⟩:Sv).c) h) (
  newS 3 #[] 0 h fun s5 h1=>
  appS 3 (Value.int .i64 0).cells 1 8 h1 s5 s0 fun s7 h2=>
  R (Value.slice s7.a s7.n s7.c) h2)
set_option maxRecDepth 100000 in
theorem F68 {s0 h:_} {R:Value→Heap→Prop} (H:L68 s0 h R):CallsH Try.prog 68 #[Value.slice s0.a s0.n s0.c] h R:=by
 refine CallsH.enter (n:=8) Try.func68 rfl rfl rfl rfl ?_
 intro w0 aa ww S
 unfold L68 at H
 refine W.seq ?_
 refine W.region ?_
 refine OL.za S fun _ S=>?_
 refine OL.nil ?_
 refine W.seq ?_
 refine W.seq ?_
 refine W.region ?_
 refine OL.zm S fun _ S=>?_
 refine OL.zq S (Lf.run_eqlsn Try.underlying25 (S.ev rfl) (S.ev rfl)) fun _ S=>?_
 refine OL.nil ?_
 refine W.cond S (b:=(Option.isNone s0.a)) rfl (fun hb=>?_) (fun hb=>?_)
 ·
  replace H:=H.1 hb
  refine W.seq ?_
  refine W.region ?_
  refine OL.za S fun _ S=>?_
  refine OL.nil ?_
  refine W.ret ?_
  exact Ret.one S rfl rfl H
 ·
  replace H:=H.2 hb
  refine W.skip ?_
  refine W.seq ?_
  refine W.region ?_
  refine ol_newS0 S H Try.underlying25 ti3 rfl rfl trivial ?_
  clear S H;intro s5 aa ww h1 H S
  refine OL.zm S fun _ S=>?_
  refine ol_appS S H Try.underlying25 ti3 rfl rfl rfl trivial ?_
  clear S H;intro s7 aa ww h2 H S
  refine OL.za S fun _ S=>?_
  refine OL.nil ?_
  refine W.ret ?_
  exact Ret.one S rfl rfl H
def L69 (s0:Sv) (v1:Int) (h:Heap) (R:Value→Heap→Prop):Prop:=
 cal Try.prog 74 #[Value.slice s0.a s0.n s0.c,Value.int .i64 v1] h fun u h1=>asI .i64 u fun x7=>
 R (Value.bool (decide (0≤x7))) h1
set_option maxRecDepth 100000 in
theorem F69 {s0 v1 h:_} {R:Value→Heap→Prop} (H:L69 s0 v1 h R):CallsH Try.prog 69 #[Value.slice s0.a s0.n s0.c,Value.int .i64 v1] h R:=by
 refine CallsH.enter (n:=9) Try.func69 rfl rfl rfl rfl ?_
 intro w0 aa ww S
 unfold L69 at H
 refine W.seq ?_
 refine W.region ?_
 refine OL.za S fun _ S=>?_
 refine OL.nil ?_
 refine W.seq ?_
 refine W.region ?_
 refine OL.zm S fun _ S=>?_
 refine OL.zm S fun _ S=>?_
 refine ol_cal S H isfn74 rfl rfl trivial ?_
 clear S H;intro u aa ww h1 H S
 obtain⟨x7,rfl,H⟩:=H
 refine OL.zq S (Lf.run_geq (S.ev rfl) (S.ev rfl)) fun _ S=>?_
 refine OL.za S fun _ S=>?_
 refine OL.nil ?_
 refine W.ret ?_
 exact Ret.one S rfl rfl H
def L70 (s10:Sv) (s21:Sv) (eq2:Value) (h:Heap) (R:Value→Heap→Prop):Prop:=
 ifb (((s10.n:Nat):Int) != ((s21.n:Nat):Int)) (
  R (Value.bool false) h) (
  ∃(I:Int→Heap→Prop) (m:Int→Heap→Nat),I 0 h∧∀x17 h1,I x17 h1 →
  ifb (decide (x17<((s10.n:Nat):Int))) (
   ixS s10 x17 fun q20=>
   ∃(y21:Int) (y21_1:ByteArray) (y21_2:Bool) (y21_3:Int) (y21_4:Sv) (y21_5:Sv),cl h1 (q20.add ((x17:Int).toNat*6))=some (Value.int .i64 y21)∧cl h1 ((q20.add ((x17:Int).toNat*6)).add 1)=some (Value.string y21_1)∧cl h1 ((q20.add ((x17:Int).toNat*6)).add 2)=some (Value.bool y21_2)∧cl h1 ((q20.add ((x17:Int).toNat*6)).add 3)=some (Value.int .i64 y21_3)∧cl h1 ((q20.add ((x17:Int).toNat*6)).add 4)=some (Value.slice y21_4.a y21_4.n y21_4.c)∧cl h1 ((q20.add ((x17:Int).toNat*6)).add 5)=some (Value.slice y21_5.a y21_5.n y21_5.c) ∧
   new 35 #[Value.int .i64 0,Value.string (⟨#[]⟩:ByteArray),Value.bool false,Value.int .i64 0,Value.slice (⟨none,0,0⟩:Sv).a (⟨none,0,0⟩:Sv).n (⟨none,0,0⟩:Sv).c,Value.slice (⟨none,0,0⟩:Sv).a (⟨none,0,0⟩:Sv).n (⟨none,0,0⟩:Sv).c] h1 fun p8 h2=>
   stoA h2 p8 [Value.int .i64 y21,Value.string y21_1,Value.bool y21_2,Value.int .i64 y21_3,Value.slice y21_4.a y21_4.n y21_4.c,Value.slice y21_5.a y21_5.n y21_5.c] fun h3=>
   ixS s21 x17 fun q24=>
   ∃(y25:Int) (y25_1:ByteArray) (y25_2:Bool) (y25_3:Int) (y25_4:Sv) (y25_5:Sv),cl h3 (q24.add ((x17:Int).toNat*6))=some (Value.int .i64 y25)∧cl h3 ((q24.add ((x17:Int).toNat*6)).add 1)=some (Value.string y25_1)∧cl h3 ((q24.add ((x17:Int).toNat*6)).add 2)=some (Value.bool y25_2)∧cl h3 ((q24.add ((x17:Int).toNat*6)).add 3)=some (Value.int .i64 y25_3)∧cl h3 ((q24.add ((x17:Int).toNat*6)).add 4)=some (Value.slice y25_4.a y25_4.n y25_4.c)∧cl h3 ((q24.add ((x17:Int).toNat*6)).add 5)=some (Value.slice y25_5.a y25_5.n y25_5.c) ∧
   new 35 #[Value.int .i64 0,Value.string (⟨#[]⟩:ByteArray),Value.bool false,Value.int .i64 0,Value.slice (⟨none,0,0⟩:Sv).a (⟨none,0,0⟩:Sv).n (⟨none,0,0⟩:Sv).c,Value.slice (⟨none,0,0⟩:Sv).a (⟨none,0,0⟩:Sv).n (⟨none,0,0⟩:Sv).c] h3 fun p9 h4=>
   stoA h4 p9 [Value.int .i64 y25,Value.string y25_1,Value.bool y25_2,Value.int .i64 y25_3,Value.slice y25_4.a y25_4.n y25_4.c,Value.slice y25_5.a y25_5.n y25_5.c] fun h5=>
   ∃(y27:Int) (y27_1:ByteArray) (y27_2:Bool) (y27_3:Int) (y27_4:Sv) (y27_5:Sv),cl h5 p8=some (Value.int .i64 y27)∧cl h5 (p8.add 1)=some (Value.string y27_1)∧cl h5 (p8.add 2)=some (Value.bool y27_2)∧cl h5 (p8.add 3)=some (Value.int .i64 y27_3)∧cl h5 (p8.add 4)=some (Value.slice y27_4.a y27_4.n y27_4.c)∧cl h5 (p8.add 5)=some (Value.slice y27_5.a y27_5.n y27_5.c) ∧
   ∃(y28:Int) (y28_1:ByteArray) (y28_2:Bool) (y28_3:Int) (y28_4:Sv) (y28_5:Sv),cl h5 p9=some (Value.int .i64 y28)∧cl h5 (p9.add 1)=some (Value.string y28_1)∧cl h5 (p9.add 2)=some (Value.bool y28_2)∧cl h5 (p9.add 3)=some (Value.int .i64 y28_3)∧cl h5 (p9.add 4)=some (Value.slice y28_4.a y28_4.n y28_4.c)∧cl h5 (p9.add 5)=some (Value.slice y28_5.a y28_5.n y28_5.c) ∧
   calV Try.prog eq2 #[Value.agg #[Value.int .i64 y27,Value.string y27_1,Value.bool y27_2,Value.int .i64 y27_3,Value.slice y27_4.a y27_4.n y27_4.c,Value.slice y27_5.a y27_5.n y27_5.c],Value.agg #[Value.int .i64 y28,Value.string y28_1,Value.bool y28_2,Value.int .i64 y28_3,Value.slice y28_4.a y28_4.n y28_4.c,Value.slice y28_5.a y28_5.n y28_5.c]] h5 fun u h6=>asB u fun x29=>
   ifb (!x29) (
    R (Value.bool false) h6) (
    I (IntKind.i64.wrap (x17+1)) h6∧m (IntKind.i64.wrap (x17+1)) h6<m x17 h1)) (
   R (Value.bool true) h1))
set_option maxRecDepth 100000 in
theorem F70 {s10 s21 eq2 h:_} {R:Value→Heap→Prop} (H:L70 s10 s21 eq2 h R):CallsH Try.prog 70 #[Value.slice s10.a s10.n s10.c,Value.slice s21.a s21.n s21.c,eq2] h R:=by
 refine CallsH.enter (n:=32) Try.func70 rfl rfl rfl rfl ?_
 intro w0 aa ww S
 unfold L70 at H
 refine W.seq ?_
 refine W.region ?_
 refine OL.za S fun _ S=>?_
 refine OL.nil ?_
 refine W.seq ?_
 refine W.seq ?_
 refine W.region ?_
 refine OL.zm S fun _ S=>?_
 refine OL.zq S (Lf.run_lens (S.ev rfl) rfl Try.underlying24) fun _ S=>?_
 refine OL.zm S fun _ S=>?_
 refine OL.zq S (Lf.run_lens (S.ev rfl) rfl Try.underlying24) fun _ S=>?_
 refine OL.zq S (Lf.run_neq (S.ev rfl) (S.ev rfl)) fun _ S=>?_
 refine OL.nil ?_
 refine W.cond S (b:=(((s10.n:Nat):Int) != ((s21.n:Nat):Int))) rfl (fun hb=>?_) (fun hb=>?_)
 ·
  replace H:=H.1 hb
  refine W.seq ?_
  refine W.region ?_
  refine OL.za S fun _ S=>?_
  refine OL.nil ?_
  refine W.ret ?_
  exact Ret.one S rfl rfl H
 ·
  replace H:=H.2 hb
  refine W.skip ?_
  refine W.seq ?_
  refine W.seq ?_
  refine W.region ?_
  refine OL.zm S fun _ S=>?_
  refine OL.zq S (Lf.run_lens (S.ev rfl) rfl Try.underlying24) fun _ S=>?_
  refine OL.zm S fun _ S=>?_
  refine OL.nil ?_
  refine W.block ?_
  obtain⟨I,m,H,HB⟩:=H
  refine W.loopS (σ:=Int×Heap) (fun s aa ww=>St 32 [(1,Value.slice s21.a s21.n s21.c),(2,eq2),(15,Value.slice s10.a s10.n s10.c),(16,Value.int .i64 ((s10.n:Nat):Int)),(17,Value.int .i64 s.1)] s.2 w0 aa ww∧I s.1 s.2) (fun s=>m s.1 s.2) (0,h) ⟨S.sub _ ⟨rfl,rfl,rfl,rfl,rfl,trivial⟩,H⟩ ?_
  clear H S
  rintro ⟨x17,h1⟩ aa ww ⟨S,HI⟩
  replace S:St 32 [(1,Value.slice s21.a s21.n s21.c),(2,eq2),(15,Value.slice s10.a s10.n s10.c),(16,Value.int .i64 ((s10.n:Nat):Int)),(17,Value.int .i64 x17)] h1 w0 aa ww:=S
  have H:=HB x17 h1 HI
  clear HI
  refine W.seq ?_
  refine W.region ?_
  refine OL.zq S (Lf.run_lss (S.ev rfl) (S.ev rfl)) fun _ S=>?_
  refine OL.nil ?_
  refine W.seq ?_
  refine W.cond S (b:=(decide (x17<((s10.n:Nat):Int)))) rfl (fun hb_1=>?_) (fun hb_1=>?_)
  ·
   replace H:=H.1 hb_1
   refine W.skip ?_
   refine W.seq ?_
   refine W.block ?_
   refine W.seq ?_
   refine W.region ?_
   refine OL.zm S fun _ S=>?_
   obtain⟨q20,e,e_1,e_2,H⟩:=H
   refine OL.zq S (Lf.run_ixs (S.ev rfl) (S.ev rfl) Try.underlying24 ti35 e e_1 e_2) fun _ S=>?_
   obtain⟨y21,y21_1,y21_2,y21_3,y21_4,y21_5,c_22,c_23,c_24,c_25,c_26,c_27,H⟩:=H
   refine OL.zq S (Lf.run_ldA (cs:=[Value.int .i64 y21,Value.string y21_1,Value.bool y21_2,Value.int .i64 y21_3,Value.slice y21_4.a y21_4.n y21_4.c,Value.slice y21_5.a y21_5.n y21_5.c]) (S.ev rfl) ag35 ti35 (by rw[S.heap];exact RowL.toRow ⟨c_22,c_23,c_24,c_25,c_26,c_27,trivial⟩)) fun _ S=>?_
   refine ol_alloc S H ti35 rfl rfl trivial ?_
   clear S H;intro p8 aa ww h2 H S
   refine OL.za S fun _ S=>?_
   refine ol_stoA S H rfl rfl ti35 trivial ?_
   clear S H;intro aa ww h3 H S
   refine OL.nil ?_
   refine W.seq ?_
   refine W.region ?_
   refine OL.zm S fun _ S=>?_
   refine OL.zm S fun _ S=>?_
   obtain⟨q24,e_3,e_4,e_5,H⟩:=H
   refine OL.zq S (Lf.run_ixs (S.ev rfl) (S.ev rfl) Try.underlying24 ti35 e_3 e_4 e_5) fun _ S=>?_
   obtain⟨y25,y25_1,y25_2,y25_3,y25_4,y25_5,c_16,c_17,c_18,c_19,c_20,c_21,H⟩:=H
   refine OL.zq S (Lf.run_ldA (cs:=[Value.int .i64 y25,Value.string y25_1,Value.bool y25_2,Value.int .i64 y25_3,Value.slice y25_4.a y25_4.n y25_4.c,Value.slice y25_5.a y25_5.n y25_5.c]) (S.ev rfl) ag35 ti35 (by rw[S.heap];exact RowL.toRow ⟨c_16,c_17,c_18,c_19,c_20,c_21,trivial⟩)) fun _ S=>?_
   refine ol_alloc S H ti35 rfl rfl trivial ?_
   clear S H;intro p9 aa ww h4 H S
   refine ol_stoA S H rfl rfl ti35 trivial ?_
   clear S H;intro aa ww h5 H S
   refine OL.nil ?_
   refine W.seq ?_
   refine W.region ?_
   refine OL.zm S fun _ S=>?_
   obtain⟨y27,y27_1,y27_2,y27_3,y27_4,y27_5,c_10,c_11,c_12,c_13,c_14,c_15,H⟩:=H
   refine OL.zq S (Lf.run_ldA (cs:=[Value.int .i64 y27,Value.string y27_1,Value.bool y27_2,Value.int .i64 y27_3,Value.slice y27_4.a y27_4.n y27_4.c,Value.slice y27_5.a y27_5.n y27_5.c]) (S.ev rfl) ag35 ti35 (by rw[S.heap];exact RowL.toRow ⟨c_10,c_11,c_12,c_13,c_14,c_15,trivial⟩)) fun _ S=>?_
   obtain⟨y28,y28_1,y28_2,y28_3,y28_4,y28_5,c_4,c_5,c_6,c_7,c_8,c_9,H⟩:=H
   refine OL.zq S (Lf.run_ldA (cs:=[Value.int .i64 y28,Value.string y28_1,Value.bool y28_2,Value.int .i64 y28_3,Value.slice y28_4.a y28_4.n y28_4.c,Value.slice y28_5.a y28_5.n y28_5.c]) (S.ev rfl) ag35 ti35 (by rw[S.heap];exact RowL.toRow ⟨c_4,c_5,c_6,c_7,c_8,c_9,trivial⟩)) fun _ S=>?_
   refine ol_calV S H rfl rfl rfl trivial ?_
   clear S H;intro u aa ww h6 H S
   obtain⟨x29,rfl,H⟩:=H
   refine OL.zq S (Lf.run_not (S.ev rfl)) fun _ S=>?_
   refine OL.nil ?_
   refine W.cond S (b:=(!x29)) rfl (fun hb_2=>?_) (fun hb_2=>?_)
   ·
    replace H:=H.1 hb_2
    refine W.seq ?_
    refine W.region ?_
    refine OL.za S fun _ S=>?_
    refine OL.nil ?_
    refine W.ret ?_
    exact Ret.one S rfl rfl H
   ·
    replace H:=H.2 hb_2
    refine W.skip ?_
    refine W.region ?_
    refine OL.zq S (Lf.run_add (S.ev rfl) (S.ev rfl)) fun _ S=>?_
    refine OL.zm S fun _ S=>?_
    refine OL.nil ?_
    exact⟨((IntKind.i64.wrap (x17+1)),h6),⟨S.sub _ ⟨rfl,rfl,rfl,rfl,rfl,trivial⟩,H.1⟩,H.2⟩
  ·
   replace H:=H.2 hb_1
   refine W.exit_ ?_
   refine xhit ?_
   refine W.seq ?_
   refine W.region ?_
   refine OL.za S fun _ S=>?_
   refine OL.nil ?_
   refine W.ret ?_
   exact Ret.one S rfl rfl H
def L71 (p0:Option Addr) (a1:Int) (b2:Int) (way3:Int) (h:Heap) (R:Value→Heap→Prop):Prop:=
 ∃J:Heap→Prop,(
  ifb ((bitsI .and .i64 way3 1) != 0) (
   nn p0 fun p13=>
   ldS h (p13.add 1) fun x15=>
   newS 56 #[Value.int .i64 a1,Value.int .i64 b2] 1 h fun s19 h1=>
   appS 56 (Value.agg #[Value.int .i64 0,Value.int .i64 0]).cells 2 16 h1 x15 s19 fun s20 h2=>
   nn p0 fun p21=>
   sto h2 (p21.add 1) (Value.slice s20.a s20.n s20.c) fun h3=>
   J h3) (
   J h))∧(∀h4,J h4 →
 ifb ((bitsI .and .i64 way3 2) != 0) (
  nn p0 fun p28=>
  ldS h4 (p28.add 1) fun x30=>
  newS 56 #[Value.int .i64 b2,Value.int .i64 a1] 1 h4 fun s34 h5=>
  appS 56 (Value.agg #[Value.int .i64 0,Value.int .i64 0]).cells 2 16 h5 x30 s34 fun s35 h6=>
  nn p0 fun p36=>
  sto h6 (p36.add 1) (Value.slice s35.a s35.n s35.c) fun h7=>
  R (.tuple #[]) h7) (
  R (.tuple #[]) h4))
set_option maxRecDepth 100000 in
theorem F71 {p0 a1 b2 way3 h:_} {R:Value→Heap→Prop} (H:L71 p0 a1 b2 way3 h R):CallsH Try.prog 71 #[Value.pointer p0,Value.int .i64 a1,Value.int .i64 b2,Value.int .i64 way3] h R:=by
 refine CallsH.enter (n:=38) Try.func71 rfl rfl rfl rfl ?_
 intro w0 aa ww S
 unfold L71 at H
 obtain⟨J,H,HK⟩:=H
 refine W.seqJ (fun aa ww=>∃h4,St 38 [(0,Value.pointer p0),(1,Value.int .i64 a1),(2,Value.int .i64 b2),(3,Value.int .i64 way3)] h4 w0 aa ww∧J h4) ?_ ?_
 ·
  clear HK
  refine W.seq ?_
  refine W.region ?_
  refine OL.zm S fun _ S=>?_
  refine OL.zq S (Lf.run_bits (op:=.and) (by simp) (S.ev rfl) (S.ev rfl)) fun _ S=>?_
  refine OL.zq S (Lf.run_neq (S.ev rfl) (S.ev rfl)) fun _ S=>?_
  refine OL.nil ?_
  refine W.cond S (b:=((bitsI .and .i64 way3 1) != 0)) rfl (fun hb=>?_) (fun hb=>?_)
  ·
   replace H:=H.1 hb
   refine W.region ?_
   refine OL.zm S fun _ S=>?_
   refine OL.zm S fun _ S=>?_
   obtain⟨p13,e,H⟩:=H
   refine OL.zq S (Lf.run_nc' (S.ev rfl) e) fun _ S=>?_
   refine OL.zf S fa106_1 fun _ S=>?_
   obtain⟨x15,c,H⟩:=H
   refine OL.zl S fl22 c fun _ S=>?_
   refine OL.zm S fun _ S=>?_
   refine OL.zm S fun _ S=>?_
   refine OL.zq S (Lf.run_buildArr (cs:=#[Value.int .i64 a1,Value.int .i64 b2]) Try.underlying56 ti3 ti56 (parts_map S rfl) (by kernel_rfl)) fun _ S=>?_
   refine ol_newS S H Try.underlying22 ti56 (by decide) (parts_map S rfl) (by kernel_rfl) (by decide) rfl trivial ?_
   clear S H;intro s19 aa ww h1 H S
   refine ol_appS S H Try.underlying22 ti56 rfl rfl rfl trivial ?_
   clear S H;intro s20 aa ww h2 H S
   obtain⟨p21,e_1,H⟩:=H
   refine OL.zq S (Lf.run_nc' (S.ev rfl) e_1) fun _ S=>?_
   refine OL.zf S fa106_1 fun _ S=>?_
   refine ol_sto S H rfl rfl rfl ti22 trivial ?_
   clear S H;intro aa ww h3 H S
   refine OL.nil ?_
   exact⟨h3,S.sub _ ⟨rfl,rfl,rfl,rfl,trivial⟩,H⟩
  ·
   replace H:=H.2 hb
   refine W.skip ?_
   exact⟨h,S.sub _ ⟨rfl,rfl,rfl,rfl,trivial⟩,H⟩
 ·
  clear H S
  rintro aa ww ⟨h4,S,HJ⟩
  have H:=HK _ HJ
  clear HK HJ
  refine W.seq ?_
  refine W.region ?_
  refine OL.zm S fun _ S=>?_
  refine OL.zq S (Lf.run_bits (op:=.and) (by simp) (S.ev rfl) (S.ev rfl)) fun _ S=>?_
  refine OL.zq S (Lf.run_neq (S.ev rfl) (S.ev rfl)) fun _ S=>?_
  refine OL.nil ?_
  refine W.cond S (b:=((bitsI .and .i64 way3 2) != 0)) rfl (fun hb_1=>?_) (fun hb_1=>?_)
  ·
   replace H:=H.1 hb_1
   refine W.region ?_
   refine OL.zm S fun _ S=>?_
   refine OL.zm S fun _ S=>?_
   obtain⟨p28,e_2,H⟩:=H
   refine OL.zq S (Lf.run_nc' (S.ev rfl) e_2) fun _ S=>?_
   refine OL.zf S fa106_1 fun _ S=>?_
   obtain⟨x30,c_1,H⟩:=H
   refine OL.zl S fl22 c_1 fun _ S=>?_
   refine OL.zm S fun _ S=>?_
   refine OL.zm S fun _ S=>?_
   refine OL.zq S (Lf.run_buildArr (cs:=#[Value.int .i64 b2,Value.int .i64 a1]) Try.underlying56 ti3 ti56 (parts_map S rfl) (by kernel_rfl)) fun _ S=>?_
   refine ol_newS S H Try.underlying22 ti56 (by decide) (parts_map S rfl) (by kernel_rfl) (by decide) rfl trivial ?_
   clear S H;intro s34 aa ww h5 H S
   refine ol_appS S H Try.underlying22 ti56 rfl rfl rfl trivial ?_
   clear S H;intro s35 aa ww h6 H S
   obtain⟨p36,e_3,H⟩:=H
   refine OL.zq S (Lf.run_nc' (S.ev rfl) e_3) fun _ S=>?_
   refine OL.zf S fa106_1 fun _ S=>?_
   refine ol_sto S H rfl rfl rfl ti22 trivial ?_
   clear S H;intro aa ww h7 H S
   refine OL.nil ?_
   exact Ret.none S rfl H
  ·
   replace H:=H.2 hb_1
   refine W.skip ?_
   exact Ret.none S rfl H
def L72 (outer0:Int) (inner1:Int) (h:Heap) (R:Value→Heap→Prop):Prop:=
 ifb ((outer0 == 0) || (inner1 == 0)) (
  R (Value.int .i64 0) h) (
  ifb (outer0 == 1) (
   R (Value.int .i64 (bitsI .and .i64 inner1 3)) h) (
   ifb ((outer0 == 3) || (inner1 == 3)) (
    R (Value.int .i64 3) h) (
    ifb (outer0 == inner1) (
     R (Value.int .i64 1) h) (
     R (Value.int .i64 2) h))))
set_option maxRecDepth 100000 in
theorem F72 {outer0 inner1 h:_} {R:Value→Heap→Prop} (H:L72 outer0 inner1 h R):CallsH Try.prog 72 #[Value.int .i64 outer0,Value.int .i64 inner1] h R:=by
 refine CallsH.enter (n:=28) Try.func72 rfl rfl rfl rfl ?_
 intro w0 aa ww S
 unfold L72 at H
 refine W.seq ?_
 refine W.region ?_
 refine OL.za S fun _ S=>?_
 refine OL.nil ?_
 refine W.seq ?_
 refine W.block ?_
 refine W.seq ?_
 refine W.region ?_
 refine OL.zm S fun _ S=>?_
 refine OL.zq S (Lf.run_eql (S.ev rfl) (S.ev rfl)) fun _ S=>?_
 refine OL.zm S fun _ S=>?_
 refine OL.cutN 3 (fun aa ww=>St 28 ((11,Value.bool ((outer0 == 0) || (inner1 == 0))) :: [(0,Value.int .i64 outer0),(1,Value.int .i64 inner1),(6,Value.int .i64 outer0),(7,Value.bool (outer0 == 0)),(8,Value.bool (outer0 == 0))]) h w0 aa ww) ?_ ?_
 ·
  rcases Bool.eq_false_or_eq_true (outer0 == 0) with hb|hb
  ·
   refine OL.zn S (GNo.mk rfl rfl hb) fun _ S=>?_
   refine OL.zn S (GNo.mk rfl rfl hb) fun _ S=>?_
   refine OL.zq S (Lf.run_pickT (S.ev rfl) hb (S.ev rfl)) fun _ S=>?_
   refine OL.nil ?_
   exact (S.hd (by rw[hb,Bool.true_or])).sub _ ⟨rfl,rfl,rfl,rfl,rfl,rfl,trivial⟩
  ·
   refine OL.zm (hg:=GOk.mk rfl rfl hb) S fun _ S=>?_
   refine OL.zq (hg:=GOk.mk rfl rfl hb) S (Lf.run_eql (S.ev rfl) (S.ev rfl)) fun _ S=>?_
   refine OL.zq S (Lf.run_pickF (S.ev rfl) hb (S.ev rfl)) fun _ S=>?_
   refine OL.nil ?_
   exact (S.hd (by rw[hb,Bool.false_or])).sub _ ⟨rfl,rfl,rfl,rfl,rfl,rfl,trivial⟩
 ·
  clear S
  intro aa ww S
  refine OL.za S fun _ S=>?_
  refine OL.nil ?_
  refine W.cond S (b:=((outer0 == 0) || (inner1 == 0))) rfl (fun hb_1=>?_) (fun hb_1=>?_)
  ·
   replace H:=H.1 hb_1
   refine W.seq ?_
   refine W.region ?_
   refine OL.za S fun _ S=>?_
   refine OL.nil ?_
   refine W.ret ?_
   exact Ret.one S rfl rfl H
  ·
   replace H:=H.2 hb_1
   refine W.seq ?_
   refine W.region ?_
   refine OL.zm S fun _ S=>?_
   refine OL.zq S (Lf.run_eql (S.ev rfl) (S.ev rfl)) fun _ S=>?_
   refine OL.za S fun _ S=>?_
   refine OL.nil ?_
   refine W.cond S (b:=(outer0 == 1)) rfl (fun hb_2=>?_) (fun hb_2=>?_)
   ·
    replace H:=H.1 hb_2
    refine W.seq ?_
    refine W.region ?_
    refine OL.zm S fun _ S=>?_
    refine OL.zq S (Lf.run_bits (op:=.and) (by simp) (S.ev rfl) (S.ev rfl)) fun _ S=>?_
    refine OL.za S fun _ S=>?_
    refine OL.nil ?_
    refine W.ret ?_
    exact Ret.one S rfl rfl H
   ·
    replace H:=H.2 hb_2
    refine W.seq ?_
    refine W.region ?_
    refine OL.zm S fun _ S=>?_
    refine OL.zq S (Lf.run_eql (S.ev rfl) (S.ev rfl)) fun _ S=>?_
    refine OL.zm S fun _ S=>?_
    refine OL.cutN 3 (fun aa ww=>St 28 ((23,Value.bool ((outer0 == 3) || (inner1 == 3))) :: [(0,Value.int .i64 outer0),(1,Value.int .i64 inner1),(18,Value.int .i64 outer0),(19,Value.bool (outer0 == 3)),(20,Value.bool (outer0 == 3))]) h w0 aa ww) ?_ ?_
    ·
     rcases Bool.eq_false_or_eq_true (outer0 == 3) with hb_3|hb_3
     ·
      refine OL.zn S (GNo.mk rfl rfl hb_3) fun _ S=>?_
      refine OL.zn S (GNo.mk rfl rfl hb_3) fun _ S=>?_
      refine OL.zq S (Lf.run_pickT (S.ev rfl) hb_3 (S.ev rfl)) fun _ S=>?_
      refine OL.nil ?_
      exact (S.hd (by rw[hb_3,Bool.true_or])).sub _ ⟨rfl,rfl,rfl,rfl,rfl,rfl,trivial⟩
     ·
      refine OL.zm (hg:=GOk.mk rfl rfl hb_3) S fun _ S=>?_
      refine OL.zq (hg:=GOk.mk rfl rfl hb_3) S (Lf.run_eql (S.ev rfl) (S.ev rfl)) fun _ S=>?_
      refine OL.zq S (Lf.run_pickF (S.ev rfl) hb_3 (S.ev rfl)) fun _ S=>?_
      refine OL.nil ?_
      exact (S.hd (by rw[hb_3,Bool.false_or])).sub _ ⟨rfl,rfl,rfl,rfl,rfl,rfl,trivial⟩
    ·
     clear S
     intro aa ww S
     refine OL.za S fun _ S=>?_
     refine OL.nil ?_
     refine W.cond S (b:=((outer0 == 3) || (inner1 == 3))) rfl (fun hb_4=>?_) (fun hb_4=>?_)
     ·
      replace H:=H.1 hb_4
      refine W.seq ?_
      refine W.region ?_
      refine OL.za S fun _ S=>?_
      refine OL.nil ?_
      refine W.ret ?_
      exact Ret.one S rfl rfl H
     ·
      replace H:=H.2 hb_4
      refine W.seq ?_
      refine W.region ?_
      refine OL.zm S fun _ S=>?_
      refine OL.zm S fun _ S=>?_
      refine OL.zq S (Lf.run_eql (S.ev rfl) (S.ev rfl)) fun _ S=>?_
      refine OL.za S fun _ S=>?_
      refine OL.nil ?_
      refine W.cond S (b:=(outer0 == inner1)) rfl (fun hb_5=>?_) (fun hb_5=>?_)
      ·
       replace H:=H.1 hb_5
       refine W.seq ?_
       refine W.region ?_
       refine OL.za S fun _ S=>?_
       refine OL.nil ?_
       refine W.ret ?_
       exact Ret.one S rfl rfl H
      ·
       replace H:=H.2 hb_5
       refine W.skip ?_
       refine W.seq ?_
       refine W.region ?_
       refine OL.za S fun _ S=>?_
       refine OL.nil ?_
       refine W.ret ?_
       exact Ret.one S rfl rfl H
def L73 (vw0:Option Nat) (name1:ByteArray) (slot2:Int) (h:Heap) (R:Value→Heap→Prop):Prop:=
 lkS h (Value.map vw0) name1 (Value.slice (⟨none,0,0⟩:Sv).a (⟨none,0,0⟩:Sv).n (⟨none,0,0⟩:Sv).c) fun u=>asS u fun x10=>
 ifb ((decide (slot2<0)) || (decide (((x10.n:Nat):Int)≤slot2))) (
  R (Value.int .i64 3) h) (
  ixS x10 slot2 fun q21=>
  ldI .i64 h (q21.add ((slot2:Int).toNat*1)) fun x22=>
  R (Value.int .i64 x22) h)
set_option maxRecDepth 100000 in
theorem F73 {vw0 name1 slot2 h:_} {R:Value→Heap→Prop} (H:L73 vw0 name1 slot2 h R):CallsH Try.prog 73 #[Value.map vw0,Value.string name1,Value.int .i64 slot2] h R:=by
 refine CallsH.enter (n:=23) Try.func73 rfl rfl rfl rfl ?_
 intro w0 aa ww S
 unfold L73 at H
 refine W.seq ?_
 refine W.region ?_
 refine OL.za S fun _ S=>?_
 refine OL.nil ?_
 refine W.seq ?_
 refine W.region ?_
 refine OL.zm S fun _ S=>?_
 refine OL.zm S fun _ S=>?_
 refine ol_lkS S H Try.underlying29 Try.underlying9 ti25 rfl rfl rfl trivial ?_
 clear S H;intro u aa H S
 obtain⟨x10,rfl,H⟩:=H
 refine OL.za S fun _ S=>?_
 refine OL.nil ?_
 refine W.seq ?_
 refine W.seq ?_
 refine W.region ?_
 refine OL.zm S fun _ S=>?_
 refine OL.zq S (Lf.run_lss (S.ev rfl) (S.ev rfl)) fun _ S=>?_
 refine OL.zm S fun _ S=>?_
 refine OL.cutN 5 (fun aa ww=>St 23 ((18,Value.bool ((decide (slot2<0)) || (decide (((x10.n:Nat):Int)≤slot2)))) :: [(2,Value.int .i64 slot2),(7,Value.slice x10.a x10.n x10.c),(11,Value.int .i64 slot2),(12,Value.bool (decide (slot2<0))),(13,Value.bool (decide (slot2<0)))]) h w0 aa ww) ?_ ?_
 ·
  rcases Bool.eq_false_or_eq_true (decide (slot2<0)) with hb|hb
  ·
   refine OL.zn S (GNo.mk rfl rfl hb) fun _ S=>?_
   refine OL.zn S (GNo.mk rfl rfl hb) fun _ S=>?_
   refine OL.zn S (GNo.mk rfl rfl hb) fun _ S=>?_
   refine OL.zn S (GNo.mk rfl rfl hb) fun _ S=>?_
   refine OL.zq S (Lf.run_pickT (S.ev rfl) hb (S.ev rfl)) fun _ S=>?_
   refine OL.nil ?_
   exact (S.hd (by rw[hb,Bool.true_or])).sub _ ⟨rfl,rfl,rfl,rfl,rfl,rfl,trivial⟩
  ·
   refine OL.zm (hg:=GOk.mk rfl rfl hb) S fun _ S=>?_
   refine OL.zm (hg:=GOk.mk rfl rfl hb) S fun _ S=>?_
   refine OL.zq (hg:=GOk.mk rfl rfl hb) S (Lf.run_lens (S.ev rfl) rfl Try.underlying25) fun _ S=>?_
   refine OL.zq (hg:=GOk.mk rfl rfl hb) S (Lf.run_geq (S.ev rfl) (S.ev rfl)) fun _ S=>?_
   refine OL.zq S (Lf.run_pickF (S.ev rfl) hb (S.ev rfl)) fun _ S=>?_
   refine OL.nil ?_
   exact (S.hd (by rw[hb,Bool.false_or])).sub _ ⟨rfl,rfl,rfl,rfl,rfl,rfl,trivial⟩
 ·
  clear S
  intro aa ww S
  refine OL.nil ?_
  refine W.cond S (b:=((decide (slot2<0)) || (decide (((x10.n:Nat):Int)≤slot2)))) rfl (fun hb_1=>?_) (fun hb_1=>?_)
  ·
   replace H:=H.1 hb_1
   refine W.seq ?_
   refine W.region ?_
   refine OL.za S fun _ S=>?_
   refine OL.nil ?_
   refine W.ret ?_
   exact Ret.one S rfl rfl H
  ·
   replace H:=H.2 hb_1
   refine W.skip ?_
   refine W.seq ?_
   refine W.region ?_
   refine OL.zm S fun _ S=>?_
   refine OL.zm S fun _ S=>?_
   obtain⟨q21,e,e_1,e_2,H⟩:=H
   refine OL.zq S (Lf.run_ixs (S.ev rfl) (S.ev rfl) Try.underlying25 ti3 e e_1 e_2) fun _ S=>?_
   obtain⟨x22,c,H⟩:=H
   refine OL.zl S fl3 c fun _ S=>?_
   refine OL.za S fun _ S=>?_
   refine OL.nil ?_
   refine W.ret ?_
   exact Ret.one S rfl rfl H
def L74 (s0:Sv) (v1:Int) (h:Heap) (R:Value→Heap→Prop):Prop:=
 ∃(I:Int→Prop) (m:Int→Nat),I 0∧∀x8,I x8 →
 ifb (decide (x8<((s0.n:Nat):Int))) (
  ixS s0 x8 fun q14=>
  ldI .i64 h (q14.add ((x8:Int).toNat*1)) fun x15=>
  ifb (v1 == x15) (
   R (Value.int .i64 x8) h) (
   I (IntKind.i64.wrap (x8+1))∧m (IntKind.i64.wrap (x8+1))<m x8)) (
  R (Value.int .i64 (-1)) h)
set_option maxRecDepth 100000 in
theorem F74 {s0 v1 h:_} {R:Value→Heap→Prop} (H:L74 s0 v1 h R):CallsH Try.prog 74 #[Value.slice s0.a s0.n s0.c,Value.int .i64 v1] h R:=by
 refine CallsH.enter (n:=19) Try.func74 rfl rfl rfl rfl ?_
 intro w0 aa ww S
 unfold L74 at H
 refine W.seq ?_
 refine W.region ?_
 refine OL.za S fun _ S=>?_
 refine OL.nil ?_
 refine W.seq ?_
 refine W.seq ?_
 refine W.region ?_
 refine OL.zm S fun _ S=>?_
 refine OL.zq S (Lf.run_lens (S.ev rfl) rfl Try.underlying25) fun _ S=>?_
 refine OL.zm S fun _ S=>?_
 refine OL.nil ?_
 refine W.block ?_
 obtain⟨I,m,H,HB⟩:=H
 refine W.loopS (σ:=Int) (fun s aa ww=>St 19 [(0,Value.slice s0.a s0.n s0.c),(1,Value.int .i64 v1),(7,Value.int .i64 ((s0.n:Nat):Int)),(8,Value.int .i64 s)] h w0 aa ww∧I s) (fun s=>m s) (0) ⟨S.sub _ ⟨rfl,rfl,rfl,rfl,trivial⟩,H⟩ ?_
 clear H S
 rintro x8 aa ww ⟨S,HI⟩
 replace S:St 19 [(0,Value.slice s0.a s0.n s0.c),(1,Value.int .i64 v1),(7,Value.int .i64 ((s0.n:Nat):Int)),(8,Value.int .i64 x8)] h w0 aa ww:=S
 have H:=HB x8 HI
 clear HI
 refine W.seq ?_
 refine W.region ?_
 refine OL.zq S (Lf.run_lss (S.ev rfl) (S.ev rfl)) fun _ S=>?_
 refine OL.nil ?_
 refine W.seq ?_
 refine W.cond S (b:=(decide (x8<((s0.n:Nat):Int)))) rfl (fun hb=>?_) (fun hb=>?_)
 ·
  replace H:=H.1 hb
  refine W.skip ?_
  refine W.seq ?_
  refine W.block ?_
  refine W.seq ?_
  refine W.region ?_
  refine OL.zm S fun _ S=>?_
  refine OL.za S fun _ S=>?_
  refine OL.nil ?_
  refine W.seq ?_
  refine W.region ?_
  refine OL.zm S fun _ S=>?_
  refine OL.zm S fun _ S=>?_
  refine OL.zm S fun _ S=>?_
  obtain⟨q14,e,e_1,e_2,H⟩:=H
  refine OL.zq S (Lf.run_ixs (S.ev rfl) (S.ev rfl) Try.underlying25 ti3 e e_1 e_2) fun _ S=>?_
  obtain⟨x15,c,H⟩:=H
  refine OL.zl S fl3 c fun _ S=>?_
  refine OL.zq S (Lf.run_eql (S.ev rfl) (S.ev rfl)) fun _ S=>?_
  refine OL.nil ?_
  refine W.cond S (b:=(v1 == x15)) rfl (fun hb_1=>?_) (fun hb_1=>?_)
  ·
   replace H:=H.1 hb_1
   refine W.seq ?_
   refine W.region ?_
   refine OL.zm S fun _ S=>?_
   refine OL.za S fun _ S=>?_
   refine OL.nil ?_
   refine W.ret ?_
   exact Ret.one S rfl rfl H
  ·
   replace H:=H.2 hb_1
   refine W.skip ?_
   refine W.region ?_
   refine OL.zq S (Lf.run_add (S.ev rfl) (S.ev rfl)) fun _ S=>?_
   refine OL.zm S fun _ S=>?_
   refine OL.nil ?_
   exact⟨((IntKind.i64.wrap (x8+1))),⟨S.sub _ ⟨rfl,rfl,rfl,rfl,trivial⟩,H.1⟩,H.2⟩
 ·
  replace H:=H.2 hb
  refine W.exit_ ?_
  refine xhit ?_
  refine W.seq ?_
  refine W.region ?_
  refine OL.za S fun _ S=>?_
  refine OL.nil ?_
  refine W.ret ?_
  exact Ret.one S rfl rfl H
end Go.Proofs.Yteofligmdngdgaa
namespace Go.Proofs.Yteofligmdngdgaa
open Go Go.Lf
set_option linter.unusedVariables false
def small:Nat→Ty→Bool
 | 0,_=>false
 | d+1,.mk _ nm _ _ rs az=>decide (az.length≤4) && decide (rs.length≤6) && decide (nm.size≤60) && az.all (small d)
theorem wrap_succ {i n:Nat} (hi:i<n) (hn:n≤4611686018427387904):IntKind.i64.wrap ((i:Int)+1)=((i+1:Nat):Int):=by rw[wrap64_id (by omega) (by omega)];rfl
section
variable {Q:Nat→Prop} {h:Heap}
theorem small_spec:∀(d:Nat) (_:d≤100) (t:Ty) (v:Tv) (h:Heap),TyAt Q h t v→CallsH Try.prog 18 #[.agg (tvs v),.int .i64 d] h (fun x h'=>Grow h h'∧x=.bool (small d t)):=by
 intro d
 induction d with
 | zero=>
  intro _ t v h hv
  apply F18
  unfold L18
  refine new6 (v:=v) fun h1 b1 f1 _=>?_
  refine⟨fun x=>x=true,⟨fun _=>rfl,fun e=>(by cases e)⟩,?_⟩
  rintro _ rfl
  refine⟨fun x=>x=true,⟨fun _=>rfl,fun e=>(by cases e)⟩,?_⟩
  rintro _ rfl
  refine⟨fun x=>x=true,⟨fun _=>rfl,fun e=>(by cases e)⟩,?_⟩
  rintro _ rfl
  exact⟨fun _=>⟨f1,by cases t;rfl⟩,fun e=>(by cases e)⟩
 | succ d ih=>
  intro hd t v h hv
  obtain⟨k,nm,mu,r,rs,az⟩:=t
  apply F18
  unfold L18
  have hv0:=hv
  rw[tyAt_iff] at hv
  obtain⟨e1,e2,e3,e4,e5,e6,e7⟩:=hv
  refine new6 (v:=v) fun h1 b1 f1 _=>?_
  have T6:=Tv6.blk b1
  have hd0:(((d+1:Nat):Int) == 0)=false:=by simp;omega
  refine⟨fun x=>x=decide (4<az.length),⟨fun e=>(by rw[hd0] at e;cases e),fun _=>⟨_,T6.2.2.2.2.2,?_⟩⟩,?_⟩
  ·dsimp only;rw[e6,Bool.eq_iff_iff];simp;omega
  rintro _ rfl
  refine⟨fun x=>x=(decide (4<az.length) || decide (6<rs.length)),⟨fun e=>(by rw[e];rfl),fun e=>⟨_,T6.2.2.2.2.1,?_⟩⟩,?_⟩
  ·dsimp only;rw[e,e5.len,Bool.eq_iff_iff];simp;omega
  rintro _ rfl
  refine⟨fun x=>x=(decide (4<az.length) || decide (6<rs.length) || decide (60<nm.size)),⟨fun e=>(by rw[e];rfl),fun e=>⟨_,T6.2.1,?_⟩⟩,?_⟩
  ·dsimp only;rw[e,e2,Bool.eq_iff_iff];simp;omega
  rintro _ rfl
  have hs:small (d+1) (.mk k nm mu r rs az)=(!(decide (4<az.length) || decide (6<rs.length) || decide (60<nm.size)) && az.all (small d)):=by
   show (decide (az.length≤4) && decide (rs.length≤6) && decide (nm.size≤60) && az.all (small d))=_
   congr 1
   rw[Bool.eq_iff_iff]
   simp
  refine⟨fun e=>⟨f1,by rw[hs,e];rfl⟩,fun e=>?_⟩
  have has:az.length≤4:=by
   simp only[Bool.or_eq_false_iff,decide_eq_false_iff_not] at e
   omega
  refine⟨fun i h'=>∃j:Nat,i=j∧j≤az.length∧Grow h1 h'∧(az.take j).all (small d)=true,fun i _=>az.length - i.toNat,⟨0,rfl,Nat.zero_le _,Fr.refl _ _,rfl⟩,?_⟩
  rintro _ h2 ⟨j,rfl,hj,f2,ha⟩
  have T6':=T6.fr f2 (fun h=>h)
  refine⟨_,T6'.2.2.2.2.2,?_⟩
  dsimp only
  rw[e6]
  refine ifb_iff (q:=j<az.length) (by simp) (fun hl=>?_) (fun hl=>?_)
  ·refine⟨_,T6'.2.2.2.2.2,?_⟩
   refine args_get (hv0.grow (f1.trans f2)) hl fun u hu=>?_
   have hw:IntKind.i64.wrap (((d+1:Nat):Int) - 1)=(d:Int):=by rw[wrap64_id (by omega) (by omega)];omega
   rw[hw]
   refine cal_of (ih (by omega) _ _ _ hu) ?_
   rintro _ h3 ⟨f3,rfl⟩
   have hall:(az.take (j+1)).all (small d)=small d az[j]:=by
    rw[List.take_add_one,List.getElem?_eq_getElem hl,List.all_append,ha];simp
   refine⟨_,rfl,fun e'=>⟨f1.trans (f2.trans f3),?_⟩,fun e'=>?_⟩
   ·rw[hs,e]
    have:small d az[j]=false:=by simpa using e'
    congr 1
    symm
    rw[Bool.not_false,Bool.true_and,List.all_eq_false]
    exact⟨_,List.getElem_mem hl,by rw[this];simp⟩
   ·have:small d az[j]=true:=by simpa using e'
    rw[wrap_succ hl (by omega)]
    exact⟨⟨j+1,rfl,hl,f2.trans f3,by rw[hall,this]⟩,by simp;omega⟩
  ·refine⟨f1.trans f2,?_⟩
   have:j=az.length:=by omega
   subst this
   rw[List.take_length] at ha
   rw[hs,e,ha]
   rfl
def sameA (S:Ty→Ty→Bool):List Ty→List Ty→Bool
 | [],[]=>true
 | a :: az,b :: bs=>S a b && sameA S az bs
 | _,_=>false
noncomputable def same:Ty→Ty→Bool:=
 Ty.rec (motive_1:=fun _=>Ty→Bool) (motive_2:=fun _=>List Ty→Bool)
  (fun k nm mu _ rs _ ih b=>match b with
   | .mk k' nm' mu' _ rs' az'=>!((k != k') || (nm.toList != nm'.toList) || (mu != mu')) && ((k != 5 || rs.length == rs'.length) && ih az'))
  (fun bs=>match bs with|[]=>true|_=>false)
  (fun _ _ ih1 ih2 bs=>match bs with|[]=>false|b :: bs=>ih1 b && ih2 bs)
theorem same_rec (az:List Ty) (bs:List Ty):(Ty.rec_1 (motive_1:=fun _=>Ty→Bool) (motive_2:=fun _=>List Ty→Bool)
  (fun k nm mu _ rs _ ih b=>match b with
   | .mk k' nm' mu' _ rs' az'=>!((k != k') || (nm.toList != nm'.toList) || (mu != mu')) && ((k != 5 || rs.length == rs'.length) && ih az'))
  (fun bs=>match bs with|[]=>true|_=>false)
  (fun _ _ ih1 ih2 bs=>match bs with|[]=>false|b :: bs=>ih1 b && ih2 bs) az:List Ty→Bool) bs=sameA same az bs:=by
 induction az generalizing bs with
 | nil=>cases bs<;>rfl
 | cons a az ih=>
  cases bs with
  | nil=>rfl
  | cons b bs=>rw[sameA,←ih bs];rfl
theorem same_mk (k:Int) (nm:ByteArray) (mu:Bool) (r:Int) (rs:List Int) (az:List Ty) (k':Int) (nm':ByteArray) (mu':Bool) (r':Int) (rs':List Int) (az':List Ty) :
  same (.mk k nm mu r rs az) (.mk k' nm' mu' r' rs' az')=(!((k != k') || (nm.toList != nm'.toList) || (mu != mu')) && ((k != 5 || rs.length == rs'.length) && sameA same az az')):=by
 rw[←same_rec az az'];rfl
theorem sameA_len {S:Ty→Ty→Bool}:∀ {az bs:List Ty},sameA S az bs=true→az.length=bs.length
 | [],[],_=>rfl
 | [],_ :: _,h=>by cases h
 | _ :: _,[],h=>by cases h
 | a :: az,b :: bs,h=>by
  simp only[sameA,Bool.and_eq_true] at h
  simp[sameA_len h.2]
theorem sameA_iff {S:Ty→Ty→Bool}:∀ {az bs:List Ty},sameA S az bs=true↔az.length=bs.length∧∀i (h1:i<az.length) (h2:i<bs.length),S az[i] bs[i]=true
 | [],[]=>by simp[sameA]
 | [],_ :: _=>by simp[sameA]
 | _ :: _,[]=>by simp[sameA]
 | a :: az,b :: bs=>by
  simp only[sameA,Bool.and_eq_true,sameA_iff (az:=az) (bs:=bs),List.length_cons]
  constructor
  ·rintro ⟨h0,h1,h2⟩
   refine⟨by omega,fun i h3 h4=>?_⟩
   cases i with
   | zero=>exact h0
   | succ i=>exact h2 i (by omega) (by omega)
  ·rintro ⟨h1,h2⟩
   exact⟨h2 0 (by omega) (by omega),by omega,fun i h3 h4=>h2 (i+1) (by omega) (by omega)⟩
theorem eqf_spec {n:Nat} (k:Int) (nm:ByteArray) (mu:Bool) (r:Int) (rs:List Int) (az:List Ty) (k':Int) (nm':ByteArray) (mu':Bool) (r':Int) (rs':List Int) (az':List Ty) (v v':Tv) (h:Heap) (hv:TyAt Q h (.mk k nm mu r rs az) v) (hv':TyAt Q h (.mk k' nm' mu' r' rs' az') v') (hn:az.length≤n) (hn2:n≤1000)
  (ih:∀a∈az,∀b u u' h,TyAt Q h a u→TyAt Q h b u'→CallsH Try.prog 66 #[.agg (tvs u),.agg (tvs u')] h (fun x h'=>Grow h h'∧x=.bool (same a b))) :
  CallsH Try.prog 70 #[.slice v.az.a v.az.n v.az.c,.slice v'.az.a v'.az.n v'.az.c,.func (.func 66) #[] #[]] h (fun x h'=>Grow h h'∧x=.bool (sameA same az az')):=by
 apply F70
 unfold L70
 have hl:=(tyAt_iff.1 hv).2.2.2.2.2.1
 have hl':=(tyAt_iff.1 hv').2.2.2.2.2.1
 rw[hl,hl']
 refine ifb_iff (q:=az.length≠az'.length) (by simp;omega) (fun hne=>⟨Fr.refl _ _,?_⟩) (fun heq=>?_)
 ·have:sameA same az az'=false:=by
   rw[←Bool.not_eq_true]
   exact fun e=>hne (sameA_len e)
  rw[this]
 have heq:az.length=az'.length:=by omega
 refine⟨fun i h'=>∃j:Nat,i=j∧j≤az.length∧Grow h h'∧∀q (h1:q<az.length) (h2:q<az'.length),q<j→same az[q] az'[q]=true,fun i _=>az.length - i.toNat,⟨0,rfl,Nat.zero_le _,Fr.refl _ _,fun q _ _ h=>absurd h (Nat.not_lt_zero _)⟩,?_⟩
 rintro _ h1 ⟨j,rfl,hj,f1,ha⟩
 refine ifb_iff (q:=j<az.length) (by simp) (fun hlt=>?_) (fun hge=>?_)
 ·have hlt':j<az'.length:=by omega
  refine args_get (hv.grow f1) hlt fun u hu=>?_
  rintro p2 h2 rfl rfl
  have b2:=blk.new h1 #[Value.int .i64 0,Value.string (⟨#[]⟩:ByteArray),Value.bool false,Value.int .i64 0,Value.slice (⟨none,0,0⟩:Sv).a (⟨none,0,0⟩:Sv).n (⟨none,0,0⟩:Sv).c,Value.slice (⟨none,0,0⟩:Sv).a (⟨none,0,0⟩:Sv).n (⟨none,0,0⟩:Sv).c] 35
  refine stoA_i b2 rfl (by simp[Value.oneCell']) fun h3 b3 f3=>?_
  have g3:Grow h1 h3:=(Fr.push (fun _=>False) h1 _).trans' f3 (fun i hi e=>by omega)
  refine args_get (hv'.grow (f1.trans g3)) hlt' fun u' hu'=>?_
  rintro p4 h4 rfl rfl
  have b4:=blk.new h3 #[Value.int .i64 0,Value.string (⟨#[]⟩:ByteArray),Value.bool false,Value.int .i64 0,Value.slice (⟨none,0,0⟩:Sv).a (⟨none,0,0⟩:Sv).n (⟨none,0,0⟩:Sv).c,Value.slice (⟨none,0,0⟩:Sv).a (⟨none,0,0⟩:Sv).n (⟨none,0,0⟩:Sv).c] 35
  refine stoA_i b4 rfl (by simp[Value.oneCell']) fun h5 b5 f5=>?_
  have g5:Grow h3 h5:=(Fr.push (fun _=>False) h3 _).trans' f5 (fun i hi e=>by omega)
  have b3':blk h5 h1.size (tvs u):=g5.blk b3 (fun h=>h)
  refine rd6 (Tv6.blk b3') ?_
  refine rd6 (t:=u') (Tv6.blk b5) ?_
  refine⟨66,#[],rfl,isfn66,?_⟩
  refine cal_of (ih _ (List.getElem_mem hlt) az'[j] u u' h5 (hu.grow (g3.trans g5)) (hu'.grow g5)) ?_
  rintro _ h6 ⟨f6,rfl⟩
  refine⟨_,rfl,fun e'=>⟨f1.trans (g3.trans (g5.trans f6)),?_⟩,fun e'=>?_⟩
  ·have e2:same az[j] az'[j]=false:=by simpa using e'
   have:sameA same az az'=false:=by
    rw[←Bool.not_eq_true]
    intro e
    rw[(sameA_iff.1 e).2 j hlt hlt'] at e2
    cases e2
   rw[this]
  ·have e2:same az[j] az'[j]=true:=by simpa using e'
   rw[wrap_succ hlt (by omega)]
   refine⟨⟨j+1,rfl,hlt,f1.trans (g3.trans (g5.trans f6)),fun q h1 h2 hq=>?_⟩,by simp;omega⟩
   rcases Nat.lt_or_ge q j with e|e
   ·exact ha q h1 h2 e
   ·obtain rfl:q=j:=by omega
    exact e2
 ·refine⟨f1,?_⟩
  have:sameA same az az'=true:=sameA_iff.2 ⟨heq,fun q h1 h2=>ha q h1 h2 (by omega)⟩
  rw[this]
end
section
variable {Q:Nat→Prop} {h:Heap}
theorem same_spec:∀(a b:Ty) (n:Nat) (_:n≤100) (_:small n a=true) (v v':Tv) (h:Heap),TyAt Q h a v→TyAt Q h b v'→CallsH Try.prog 66 #[.agg (tvs v),.agg (tvs v')] h (fun x h'=>Grow h h'∧x=.bool (same a b)):=by
 intro a
 refine Ty.ind (P:=fun a=>∀(b:Ty) (n:Nat) (_:n≤100) (_:small n a=true) (v v':Tv) (h:Heap),TyAt Q h a v→TyAt Q h b v'→CallsH Try.prog 66 #[.agg (tvs v),.agg (tvs v')] h (fun x h'=>Grow h h'∧x=.bool (same a b))) ?_ a
 intro k nm mu r rs az ih b n hn hsm v v' h hv hv'
 obtain⟨k',nm',mu',r',rs',az'⟩:=b
 obtain⟨n,rfl⟩:∃m,n=m+1:=by
  cases n with
  | zero=>cases hsm
  | succ m=>exact⟨m,rfl⟩
 have hsm':(decide (az.length≤4) && decide (rs.length≤6) && decide (nm.size≤60) && az.all (small n))=true:=hsm
 simp only[Bool.and_eq_true,decide_eq_true_eq,List.all_eq_true] at hsm'
 obtain⟨⟨⟨ha,_⟩,_⟩,hall⟩:=hsm'
 obtain⟨e1,e2,e3,e4,e5,e6,e7⟩:=tyAt_iff.1 hv
 obtain⟨d1,d2,d3,d4,d5,d6,d7⟩:=tyAt_iff.1 hv'
 apply F66
 unfold L66
 refine new6 (v:=v) fun h1 b1 f1 _=>new6 (v:=v') fun h2 b2 f2 _=>?_
 have T1:=Tv6.blk (f2.blk b1 (fun h=>h))
 have T2:=Tv6.blk b2
 refine⟨_,T1.1,_,T2.1,?_⟩
 refine⟨fun x=>x=((k != k') || (nm.toList != nm'.toList)),⟨fun e=>?_,fun e=>⟨_,T1.2.1,_,T2.2.1,?_⟩⟩,?_⟩
 ·rw[e1,d1] at e;rw[e];rfl
 ·rw[e1,d1] at e;rw[e,e2,d2];rfl
 rintro _ rfl
 refine⟨fun x=>x=((k != k') || (nm.toList != nm'.toList) || (mu != mu')),⟨fun e=>?_,fun e=>⟨_,T1.2.2.1,_,T2.2.2.1,?_⟩⟩,?_⟩
 ·rw[e];rfl
 ·rw[e,e3,d3];rfl
 rintro _ rfl
 rw[same_mk]
 refine⟨fun e=>⟨f1.trans f2,by rw[e];rfl⟩,fun e=>?_⟩
 rw[e,Bool.not_false,Bool.true_and]
 refine⟨_,T1.1,?_⟩
 refine⟨fun x=>x=(k != 5 || rs.length == rs'.length),⟨fun e'=>?_,fun e'=>⟨_,T1.2.2.2.2.1,_,T2.2.2.2.2.1,?_⟩⟩,?_⟩
 ·rw[e1] at e';rw[e'];rfl
 ·rw[e1] at e';dsimp only;rw[e',e5.len,d5.len,Bool.eq_iff_iff];simp
  omega
 rintro _ rfl
 refine⟨fun x h'=>Grow h2 h'∧x=((k != 5 || rs.length == rs'.length) && sameA same az az'),⟨fun e'=>⟨_,T1.2.2.2.2.2,_,T2.2.2.2.2.2,?_⟩,fun e'=>⟨Fr.refl _ _,by rw[e'];rfl⟩⟩,?_⟩
 ·refine cal_of (eqf_spec (n:=4) k nm mu r rs az k' nm' mu' r' rs' az' v v' h2 (hv.grow (f1.trans f2)) (hv'.grow (f1.trans f2)) ha (by omega) fun a' ha' b' u u' h' hu hu'=>ih a' ha' b' n (by omega) (hall a' ha') u u' h' hu hu') ?_
  rintro _ h3 ⟨f3,rfl⟩
  exact⟨_,rfl,f3,by rw[e'];rfl⟩
 rintro _ h3 ⟨f3,rfl⟩
 exact⟨f1.trans (f2.trans f3),rfl⟩
end
def bnd:Nat→Nat
 | 0=>0
 | n+1=>14+4*bnd n
theorem small_mk {n:Nat} {k:Int} {nm:ByteArray} {mu:Bool} {r:Int} {rs:List Int} {az:List Ty} (h:small n (.mk k nm mu r rs az)=true):∃m,n=m+1∧az.length≤4∧rs.length≤6∧∀a∈az,small m a=true:=by
 cases n with
 | zero=>cases h
 | succ m=>
  have h':(decide (az.length≤4) && decide (rs.length≤6) && decide (nm.size≤60) && az.all (small m))=true:=h
  simp only[Bool.and_eq_true,decide_eq_true_eq,List.all_eq_true] at h'
  exact⟨m,rfl,h'.1.1.1,h'.1.1.2,h'.2⟩
theorem bnd8 {n:Nat} (h:n≤8):bnd n≤305830:=by
 have:∀n,n≤8→bnd n≤305830:=by decide
 exact this n h
end Go.Proofs.Yteofligmdngdgaa
namespace Go.Proofs.Yteofligmdngdgaa
open Go Go.Lf
set_option linter.unusedVariables false
def ownL:Ty→List Int
 | .mk k _ _ r rs _=>if 7≤k∧k≤9 then [r] else if k=5 then rs else []
theorem ownL_mk (k:Int) (nm:ByteArray) (mu:Bool) (r:Int) (rs:List Int) (az:List Ty):ownL (.mk k nm mu r rs az)=if 7≤k∧k≤9 then [r] else if k=5 then rs else []:=rfl
noncomputable def allT:Ty→List Int:=
 Ty.rec (motive_1:=fun _=>List Int) (motive_2:=fun _=>List Int) (fun k nm mu r rs az ih=>ownL (.mk k nm mu r rs az)++ih) [] (fun _ _ a b=>a++b)
theorem allT_rec (az:List Ty):(Ty.rec_1 (motive_1:=fun _=>List Int) (motive_2:=fun _=>List Int) (fun k nm mu r rs az ih=>ownL (.mk k nm mu r rs az)++ih) [] (fun _ _ a b=>a++b) az:List Int)=az.flatMap allT:=by
 induction az with
 | nil=>rfl
 | cons a az ih=>rw[List.flatMap_cons,←ih];rfl
theorem allT_mk (k:Int) (nm:ByteArray) (mu:Bool) (r:Int) (rs:List Int) (az:List Ty):allT (.mk k nm mu r rs az)=ownL (.mk k nm mu r rs az)++az.flatMap allT:=by
 rw[←allT_rec];rfl
theorem ownL_len {n:Nat} {t:Ty} (h:small n t=true):(ownL t).length≤6:=by
 obtain⟨k,nm,mu,r,rs,az⟩:=t
 obtain⟨m,_,_,h2,_⟩:=small_mk h
 rw[ownL_mk]
 split
 ·simp
 ·split
  ·exact h2
  ·simp
theorem flat_len {f:Ty→List Int} {m:Nat}:∀(xs:List Ty),(∀a∈xs,(f a).length≤m)→(xs.flatMap f).length≤xs.length*m
 | [],_=>by simp
 | x :: xs,H=>by
  rw[List.flatMap_cons,List.length_append,List.length_cons,Nat.succ_mul]
  have:=flat_len xs fun a ha=>H a (by simp[ha])
  have:=H x (by simp)
  omega
theorem allT_len:∀(n:Nat) (t:Ty),small n t=true→(allT t).length≤bnd n:=by
 intro n
 induction n with
 | zero=>intro t h;cases t;cases h
 | succ n ih=>
  intro t h
  have h0:=ownL_len h
  obtain⟨k,nm,mu,r,rs,az⟩:=t
  obtain⟨m,e,h1,h2,h3⟩:=small_mk h
  obtain rfl:m=n:=by omega
  rw[allT_mk,List.length_append]
  have:=flat_len (f:=allT) az fun a ha=>ih a (h3 a ha)
  have:=Nat.mul_le_mul_right (bnd m) h1
  show _≤14+4*bnd m
  omega
section
variable {Q:Nat→Prop} {h:Heap}
theorem ints_row {s:Sv} {xs:List Int} (x:IntsAt h s xs):RowO h s.a (ints xs):=by
 cases ha:s.a with
 | none=>
  cases xs with
  | nil=>rfl
  | cons a xs=>
   obtain⟨p,e,_⟩:=x.at_ 0 (by simp)
   rw[ha] at e;cases e
 | some p=>
  intro j v hv
  simp only[ints,List.getElem?_map,Option.map_eq_some_iff] at hv
  obtain⟨y,hy,rfl⟩:=hv
  obtain⟨hj,rfl⟩:=List.getElem?_eq_some_iff.1 hy
  obtain⟨q,e,c⟩:=x.at_ j hj
  rw[ha] at e
  simp only[Option.some.injEq] at e
  subst e
  rwa [Nat.mul_one] at c
theorem own_spec {t:Ty} {v:Tv} (hv:TyAt Q h t v):CallsH Try.prog 55 #[.agg (tvs v)] h (fun x h'=>Grow h h'∧∃s:Sv,x=.slice s.a s.n s.c∧IntsAt h' s (ownL t)):=by
 obtain⟨k,nm,mu,r,rs,az⟩:=t
 obtain⟨e1,e2,e3,e4,e5,e6,e7⟩:=tyAt_iff.1 hv
 apply F55
 unfold L55
 refine new6 (v:=v) fun h1 b1 f1 z1=>?_
 have T1:=Tv6.blk b1
 refine⟨_,T1.1,?_⟩
 refine⟨fun x=>x=(decide (7≤k) && decide (k≤9)),⟨fun e=>⟨_,T1.1,?_⟩,fun e=>?_⟩,?_⟩
 ·rw[e1] at e;rw[e1,e];rfl
 ·rw[e1] at e;rw[e];rfl
 rintro _ rfl
 refine ifb_iff (q:=7≤k∧k≤9) (by simp) (fun h79=>?_) (fun h79=>?_)
 ·refine⟨_,T1.2.2.2.1,?_⟩
  rw[e4]
  rintro s h2 rfl rfl
  refine⟨f1.trans (Fr.push _ _ _),_,rfl,?_⟩
  have:ownL (.mk k nm mu r rs az)=[r]:=by rw[ownL_mk,if_pos h79]
  rw[this]
  refine⟨rfl,fun i hi=>?_⟩
  obtain rfl:i=0:=by simp at hi;omega
  refine⟨_,rfl,?_⟩
  rw[add_plain,(blk.new h1 #[Value.int .i64 r] 3).cl]
  rfl
 ·refine⟨_,T1.1,?_⟩
  rw[e1]
  refine ifb_iff (q:=k=5) (by simp) (fun h5=>?_) (fun h5=>?_)
  ·refine⟨_,T1.2.2.2.2.1,f1,_,rfl,?_⟩
   have:ownL (.mk k nm mu r rs az)=rs:=by rw[ownL_mk,if_neg h79,if_pos h5]
   rw[this]
   exact (e5.fr f1 fun _ _ h=>h).ints
  ·refine⟨f1,⟨none,0,0⟩,rfl,?_⟩
   have:ownL (.mk k nm mu r rs az)=[]:=by rw[ownL_mk,if_neg h79,if_neg h5]
   rw[this]
   exact IntsAt.nil _ _ _
theorem own_empty (h:Heap) (B:Nat) (E:TypeId) (hB:B≤h.size):Own (h.push (.cells #[] E)) B 1 ⟨some ⟨h.size,0,none⟩,0,0⟩ (ints []):=
 ⟨rfl,.inr ⟨h.size,#[],rfl,hB,blk.new h #[] E,Nat.le_refl _,rfl,rfl⟩⟩
theorem one_ints (xs:List Int):∀u∈ints xs,u.oneCell'=true:=by
 intro u hu
 simp only[ints,List.mem_map] at hu
 obtain⟨x,_,rfl⟩:=hu
 rfl
theorem all_spec:∀(t:Ty) (n:Nat) (_:n≤8) (_:small n t=true) (v:Tv) (h:Heap),TyAt Q h t v→CallsH Try.prog 52 #[.agg (tvs v)] h (fun x h'=>Grow h h'∧∃s:Sv,x=.slice s.a s.n s.c∧Own h' h.size 1 s (ints (allT t))):=by
 intro t
 refine Ty.ind (P:=fun t=>∀(n:Nat) (_:n≤8) (_:small n t=true) (v:Tv) (h:Heap),TyAt Q h t v→CallsH Try.prog 52 #[.agg (tvs v)] h (fun x h'=>Grow h h'∧∃s:Sv,x=.slice s.a s.n s.c∧Own h' h.size 1 s (ints (allT t)))) ?_ t
 intro k nm mu r rs az ih n hn hsm v h hv
 have hown:=ownL_len hsm
 obtain⟨m,rfl,ha4,hr6,hall⟩:=small_mk hsm
 have hb:=bnd8 hn
 have hbm:bnd (m+1)=14+4*bnd m:=rfl
 apply F52
 unfold L52
 refine new6 (v:=v) fun h1 b1 f1 z1=>?_
 rintro s5 h2 rfl rfl
 have f2:Grow h1 (h1.push (.cells #[] 3)):=Fr.push _ _ _
 have o2:=own_empty h1 h.size 3 f1.size
 have g2:=f1.trans f2
 refine rd6 (Tv6.blk (f2.blk b1 fun h=>h)) ?_
 refine cal_of (own_spec (hv.grow g2)) ?_
 rintro _ h3 ⟨f3,s3,rfl,i3⟩
 refine⟨s3,rfl,?_⟩
 have g3:=g2.trans f3
 have hs3:s3.n=(ownL (.mk k nm mu r rs az)).length:=i3.len
 refine appS_own rfl (o2.frame f3 fun _ _ h=>h) (news:=ints (ownL (.mk k nm mu r rs az))) (by simp[ints,hs3]) (ints_row i3) (one_ints _) g3.size (by dsimp only;omega) (by dsimp only;omega) ?_
 intro s8 h4 hn8 o8 f4 own8
 have g4:Grow h h4:=g3.trans' f4 fun i hi e=>by have:=((o2.frame f3 fun _ _ h=>h).ge e).1;omega
 have B4:blk h4 h.size (tvs v):=by
  refine f4.blk ((f2.trans f3).blk b1 fun h=>h) fun e=>?_
  obtain⟨a,ea,eb⟩:=e
  simp only[Option.some.injEq] at ea
  subst ea
  simp only at eb
  omega
 have own8':∀b,s8.own b→h1.size≤b:=fun b hb=>by
  rcases own8 b hb with⟨a,ea,eb⟩|e
  ·simp only[Option.some.injEq] at ea
   subst ea
   simp only at eb
   omega
  ·have:=(f2.trans f3).size;omega
 refine⟨fun out i h'=>∃j:Nat,i=j∧j≤az.length∧Grow h h'∧blk h' h.size (tvs v)∧(∀b,out.own b→h1.size≤b)∧Own h' h.size 1 out (ints (ownL (.mk k nm mu r rs az)++(az.take j).flatMap allT)),fun _ i _=>az.length - i.toNat,⟨0,rfl,Nat.zero_le _,g4,B4,own8',by simpa [ints] using o8⟩,?_⟩
 rintro out _ h5 ⟨j,rfl,hj,g5,B5,ow5,o5⟩
 have T5:=Tv6.blk B5
 refine⟨_,T5.2.2.2.2.2,?_⟩
 have hvn:=(tyAt_iff.1 hv).2.2.2.2.2.1
 refine ifb_iff (q:=j<az.length) (by simp[hvn]) (fun hl=>?_) (fun hl=>?_)
 ·refine⟨_,T5.2.2.2.2.2,args_get (hv.grow g5) hl fun u hu=>?_⟩
  refine cal_of (ih _ (List.getElem_mem hl) m (by omega) (hall _ (List.getElem_mem hl)) u h5 hu) ?_
  rintro _ h6 ⟨f6,s6,rfl,o6⟩
  refine⟨s6,rfl,?_⟩
  have hl6:=allT_len m az[j] (hall _ (List.getElem_mem hl))
  have hn6:s6.n=(allT az[j]).length:=by have:=o6.len;simp[ints] at this;omega
  have hfl:=flat_len (f:=allT) (m:=bnd m) (az.take j) fun a ha=>allT_len m a (hall a (List.mem_of_mem_take ha))
  have hfl2:(az.take j).length*bnd m≤4*bnd m:=Nat.mul_le_mul_right _ (by simp;omega)
  have hno:out.n=(ownL (.mk k nm mu r rs az)++(az.take j).flatMap allT).length:=by have:=o5.len;simp[ints] at this ⊢;omega
  rw[List.length_append] at hno
  refine appS_own rfl (o5.frame f6 fun _ _ h=>h) (news:=ints (allT az[j])) (by simp[ints,hn6]) o6.row (one_ints _) (by have:=(g5.trans f6).size;omega) (by omega) (by omega) ?_
  intro s7 h7 _ o7 f7 own7
  rw[wrap_succ hl (by omega)]
  refine⟨⟨j+1,rfl,hl,(g5.trans f6).trans' f7 fun i hi e=>by have:=(o5.ge e).1;omega,f7.blk (f6.blk B5 fun h=>h) fun e=>by have:=ow5 _ e;omega,fun b hb=>?_,?_⟩,by simp;omega⟩
  ·rcases own7 b hb with e|e
   ·exact ow5 b e
   ·have:=f6.size;have:=g5.size;have:=B5.lt;have:=(f2.trans f3).size;have:=f4.size
    have:h1.size≤h5.size:=by omega
    omega
  ·rw[List.take_add_one,List.getElem?_eq_getElem hl,List.flatMap_append,←List.append_assoc]
   simpa [ints] using o7
 ·have hje:j=az.length:=by omega
  subst hje
  rw[List.take_length,←allT_mk] at o5
  exact⟨g5,_,rfl,o5⟩
end
end Go.Proofs.Yteofligmdngdgaa
namespace Go.Proofs.Yteofligmdngdgaa
open Go Go.Lf
set_option linter.unusedVariables false
theorem addr_add_add (p:Addr) (a b:Nat) (h:p.spot=none):(p.add a).add b=p.add (a+b):=by
 obtain⟨k,o,s⟩:=p
 simp only at h
 subst h
 simp only[add_plain,Nat.add_assoc]
theorem cl_spot {h:Heap} {p:Addr} {v:Value} (c:cl h p=some v):p.spot=none:=by
 unfold cl at c
 split at c
 ·split at c
  ·cases c
  ·rename_i hs
   cases hp:p.spot with
   | none=>rfl
   | some x=>rw[hp] at hs;simp at hs
 ·cases c
theorem ints_head {h:Heap} {l:Sv} {xs:List Int} (x:IntsAt h l xs) (m:Nat) (hm:m≤xs.length):IntsAt h ⟨l.a,m,l.c⟩ (xs.take m):=by
 refine⟨by simp;omega,fun i hi=>?_⟩
 have hi':i<xs.length:=by simp at hi;omega
 obtain⟨p,e,c⟩:=x.at_ i hi'
 exact⟨p,e,by rw[List.getElem_take];exact c⟩
theorem slS_rest {Q:Nat→Prop} {h:Heap} {l:Sv} {xs:List Int} (x:IntsQ Q h l xs) (hc:l.n≤l.c) {m:Nat} (hm:m≤xs.length) {K:Sv→Prop} (k:∀s',IntsQ Q h s' (xs.drop m)→s'.n≤s'.c→K s'):slS l 1 (m:Int) ((l.n:Nat):Int) K:=by
 have hl:=x.len
 refine⟨by omega,by omega,by omega,?_⟩
 rintro ⟨a,n,c⟩ h1 h2 h3
 simp only[Int.toNat_natCast] at h1 h2 h3
 refine k _ ⟨by simp;omega,fun i hi=>?_⟩ (by dsimp only;omega)
 have hi':m+i<xs.length:=by simp at hi;omega
 obtain⟨p,e,q,cc⟩:=x.at_ (m+i) hi'
 obtain⟨p0,e0,_,c0⟩:=x.at_ 0 (by omega)
 rw[e] at e0
 simp only[Option.some.injEq] at e0
 subst e0
 rw[Nat.zero_mul,add_zero] at c0
 have hs:=cl_spot c0
 rw[if_neg (by omega),e] at h1
 refine⟨p.add (m*1),h1,by rw[add_block];exact q,?_⟩
 rw[addr_add_add _ _ _ hs,List.getElem_drop,←Nat.add_mul]
 exact cc
def withA (W:Ty→List Int→Ty) (A:Ty→List Int):List Ty→List Int→List Ty
 | [],_=>[]
 | a :: az,xs=>W a xs :: withA W A az (xs.drop (A a).length)
noncomputable def withT:Ty→List Int→Ty:=
 Ty.rec (motive_1:=fun _=>List Int→Ty) (motive_2:=fun _=>List Int→List Ty)
  (fun k nm mu r rs az ih xs=>.mk k nm mu (if k=5 then r else if (ownL (.mk k nm mu r rs az)).length=1 then xs.getD 0 r else r) (if k=5 then xs.take (ownL (.mk k nm mu r rs az)).length else rs) (ih (xs.drop (ownL (.mk k nm mu r rs az)).length)))
  (fun _=>[]) (fun a _ ih1 ih2 xs=>ih1 xs :: ih2 (xs.drop (allT a).length))
theorem withT_rec (az:List Ty) (xs:List Int):(Ty.rec_1 (motive_1:=fun _=>List Int→Ty) (motive_2:=fun _=>List Int→List Ty)
  (fun k nm mu r rs az ih xs=>.mk k nm mu (if k=5 then r else if (ownL (.mk k nm mu r rs az)).length=1 then xs.getD 0 r else r) (if k=5 then xs.take (ownL (.mk k nm mu r rs az)).length else rs) (ih (xs.drop (ownL (.mk k nm mu r rs az)).length)))
  (fun _=>[]) (fun a _ ih1 ih2 xs=>ih1 xs :: ih2 (xs.drop (allT a).length)) az:List Int→List Ty) xs=withA withT allT az xs:=by
 induction az generalizing xs with
 | nil=>rfl
 | cons a az ih=>rw[withA,←ih];rfl
theorem withT_mk (k:Int) (nm:ByteArray) (mu:Bool) (r:Int) (rs:List Int) (az:List Ty) (xs:List Int):withT (.mk k nm mu r rs az) xs =
  .mk k nm mu (if k=5 then r else if (ownL (.mk k nm mu r rs az)).length=1 then xs.getD 0 r else r) (if k=5 then xs.take (ownL (.mk k nm mu r rs az)).length else rs) (withA withT allT az (xs.drop (ownL (.mk k nm mu r rs az)).length)):=by
 rw[←withT_rec];rfl
theorem withA_len (W:Ty→List Int→Ty) (A:Ty→List Int):∀(az:List Ty) (xs:List Int),(withA W A az xs).length=az.length
 | [],_=>rfl
 | a :: az,xs=>by simp[withA,withA_len W A az]
theorem withA_get (W:Ty→List Int→Ty) (A:Ty→List Int):∀(az:List Ty) (xs:List Int) (i:Nat) (hi:i<az.length) (hi':i<(withA W A az xs).length),(withA W A az xs)[i]=W az[i] (xs.drop ((az.take i).flatMap A).length)
 | [],_,_,hi,_=>by simp at hi
 | a :: az,xs,0,_,_=>by simp[withA]
 | a :: az,xs,i+1,hi,hi'=>by
  simp only[withA,List.getElem_cons_succ,List.take_succ_cons,List.flatMap_cons,List.length_append]
  rw[withA_get W A az _ i (by simpa using hi),List.drop_drop]
def c6 (us:List Tv):List Value:=us.flatMap fun u=>(tvs u).toList
theorem c6_len (us:List Tv):(c6 us).length=us.length*6:=by
 induction us with
 | nil=>rfl
 | cons a l ih=>
  have e:c6 (a :: l)=(tvs a).toList++c6 l:=rfl
  rw[e,List.length_append,ih,List.length_cons]
  simp
  omega
theorem c6_app (l m:List Tv):c6 (l++m)=c6 l++c6 m:=by simp[c6]
theorem c6_get:∀(us:List Tv) (i:Nat) (hi:i<us.length) (q:Nat),q<6→(c6 us)[i*6+q]?=(tvs us[i])[q]?
 | a :: us,0,_,q,hq=>by
  have e:c6 (a :: us)=(tvs a).toList++c6 us:=rfl
  rw[e,Nat.zero_mul,Nat.zero_add,List.getElem?_append_left (by simpa [tvs] using hq)]
  simp
 | a :: us,i+1,hi,q,hq=>by
  have e:c6 (a :: us)=(tvs a).toList++c6 us:=rfl
  have:=c6_get us i (by simpa using hi) q hq
  rw[e,List.getElem?_append_right (by simp;omega)]
  have e2:(i+1)*6+q - (tvs a).toList.length=i*6+q:=by simp;omega
  rw[e2,this]
  simp
theorem own6 {h:Heap} {B:Nat} {s:Sv} {us:List Tv} (o:Own h B 6 s (c6 us)) {i:Nat} (hi:i<us.length):∃p,s.a=some p∧s.own p.block∧Tv6 h (p.add (i*6)) us[i]:=by
 have hn:=o.len
 rw[c6_len] at hn
 have hr:=o.row
 rcases o.mem with⟨_,e,_⟩|⟨g,cur,e,_⟩
 ·omega
 rw[e] at hr
 refine⟨_,e,⟨_,e,rfl⟩,?_⟩
 have key:∀q v,q<6→(tvs us[i])[q]?=some v→cl h ((⟨g,0,none⟩:Addr).add (i*6+q))=some v:=fun q v hq hv=>hr _ _ (by rw[c6_get us i hi q hq];exact hv)
 unfold Tv6
 simp only[add_plain] at key ⊢
 exact⟨key 0 _ (by omega) rfl,by rw[Nat.add_assoc];exact key 1 _ (by omega) rfl,by rw[Nat.add_assoc];exact key 2 _ (by omega) rfl,by rw[Nat.add_assoc];exact key 3 _ (by omega) rfl,by rw[Nat.add_assoc];exact key 4 _ (by omega) rfl,by rw[Nat.add_assoc];exact key 5 _ (by omega) rfl⟩
theorem one_c6 (v:Tv):∀u∈(tvs v).toList,u.oneCell'=true:=by
 intro u hu
 simp only[List.mem_cons,List.not_mem_nil,or_false] at hu
 rcases hu with rfl|rfl|rfl|rfl|rfl|rfl<;>rfl
abbrev z6:Array Value:=#[Value.int .i64 0,Value.string (⟨#[]⟩:ByteArray),Value.bool false,Value.int .i64 0,Value.slice (⟨none,0,0⟩:Sv).a (⟨none,0,0⟩:Sv).n (⟨none,0,0⟩:Sv).c,Value.slice (⟨none,0,0⟩:Sv).a (⟨none,0,0⟩:Sv).n (⟨none,0,0⟩:Sv).c]
theorem newz {K:Addr→Heap→Prop} {h:Heap} (k:∀h',blk h' h.size z6→Grow h h'→h'.size=h.size+1→K ⟨h.size,0,none⟩ h'):new 35 z6 h K:=by
 rintro p h' rfl rfl
 exact k _ (blk.new _ _ _) (Fr.push _ _ _) (by simp)
theorem sto6 {h:Heap} {b:Nat} {cs:Array Value} {v:Tv} {K:Heap→Prop} (kk:blk h b cs) (hs:cs.size=6)
  (k:∀h',blk h' b (tvs v)→Fr (fun i=>i=b) h h'→K h'):stoA h ⟨b,0,none⟩ [.int .i64 v.k,.string v.nm,.bool v.mu,.int .i64 v.r,.slice v.rs.a v.rs.n v.rs.c,.slice v.az.a v.az.n v.az.c] K:=
 stoA_i kk (by rw[hs];rfl) (one_c6 v) k
def partsN:Ty→Nat
 | .mk _ _ _ _ _ az=>az.length
section
variable {h:Heap}
theorem with_spec:∀(t:Ty) (n:Nat) (_:n≤8) (_:small n t=true) (Q Ql:Nat→Prop) (v:Tv) (h:Heap) (l:Sv) (xs:List Int),(∀b,Q b→b<h.size)→(∀b,Ql b→b<h.size)→TyAt Q h t v→IntsQ Ql h l xs→l.n≤l.c→(allT t).length≤xs.length →
  CallsH Try.prog 59 #[.agg (tvs v),.slice l.a l.n l.c] h (fun x h'=>Grow h h'∧∃v' l',x=.tuple #[.agg (tvs v'),.slice l'.a l'.n l'.c]∧TyAt (fun b=>Q b∨h.size≤b) h' (withT t xs) v'∧IntsQ Ql h' l' (xs.drop (allT t).length)∧l'.n≤l'.c∧(partsN t=0→v'.az=⟨none,0,0⟩)):=by
 intro t
 refine Ty.ind (P:=fun t=>∀(n:Nat) (_:n≤8) (_:small n t=true) (Q Ql:Nat→Prop) (v:Tv) (h:Heap) (l:Sv) (xs:List Int),(∀b,Q b→b<h.size)→(∀b,Ql b→b<h.size)→TyAt Q h t v→IntsQ Ql h l xs→l.n≤l.c→(allT t).length≤xs.length →
  CallsH Try.prog 59 #[.agg (tvs v),.slice l.a l.n l.c] h (fun x h'=>Grow h h'∧∃v' l',x=.tuple #[.agg (tvs v'),.slice l'.a l'.n l'.c]∧TyAt (fun b=>Q b∨h.size≤b) h' (withT t xs) v'∧IntsQ Ql h' l' (xs.drop (allT t).length)∧l'.n≤l'.c∧(partsN t=0→v'.az=⟨none,0,0⟩))) ?_ t
 intro k nm mu r rs az ih n hn hsm Q Ql v h l xs hQ hQl hv hl hlc hlen
 have hown6:=ownL_len hsm
 obtain⟨m,rfl,ha4,hr6,hall⟩:=small_mk hsm
 obtain⟨e1,e2,e3,e4,e5,e6,e7⟩:=tyAt_iff.1 hv
 rw[allT_mk,List.length_append] at hlen
 rw[withT_mk,allT_mk,List.length_append]
 generalize ho:(ownL (.mk k nm mu r rs az)).length=o at hlen hown6
 apply F59
 unfold L59
 refine new6 (v:=v) fun h1 b1 f1 z1=>newz fun h2 b2 f2 z2=>?_
 have T2:=Tv6.blk (f2.blk b1 fun h=>h)
 refine⟨_,T2.1,_,T2.2.1,_,T2.2.2.1,_,T2.2.2.2.1,_,T2.2.2.2.2.1,?_⟩
 refine newz fun h3 b3 f3 z3=>?_
 refine sto6 (v:=⟨v.k,v.nm,v.mu,v.r,v.rs,⟨none,0,0⟩⟩) b3 rfl fun h4 b4 f4=>?_
 have g3:Grow h h3:=f1.trans (f2.trans f3)
 have g4:Grow h h4:=g3.trans' f4 fun i hi e=>by have:=f1.size;have:=f2.size;omega
 have p24:Grow h2 h4:=f3.trans' f4 fun i hi e=>by omega
 have B1:blk h4 h.size (tvs v):=p24.blk (f2.blk b1 fun h=>h) (fun h=>h)
 have B2:blk h4 h1.size z6:=p24.blk b2 (fun h=>h)
 refine rd6 (Tv6.blk B1) ?_
 refine cal_of (own_spec (hv.grow g4)) ?_
 rintro _ h5 ⟨f5,s5,rfl,i5⟩
 refine⟨s5,rfl,?_⟩
 have g5:=g4.trans f5
 have hs5:s5.n=o:=by rw[i5.len];exact ho
 dsimp only
 rw[hs5,hl.len]
 refine ifb_iff (q:=xs.length<o) (by simp) (fun hlt=>by omega) (fun _=>?_)
 have C1:=f5.blk B1 (fun h=>h)
 have C2:=f5.blk B2 (fun h=>h)
 have C6:=f5.blk b4 (fun h=>h)
 have s01:=f1.size
 have s35:=f5.size
 have hz5:h3.size≤h5.size:=by have:=f4.size;omega
 have hxl:l.n=xs.length:=hl.len
 refine⟨fun h11=>∃rs',blk h11 h2.size (tvs ⟨k,nm,mu,(if k=5 then r else if o=1 then xs.getD 0 r else r),rs',⟨none,0,0⟩⟩)∧Fr (fun b=>b=h2.size) h5 h11 ∧
   IntsC (fun b=>Q b∨(h.size≤b∧b≠h2.size∧b≠h1.size)) h11 rs' (if k=5 then xs.take o else rs),?_,?_⟩
 ·refine⟨_,(Tv6.blk C1).1,?_⟩
  rw[e1]
  refine ifb_iff (q:=k=5) (by simp) (fun h5'=>?_) (fun h5'=>?_)
  ·rintro s33 h7 rfl rfl
   refine slS_head (by omega) ?_
   have i7:=(ints_head (hl.ints.keep g5 (fun _ _ h=>h)) o (by omega)).keep (Fr.push (fun _=>False) h5 (.cells #[] 3)) (fun _ _ h=>h)
   refine appS_own rfl (own_empty h5 h5.size 3 (Nat.le_refl _)) (news:=ints (xs.take o)) (by simp[ints];omega) (ints_row i7) (one_ints _) (by simp) (by dsimp only;omega) (by dsimp only;omega) ?_
   intro s8 h8 hn8 o8 f8 own8
   have g8:Grow h5 h8:=(Fr.push (fun _=>False) h5 (.cells #[] 3)).trans' f8 fun i hi e=>by
    obtain⟨a,ea,eb⟩:=e
    simp only[Option.some.injEq] at ea
    subst ea
    simp only at eb
    omega
   have C6':=g8.blk C6 (fun h=>h)
   rw[add_plain]
   refine sto_i C6' (by simp) ⟨s8,?_,?_,?_⟩
   ·have:=C6'.sc 4 (.slice s8.a s8.n s8.c)
    rw[if_pos h5']
    simp only[e1,e2,e3,e4] at this
    exact this
   ·exact (g8.mono fun _ _ h=>h.elim).trans (Fr.scb h8 h2.size (0+4) _)
   ·rw[if_pos h5']
    have i8:IntsAt (sc h8 ⟨h2.size,0+4,none⟩ (.slice s8.a s8.n s8.c)) s8 (xs.take o):=by
     refine own_ints (B:=h5.size) ?_
     have:=o8.frame (Fr.scb h8 h2.size (0+4) (.slice s8.a s8.n s8.c)) fun b hb e=>by have:=(o8.ge hb).1;omega
     simpa [ints] using this
    refine⟨IntsQ.of i8 fun b hb _=>.inr ?_,own_cap o8⟩
    have:=(o8.ge hb).1
    have:=g5.size
    exact⟨by omega,by omega,by omega⟩
  ·refine ifb_iff (q:=o=1) (by simp;omega) (fun h1'=>?_) (fun h1'=>?_)
   ·have hx0:0<xs.length:=by omega
    refine (hl.ints.keep g5 (fun _ _ h=>h)).ld hx0 fun q c=>⟨xs[0],by rw[Nat.zero_mul,add_zero] at c;exact c,?_⟩
    rw[add_plain]
    refine sto_i C6 (by simp) ⟨v.rs,?_,Fr.scb _ _ _ _,?_⟩
    ·have:=C6.sc 3 (.int .i64 xs[0])
     rw[if_neg h5',if_pos h1']
     have hx:xs.getD 0 r=xs[0]:=by simp[List.getD,hx0]
     rw[hx]
     simp only[e1,e2,e3] at this
     exact this
    ·rw[if_neg h5']
     exact ((e5.fr g5 fun _ _ h=>h).weak (Q':=fun b=>Q b∨(h.size≤b∧b≠h2.size∧b≠h1.size)) fun b hb _=>.inl hb).fr (T:=fun b=>b=h2.size) (Fr.scb _ _ _ _) fun b hb e=>by
      rcases hb with hb|hb
      ·have:=hQ b hb;omega
      ·exact hb.2.1 e
   ·refine⟨v.rs,?_,Fr.refl _ _,?_⟩
    ·rw[if_neg h5',if_neg h1']
     simp only[e1,e2,e3,e4] at C6
     exact C6
    ·rw[if_neg h5']
     exact (e5.fr g5 fun _ _ h=>h).weak fun b hb _=>.inl hb
 rintro h11 ⟨rs',D6,f11,irs⟩
 have g11:Grow h h11:=g5.trans' f11 fun i hi e=>by omega
 have hz11:h5.size≤h11.size:=f11.size
 have D1:blk h11 h.size (tvs v):=f11.blk C1 (by omega)
 have D2:blk h11 h1.size z6:=f11.blk C2 (by omega)
 rw[←hxl]
 refine slS_rest (hl.fr g11 (fun _ _ h=>h)) hlc (by omega) fun s47 i47 c47=>?_
 generalize hR:(if k=5 then r else if o=1 then xs.getD 0 r else r)=R' at D6
 generalize hRS:(if k=5 then xs.take o else rs)=RS at irs
 have hfl:∀j,((az.take j).flatMap allT).length≤(az.flatMap allT).length:=fun j=>by
  have:=congrArg (fun l=>(List.flatMap allT l).length) (List.take_append_drop j az)
  simp only[List.flatMap_append,List.length_append] at this
  omega
 have hsucc:∀j (hj:j<az.length),((az.take (j+1)).flatMap allT).length=((az.take j).flatMap allT).length+(allT az[j]).length:=fun j hj=>by
  rw[List.take_add_one,List.getElem?_eq_getElem hj,List.flatMap_append]
  simp
 refine⟨fun l i h12=>∃(j:Nat) (s:Sv) (us:List Tv),i=j∧j≤az.length∧us.length=j∧IntsQ Ql h12 l (xs.drop (o+((az.take j).flatMap allT).length))∧l.n≤l.c ∧
   blk h12 h2.size (tvs ⟨k,nm,mu,R',rs',s⟩)∧blk h12 h.size (tvs v)∧blk h12 h1.size z6∧Own h12 h11.size 6 s (c6 us)∧Grow h h12∧h11.size≤h12.size ∧
   IntsC (fun b=>(Q b∨(h.size≤b∧b≠h2.size∧b≠h1.size))∧b<h11.size) h12 rs' RS ∧
   (∀i (hi:i<us.length) (hi':i<az.length),TyAt (fun b=>(Q b∨h11.size≤b)∧¬s.own b) h12 (withT az[i] ((xs.drop o).drop ((az.take i).flatMap allT).length)) us[i])∧(j=0→s=⟨none,0,0⟩),fun _ i _=>az.length - i.toNat,
  ⟨0,⟨none,0,0⟩,[],rfl,Nat.zero_le _,rfl,by simpa using i47,c47,D6,D1,D2,Own.nil _ _ _,g11,Nat.le_refl _,irs.weak fun b hb hlt=>⟨hb,hlt⟩,fun i hi=>by simp at hi,fun _=>rfl⟩,?_⟩
 rintro l1 _ h12 ⟨j,s,us,rfl,hj,hus,il,cl1',E6,E1,E2,oE,g12,sz12,ir12,hel,hz⟩
 have T12:=Tv6.blk E1
 have hnE:s.n=j:=by have:=oE.len;rw[c6_len] at this;omega
 refine⟨_,T12.2.2.2.2.2,?_⟩
 refine ifb_iff (q:=j<az.length) (by simp[e6]) (fun hlt=>?_) (fun hge=>?_)
 ·refine⟨_,T12.2.2.2.2.2,args_get (hv.grow g12) hlt fun u hu=>?_⟩
  have hsu:=hsucc j hlt
  have hf1:=hfl (j+1)
  refine cal_of (ih _ (List.getElem_mem hlt) m (by omega) (hall _ (List.getElem_mem hlt)) Q Ql u h12 l1 _ (fun b hb=>by have:=hQ b hb;have:=g12.size;omega) (fun b hb=>by have:=hQl b hb;have:=g12.size;omega) hu il cl1' (by rw[List.length_drop];omega)) ?_
  rintro _ h13 ⟨f13,v63,l64,rfl,t63,i64,c64,-⟩
  refine⟨_,rfl,_,rfl,_,_,_,_,_,_,rfl,_,rfl,l64,rfl,?_⟩
  refine newz fun h14 b14 f14 z14=>?_
  refine sto6 (v:=v63) b14 rfl fun h15 b15 f15=>?_
  have p15:Grow h13 h15:=f14.trans' f15 fun i hi e=>by omega
  have q15:Grow h12 h15:=f13.trans p15
  have G6:=q15.blk E6 (fun h=>h)
  refine⟨s,by rw[add_plain,G6.cl];rfl,?_⟩
  refine rd6 (Tv6.blk b15) ?_
  have oG:=oE.frame q15 (fun _ _ h=>h)
  have s15:=q15.size
  refine app1 (vs:=tvs v63) rfl oG rfl (one_c6 v63) (by omega) (by omega) (by omega) fun s17 h17 hn17 o17 f17 own17=>?_
  have hsge:∀b,s.own b→h11.size≤b∧b<h12.size:=fun b hb=>oE.ge hb
  have no2:¬s.own h2.size:=fun e=>by have:=(hsge _ e).1;omega
  have H6:=f17.blk G6 no2
  rw[add_plain]
  refine sto_i H6 (by simp) ?_
  have hw:blk (sc h17 ⟨h2.size,0+5,none⟩ (.slice s17.a s17.n s17.c)) h2.size (tvs ⟨k,nm,mu,R',rs',s17⟩):=H6.sc 5 (.slice s17.a s17.n s17.c)
  generalize hh:sc h17 ⟨h2.size,0+5,none⟩ (.slice s17.a s17.n s17.c)=h18 at hw
  have f18:Fr (fun b=>b=h2.size) h17 h18:=by rw[←hh];exact Fr.scb _ _ _ _
  have s17z:=f17.size
  have s18z:=f18.size
  have own17':∀b,s17.own b→s.own b∨h15.size≤b:=own17
  have hall18:Fr (fun b=>b=h2.size∨s.own b) h15 h18:=(f17.mono fun _ _ e=>.inr e).trans (f18.mono fun _ _ e=>.inl e)
  have hfr:Fr (fun b=>b=h2.size∨s.own b) h12 h18:=Fr.trans' (T:=fun b=>b=h2.size∨s.own b) (q15.mono fun _ _ e=>e.elim) hall18 fun i hi e=>e
  rw[wrap_succ hlt (by omega)]
  refine⟨⟨j+1,s17,us++[v63],rfl,hlt,by simp[hus],?_,c64,hw,hfr.blk E1 ?_,hfr.blk E2 ?_,?_,?_,by omega,?_,?_,fun e=>(by omega)⟩,by simp;omega⟩
  ·rw[List.drop_drop] at i64
   rw[hsu,←Nat.add_assoc]
   refine IntsQ.fr i64 (Fr.trans' (T:=fun b=>b=h2.size∨s.own b) (p15.mono fun _ _ e=>e.elim) hall18 fun i hi e=>e) fun b hb e=>?_
   have hb:=hQl b hb
   have:=g11.size
   rcases e with e|e
   ·omega
   ·have:=(hsge _ e).1;omega
  ·intro e
   rcases e with e|e
   ·omega
   ·have:=(hsge _ e).1;have:=g11.size;have:=E1.lt;have:=D1.lt;omega
  ·intro e
   rcases e with e|e
   ·omega
   ·have:=(hsge _ e).1;have:=D2.lt;omega
  ·rw[c6_app]
   have:=o17.frame f18 fun b hb e=>by
    rcases own17' b hb with q|q
    ·have:=(hsge b q).1;omega
    ·omega
   simpa [c6] using this
  ·exact g12.trans' hfr fun i hi e=>by
    rcases e with e|e
    ·omega
    ·have:=(hsge _ e).1;have:=g11.size;omega
  ·refine ir12.fr hfr fun b hb e=>?_
   rcases e with e|e
   ·rcases hb.1 with q|q
    ·have:=hQ b q;omega
    ·exact q.2.1 e
   ·have:=(hsge _ e).1;omega
  ·intro i hi hi'
   rcases Nat.lt_or_ge i us.length with q|q
   ·rw[List.getElem_append_left q]
    have x0:=(hel i q hi').weak (Q':=fun b=>((Q b∨h11.size≤b)∧¬s17.own b)∧¬(b=h2.size∨s.own b)) fun b hb hlt'=>⟨⟨hb.1,fun e=>(own17' b e).elim hb.2 fun e=>by omega⟩,fun e=>by
     rcases e with e|e
     ·rcases hb.1 with q|q
      ·have:=hQ b q;omega
      ·omega
     ·exact hb.2 e⟩
    exact (x0.fr hfr fun b hb=>hb.2).weak fun b hb _=>hb.1
   ·have hij:i=j:=by simp at hi;omega
    subst hij
    rw[List.getElem_append_right q]
    simp only[hus,Nat.sub_self,List.getElem_cons_zero]
    rw[List.drop_drop]
    have s13:=f13.size
    have s1315:=p15.size
    have sg11:=g11.size
    have x0:=t63.weak (Q':=fun b=>((Q b∨h11.size≤b)∧¬s17.own b)∧¬(b=h2.size∨s.own b)) fun b hb hlt'=>by
     have hns:¬s.own b:=fun e=>by
      have:=hsge b e
      rcases hb with hb|hb
      ·have:=hQ b hb;omega
      ·omega
     refine⟨⟨hb.imp id fun e=>by omega,fun e=>(own17' b e).elim hns fun e=>by omega⟩,fun e=>e.elim (fun e=>?_) hns⟩
     rcases hb with hb|hb
     ·have:=hQ b hb;omega
     ·omega
    exact (x0.fr (Fr.trans' (T:=fun b=>b=h2.size∨s.own b) (p15.mono fun _ _ e=>e.elim) hall18 fun i hi e=>e) fun b hb=>hb.2).weak fun b hb _=>hb.1
 ·have hje:j=az.length:=by omega
  subst hje
  rw[List.take_length] at il
  have sg11:=g11.size
  have hd2:=D2.lt
  refine rd6 (t:=⟨k,nm,mu,R',rs',s⟩) (Tv6.blk E6) ?_
  refine sto6 (v:=⟨k,nm,mu,R',rs',s⟩) E2 rfl fun h19 b19 f19=>?_
  refine rd6 (t:=⟨k,nm,mu,R',rs',s⟩) (Tv6.blk b19) ⟨g12.trans' f19 fun i hi e=>by omega,_,l1,rfl,?_,il.fr f19 fun b hb e=>(by have:=hQl b hb;omega),cl1',fun e=>hz e⟩
  refine tyAt_iff.2 ⟨rfl,rfl,rfl,rfl,?_,?_,fun i hi=>?_⟩
  ·refine (ir12.fr f19 fun b hb e=>?_).weak fun b hb _=>hb.1.imp id fun q=>q.1
   rcases hb.1 with q|q
   ·have:=hQ b q;omega
   ·exact q.2.2 e
  ·rw[withA_len];exact hnE
  ·have hi':i<az.length:=by rw[withA_len] at hi;exact hi
   obtain⟨p,q1,q2,q3⟩:=own6 oE (i:=i) (by omega)
   have hpb:=(oE.ge q2).1
   refine⟨p,us[i],q1,.inr (by omega),q3.fr f19 (by rw[add_block];omega),?_⟩
   rw[withA_get withT allT az _ i hi' hi]
   refine ((hel i (by omega) hi').fr f19 fun b hb e=>?_).weak fun b hb _=>hb.1.imp id fun q=>by omega
   rcases hb.1 with q|q
   ·have:=hQ b q;omega
   ·omega
end
end Go.Proofs.Yteofligmdngdgaa
namespace Go.Proofs.Yteofligmdngdgaa
open Go Go.Lf
set_option linter.unusedVariables false
theorem Pre.grow:Pre (fun a b:Heap=>Grow a b):=⟨fun h=>Fr.refl _ h,fun _ _ _ x y=>x.trans y,fun _ _ x=>x.size⟩
section
variable {Q:Nat→Prop} {h:Heap}
theorem sameR_spec:∀(a b:Ty) (n:Nat) (_:n≤100) (_:small n a=true) (v v':Tv) (h:Heap),TyAt Q h a v→TyAt Q h b v'→CallsH Try.prog 34 #[.agg (tvs v),.agg (tvs v')] h (fun x h'=>Grow h h'∧x=.bool (same a b)):=by
 intro a
 refine Ty.ind (P:=fun a=>∀(b:Ty) (n:Nat) (_:n≤100) (_:small n a=true) (v v':Tv) (h:Heap),TyAt Q h a v→TyAt Q h b v'→CallsH Try.prog 34 #[.agg (tvs v),.agg (tvs v')] h (fun x h'=>Grow h h'∧x=.bool (same a b))) ?_ a
 intro k nm mu r rs az ih b n hn hsm v v' h hv hv'
 obtain⟨k',nm',mu',r',rs',az'⟩:=b
 obtain⟨n,rfl,ha,_,hall⟩:=small_mk hsm
 obtain⟨e1,e2,e3,e4,e5,e6,e7⟩:=tyAt_iff.1 hv
 obtain⟨d1,d2,d3,d4,d5,d6,d7⟩:=tyAt_iff.1 hv'
 apply F34
 unfold L34
 refine new6 (v:=v) fun h1 b1 f1 _=>new6 (v:=v') fun h2 b2 f2 _=>?_
 have g2:=f1.trans f2
 have B1:=f2.blk b1 (fun h=>h)
 have T1:=Tv6.blk B1
 have T2:=Tv6.blk b2
 rw[same_mk]
 refine⟨fun x h'=>Grow h2 h'∧(x=true→(!((k != k') || (nm.toList != nm'.toList) || (mu != mu')) && ((k != 5 || rs.length == rs'.length) && sameA same az az'))=false) ∧
  (x=false→az.length=az'.length∧(!((k != k') || (nm.toList != nm'.toList) || (mu != mu')))=true∧(k != 5 || rs.length == rs'.length)=true),?_,?_⟩
 ·refine⟨fun h'=>Grow h2 h',Fr.refl _ _,_,T1.1,_,T2.1,?_⟩
  rw[e1,d1]
  refine⟨fun e=>⟨Fr.refl _ _,fun _=>by rw[e];rfl,fun h=>by cases h⟩,fun ek=>⟨_,T1.2.1,_,T2.2.1,?_⟩⟩
  rw[e2,d2]
  refine⟨fun e=>⟨Fr.refl _ _,fun _=>by rw[e];simp,fun h=>by cases h⟩,fun en=>⟨_,T1.2.2.1,_,T2.2.2.1,?_⟩⟩
  rw[e3,d3]
  refine⟨fun e=>⟨Fr.refl _ _,fun _=>by rw[e];simp,fun h=>by cases h⟩,fun em=>⟨_,fun h' hs=>(Tv6.blk (hs.blk B1 fun h=>h)).2.2.2.2.2,_,T2.2.2.2.2.2,?_⟩⟩
  dsimp only
  rw[e6,d6]
  refine⟨fun e=>⟨Fr.refl _ _,fun _=>?_,fun h=>by cases h⟩,fun el=>?_⟩
  ·have hne:az.length≠az'.length:=by simp at e;omega
   have:sameA same az az'=false:=by
    rw[←Bool.not_eq_true]
    exact fun e=>hne (sameA_len e)
   rw[this];simp
  have hla:az.length=az'.length:=by simp at el;omega
  refine rd6 T1 (hd6 (fun h' hs=>Tv6.blk (hs.blk b2 fun h=>h)) ?_)
  refine cal_of (own_spec (hv.grow g2)) ?_
  rintro _ h3 ⟨f3,s,rfl,i3⟩
  refine⟨s,rfl,f3,?_⟩
  refine cal_of (own_spec (hv'.grow (g2.trans f3))) ?_
  rintro _ h4 ⟨f4,s',rfl,i4⟩
  refine⟨s',rfl,f3.trans f4,?_⟩
  rw[i3.len,i4.len]
  have hk:k=k':=by simpa using ek
  subst hk
  have hown:((ownL (.mk k nm mu r rs az)).length=(ownL (.mk k nm' mu' r' rs' az')).length)↔((k != 5 || rs.length == rs'.length)=true):=by
   rw[ownL_mk,ownL_mk]
   by_cases h5:k=5
   ·subst h5;simp
   ·simp[h5]
    split<;>rfl
  constructor
  ·intro e
   have:¬((k != 5 || rs.length == rs'.length)=true):=fun h=>by
    have:=hown.2 h
    simp at e;omega
   rw[Bool.not_eq_true] at this
   rw[this];simp
  ·intro e
   refine⟨hla,by rw[ek,en,em];rfl,hown.1 (by simp at e;omega)⟩
 rintro x h3 ⟨f3,H1,H2⟩
 refine⟨fun e=>⟨g2.trans f3,by rw[H1 e]⟩,fun e=>?_⟩
 obtain⟨hla,H3,H4⟩:=H2 e
 rw[H3,H4,Bool.true_and,Bool.true_and]
 refine⟨fun i h'=>∃j:Nat,i=j∧j≤az.length∧Grow h2 h'∧∀q (h1:q<az.length) (h2:q<az'.length),q<j→same az[q] az'[q]=true,fun i _=>az.length - i.toNat,⟨0,rfl,Nat.zero_le _,f3,fun q _ _ h=>absurd h (Nat.not_lt_zero _)⟩,?_⟩
 rintro _ h6 ⟨j,rfl,hj,f6,hh⟩
 have T1':=Tv6.blk (f6.blk B1 fun h=>h)
 have T2':=Tv6.blk (f6.blk b2 fun h=>h)
 have g6:=g2.trans f6
 refine⟨_,T1'.2.2.2.2.2,?_⟩
 dsimp only
 rw[e6]
 refine ifb_iff (q:=j<az.length) (by simp) (fun hlt=>?_) (fun hge=>?_)
 ·have hlt':j<az'.length:=by omega
  refine⟨_,T1'.2.2.2.2.2,args_get (hv.grow g6) hlt fun u hu=>?_⟩
  refine⟨_,T2'.2.2.2.2.2,args_get (hv'.grow g6) hlt' fun u' hu'=>?_⟩
  refine cal_of (ih _ (List.getElem_mem hlt) _ n (by omega) (hall _ (List.getElem_mem hlt)) u u' h6 hu hu') ?_
  rintro _ h7 ⟨f7,rfl⟩
  refine⟨_,rfl,fun e'=>⟨g6.trans f7,?_⟩,fun e'=>?_⟩
  ·have e2:same az[j] az'[j]=false:=by simpa using e'
   have:sameA same az az'=false:=by
    rw[←Bool.not_eq_true]
    intro e
    rw[(sameA_iff.1 e).2 j hlt hlt'] at e2
    cases e2
   rw[this]
  ·have e2:same az[j] az'[j]=true:=by simpa using e'
   rw[wrap_succ hlt (by omega)]
   refine⟨⟨j+1,rfl,hlt,f6.trans f7,fun q h1 h2 hq=>?_⟩,by simp;omega⟩
   rcases Nat.lt_or_ge q j with e|e
   ·exact hh q h1 h2 e
   ·obtain rfl:q=j:=by omega
    exact e2
 ·refine⟨g6,?_⟩
  have:sameA same az az'=true:=sameA_iff.2 ⟨hla,fun q h1 h2=>hh q h1 h2 (by omega)⟩
  rw[this]
def hasOwn:Ty→Bool
 | .mk k _ _ _ _ _=>k == 7 || k == 8 || k == 9
theorem ownB_spec {t:Ty} {v:Tv} (hv:TyAt Q h t v):CallsH Try.prog 63 #[.agg (tvs v)] h (fun x h'=>Grow h h'∧x=.bool (hasOwn t)):=by
 obtain⟨k,nm,mu,r,rs,az⟩:=t
 obtain⟨e1,e2,e3,e4,e5,e6,e7⟩:=tyAt_iff.1 hv
 apply F63
 unfold L63
 refine new6 (v:=v) fun h1 b1 f1 z1=>?_
 have T1:=Tv6.blk b1
 refine⟨_,T1.1,?_⟩
 rw[e1]
 refine⟨fun x=>x=(k == 7 || k == 8),⟨fun e=>by rw[e];rfl,fun e=>⟨_,T1.1,by rw[e,e1];rfl⟩⟩,?_⟩
 rintro _ rfl
 refine⟨fun x=>x=(k == 7 || k == 8 || k == 9),⟨fun e=>by rw[e];rfl,fun e=>⟨_,T1.1,by rw[e,e1];rfl⟩⟩,?_⟩
 rintro _ rfl
 exact⟨f1,rfl⟩
theorem ownL_has (k:Int) (nm:ByteArray) (mu:Bool) (r:Int) (rs:List Int) (az:List Ty):ownL (.mk k nm mu r rs az)=(if hasOwn (.mk k nm mu r rs az)=true then [r] else [])++(if k=5 then rs else []):=by
 rw[ownL_mk]
 unfold hasOwn
 by_cases h79:7≤k∧k≤9
 ·rw[if_pos h79,if_neg (by omega:¬k=5)]
  have:(k == 7 || k == 8 || k == 9)=true:=by simp;omega
  rw[if_pos this];rfl
 ·rw[if_neg h79]
  have:¬((k == 7 || k == 8 || k == 9)=true):=by simp;omega
  rw[if_neg this];rfl
theorem allP_spec:∀(t:Ty) (n:Nat) (_:n≤8) (_:small n t=true) (v:Tv) (h:Heap),TyAt Q h t v→CallsH Try.prog 43 #[.agg (tvs v)] h (fun x h'=>Grow h h'∧∃s:Sv,x=.slice s.a s.n s.c∧Own h' h.size 1 s (ints (allT t))):=by
 intro t
 refine Ty.ind (P:=fun t=>∀(n:Nat) (_:n≤8) (_:small n t=true) (v:Tv) (h:Heap),TyAt Q h t v→CallsH Try.prog 43 #[.agg (tvs v)] h (fun x h'=>Grow h h'∧∃s:Sv,x=.slice s.a s.n s.c∧Own h' h.size 1 s (ints (allT t)))) ?_ t
 intro k nm mu r rs az ih n hn hsm v h hv
 have hown:=ownL_len hsm
 obtain⟨m,rfl,ha4,hr6,hall⟩:=small_mk hsm
 have hb:=bnd8 hn
 have hbm:bnd (m+1)=14+4*bnd m:=rfl
 obtain⟨e1,e2,e3,e4,e5,e6,e7⟩:=tyAt_iff.1 hv
 apply F43
 unfold L43
 refine new6 (v:=v) fun h1 b1 f1 z1=>?_
 have f1s:=f1.size
 refine⟨fun s h'=>Grow h h'∧blk h' h.size (tvs v)∧(∀b,s.own b→h1.size≤b)∧Own h' h.size 1 s (ints (if hasOwn (.mk k nm mu r rs az)=true then [r] else [])),?_,?_⟩
 ·refine rd6 (Tv6.blk b1) ?_
  refine cal_of (ownB_spec (hv.grow f1)) ?_
  rintro _ h2 ⟨f2,rfl⟩
  refine⟨_,rfl,fun e=>?_,fun e=>?_⟩
  ·have B2:=f2.blk b1 (fun h=>h)
   refine⟨_,(Tv6.blk B2).2.2.2.1,?_⟩
   have s2:=f2.size
   refine app1 rfl (Own.nil h2 h.size 1) rfl (by simp[Value.oneCell']) (by omega) (by dsimp only;omega) (by dsimp only;omega) fun s' h' e1' o' f' hown'=>?_
   have g':Grow h2 h':=f'.mono fun _ _ ⟨a,ea,_⟩=>by cases ea
   refine⟨(f1.trans f2).trans g',g'.blk B2 (fun h=>h),fun b hb=>?_,?_⟩
   ·rcases hown' b hb with⟨a,ea,_⟩|e
    ·cases ea
    ·omega
   ·rw[if_pos e]
    rw[e4] at o'
    simpa [ints] using o'
  ·refine⟨f1.trans f2,f2.blk b1 (fun h=>h),fun b hb=>(by obtain⟨a,ea,_⟩:=hb;cases ea),?_⟩
   rw[if_neg (by rw[e];simp)]
   exact Own.nil _ _ _
 rintro l3 h5 ⟨g5,B5,w5,o5⟩
 refine⟨fun s h'=>Grow h h'∧blk h' h.size (tvs v)∧(∀b,s.own b→h1.size≤b)∧Own h' h.size 1 s (ints (ownL (.mk k nm mu r rs az))),?_,?_⟩
 ·refine⟨_,(Tv6.blk B5).1,?_⟩
  rw[e1,ownL_has]
  have hl5:l3.n≤1:=by
   have:=o5.len
   simp only[ints,List.length_map,Nat.mul_one] at this
   rw[←this]
   split<;>simp
  refine ifb_iff (q:=k=5) (by simp) (fun h5'=>?_) (fun h5'=>?_)
  ·refine⟨_,(Tv6.blk B5).2.2.2.2.1,?_⟩
   have i5:=(e5.fr g5 fun _ _ h=>h).ints
   have g5s:=g5.size
   refine appS_own rfl o5 (news:=ints rs) (by simp[ints,i5.len]) (ints_row i5) (one_ints _) (by omega) (by rw[i5.len];omega) (by rw[i5.len];omega) ?_
   intro s' h' hn' o' f' own'
   refine⟨g5.trans' f' fun i hi e=>by have:=w5 _ e;omega,f'.blk B5 fun e=>by have:=w5 _ e;omega,fun b hb=>?_,?_⟩
   ·rcases own' b hb with e|e
    ·exact w5 b e
    ·have:=B5.lt;omega
   ·rw[if_pos h5']
    simpa [ints] using o'
  ·rw[if_neg h5',List.append_nil]
   exact⟨g5,B5,w5,o5⟩
 rintro l3 h7 ⟨g7,B7,w7,o7⟩
 refine⟨_,(Tv6.blk B7).2.2.2.2.2,?_⟩
 refine⟨fun out i h'=>∃j:Nat,i=j∧j≤az.length∧Grow h h'∧blk h' h.size (tvs v)∧(∀b,out.own b→h1.size≤b)∧Own h' h.size 1 out (ints (ownL (.mk k nm mu r rs az)++(az.take j).flatMap allT)),fun _ i _=>az.length - i.toNat,⟨0,rfl,Nat.zero_le _,g7,B7,w7,by simpa [ints] using o7⟩,?_⟩
 rintro out _ h8 ⟨j,rfl,hj,g8,B8,w8,o8⟩
 refine ifb_iff (q:=j<az.length) (by simp[e6]) (fun hl=>?_) (fun hl=>?_)
 ·refine args_get (hv.grow g8) hl fun u hu=>?_
  refine newz fun h9 b9 f9 z9=>sto6 (v:=u) b9 rfl fun h10 b10 f10=>?_
  have f10':Grow h8 h10:=f9.trans' f10 fun i hi e=>by omega
  refine rd6 (Tv6.blk b10) ?_
  refine cal_of (ih _ (List.getElem_mem hl) m (by omega) (hall _ (List.getElem_mem hl)) u h10 (hu.grow f10')) ?_
  rintro _ h11 ⟨f11,s6,rfl,o6⟩
  refine⟨s6,rfl,?_⟩
  have F:=f10'.trans f11
  have Fs:=F.size
  have hl6:=allT_len m az[j] (hall _ (List.getElem_mem hl))
  have hn6:s6.n=(allT az[j]).length:=by have:=o6.len;simp[ints] at this;omega
  have hfl:=flat_len (f:=allT) (m:=bnd m) (az.take j) fun a ha=>allT_len m a (hall a (List.mem_of_mem_take ha))
  have hfl2:(az.take j).length*bnd m≤4*bnd m:=Nat.mul_le_mul_right _ (by simp;omega)
  have hno:out.n=(ownL (.mk k nm mu r rs az)++(az.take j).flatMap allT).length:=by have:=o8.len;simp[ints] at this ⊢;omega
  rw[List.length_append] at hno
  have g8s:=g8.size
  refine appS_own rfl (o8.frame F fun _ _ h=>h) (news:=ints (allT az[j])) (by simp[ints,hn6]) o6.row (one_ints _) (by omega) (by omega) (by omega) ?_
  intro s7 h12 _ o12 f12 own12
  rw[wrap_succ hl (by omega)]
  refine⟨⟨j+1,rfl,hl,(g8.trans F).trans' f12 fun i hi e=>by have:=(o8.ge e).1;omega,f12.blk (F.blk B8 fun h=>h) fun e=>by have:=w8 _ e;omega,fun b hb=>?_,?_⟩,by simp;omega⟩
  ·rcases own12 b hb with e|e
   ·exact w8 b e
   ·have:=B8.lt;omega
  ·rw[List.take_add_one,List.getElem?_eq_getElem hl,List.flatMap_append,←List.append_assoc]
   simpa [ints] using o12
 ·have hje:j=az.length:=by omega
  subst hje
  rw[List.take_length,←allT_mk] at o8
  exact⟨g8,_,rfl,o8⟩
theorem allT_big {n:Nat} (hn:n≤8) {t:Ty} (h:small n t=true):(allT t).length≤4611686018427387904:=by
 have h1:=allT_len n t h
 have h2:=bnd8 hn
 generalize bnd n=z at h1 h2
 omega
end
end Go.Proofs.Yteofligmdngdgaa
namespace Go.Lf
open Go
theorem add_add (p:Addr) (a b:Nat):(p.add a).add b=p.add (a+b):=by
 obtain⟨k,o,s⟩:=p
 by_cases hb:b=0
 ·subst hb;simp[Addr.add]
 ·by_cases ha:a=0
  ·subst ha;simp[Addr.add]
  ·simp[Addr.add,ha,hb,Nat.add_assoc]
theorem own_addr {h:Heap} {B sz:Nat} {s:Sv} {xs:List Value} (o:Own h B sz s xs) (hn:0<s.n):∃g,s.a=some ⟨g,0,none⟩:=by
 rcases o.mem with⟨_,e,_⟩|⟨g,cur,e,_⟩
 ·omega
 ·exact⟨g,e⟩
theorem own_stoA {h:Heap} {B sz:Nat} {s:Sv} {xs:List Value} (o:Own h B sz s xs) {i:Nat} (hi:i<s.n) {vs:List Value} (hl:vs.length=sz) (h1:∀v∈vs,v.oneCell'=true) {p:Addr} (hp:s.a=some p) {K:Heap→Prop}
  (k:∀h',Own h' B sz s (xs.take (i*sz)++vs++xs.drop (i*sz+sz))→Fr s.own h h'→K h'):stoA h (p.add (i*sz)) vs K:=by
 rcases o.mem with⟨e,_,_⟩|⟨g,cur,e,hB,kk,hc,hsz,ht⟩
 ·rw[e] at hp;cases hp
 rw[e] at hp
 simp only[Option.some.injEq] at hp
 subst hp
 have hlt:i*sz+sz≤s.n*sz:=by rw[←Nat.succ_mul];exact Nat.mul_le_mul_right _ hi
 have hcap:s.n*sz≤cur.size:=by rw[hsz];exact Nat.mul_le_mul_right _ hc
 have hfit:i*sz+vs.length≤cur.size:=by omega
 refine⟨h1,fun j hj=>?_,?_⟩
 ·rw[add_plain,add_plain]
  refine⟨?_,kk.fz _⟩
  rw[kk.cl]
  have:i*sz+j<cur.size:=by omega
  simp[this]
 ·rintro h' rfl
  have hs:=scs_blk g vs h cur (i*sz) 0 kk
  simp only[Nat.add_zero] at hs
  rw[add_plain,Nat.zero_add]
  have hf:=fold_set vs cur (i*sz) hfit
  refine k _ ⟨?_,.inr ⟨g,_,e,hB,hs.1,hc,?_,?_⟩⟩ (hs.2.mono fun b _ hb=>⟨_,e,hb.symm⟩)
  ·have:=o.len
   simp only[List.length_append,List.length_take,List.length_drop]
   omega
  ·rw[←hsz,←Array.length_toList,hf]
   simp
   omega
  ·rw[hf]
   have hxl:=o.len
   apply List.ext_getElem?
   intro q
   rw[←ht]
   simp only[List.getElem?_take,List.getElem?_append,List.length_take,List.length_append,List.getElem?_drop,Array.length_toList]
   have m1:min (i*sz) cur.size=i*sz:=by omega
   have m2:min (s.n*sz) cur.size=s.n*sz:=by omega
   have m3:min (i*sz) (s.n*sz)=i*sz:=by omega
   simp only[m1,m2,m3,hl]
   by_cases q1:q<s.n*sz
   ·by_cases q2:q<i*sz
    ·have q3:q<i*sz+sz:=by omega
     simp[q1,q2,q3]
    ·by_cases q3:q<i*sz+sz
     ·simp[q1,q2,q3]
     ·simp[q1,q3]
      intro hh;omega
   ·have q3:¬q<i*sz+sz:=by omega
    simp[q1,q3]
    intro hh;omega
theorem own_sto {h:Heap} {B:Nat} {s:Sv} {xs:List Value} (o:Own h B 1 s xs) {i:Nat} (hi:i<s.n) {v:Value} (h1:v.oneCell'=true) {p:Addr} (hp:s.a=some p) {K:Heap→Prop}
  (k:∀h',Own h' B 1 s (xs.take i++[v]++xs.drop (i+1))→Fr s.own h h'→K h'):sto h (p.add (i*1)) v K:=by
 obtain⟨_,q2,q3⟩:=own_stoA o hi (vs:=[v]) rfl (by simpa using h1) hp (K:=K) (by rw[Nat.mul_one];exact k)
 have f0:=q2 0 (by simp)
 rw[show ((p.add (i*1)).add 0)=p.add (i*1) from add_zero _] at f0
 refine⟨f0.1,f0.2,fun h' e=>q3 h' ?_⟩
 rw[e]
 simp only[scs]
 rw[show ((p.add (i*1)).add 0)=p.add (i*1) from add_zero _]
end Go.Lf
namespace Go.Proofs.Yteofligmdngdgaa
open Go Go.Lf
set_option linter.unusedVariables false
def prs (l:List (Int×Int)):List Value:=l.flatMap fun p=>[.int .i64 p.1,.int .i64 p.2]
theorem prs_len (l:List (Int×Int)):(prs l).length=l.length*2:=by
 induction l with
 | nil=>rfl
 | cons a l ih=>simp only[prs,List.flatMap_cons,List.length_append,List.length_cons,List.length_nil] at ih ⊢;omega
theorem prs_app (l m:List (Int×Int)):prs (l++m)=prs l++prs m:=by simp[prs]
theorem prs_get:∀(l:List (Int×Int)) (i:Nat) (hi:i<l.length),(prs l)[i*2]?=some (.int .i64 l[i].1)∧(prs l)[i*2+1]?=some (.int .i64 l[i].2)
 | a :: l,0,_=>⟨rfl,rfl⟩
 | a :: l,i+1,hi=>by
  have e:prs (a :: l)=[.int .i64 a.1,.int .i64 a.2]++prs l:=rfl
  have:=prs_get l i (by simpa using hi)
  rw[e,show (i+1)*2=2+i*2 by omega,show 2+i*2+1=2+(i*2+1) by omega]
  rw[List.getElem?_append_right (by simp),List.getElem?_append_right (by simp)]
  simpa [show 2+(i*2+1) - 2=i*2+1 by omega] using this
theorem one_prs (l:List (Int×Int)):∀u∈prs l,u.oneCell'=true:=by
 intro u hu
 obtain⟨p,_,hu⟩:=List.mem_flatMap.1 hu
 simp only[List.mem_cons,List.not_mem_nil,or_false] at hu
 rcases hu with rfl|rfl<;>rfl
structure PrQ (Q:Nat→Prop) (h:Heap) (s:Sv) (l:List (Int×Int)):Prop where
 len:s.n=l.length
 at_:∀i (hi:i<l.length),∃p,s.a=some p∧Q p.block∧cl h (p.add (i*2))=some (.int .i64 l[i].1)∧cl h ((p.add (i*2)).add 1)=some (.int .i64 l[i].2)
theorem PrQ.fr {Q T:Nat→Prop} {h h':Heap} {s:Sv} {l:List (Int×Int)} (x:PrQ Q h s l) (f:Fr T h h') (hT:∀b,Q b→¬T b):PrQ Q h' s l:=
 ⟨x.len,fun i hi=>by obtain⟨p,e,q,c,d⟩:=x.at_ i hi;exact⟨p,e,q,f.clk c (by rw[add_block];exact hT _ q),f.clk d (by rw[add_block,add_block];exact hT _ q)⟩⟩
theorem PrQ.weak {Q Q':Nat→Prop} {h:Heap} {s:Sv} {l:List (Int×Int)} (x:PrQ Q h s l) (hq:∀b,Q b→b<h.size→Q' b):PrQ Q' h s l:=
 ⟨x.len,fun i hi=>by obtain⟨p,e,q,c,d⟩:=x.at_ i hi;exact⟨p,e,hq _ q (by rw[←add_block p (i*2)];exact cl_lt c),c,d⟩⟩
theorem PrQ.nil (Q:Nat→Prop) (h:Heap) (a:Option Addr) (c:Nat):PrQ Q h ⟨a,0,c⟩ []:=⟨rfl,fun i hi=>by simp at hi⟩
theorem own_prs {h:Heap} {B:Nat} {s:Sv} {l:List (Int×Int)} (o:Own h B 2 s (prs l)):PrQ s.own h s l:=by
 have hn:s.n=l.length:=by have:=o.len;rw[prs_len] at this;omega
 refine⟨hn,fun i hi=>?_⟩
 have hr:=o.row
 rcases o.mem with⟨_,e,_⟩|⟨g,cur,e,_⟩
 ·omega
 rw[e] at hr
 obtain⟨c1,c2⟩:=prs_get l i hi
 refine⟨_,e,⟨_,e,rfl⟩,hr _ _ c1,?_⟩
 have:=hr _ _ c2
 rw[add_plain] at this
 rw[add_plain,add_plain,show 0+i*2+1=0+(i*2+1) by omega]
 exact this
theorem prs_row {Q:Nat→Prop} {h:Heap} {s:Sv} {l:List (Int×Int)} (x:PrQ Q h s l):RowO h s.a (prs l):=by
 cases ha:s.a with
 | none=>
  cases l with
  | nil=>rfl
  | cons a l=>
   obtain⟨p,e,_⟩:=x.at_ 0 (by simp)
   rw[ha] at e;cases e
 | some p=>
  intro j v hv
  have hj:j<(prs l).length:=(List.getElem?_eq_some_iff.1 hv).1
  rw[prs_len] at hj
  have hi:j / 2<l.length:=by omega
  obtain⟨q,e,_,c,d⟩:=x.at_ (j / 2) hi
  rw[ha] at e
  simp only[Option.some.injEq] at e
  subst e
  obtain⟨c1,c2⟩:=prs_get l (j / 2) hi
  rcases Nat.mod_two_eq_zero_or_one j with h0|h0
  ·have ej:j=j / 2*2:=by omega
   rw[ej] at hv ⊢
   rw[c1] at hv
   rw[c,hv]
  ·have ej:j=j / 2*2+1:=by omega
   rw[ej] at hv ⊢
   rw[c2] at hv
   rw[add_add] at d
   rw[d,hv]
theorem slot_none {rs:List Int} {az:List Ty} {i:Int} (h0:¬i=0) (h1:¬(1≤i∧i≤(rs.length:Int))) (h2:¬((rs.length:Int)<i∧i - rs.length≤(az.length:Int))) :
  (if i<0 then [] else if i=0 then [0] else match rs[i.toNat - 1]? with
  | some x=>[x]
  | none=>match az[i.toNat - rs.length - 1]? with
   | some a=>allT a
   | none=>[])=([]:List Int):=by
 by_cases hn:i<0
 ·rw[if_pos hn]
 ·rw[if_neg hn,if_neg h0,List.getElem?_eq_none (by omega:rs.length≤i.toNat - 1),List.getElem?_eq_none (by omega:az.length≤i.toNat - rs.length - 1)]
def inI (x:Int):Prop:=-9223372036854775808≤x∧x≤9223372036854775807
def crossL (a b:List Int):List (Int×Int):=a.flatMap fun x=>b.map fun y=>(x,y)
theorem crossL_snoc (a b:List Int) (x:Int):crossL (a++[x]) b=crossL a b++b.map fun y=>(x,y):=by unfold crossL;rw[List.flatMap_append];simp
theorem crossL_len (a b:List Int):(crossL a b).length=a.length*b.length:=by
 induction a with
 | nil=>simp[crossL]
 | cons x a ih=>unfold crossL at ih ⊢;rw[List.flatMap_cons,List.length_append,ih,List.length_map,List.length_cons,Nat.succ_mul,Nat.add_comm]
section
variable {Q:Nat→Prop} {h:Heap}
theorem cross_spec {B:Nat} {l a b:Sv} {L:List (Int×Int)} {xs ys:List Int} (o:Own h B 2 l (prs L)) (hx:IntsQ Q h a xs) (hy:IntsQ Q h b ys) (hQ:∀b,Q b→¬l.own b) (hQl:∀b,Q b→b<h.size) (hB:B≤h.size) (hxl:xs.length≤400000) (hyl:ys.length≤400000) (hL:L.length+xs.length*ys.length≤8000000000000) :
  CallsH Try.prog 64 #[.slice l.a l.n l.c,.slice a.a a.n a.c,.slice b.a b.n b.c] h (fun x h'=>∃s:Sv,x=.slice s.a s.n s.c∧Own h' B 2 s (prs (L++crossL xs ys))∧Fr l.own h h'∧∀b,s.own b→l.own b∨h.size≤b):=by
 apply F64
 unfold L64
 rw[hx.len]
 have hmul:∀j,j≤xs.length→j*ys.length≤xs.length*ys.length:=fun j hj=>Nat.mul_le_mul_right _ hj
 refine⟨fun s i h'=>∃j:Nat,i=j∧j≤xs.length∧Own h' B 2 s (prs (L++crossL (xs.take j) ys))∧Fr l.own h h'∧(∀b,s.own b→l.own b∨h.size≤b),fun _ i _=>xs.length - i.toNat,⟨0,rfl,Nat.zero_le _,by simpa [crossL] using o,Fr.refl _ _,fun _ h=>.inl h⟩,?_⟩
 rintro s1 _ h1 ⟨j,rfl,hj,o1,f1,w1⟩
 refine ifb_iff (q:=j<xs.length) (by simp) (fun hl=>?_) (fun hl=>?_)
 rotate_left
 ·have:j=xs.length:=by omega
  subst this
  rw[List.take_length] at o1
  exact⟨s1,rfl,o1,f1,w1⟩
 refine (hx.fr f1 hQ).ints.get hl ?_
 rw[hy.len]
 have hm1:=hmul (j+1) hl
 rw[Nat.succ_mul] at hm1
 refine⟨fun s i h'=>∃q:Nat,i=q∧q≤ys.length∧Own h' B 2 s (prs (L++crossL (xs.take j) ys++(ys.take q).map fun y=>(xs[j],y)))∧Fr l.own h h'∧(∀b,s.own b→l.own b∨h.size≤b),fun _ i _=>ys.length - i.toNat,⟨0,rfl,Nat.zero_le _,by simpa using o1,f1,w1⟩,?_⟩
 rintro s2 _ h2 ⟨q,rfl,hq,o2,f2,w2⟩
 refine ifb_iff (q:=q<ys.length) (by simp) (fun hl2=>?_) (fun hl2=>?_)
 ·refine (hy.fr f2 hQ).ints.get hl2 ?_
  have hn2:s2.n=L.length+j*ys.length+q:=by
   have:=o2.len
   rw[prs_len,List.length_append,List.length_append,crossL_len,List.length_map,List.length_take,List.length_take,Nat.min_eq_left (by omega),Nat.min_eq_left (by omega)] at this
   omega
  have hs2:=f2.size
  refine app1 rfl o2 rfl (by simp[Value.oneCell']) (by omega) (by omega) (by omega) fun s' h4 e1 o' f' hown=>?_
  rw[wrap_succ hl2 (by omega)]
  refine⟨⟨q+1,rfl,hl2,?_,f2.trans' f' fun i hi e=>(w2 i e).resolve_right (by omega),fun b hb=>?_⟩,by simp;omega⟩
  ·rw[List.take_succ_eq_append_getElem hl2,List.map_append,←List.append_assoc,prs_app]
   exact o'
  ·rcases hown b hb with e|e
   ·exact w2 b e
   ·exact .inr (by omega)
 ·have hqe:q=ys.length:=by omega
  subst hqe
  rw[List.take_length] at o2
  rw[wrap_succ hl (by omega)]
  refine⟨⟨j+1,rfl,hl,?_,f2,w2⟩,by simp;omega⟩
  rw[List.take_succ_eq_append_getElem hl,crossL_snoc,←List.append_assoc]
  exact o2
theorem crossR_spec {a b:Sv} {xs ys:List Int} (hx:IntsAt h a xs) (hy:IntsAt h b ys) (hxl:xs.length≤400000) (hyl:ys.length≤400000) (hL:xs.length*ys.length≤8000000000000) :
  CallsH Try.prog 53 #[.slice a.a a.n a.c,.slice b.a b.n b.c] h (fun x h'=>∃s:Sv,x=.slice s.a s.n s.c∧Own h' h.size 2 s (prs (crossL xs ys))∧Grow h h'):=by
 apply F53
 unfold L53
 rw[hx.len]
 have hmul:∀j,j≤xs.length→j*ys.length≤xs.length*ys.length:=fun j hj=>Nat.mul_le_mul_right _ hj
 refine⟨fun s i h'=>∃j:Nat,i=j∧j≤xs.length∧Own h' h.size 2 s (prs (crossL (xs.take j) ys))∧Grow h h',fun _ i _=>xs.length - i.toNat,⟨0,rfl,Nat.zero_le _,by simpa [crossL,prs] using Own.nil h h.size 2,Fr.refl _ _⟩,?_⟩
 rintro s1 _ h1 ⟨j,rfl,hj,o1,f1⟩
 refine ifb_iff (q:=j<xs.length) (by simp) (fun hl=>?_) (fun hl=>?_)
 rotate_left
 ·have:j=xs.length:=by omega
  subst this
  rw[List.take_length] at o1
  exact⟨s1,rfl,o1,f1⟩
 rw[hy.len]
 have hm1:=hmul (j+1) hl
 rw[Nat.succ_mul] at hm1
 refine⟨fun s i h'=>∃q:Nat,i=q∧q≤ys.length∧Own h' h.size 2 s (prs (crossL (xs.take j) ys++(ys.take q).map fun y=>(xs[j],y)))∧Grow h h',fun _ i _=>ys.length - i.toNat,⟨0,rfl,Nat.zero_le _,by simpa using o1,f1⟩,?_⟩
 rintro s2 _ h2 ⟨q,rfl,hq,o2,f2⟩
 refine ifb_iff (q:=q<ys.length) (by simp) (fun hl2=>?_) (fun hl2=>?_)
 ·refine (hx.keep f2 fun _ _ h=>h).get hl ?_
  refine (hy.keep f2 fun _ _ h=>h).get hl2 ?_
  have hn2:s2.n=j*ys.length+q:=by
   have:=o2.len
   rw[prs_len,List.length_append,crossL_len,List.length_map,List.length_take,List.length_take,Nat.min_eq_left (by omega),Nat.min_eq_left (by omega)] at this
   omega
  refine app1 rfl o2 rfl (by simp[Value.oneCell']) f2.size (by omega) (by omega) fun s' h4 e1 o' f' hown=>?_
  rw[wrap_succ hl2 (by omega)]
  refine⟨⟨q+1,rfl,hl2,?_,f2.trans' f' fun i hi e=>by have:=(o2.ge e).1;omega⟩,by simp;omega⟩
  rw[List.take_succ_eq_append_getElem hl2,List.map_append,←List.append_assoc,prs_app]
  exact o'
 ·have hqe:q=ys.length:=by omega
  subst hqe
  rw[List.take_length] at o2
  rw[wrap_succ hl (by omega)]
  refine⟨⟨j+1,rfl,hl,?_,f2⟩,by simp;omega⟩
  rw[List.take_succ_eq_append_getElem hl,crossL_snoc]
  exact o2
noncomputable def slotL:Ty→Int→List Int
 | .mk _ _ _ _ rs az,i=>if i<0 then [] else if i=0 then [0] else match rs[i.toNat - 1]? with
  | some x=>[x]
  | none=>match az[i.toNat - rs.length - 1]? with
   | some a=>allT a
   | none=>[]
theorem slotL_mk (k:Int) (nm:ByteArray) (mu:Bool) (r:Int) (rs:List Int) (az:List Ty) (i:Int):slotL (.mk k nm mu r rs az) i=if i<0 then [] else if i=0 then [0] else match rs[i.toNat - 1]? with
  | some x=>[x]
  | none=>match az[i.toNat - rs.length - 1]? with
   | some a=>allT a
   | none=>[]:=rfl
theorem slot_spec {t:Ty} {n:Nat} (hn:n≤8) (hsm:small n t=true) {v:Tv} (hv:TyAt Q h t v) {i:Int} (hi:inI i) :
  CallsH Try.prog 65 #[.agg (tvs v),.int .i64 i] h (fun x h'=>Grow h h'∧∃s:Sv,x=.slice s.a s.n s.c∧IntsQ (fun b=>Q b∨h.size≤b) h' s (slotL t i)):=by
 obtain⟨k,nm,mu,r,rs,az⟩:=t
 obtain⟨m,rfl,ha4,hr6,hall⟩:=small_mk hsm
 obtain⟨e1,e2,e3,e4,e5,e6,e7⟩:=tyAt_iff.1 hv
 unfold inI at hi
 apply F65
 unfold L65
 rw[slotL_mk]
 refine new6 (v:=v) fun h1 b1 f1 z1=>?_
 have T1:=Tv6.blk b1
 refine⟨_,T1.2.2.2.2.1,?_⟩
 refine ifb_iff (q:=i=0) (by simp) (fun h0=>?_) (fun h0=>?_)
 ·rintro s12 h2 rfl rfl
  rw[if_neg (by omega),if_pos h0]
  refine⟨f1.trans (Fr.push _ _ _),_,rfl,rfl,fun j hj=>?_⟩
  obtain rfl:j=0:=by simp at hj;omega
  refine⟨_,rfl,.inr f1.size,?_⟩
  rw[Nat.zero_mul,add_zero,(blk.new h1 _ _).cl]
  rfl
 have e5':=e5.fr f1 fun _ _ h=>h
 have hlt1:=f1.size
 refine ifb_iff (q:=1≤i∧i≤(rs.length:Int)) (by rw[e5.len];simp) (fun h1'=>?_) (fun h1'=>?_)
 ·refine⟨_,T1.2.2.2.2.1,?_⟩
  have hw:IntKind.i64.wrap (i - 1)=i - 1:=wrap64_id (by omega) (by omega)
  rw[hw,if_neg (by omega),if_neg h0]
  have hir:i.toNat - 1<rs.length:=by omega
  rw[List.getElem?_eq_getElem hir]
  dsimp only
  obtain⟨p,ea,hq,c⟩:=e5'.at_ (i.toNat - 1) hir
  obtain⟨p0,ea0,hq0,c0⟩:=e5'.at_ 0 (by omega)
  rw[ea] at ea0
  simp only[Option.some.injEq] at ea0
  subst ea0
  rw[Nat.zero_mul,add_zero] at c0
  have hsp:=cl_spot c0
  refine⟨by omega,by omega,?_,?_⟩
  ·have:=e5.cap;have:=e5.len;omega
  rintro ⟨sa,sn,sc⟩ q1 q2 q3
  dsimp only at q1 q2 q3
  refine⟨f1,_,rfl,by dsimp only;rw[q2];simp only[List.length_cons,List.length_nil];omega,fun j hj=>?_⟩
  obtain rfl:j=0:=by simp at hj;omega
  have hci:=e5.cap
  rw[e5.len] at hci
  by_cases hcc:v.rs.c=(i - 1).toNat
  ·omega
  ·rw[if_neg hcc,ea] at q1
   refine⟨_,q1,.inl (by rw[add_block];exact hq),?_⟩
   rw[addr_add_add _ _ _ hsp]
   have:(i - 1).toNat*1+0*1=(i.toNat - 1)*1:=by omega
   rw[this]
   exact c
 have hwk:((rs.length:Nat):Int)<i→IntKind.i64.wrap (i - ((v.rs.n:Nat):Int))=i - rs.length:=fun hlt=>by rw[e5.len,wrap64_id (by omega) (by omega)]
 refine⟨fun x=>x=(decide ((rs.length:Int)<i) && decide (i - rs.length≤(az.length:Int))),⟨fun e=>⟨_,T1.2.2.2.2.2,?_⟩,fun e=>?_⟩,?_⟩
 ·have hlt:((rs.length:Nat):Int)<i:=by rw[e5.len] at e;simpa using e
  rw[hwk hlt]
  dsimp only
  rw[e6,decide_eq_true hlt]
  rfl
 ·have hlt:¬((rs.length:Nat):Int)<i:=by rw[e5.len] at e;simpa using e
  rw[decide_eq_false hlt]
  rfl
 rintro _ rfl
 refine ifb_iff (q:=(rs.length:Int)<i∧i - rs.length≤(az.length:Int)) (by simp) (fun h2'=>?_) (fun h2'=>?_)
 ·have hq:i.toNat - rs.length - 1<az.length:=by omega
  have hw2:IntKind.i64.wrap (i - (rs.length:Int) - 1)=((i.toNat - rs.length - 1:Nat):Int):=by rw[wrap64_id (by omega) (by omega)];omega
  rw[hwk h2'.1,hw2,if_neg (by omega),if_neg h0,List.getElem?_eq_none (by omega:rs.length≤i.toNat - 1),List.getElem?_eq_getElem hq]
  dsimp only
  refine⟨_,T1.2.2.2.2.2,args_get (hv.grow f1) hq fun u hu=>?_⟩
  refine cal_of (allP_spec az[i.toNat - rs.length - 1] m (by omega) (hall _ (List.getElem_mem hq)) u h1 hu) ?_
  rintro _ h3 ⟨f3,s,rfl,o3⟩
  exact⟨_,rfl,f1.trans f3,_,rfl,IntsQ.of (own_ints o3) fun b hb _=>.inr (by have:=(o3.ge hb).1;omega)⟩
 ·rw[slot_none h0 h1' h2']
  exact⟨f1,_,rfl,(IntsC.nil _ _).toIntsQ⟩
end
end Go.Proofs.Yteofligmdngdgaa
namespace Go.Proofs.Yteofligmdngdgaa
open Go Go.Lf
set_option linter.unusedVariables false
theorem MapAt.fr {h h':Heap} {m:Value} {es:List (ByteArray×Value)} {T:Nat→Prop} (x:MapAt h m es) (f:Fr T h h') (hT:∀r,m=.map (some r)→¬T r):MapAt h' m es:=by
 rcases x with x|⟨r,L,c,e,hr,hL⟩
 ·exact .inl x
 ·have hlt:r<h.size:=by
   rcases Nat.lt_or_ge r h.size with e|e
   ·exact e
   ·simp[Array.getElem?_eq_none e] at hr
  exact .inr ⟨r,L,c,e,by rw[f.same r hlt (hT r e)];exact hr,hL⟩
theorem own_low {h:Heap} {B B' sz:Nat} {s:Sv} {xs:List Value} (o:Own h B sz s xs) (hB:B'≤B):Own h B' sz s xs:=
 ⟨o.len,o.mem.imp id fun ⟨g,cur,e,hg,r⟩=>⟨g,cur,e,Nat.le_trans hB hg,r⟩⟩
def lkN (nm:ByteArray):List (ByteArray×List (Int×Int))→List (Int×Int)
 | []=>[]
 | (q,l) :: r=>if nm=q then l else lkN nm r
def NeedsAt (Q:Nat→Prop) (h:Heap) (w:Option Nat) (ns:List (ByteArray×List (Int×Int))):Prop:=
 ∃es:List (ByteArray×Sv×List (Int×Int)),ns=es.map (fun e=>(e.1,e.2.2))∧MapAt h (.map w) (es.map fun e=>(e.1,e.2.1.v))∧(∀r,w=some r→Q r)∧∀e∈es,PrQ Q h e.2.1 e.2.2∧(∀p∈e.2.2,inI p.1∧inI p.2)∧e.2.2.length≤10
theorem NeedsAt.fr {Q T:Nat→Prop} {h h':Heap} {w:Option Nat} {ns:List (ByteArray×List (Int×Int))} (x:NeedsAt Q h w ns) (f:Fr T h h') (hT:∀b,Q b→¬T b):NeedsAt Q h' w ns:=by
 obtain⟨es,e,m,q,k⟩:=x
 exact⟨es,e,MapAt.fr m f fun r hr=>hT r (q r (by simpa using hr)),q,fun e he=>⟨(k e he).1.fr f hT,(k e he).2⟩⟩
theorem NeedsAt.weak {Q Q':Nat→Prop} {h:Heap} {w:Option Nat} {ns:List (ByteArray×List (Int×Int))} (x:NeedsAt Q h w ns) (hq:∀b,Q b→b<h.size→Q' b):NeedsAt Q' h w ns:=by
 obtain⟨es,e,m,q,k⟩:=x
 refine⟨es,e,m,fun r hr=>hq r (q r hr) ?_,fun e he=>⟨(k e he).1.weak hq,(k e he).2⟩⟩
 rcases m with⟨m,_⟩|⟨r',L,c,m,hr',_⟩
 ·rw[hr] at m;cases m
 ·rw[hr] at m
  simp only[Value.map.injEq,Option.some.injEq] at m
  subst m
  rcases Nat.lt_or_ge r h.size with e|e
  ·exact e
  ·simp[Array.getElem?_eq_none e] at hr'
theorem needs_nil (Q:Nat→Prop) (h:Heap):NeedsAt Q h none []:=⟨[],rfl,.inl ⟨rfl,rfl⟩,fun r hr=>(by cases hr),fun e he=>(by cases he)⟩
theorem needs_lk {Q:Nat→Prop} {h:Heap} {w:Option Nat} {ns:List (ByteArray×List (Int×Int))} (x:NeedsAt Q h w ns) (nm:ByteArray) {K:Sv→Prop} (k:∀s,PrQ Q h s (lkN nm ns)→(∀p∈lkN nm ns,inI p.1∧inI p.2)→(lkN nm ns).length≤10→K s) :
  lkS h (.map w) nm (.slice none 0 0) fun u=>asS u fun s=>K s:=by
 obtain⟨es,rfl,m,q,kk⟩:=x
 refine⟨_,m,?_⟩
 have:(lkE nm (es.map fun e=>(e.1,e.2.1.v))=none∧lkN nm (es.map fun e=>(e.1,e.2.2))=[])∨∃e∈es,lkE nm (es.map fun e=>(e.1,e.2.1.v))=some e.2.1.v∧lkN nm (es.map fun e=>(e.1,e.2.2))=e.2.2:=by
  clear m kk k
  induction es with
  | nil=>exact .inl ⟨rfl,rfl⟩
  | cons e es ih=>
   simp only[List.map_cons,lkE,lkN]
   by_cases h:nm=e.1
   ·exact .inr ⟨e,by simp,by rw[if_pos h],by rw[if_pos h]⟩
   ·rw[if_neg h,if_neg h]
    rcases ih with h1|⟨e',h1,h2⟩
    ·exact .inl h1
    ·exact .inr ⟨e',by simp[h1],h2⟩
 rcases this with⟨h1,h2⟩|⟨e,he,h1,h2⟩
 ·rw[h1]
  rw[h2] at k
  exact⟨⟨none,0,0⟩,rfl,k _ (PrQ.nil _ _ _ _) (fun p hp=>by cases hp) (by simp)⟩
 ·rw[h1]
  rw[h2] at k
  exact⟨e.2.1,rfl,k _ (kk e he).1 (kk e he).2.1 (kk e he).2.2⟩
noncomputable def refL (az:List Ty) (r:Int):List (Int×Int):=az.flatMap fun a=>crossL (allT a) [r]
noncomputable def needL (t:Ty) (l:List (Int×Int)):List (Int×Int):=l.flatMap fun p=>crossL (slotL t p.1) (slotL t p.2)
noncomputable def headW (of:ByteArray→List (Int×Int)):Ty→List (Int×Int)
 | .mk k nm mu r rs az=>(if k=7 then refL az r else [])++(if k=5 then needL (.mk k nm mu r rs az) (of nm) else [])
theorem headW_mk (of:ByteArray→List (Int×Int)) (k:Int) (nm:ByteArray) (mu:Bool) (r:Int) (rs:List Int) (az:List Ty):headW of (.mk k nm mu r rs az)=(if k=7 then refL az r else [])++(if k=5 then needL (.mk k nm mu r rs az) (of nm) else []):=rfl
noncomputable def wfL (of:ByteArray→List (Int×Int)):Ty→List (Int×Int):=
 Ty.rec (motive_1:=fun _=>List (Int×Int)) (motive_2:=fun _=>List (Int×Int)) (fun k nm mu r rs az ih=>headW of (.mk k nm mu r rs az)++ih) [] (fun _ _ a b=>a++b)
theorem wfL_rec (of:ByteArray→List (Int×Int)) (az:List Ty):(Ty.rec_1 (motive_1:=fun _=>List (Int×Int)) (motive_2:=fun _=>List (Int×Int)) (fun k nm mu r rs az ih=>headW of (.mk k nm mu r rs az)++ih) [] (fun _ _ a b=>a++b) az:List (Int×Int))=az.flatMap (wfL of):=by
 induction az with
 | nil=>rfl
 | cons a az ih=>rw[List.flatMap_cons,←ih];rfl
theorem wfL_mk (of:ByteArray→List (Int×Int)) (k:Int) (nm:ByteArray) (mu:Bool) (r:Int) (rs:List Int) (az:List Ty):wfL of (.mk k nm mu r rs az)=headW of (.mk k nm mu r rs az)++az.flatMap (wfL of):=by
 rw[←wfL_rec];rfl
def wb:Nat→Nat
 | 0=>0
 | n+1=>4*bnd n+10*((bnd n+1)*(bnd n+1))+4*wb n
theorem wb6 {n:Nat} (h:n≤6):wb n≤1000000000:=by
 have:∀n,n≤6→wb n≤1000000000:=by decide
 exact this n h
theorem flat_lenP {α β:Type} {f:α→List β} {m:Nat}:∀(xs:List α),(∀a∈xs,(f a).length≤m)→(xs.flatMap f).length≤xs.length*m
 | [],_=>by simp
 | x :: xs,H=>by
  rw[List.flatMap_cons,List.length_append,List.length_cons,Nat.succ_mul]
  have:=flat_lenP xs fun a ha=>H a (by simp[ha])
  have:=H x (by simp)
  omega
theorem slotL_len {m:Nat} {t:Ty} (h:small (m+1) t=true) (i:Int):(slotL t i).length≤bnd m+1:=by
 obtain⟨k,nm,mu,r,rs,az⟩:=t
 obtain⟨m',e,h1,h2,h3⟩:=small_mk h
 obtain rfl:m'=m:=by omega
 rw[slotL_mk]
 split
 ·simp
 ·split
  ·simp
  ·split
   ·simp
   ·split
    ·rename_i a ha
     have:=allT_len m' a (h3 a (List.mem_of_getElem? ha))
     omega
    ·simp
theorem refL_len {m:Nat} {az:List Ty} (h:∀a∈az,small m a=true) (hl:az.length≤4) (r:Int):(refL az r).length≤4*bnd m:=by
 have h1:=flat_lenP (f:=fun a=>crossL (allT a) [r]) (m:=bnd m) az fun a ha=>by
  rw[crossL_len];simp;exact allT_len m a (h a ha)
 exact Nat.le_trans h1 (Nat.mul_le_mul_right _ hl)
theorem needL_len {m:Nat} {t:Ty} (h:small (m+1) t=true) {l:List (Int×Int)} (hl:l.length≤10):(needL t l).length≤10*((bnd m+1)*(bnd m+1)):=by
 have h1:=flat_lenP (f:=fun p:Int×Int=>crossL (slotL t p.1) (slotL t p.2)) (m:=(bnd m+1)*(bnd m+1)) l fun p _=>by
  rw[crossL_len];exact Nat.mul_le_mul (slotL_len h _) (slotL_len h _)
 exact Nat.le_trans h1 (Nat.mul_le_mul_right _ hl)
theorem headW_len {m:Nat} {of:ByteArray→List (Int×Int)} (ho:∀nm,(of nm).length≤10) {t:Ty} (h:small (m+1) t=true):(headW of t).length≤4*bnd m+10*((bnd m+1)*(bnd m+1)):=by
 have h0:=h
 obtain⟨k,nm,mu,r,rs,az⟩:=t
 obtain⟨m',e,h1,h2,h3⟩:=small_mk h
 obtain rfl:m'=m:=by omega
 have a1:=refL_len h3 h1 r
 have a2:=needL_len h0 (ho nm)
 rw[headW_mk,List.length_append]
 split<;>split<;>(try simp only[List.length_nil])<;>omega
theorem wfL_len {of:ByteArray→List (Int×Int)} (ho:∀nm,(of nm).length≤10):∀(n:Nat) (t:Ty),small n t=true→(wfL of t).length≤wb n:=by
 intro n
 induction n with
 | zero=>intro t h;cases t;cases h
 | succ n ih=>
  intro t h
  have h0:=headW_len ho h
  obtain⟨k,nm,mu,r,rs,az⟩:=t
  obtain⟨m,e,h1,h2,h3⟩:=small_mk h
  obtain rfl:m=n:=by omega
  rw[wfL_mk,List.length_append]
  have:=flat_lenP (f:=wfL of) az fun a ha=>ih a (h3 a ha)
  have:=Nat.mul_le_mul_right (wb m) h1
  show _≤4*bnd m+10*((bnd m+1)*(bnd m+1))+4*wb m
  omega
theorem refL_snoc (az:List Ty) (a:Ty) (r:Int):refL (az++[a]) r=refL az r++crossL (allT a) [r]:=by unfold refL;rw[List.flatMap_append];simp
theorem needL_snoc (t:Ty) (l:List (Int×Int)) (p:Int×Int):needL t (l++[p])=needL t l++crossL (slotL t p.1) (slotL t p.2):=by unfold needL;rw[List.flatMap_append];simp
section
variable {Q:Nat→Prop} {h:Heap}
theorem slotR_spec {t:Ty} {n:Nat} (hn:n≤8) (hsm:small n t=true) {v:Tv} (hv:TyAt Q h t v) {i:Int} (hi:inI i) :
  CallsH Try.prog 54 #[.agg (tvs v),.int .i64 i] h (fun x h'=>Grow h h'∧∃s:Sv,x=.slice s.a s.n s.c∧IntsQ (fun b=>Q b∨h.size≤b) h' s (slotL t i)):=by
 obtain⟨k,nm,mu,r,rs,az⟩:=t
 obtain⟨m,rfl,ha4,hr6,hall⟩:=small_mk hsm
 obtain⟨e1,e2,e3,e4,e5,e6,e7⟩:=tyAt_iff.1 hv
 unfold inI at hi
 apply F54
 unfold L54
 rw[slotL_mk]
 refine new6 (v:=v) fun h1 b1 f1 z1=>?_
 have T1:=Tv6.blk b1
 have one:∀x:Int,IntsQ (fun b=>Q b∨h.size≤b) (h1.push (.cells #[Value.int .i64 x] 3)) ⟨some ⟨h1.size,0,none⟩,1,1⟩ [x]:=fun x=>by
  refine⟨rfl,fun j hj=>?_⟩
  obtain rfl:j=0:=by simp at hj;omega
  refine⟨_,rfl,.inr f1.size,?_⟩
  rw[Nat.zero_mul,add_zero,(blk.new h1 _ _).cl]
  rfl
 refine ifb_iff (q:=i<0) (by simp) (fun hneg=>?_) (fun hneg=>?_)
 ·rw[if_pos hneg]
  exact⟨f1,_,rfl,(IntsC.nil _ _).toIntsQ⟩
 rw[if_neg hneg]
 refine ifb_iff (q:=i=0) (by simp) (fun h0=>?_) (fun h0=>?_)
 ·rintro s12 h2 rfl rfl
  rw[if_pos h0]
  exact⟨f1.trans (Fr.push _ _ _),_,rfl,one 0⟩
 rw[if_neg h0]
 have e5':=e5.fr f1 fun _ _ h=>h
 refine⟨_,T1.2.2.2.2.1,?_⟩
 dsimp only
 rw[e5.len]
 refine ifb_iff (q:=i≤(rs.length:Int)) (by simp) (fun h1'=>?_) (fun h1'=>?_)
 ·have hw:IntKind.i64.wrap (i - 1)=((i.toNat - 1:Nat):Int):=by rw[wrap64_id (by omega) (by omega)];omega
  have hir:i.toNat - 1<rs.length:=by omega
  rw[hw,List.getElem?_eq_getElem hir]
  refine⟨_,T1.2.2.2.2.1,e5'.ints.get hir ?_⟩
  rintro s12 h2 rfl rfl
  exact⟨f1.trans (Fr.push _ _ _),_,rfl,one _⟩
 refine⟨_,T1.2.2.2.2.1,_,T1.2.2.2.2.2,?_⟩
 have hwk:IntKind.i64.wrap (i - ((rs.length:Nat):Int))=i - rs.length:=wrap64_id (by omega) (by omega)
 dsimp only
 rw[e5.len,e6,hwk,List.getElem?_eq_none (by omega:rs.length≤i.toNat - 1)]
 dsimp only
 refine ifb_iff (q:=i - rs.length≤(az.length:Int)) (by simp) (fun h2'=>?_) (fun h2'=>?_)
 ·have hq:i.toNat - rs.length - 1<az.length:=by omega
  have hw2:IntKind.i64.wrap (i - (rs.length:Int) - 1)=((i.toNat - rs.length - 1:Nat):Int):=by rw[wrap64_id (by omega) (by omega)];omega
  refine⟨_,T1.2.2.2.2.2,_,T1.2.2.2.2.1,?_⟩
  dsimp only
  rw[e5.len,hwk,hw2,List.getElem?_eq_getElem hq]
  refine args_get (hv.grow f1) hq fun u hu=>?_
  refine cal_of (all_spec az[i.toNat - rs.length - 1] m (by omega) (hall _ (List.getElem_mem hq)) u h1 hu) ?_
  rintro _ h3 ⟨f3,s,rfl,o3⟩
  exact⟨_,rfl,f1.trans f3,_,rfl,IntsQ.of (own_ints o3) fun b hb _=>.inr (by have:=(o3.ge hb).1;have:=f1.size;omega)⟩
 ·rw[List.getElem?_eq_none (by omega:az.length≤i.toNat - rs.length - 1)]
  exact⟨f1,_,rfl,(IntsC.nil _ _).toIntsQ⟩
theorem one_int (x:Int) (h:Heap) (E:TypeId):IntsAt (h.push (.cells #[Value.int .i64 x] E)) ⟨some ⟨h.size,0,none⟩,1,1⟩ [x]:=by
 refine⟨rfl,fun j hj=>?_⟩
 obtain rfl:j=0:=by simp at hj;omega
 refine⟨_,rfl,?_⟩
 rw[Nat.zero_mul,add_zero,(blk.new h _ _).cl]
 rfl
theorem wf_spec {w:Option Nat} {ns:List (ByteArray×List (Int×Int))} (ho:∀nm,(lkN nm ns).length≤10):∀(t:Ty) (n:Nat) (_:n≤6) (_:small n t=true) (v:Tv) (h:Heap),TyAt (fun b=>b<h.size) h t v→NeedsAt (fun b=>b<h.size) h w ns →
  CallsH Try.prog 44 #[.agg (tvs v),.map w] h (fun x h'=>Grow h h'∧∃s:Sv,x=.slice s.a s.n s.c∧Own h' h.size 2 s (prs (wfL (fun nm=>lkN nm ns) t))):=by
 intro t
 refine Ty.ind (P:=fun t=>∀(n:Nat) (_:n≤6) (_:small n t=true) (v:Tv) (h:Heap),TyAt (fun b=>b<h.size) h t v→NeedsAt (fun b=>b<h.size) h w ns →
  CallsH Try.prog 44 #[.agg (tvs v),.map w] h (fun x h'=>Grow h h'∧∃s:Sv,x=.slice s.a s.n s.c∧Own h' h.size 2 s (prs (wfL (fun nm=>lkN nm ns) t)))) ?_ t
 intro k nm mu r rs az ih n hn hsm v h hv hw
 have hsm0:=hsm
 have hwl:=wfL_len (of:=fun nm=>lkN nm ns) ho n _ hsm
 have hwb:=wb6 hn
 obtain⟨m,rfl,ha4,hr6,hall⟩:=small_mk hsm
 obtain⟨e1,e2,e3,e4,e5,e6,e7⟩:=tyAt_iff.1 hv
 have hbm:=bnd8 (n:=m) (by omega)
 have hsl:∀i,(slotL (.mk k nm mu r rs az) i).length≤bnd m+1:=fun i=>slotL_len hsm0 i
 have hrl:=fun j=>refL_len (az:=az.take j) (m:=m) (fun a ha=>hall a (List.mem_of_mem_take ha)) (by simp;omega) r
 have hnl:=fun (l:List (Int×Int)) (hl:l.length≤10)=>needL_len hsm0 hl
 have hbq:(bnd m+1)*(bnd m+1)≤1000000000:=by
  have:wb (m+1)=4*bnd m+10*((bnd m+1)*(bnd m+1))+4*wb m:=rfl
  omega
 apply F44
 unfold L44
 refine new6 (v:=v) fun h1 b1 f1 z1=>?_
 have f1s:=f1.size
 refine⟨fun s h'=>Grow h1 h'∧Own h' h1.size 2 s (prs (headW (fun nm=>lkN nm ns) (.mk k nm mu r rs az))),?_,?_⟩
 ·refine⟨_,(Tv6.blk b1).1,?_⟩
  rw[e1]
  refine ifb_iff (q:=k=7) (by simp) (fun h7=>?_) (fun h7=>?_)
  ·have hhead:headW (fun nm=>lkN nm ns) (.mk k nm mu r rs az)=refL az r:=by rw[headW_mk];rw[if_pos h7,if_neg (by omega),List.append_nil]
   rw[hhead]
   refine⟨_,(Tv6.blk b1).2.2.2.2.2,?_⟩
   refine⟨fun s i h'=>∃j:Nat,i=j∧j≤az.length∧Grow h1 h'∧Own h' h1.size 2 s (prs (refL (az.take j) r)),fun _ i _=>az.length - i.toNat,⟨0,rfl,Nat.zero_le _,Fr.refl _ _,Own.nil _ _ _⟩,?_⟩
   rintro s1 _ h2 ⟨j,rfl,hj,g2,o2⟩
   have B2:=g2.blk b1 fun h=>h
   refine ifb_iff (q:=j<az.length) (by simp[e6]) (fun hl=>?_) (fun hl=>?_)
   rotate_left
   ·have:j=az.length:=by omega
    subst this
    rw[List.take_length] at o2
    exact⟨g2,o2⟩
   refine args_get (hv.grow (f1.trans g2)) hl fun u hu=>?_
   refine newz fun h3 b3 f3 z3=>sto6 (v:=u) b3 rfl fun h4 b4 f4=>?_
   have f24:Grow h2 h4:=f3.trans' f4 fun i hi e=>by omega
   refine rd6 (Tv6.blk b4) ?_
   have B4:=f24.blk B2 (fun h=>h)
   have s24:=f24.size
   have hal:=allT_len m az[j] (hall _ (List.getElem_mem hl))
   refine⟨fun a b=>Grow a b,Pre.grow,_,fun h' hs=>(Tv6.blk (hs.blk B4 fun h=>h)).2.2.2.1,?_⟩
   rw[e4]
   refine⟨fun s lo hi h'=>IntsQ (fun b=>lo≤b∧b<hi) h' s (allT az[j]),fun _ _ _ _ _ f x=>x.fr f fun _ _ h=>h,fun s lo hi h'=>IntsQ (fun b=>lo≤b∧b<hi) h' s [r],fun _ _ _ _ _ f x=>x.fr f fun _ _ h=>h,?_,?_,?_⟩
   ·intro h5 f5
    refine cal_of (allP_spec az[j] m (by omega) (hall _ (List.getElem_mem hl)) u h5 (hu.grow (f24.trans f5))) ?_
    rintro _ h6 ⟨f6,s6,rfl,o6⟩
    exact⟨s6,rfl,f6,IntsQ.of (own_ints o6) fun b hb hlt=>⟨(o6.ge hb).1,hlt⟩⟩
   ·intro h5 f5
    rintro s6 h6 rfl rfl
    refine⟨Fr.push _ _ _,IntsQ.of (one_int r h5 _) fun b hb hlt=>?_⟩
    obtain⟨a,ea,eb⟩:=hb
    simp only[Option.some.injEq] at ea
    subst ea
    simp only at eb
    exact⟨by omega,hlt⟩
   ·intro s5 lo5 hi5 s6 lo6 hi6 h7 f7 hD i5 i6
    obtain⟨⟨d1,d2,d3,-⟩,⟨d4,d5,d6,-⟩,-⟩:=hD
    dsimp only at d1 d2 d3 d4 d5 d6
    have hrj:=hrl j
    have hge:∀b,s1.own b→b<h2.size:=fun b hb=>(o2.ge hb).2
    refine cal_of (cross_spec (Q:=fun b=>h4.size≤b∧b<h7.size) (B:=h1.size) (L:=refL (az.take j) r) (o2.frame (f24.trans f7) fun _ _ h=>h) (i5.weak fun b hb _=>⟨by omega,by omega⟩) (i6.weak fun b hb _=>⟨by omega,by omega⟩) (fun b hb e=>by have:=hge b e;omega) (fun b hb=>hb.2) (by have:=g2.size;have:=(f24.trans f7).size;omega) (by omega) (by simp) (by simp only[List.length_cons,List.length_nil];omega)) ?_
    rintro _ h8 ⟨s8,rfl,o8,f8,w8⟩
    refine⟨s8,rfl,?_⟩
    rw[wrap_succ hl (by omega)]
    refine⟨⟨j+1,rfl,hl,((g2.trans f24).trans f7).trans' f8 fun i hi e=>by have:=(o2.ge e).1;omega,?_⟩,by simp;omega⟩
    rw[List.take_succ_eq_append_getElem hl,refL_snoc]
    exact o8
  ·refine ifb_iff (q:=k=5) (by simp) (fun h5=>?_) (fun h5=>?_)
   rotate_left
   ·have hhead:headW (fun nm=>lkN nm ns) (.mk k nm mu r rs az)=[]:=by rw[headW_mk];rw[if_neg h7,if_neg h5];rfl
    rw[hhead]
    exact⟨Fr.refl _ _,Own.nil _ _ _⟩
   have hhead:headW (fun nm=>lkN nm ns) (.mk k nm mu r rs az)=needL (.mk k nm mu r rs az) (lkN nm ns):=by rw[headW_mk];rw[if_neg h7,if_pos h5];rfl
   rw[hhead]
   refine⟨_,(Tv6.blk b1).2.1,?_⟩
   rw[e2]
   refine needs_lk (hw.fr f1 fun _ _ h=>h) nm fun sn hsn hin hlen=>?_
   rw[hsn.len]
   generalize lkN nm ns=l at *
   refine⟨fun s i h'=>∃j:Nat,i=j∧j≤l.length∧Grow h1 h'∧Own h' h1.size 2 s (prs (needL (.mk k nm mu r rs az) (l.take j))),fun _ i _=>l.length - i.toNat,⟨0,rfl,Nat.zero_le _,Fr.refl _ _,Own.nil _ _ _⟩,?_⟩
   rintro s1 _ h2 ⟨j,rfl,hj,g2,o2⟩
   refine ifb_iff (q:=j<l.length) (by simp) (fun hl=>?_) (fun hl=>?_)
   rotate_left
   ·have:j=l.length:=by omega
    subst this
    rw[List.take_length] at o2
    exact⟨g2,o2⟩
   obtain⟨p,ea,_,c1,c2⟩:=(hsn.fr g2 fun _ _ h=>h).at_ j hl
   refine⟨p,ea,by omega,by rw[hsn.len];omega,_,_,by rw[Int.toNat_natCast];exact c1,by rw[Int.toNat_natCast];exact c2,?_⟩
   rintro p9 h3 rfl rfl
   refine stoA_i (blk.new h2 _ _) rfl (by simp[Value.oneCell']) fun h4 b4 f4=>?_
   have f24:Grow h2 h4:=(Fr.push (fun _=>False) h2 _).trans' f4 fun i hi e=>by omega
   have g4:=g2.trans f24
   have B4:=g4.blk b1 fun h=>h
   have hp1:=hin l[j] (List.getElem_mem hl)
   refine⟨fun h'=>Grow h4 h',Fr.refl _ _,rd6 (Tv6.blk B4) ⟨_,by rw[b4.cl];rfl,hd6 (fun h' hs=>Tv6.blk (hs.blk B4 fun h=>h)) ⟨_,fun h' hs=>by rw[add_plain,(hs.blk b4 fun h=>h).cl];rfl,?_⟩⟩⟩
   refine cal_of (slot_spec (n:=m+1) (by omega) hsm0 (hv.grow (f1.trans g4)) hp1.1) ?_
   rintro _ h5 ⟨f5,sa,rfl,ia⟩
   refine⟨sa,rfl,f5,?_⟩
   refine cal_of (slot_spec (n:=m+1) (by omega) hsm0 (hv.grow (f1.trans (g4.trans f5))) hp1.2) ?_
   rintro _ h6 ⟨f6,sb,rfl,ib⟩
   refine⟨sb,rfl,?_⟩
   have hl1:=hsl l[j].1
   have hl2:=hsl l[j].2
   have hl12:=Nat.mul_le_mul hl1 hl2
   have hnlj:=hnl (l.take j) (by simp;omega)
   have s56:=(f5.trans f6).size
   have s24:=f24.size
   have hge:∀b,s1.own b→h1.size≤b∧b<h2.size:=fun b hb=>o2.ge hb
   refine cal_of (cross_spec (Q:=fun b=>(b<h.size∨h4.size≤b)∧b<h6.size) (B:=h1.size) (L:=needL (.mk k nm mu r rs az) (l.take j)) (o2.frame (f24.trans (f5.trans f6)) fun _ _ h=>h) ((ia.fr f6 fun _ _ h=>h).weak fun b hb hlt=>⟨hb,hlt⟩) (ib.weak fun b hb hlt=>⟨hb.imp id fun q=>by have:=f5.size;omega,hlt⟩) (fun b hb e=>by have:=hge b e;omega) (fun b hb=>hb.2) (by have:=g2.size;omega) (by omega) (by omega) (by omega)) ?_
   rintro _ h8 ⟨s8,rfl,o8,f8,w8⟩
   refine⟨s8,rfl,?_⟩
   rw[wrap_succ hl (by omega)]
   refine⟨⟨j+1,rfl,hl,(g4.trans (f5.trans f6)).trans' f8 fun i hi e=>by have:=hge i e;omega,?_⟩,by simp;omega⟩
   rw[List.take_succ_eq_append_getElem hl,needL_snoc]
   exact o8
 rintro l7 h7 ⟨g7,o7⟩
 refine⟨_,(Tv6.blk (g7.blk b1 fun h=>h)).2.2.2.2.2,?_⟩
 refine⟨fun out i h'=>∃j:Nat,i=j∧j≤az.length∧Grow h1 h'∧Own h' h1.size 2 out (prs (headW (fun nm=>lkN nm ns) (.mk k nm mu r rs az)++(az.take j).flatMap (wfL fun nm=>lkN nm ns))),fun _ i _=>az.length - i.toNat,⟨0,rfl,Nat.zero_le _,g7,by simpa using o7⟩,?_⟩
 rintro out _ h8 ⟨j,rfl,hj,g8,o8⟩
 refine ifb_iff (q:=j<az.length) (by simp[e6]) (fun hl=>?_) (fun hl=>?_)
 ·refine args_get (hv.grow (f1.trans g8)) hl fun u hu=>?_
  refine newz fun h9 b9 f9 z9=>sto6 (v:=u) b9 rfl fun h10 b10 f10=>?_
  have f10':Grow h8 h10:=f9.trans' f10 fun i hi e=>by omega
  refine rd6 (Tv6.blk b10) ?_
  have g10:=f1.trans (g8.trans f10')
  refine cal_of (ih _ (List.getElem_mem hl) m (by omega) (hall _ (List.getElem_mem hl)) u h10 ((hu.weak fun b hb _=>by have:=g10.size;omega).grow f10') ((hw.weak fun b hb _=>by have:=g10.size;omega).fr g10 fun _ _ h=>h)) ?_
  rintro _ h11 ⟨f11,s6,rfl,o6⟩
  refine⟨s6,rfl,?_⟩
  have F:=f10'.trans f11
  have hl6:=wfL_len (of:=fun nm=>lkN nm ns) ho m az[j] (hall _ (List.getElem_mem hl))
  have hn6:s6.n=(wfL (fun nm=>lkN nm ns) az[j]).length:=by have:=o6.len;rw[prs_len] at this;omega
  have hfl:=flat_lenP (f:=wfL fun nm=>lkN nm ns) (m:=wb m) (az.take j) fun a ha=>wfL_len (of:=fun nm=>lkN nm ns) ho m a (hall a (List.mem_of_mem_take ha))
  have hfl2:(az.take j).length*wb m≤4*wb m:=Nat.mul_le_mul_right _ (by simp;omega)
  have hhl:=headW_len (of:=fun nm=>lkN nm ns) ho hsm0
  have hno:out.n=(headW (fun nm=>lkN nm ns) (.mk k nm mu r rs az)++(az.take j).flatMap (wfL fun nm=>lkN nm ns)).length:=by have:=o8.len;rw[prs_len] at this;omega
  rw[List.length_append] at hno
  have hwm:=wb6 (n:=m) (by omega)
  have g8s:=g8.size
  have h1le:h1.size≤h11.size:=by have:=F.size;omega
  refine appS_own rfl (o8.frame F fun _ _ h=>h) (news:=prs (wfL (fun nm=>lkN nm ns) az[j])) (by rw[prs_len,hn6]) o6.row (one_prs _) h1le (by omega) (by omega) ?_
  intro s7 h12 _ o12 f12 own12
  rw[wrap_succ hl (by omega)]
  refine⟨⟨j+1,rfl,hl,(g8.trans F).trans' f12 fun i hi e=>by have:=(o8.ge e).1;omega,?_⟩,by simp;omega⟩
  rw[List.take_succ_eq_append_getElem hl,List.flatMap_append,←List.append_assoc,prs_app]
  simpa using o12
 ·have hje:j=az.length:=by omega
  subst hje
  rw[List.take_length,←wfL_mk] at o8
  exact⟨f1.trans g8,_,rfl,own_low o8 f1s⟩
end
end Go.Proofs.Yteofligmdngdgaa
namespace Go.Proofs.Yteofligmdngdgaa
open Go Go.Lf
set_option linter.unusedVariables false
section
variable {Q:Nat→Prop} {h:Heap}
theorem wfR_spec {w:Option Nat} {ns:List (ByteArray×List (Int×Int))} (ho:∀nm,(lkN nm ns).length≤10):∀(t:Ty) (n:Nat) (_:n≤6) (_:small n t=true) (v:Tv) (h:Heap),TyAt (fun b=>b<h.size) h t v→NeedsAt (fun b=>b<h.size) h w ns →
  CallsH Try.prog 33 #[.agg (tvs v),.map w] h (fun x h'=>Grow h h'∧∃s:Sv,x=.slice s.a s.n s.c∧Own h' h.size 2 s (prs (wfL (fun nm=>lkN nm ns) t))):=by
 intro t
 refine Ty.ind (P:=fun t=>∀(n:Nat) (_:n≤6) (_:small n t=true) (v:Tv) (h:Heap),TyAt (fun b=>b<h.size) h t v→NeedsAt (fun b=>b<h.size) h w ns →
  CallsH Try.prog 33 #[.agg (tvs v),.map w] h (fun x h'=>Grow h h'∧∃s:Sv,x=.slice s.a s.n s.c∧Own h' h.size 2 s (prs (wfL (fun nm=>lkN nm ns) t)))) ?_ t
 intro k nm mu r rs az ih n hn hsm v h hv hw
 have hsm0:=hsm
 have hwl:=wfL_len (of:=fun nm=>lkN nm ns) ho n _ hsm
 have hwb:=wb6 hn
 obtain⟨m,rfl,ha4,hr6,hall⟩:=small_mk hsm
 obtain⟨e1,e2,e3,e4,e5,e6,e7⟩:=tyAt_iff.1 hv
 have hbm:=bnd8 (n:=m) (by omega)
 have hsl:∀i,(slotL (.mk k nm mu r rs az) i).length≤bnd m+1:=fun i=>slotL_len hsm0 i
 have hrl:=fun j=>refL_len (az:=az.take j) (m:=m) (fun a ha=>hall a (List.mem_of_mem_take ha)) (by simp;omega) r
 have hnl:=fun (l:List (Int×Int)) (hl:l.length≤10)=>needL_len hsm0 hl
 have hbq:(bnd m+1)*(bnd m+1)≤1000000000:=by
  have:wb (m+1)=4*bnd m+10*((bnd m+1)*(bnd m+1))+4*wb m:=rfl
  omega
 apply F33
 unfold L33
 refine new6 (v:=v) fun h1 b1 f1 z1=>?_
 have f1s:=f1.size
 refine⟨fun s h'=>Grow h1 h'∧Own h' h1.size 2 s (prs (if k=7 then refL az r else [])),?_,?_⟩
 ·refine⟨_,(Tv6.blk b1).1,?_⟩
  rw[e1]
  refine ifb_iff (q:=k=7) (by simp) (fun h7=>?_) (fun h7=>?_)
  rotate_left
  ·rw[if_neg h7]
   exact⟨Fr.refl _ _,Own.nil _ _ _⟩
  rw[if_pos h7]
  refine⟨fun s i h'=>∃j:Nat,i=j∧j≤az.length∧Grow h1 h'∧Own h' h1.size 2 s (prs (refL (az.take j) r)),fun _ i _=>az.length - i.toNat,⟨0,rfl,Nat.zero_le _,Fr.refl _ _,Own.nil _ _ _⟩,?_⟩
  rintro s1 _ h2 ⟨j,rfl,hj,g2,o2⟩
  have B2:=g2.blk b1 fun h=>h
  refine⟨_,(Tv6.blk B2).2.2.2.2.2,?_⟩
  refine ifb_iff (q:=j<az.length) (by simp[e6]) (fun hl=>?_) (fun hl=>?_)
  rotate_left
  ·have:j=az.length:=by omega
   subst this
   rw[List.take_length] at o2
   exact⟨g2,o2⟩
  refine⟨_,(Tv6.blk B2).2.2.2.2.2,args_get (hv.grow (f1.trans g2)) hl fun u hu=>?_⟩
  have hal:=allT_len m az[j] (hall _ (List.getElem_mem hl))
  refine⟨fun a b=>Grow a b,Pre.grow,_,fun h' hs=>(Tv6.blk (hs.blk B2 fun h=>h)).2.2.2.1,?_⟩
  rw[e4]
  refine⟨fun s lo hi h'=>IntsAt h' s (allT az[j]),fun _ _ _ _ _ f x=>x.keep f fun _ _ h=>h,fun s lo hi h'=>IntsAt h' s [r],fun _ _ _ _ _ f x=>x.keep f fun _ _ h=>h,?_,?_,?_⟩
  ·intro h5 f5
   refine cal_of (all_spec az[j] m (by omega) (hall _ (List.getElem_mem hl)) u h5 (hu.grow f5)) ?_
   rintro _ h6 ⟨f6,s6,rfl,o6⟩
   exact⟨s6,rfl,f6,own_ints o6⟩
  ·intro h5 f5
   rintro s6 h6 rfl rfl
   exact⟨Fr.push _ _ _,one_int r h5 _⟩
  intro s5 lo5 hi5 s6 lo6 hi6 h7 f7 _ i5 i6
  have hrj:=hrl j
  refine cal_of (crossR_spec i5 i6 (by omega) (by simp) (by simp only[List.length_cons,List.length_nil];omega)) ?_
  rintro _ h8 ⟨s8,rfl,o8,f8⟩
  refine⟨s8,rfl,?_⟩
  have hn8:s8.n=(crossL (allT az[j]) [r]).length:=by have:=o8.len;rw[prs_len] at this;omega
  have hc8:=crossL_len (allT az[j]) [r]
  simp only[List.length_cons,List.length_nil] at hc8
  have hn2:s1.n=(refL (az.take j) r).length:=by have:=o2.len;rw[prs_len] at this;omega
  have F:=f7.trans f8
  refine appS_own rfl (o2.frame F fun _ _ h=>h) (news:=prs (crossL (allT az[j]) [r])) (by rw[prs_len,hn8]) o8.row (one_prs _) (by have:=g2.size;have:=F.size;omega) (by omega) (by omega) ?_
  intro s9 h9 _ o9 f9 own9
  rw[wrap_succ hl (by omega)]
  refine⟨⟨j+1,rfl,hl,(g2.trans F).trans' f9 fun i hi e=>by have:=(o2.ge e).1;omega,?_⟩,by simp;omega⟩
  rw[List.take_succ_eq_append_getElem hl,refL_snoc,prs_app]
  exact o9
 rintro o15 h15 ⟨g15,O15⟩
 refine⟨fun s h'=>Grow h1 h'∧Own h' h1.size 2 s (prs (headW (fun nm=>lkN nm ns) (.mk k nm mu r rs az))),?_,?_⟩
 ·have B15:=g15.blk b1 fun h=>h
  refine⟨_,(Tv6.blk B15).1,?_⟩
  rw[e1,headW_mk]
  refine ifb_iff (q:=k=5) (by simp) (fun h5=>?_) (fun h5=>?_)
  rotate_left
  ·rw[if_neg h5,List.append_nil]
   exact⟨g15,O15⟩
  rw[if_neg (by omega:¬k=7),if_pos h5,List.nil_append]
  rw[if_neg (by omega:¬k=7)] at O15
  refine⟨_,(Tv6.blk B15).2.1,?_⟩
  rw[e2]
  refine needs_lk ((hw.fr f1 fun _ _ h=>h).fr g15 fun _ _ h=>h) nm fun sn hsn hin hlen=>?_
  rw[hsn.len]
  generalize lkN nm ns=l at *
  refine⟨fun s i h'=>∃j:Nat,i=j∧j≤l.length∧Fr (fun b=>h1.size≤b) h15 h'∧Own h' h1.size 2 s (prs (needL (.mk k nm mu r rs az) (l.take j))),fun _ i _=>l.length - i.toNat,⟨0,rfl,Nat.zero_le _,Fr.refl _ _,O15⟩,?_⟩
  rintro s1 _ h2 ⟨j,rfl,hj,g2',o2⟩
  have g2:Grow h1 h2:=g15.trans' g2' fun i hi e=>by omega
  refine ifb_iff (q:=j<l.length) (by simp) (fun hl=>?_) (fun hl=>?_)
  rotate_left
  ·have:j=l.length:=by omega
   subst this
   rw[List.take_length] at o2
   exact⟨g2,o2⟩
  have B4:=g2.blk b1 fun h=>h
  have g4:=f1.trans g2
  have hsn2:=hsn.fr g2' fun b hb e=>by omega
  obtain⟨p,ea,_,c1,c2⟩:=hsn2.at_ j hl
  have hp1:=hin l[j] (List.getElem_mem hl)
  refine⟨fun h'=>Grow h2 h',Fr.refl _ _,rd6 (Tv6.blk B4) ⟨p,ea,by omega,by rw[hsn.len];omega,_,by rw[Int.toNat_natCast];exact c1,p,ea,by omega,by rw[hsn.len];omega,hd6 (fun h' hs=>Tv6.blk (hs.blk B4 fun h=>h)) ⟨_,fun h' hs=>by rw[Int.toNat_natCast];exact hs.clk c2 fun h=>h,?_⟩⟩⟩
  refine cal_of (slotR_spec (n:=m+1) (by omega) hsm0 (hv.grow g4) hp1.1) ?_
  rintro _ h5 ⟨f5,sa,rfl,ia⟩
  refine⟨sa,rfl,f5,?_⟩
  refine cal_of (slotR_spec (n:=m+1) (by omega) hsm0 (hv.grow (g4.trans f5)) hp1.2) ?_
  rintro _ h6 ⟨f6,sb,rfl,ib⟩
  refine⟨sb,rfl,?_⟩
  have hl1:=hsl l[j].1
  have hl2:=hsl l[j].2
  have hl12:=Nat.mul_le_mul hl1 hl2
  have hnlj:=hnl (l.take j) (by simp;omega)
  refine cal_of (crossR_spec (ia.fr f6 fun _ _ h=>h).ints ib.ints (by omega) (by omega) (by omega)) ?_
  rintro _ h8 ⟨s8,rfl,o8,f8⟩
  refine⟨s8,rfl,?_⟩
  have hn8:s8.n=(crossL (slotL (.mk k nm mu r rs az) l[j].1) (slotL (.mk k nm mu r rs az) l[j].2)).length:=by have:=o8.len;rw[prs_len] at this;omega
  have hc8:=crossL_len (slotL (.mk k nm mu r rs az) l[j].1) (slotL (.mk k nm mu r rs az) l[j].2)
  have hn2:s1.n=(needL (.mk k nm mu r rs az) (l.take j)).length:=by have:=o2.len;rw[prs_len] at this;omega
  have F:=f5.trans (f6.trans f8)
  refine appS_own rfl (o2.frame F fun _ _ h=>h) (news:=prs (crossL (slotL (.mk k nm mu r rs az) l[j].1) (slotL (.mk k nm mu r rs az) l[j].2))) (by rw[prs_len,hn8]) o8.row (one_prs _) (by have:=(g2.trans F).size;omega) (by omega) (by omega) ?_
  intro s9 h9 _ o9 f9 own9
  rw[wrap_succ hl (by omega)]
  refine⟨⟨j+1,rfl,hl,(g2'.trans (F.mono fun _ _ e=>e.elim)).trans' f9 fun i hi e=>(o2.ge e).1,?_⟩,by simp;omega⟩
  rw[List.take_succ_eq_append_getElem hl,needL_snoc,prs_app]
  exact o9
 rintro l7 h7 ⟨g7,o7⟩
 refine⟨fun out i h'=>∃j:Nat,i=j∧j≤az.length∧Grow h1 h'∧Own h' h1.size 2 out (prs (headW (fun nm=>lkN nm ns) (.mk k nm mu r rs az)++(az.take j).flatMap (wfL fun nm=>lkN nm ns))),fun _ i _=>az.length - i.toNat,⟨0,rfl,Nat.zero_le _,g7,by simpa using o7⟩,?_⟩
 rintro out _ h8 ⟨j,rfl,hj,g8,o8⟩
 have T8:=Tv6.blk (g8.blk b1 fun h=>h)
 refine⟨_,T8.2.2.2.2.2,?_⟩
 refine ifb_iff (q:=j<az.length) (by simp[e6]) (fun hl=>?_) (fun hl=>?_)
 ·refine⟨_,T8.2.2.2.2.2,args_get (hv.grow (f1.trans g8)) hl fun u hu=>?_⟩
  have g10:=f1.trans g8
  refine cal_of (ih _ (List.getElem_mem hl) m (by omega) (hall _ (List.getElem_mem hl)) u h8 (hu.weak fun b hb _=>by have:=g10.size;omega) ((hw.weak fun b hb _=>by have:=g10.size;omega).fr g10 fun _ _ h=>h)) ?_
  rintro _ h11 ⟨F,s6,rfl,o6⟩
  refine⟨s6,rfl,?_⟩
  have hl6:=wfL_len (of:=fun nm=>lkN nm ns) ho m az[j] (hall _ (List.getElem_mem hl))
  have hn6:s6.n=(wfL (fun nm=>lkN nm ns) az[j]).length:=by have:=o6.len;rw[prs_len] at this;omega
  have hfl:=flat_lenP (f:=wfL fun nm=>lkN nm ns) (m:=wb m) (az.take j) fun a ha=>wfL_len (of:=fun nm=>lkN nm ns) ho m a (hall a (List.mem_of_mem_take ha))
  have hfl2:(az.take j).length*wb m≤4*wb m:=Nat.mul_le_mul_right _ (by simp;omega)
  have hhl:=headW_len (of:=fun nm=>lkN nm ns) ho hsm0
  have hno:out.n=(headW (fun nm=>lkN nm ns) (.mk k nm mu r rs az)++(az.take j).flatMap (wfL fun nm=>lkN nm ns)).length:=by have:=o8.len;rw[prs_len] at this;omega
  rw[List.length_append] at hno
  have hwm:=wb6 (n:=m) (by omega)
  have g8s:=g8.size
  have h1le:h1.size≤h11.size:=by have:=F.size;omega
  refine appS_own rfl (o8.frame F fun _ _ h=>h) (news:=prs (wfL (fun nm=>lkN nm ns) az[j])) (by rw[prs_len,hn6]) o6.row (one_prs _) h1le (by omega) (by omega) ?_
  intro s7 h12 _ o12 f12 own12
  rw[wrap_succ hl (by omega)]
  refine⟨⟨j+1,rfl,hl,(g8.trans F).trans' f12 fun i hi e=>by have:=(o8.ge e).1;omega,?_⟩,by simp;omega⟩
  rw[List.take_succ_eq_append_getElem hl,List.flatMap_append,←List.append_assoc,prs_app]
  simpa using o12
 ·have hje:j=az.length:=by omega
  subst hje
  rw[List.take_length,←wfL_mk] at o8
  exact⟨f1.trans g8,_,rfl,own_low o8 f1s⟩
end
end Go.Proofs.Yteofligmdngdgaa
namespace Go.Proofs.Yteofligmdngdgaa
open Go Go.Lf
set_option linter.unusedVariables false
section
variable {Q:Nat→Prop} {h:Heap}
def lifeL (x y w:Int):List (Int×Int):=(if (bitsI .and .i64 w 1 != 0)=true then [(x,y)] else [])++(if (bitsI .and .i64 w 2 != 0)=true then [(y,x)] else [])
theorem lifeL_len (x y w:Int):(lifeL x y w).length≤2:=by
 unfold lifeL;rw[List.length_append];split<;>split<;>simp
structure PrAt (h:Heap) (B pb:Nat) (w:Option Nat) (s:Sv) (L:List (Int×Int)):Prop where
 box:blk h pb #[.map w,.slice s.a s.n s.c]
 own:Own h B 2 s (prs L)
 lt:pb<B
 le:B≤h.size
theorem PrAt.n {h:Heap} {B pb:Nat} {w:Option Nat} {s:Sv} {L:List (Int×Int)} (x:PrAt h B pb w s L):s.n=L.length:=by
 have:=x.own.len
 rw[prs_len] at this
 omega
def PrTo (h:Heap) (B pb:Nat) (w:Option Nat) (s:Sv) (L:List (Int×Int)) (h':Heap):Prop:=
 ∃s',PrAt h' B pb w s' L∧Fr (fun b=>b=pb∨s.own b) h h'∧∀b,s'.own b→s.own b∨h.size≤b
theorem PrTo.refl {h:Heap} {B pb:Nat} {w:Option Nat} {s:Sv} {L:List (Int×Int)} (x:PrAt h B pb w s L):PrTo h B pb w s L h:=⟨s,x,Fr.refl _ _,fun _ h=>.inl h⟩
theorem fr2 {h h1 h2:Heap} {pb:Nat} {s s1:Sv} (f:Fr (fun b=>b=pb∨s.own b) h h1) (o:∀b,s1.own b→s.own b∨h.size≤b) (g:Fr (fun b=>b=pb∨s1.own b) h1 h2):Fr (fun b=>b=pb∨s.own b) h h2:=
 f.trans' g fun i hi e=>e.imp id fun e=>(o i e).elim id fun e=>by omega
theorem own2 {h h1:Heap} {s s1 s2:Sv} (hs:h.size≤h1.size) (o:∀b,s1.own b→s.own b∨h.size≤b) (o2:∀b,s2.own b→s1.own b∨h1.size≤b):∀b,s2.own b→s.own b∨h.size≤b:=
 fun b hb=>(o2 b hb).elim (o b) fun e=>.inr (by omega)
theorem pr_app {B pb:Nat} {w:Option Nat} {s:Sv} {L:List (Int×Int)} (x:PrAt h B pb w s L) (hL:L.length≤2000000) (a b:Int) {K:Heap→Prop}
  (k:∀h',PrTo h B pb w s (L++[(a,b)]) h'→K h') :
  nn (some (⟨pb,0,none⟩:Addr)) fun p13=>ldS h (p13.add 1) fun x15=>newS 56 #[.int .i64 a,.int .i64 b] 1 h fun s19 h1=>appS 56 (Value.agg #[Value.int .i64 0,Value.int .i64 0]).cells 2 16 h1 x15 s19 fun s20 h2=>
   nn (some (⟨pb,0,none⟩:Addr)) fun p21=>sto h2 (p21.add 1) (.slice s20.a s20.n s20.c) fun h3=>K h3:=by
 refine⟨_,rfl,s,by rw[add_plain,x.box.cl];rfl,?_⟩
 have hn:=x.n
 refine app1 rfl x.own rfl (by simp[Value.oneCell']) x.le (by omega) (by omega) fun s' h' e1 o' f' hown=>?_
 refine⟨_,rfl,?_⟩
 have hb:¬s.own pb:=fun e=>by have:=(x.own.ge e).1;have:=x.lt;omega
 have hb':=f'.blk x.box hb
 dsimp only
 rw[add_plain]
 refine sto_i hb' (by simp) (k _ ⟨s',⟨?_,?_,x.lt,?_⟩,?_,hown⟩)
 ·have:=hb'.sc 1 (.slice s'.a s'.n s'.c)
  exact this
 ·have e:prs (L++[(a,b)])=prs L++#[Value.int .i64 a,.int .i64 b].toList:=by rw[prs_app];rfl
  rw[e]
  refine o'.frame (Fr.scb _ pb 1 _) fun q hq e=>?_
  subst e
  rcases hown q hq with e|e
  ·exact hb e
  ·have:=x.lt;have:=x.le;omega
 ·rw[sc_size];have:=f'.size;have:=x.le;omega
 ·exact (f'.mono (T':=fun b=>b=pb∨s.own b) fun _ _ e=>.inr e).trans ((Fr.scb h' pb (0+1) (.slice s'.a s'.n s'.c)).mono fun _ _ e=>.inl e)
theorem PrTo.after {B pb:Nat} {w:Option Nat} {s s1:Sv} {L':List (Int×Int)} {h h1 h2:Heap} (f:Fr (fun b=>b=pb∨s.own b) h h1) (o:∀b,s1.own b→s.own b∨h.size≤b) (y:PrTo h1 B pb w s1 L' h2):PrTo h B pb w s L' h2:=by
 obtain⟨s2,p2,f2,o2⟩:=y
 exact⟨s2,p2,fr2 f o f2,own2 f.size o o2⟩
theorem life_spec {B pb:Nat} {w:Option Nat} {s:Sv} {L:List (Int×Int)} (x:PrAt h B pb w s L) (hL:L.length≤1000000) (a b way:Int) :
  CallsH Try.prog 71 #[.pointer (some ⟨pb,0,none⟩),.int .i64 a,.int .i64 b,.int .i64 way] h (fun _ h'=>PrTo h B pb w s (L++lifeL a b way) h'):=by
 apply F71
 unfold L71
 refine⟨fun h1=>PrTo h B pb w s (L++(if (bitsI .and .i64 way 1 != 0)=true then [(a,b)] else [])) h1,⟨fun e=>?_,fun e=>?_⟩,?_⟩
 ·rw[e]
  exact pr_app x (by omega) a b fun h' P=>P
 ·rw[e]
  simpa using PrTo.refl x
 intro h1 P1
 obtain⟨s1,p1,f1,o1⟩:=P1
 have hl:(L++(if (bitsI .and .i64 way 1 != 0)=true then [(a,b)] else [])).length≤L.length+1:=by
  rw[List.length_append];split<;>simp
 unfold lifeL
 rw[←List.append_assoc]
 refine⟨fun e=>?_,fun e=>?_⟩
 ·rw[e]
  exact pr_app p1 (by omega) b a fun h' P=>P.after f1 o1
 ·rw[e]
  simp only[Bool.false_eq_true,if_false,List.append_nil]
  exact⟨s1,p1,f1,o1⟩
end
end Go.Proofs.Yteofligmdngdgaa
namespace Go.Proofs.Yteofligmdngdgaa
open Go Go.Lf
set_option linter.unusedVariables false
def thr (o i:Int):Int:=if o=0∨i=0 then 0 else if o=1 then bitsI .and .i64 i 3 else if o=3∨i=3 then 3 else if o=i then 1 else 2
def lkL (nm:ByteArray):List (ByteArray×List Int)→List Int
 | []=>[]
 | (q,l) :: r=>if nm=q then l else lkL nm r
def ofW (ws:List (ByteArray×List Int)) (nm:ByteArray) (i:Nat):Int:=((lkL nm ws)[i]?).getD 3
def WaysAt (Q:Nat→Prop) (h:Heap) (w:Option Nat) (ws:List (ByteArray×List Int)):Prop:=
 ∃es:List (ByteArray×Sv×List Int),ws=es.map (fun e=>(e.1,e.2.2))∧MapAt h (.map w) (es.map fun e=>(e.1,e.2.1.v))∧(∀r,w=some r→Q r)∧∀e∈es,IntsQ Q h e.2.1 e.2.2
theorem WaysAt.fr {Q T:Nat→Prop} {h h':Heap} {w:Option Nat} {ws:List (ByteArray×List Int)} (x:WaysAt Q h w ws) (f:Fr T h h') (hT:∀b,Q b→¬T b):WaysAt Q h' w ws:=by
 obtain⟨es,e,m,q,k⟩:=x
 exact⟨es,e,MapAt.fr m f fun r hr=>hT r (q r (by simpa using hr)),q,fun e he=>(k e he).fr f hT⟩
theorem WaysAt.weak {Q Q':Nat→Prop} {h:Heap} {w:Option Nat} {ws:List (ByteArray×List Int)} (x:WaysAt Q h w ws) (hq:∀b,Q b→b<h.size→Q' b):WaysAt Q' h w ws:=by
 obtain⟨es,e,m,q,k⟩:=x
 refine⟨es,e,m,fun r hr=>hq r (q r hr) ?_,fun e he=>(k e he).weak hq⟩
 rcases m with⟨m,_⟩|⟨r',L,c,m,hr',_⟩
 ·rw[hr] at m;cases m
 ·rw[hr] at m
  simp only[Value.map.injEq,Option.some.injEq] at m
  subst m
  rcases Nat.lt_or_ge r h.size with e|e
  ·exact e
  ·simp[Array.getElem?_eq_none e] at hr'
theorem lkE_map (nm:ByteArray):∀es:List (ByteArray×Sv×List Int),(lkE nm (es.map fun e=>(e.1,e.2.1.v))=none∧lkL nm (es.map fun e=>(e.1,e.2.2))=[])∨∃e∈es,lkE nm (es.map fun e=>(e.1,e.2.1.v))=some e.2.1.v∧lkL nm (es.map fun e=>(e.1,e.2.2))=e.2.2
 | []=>.inl ⟨rfl,rfl⟩
 | e :: es=>by
  simp only[List.map_cons,lkE,lkL]
  by_cases h:nm=e.1
  ·exact .inr ⟨e,by simp,by rw[if_pos h],by rw[if_pos h]⟩
  ·rw[if_neg h,if_neg h]
   rcases lkE_map nm es with h1|⟨e',h1,h2⟩
   ·exact .inl h1
   ·exact .inr ⟨e',by simp[h1],h2⟩
section
variable {Q:Nat→Prop} {h:Heap}
theorem of_spec {w:Option Nat} {ws:List (ByteArray×List Int)} (x:WaysAt Q h w ws) (nm:ByteArray) (i:Nat) :
  CallsH Try.prog 73 #[.map w,.string nm,.int .i64 i] h (fun v h'=>h=h'∧v=.int .i64 (ofW ws nm i)):=by
 apply F73
 unfold L73
 obtain⟨es,rfl,m,q,k⟩:=x
 refine⟨_,m,?_⟩
 rcases lkE_map nm es with⟨h1,h2⟩|⟨e,he,h1,h2⟩
 ·rw[h1]
  refine⟨⟨none,0,0⟩,rfl,fun _=>⟨rfl,?_⟩,fun e=>?_⟩
  ·unfold ofW;rw[h2];rfl
  ·have:decide ((((⟨none,0,0⟩:Sv).n:Nat):Int)≤(i:Int))=true:=decide_eq_true (by simp)
   rw[this,Bool.or_true] at e
   cases e
 ·rw[h1]
  have y:=k e he
  refine⟨e.2.1,rfl,?_⟩
  refine ifb_iff (q:=e.2.2.length≤i) (by rw[y.len];simp;omega) (fun hge=>⟨rfl,?_⟩) (fun hlt=>?_)
  ·unfold ofW;rw[h2,List.getElem?_eq_none hge];rfl
  ·have hi:i<e.2.2.length:=by omega
   refine y.ints.get hi ⟨rfl,?_⟩
   unfold ofW;rw[h2,List.getElem?_eq_getElem hi];rfl
theorem thr_spec (o i:Int):CallsH Try.prog 72 #[.int .i64 o,.int .i64 i] h (fun v h'=>h=h'∧v=.int .i64 (thr o i)):=by
 apply F72
 unfold L72
 refine ifb_iff (q:=o=0∨i=0) (by simp) (fun h1=>⟨rfl,by unfold thr;rw[if_pos h1]⟩) (fun h1=>?_)
 refine ifb_iff (q:=o=1) (by simp) (fun h2=>⟨rfl,by unfold thr;rw[if_neg h1,if_pos h2]⟩) (fun h2=>?_)
 refine ifb_iff (q:=o=3∨i=3) (by simp) (fun h3=>⟨rfl,by unfold thr;rw[if_neg h1,if_neg h2,if_pos h3]⟩) (fun h3=>?_)
 exact ifb_iff (q:=o=i) (by simp) (fun h4=>⟨rfl,by unfold thr;rw[if_neg h1,if_neg h2,if_neg h3,if_pos h4]⟩) (fun h4=>⟨rfl,by unfold thr;rw[if_neg h1,if_neg h2,if_neg h3,if_neg h4]⟩)
def regsL (f:Nat→Int):Nat→List Int→List Int→List (Int×Int)
 | i,x :: xs,y :: ys=>lifeL x y (f i)++regsL f (i+1) xs ys
 | _,_,_=>[]
def seeA (S:Ty→Int→Ty→List (Int×Int)) (f:Nat→Int):Nat→List Ty→List Ty→List (Int×Int)
 | i,a :: az,b :: bz=>S a (f i) b++seeA S f (i+1) az bz
 | _,_,_=>[]
theorem regsL_snoc (f:Nat→Int) (x y:Int):∀(i:Nat) (xs ys:List Int),xs.length=ys.length→regsL f i (xs++[x]) (ys++[y])=regsL f i xs ys++lifeL x y (f (i+xs.length))
 | i,[],[],_=>by simp[regsL]
 | i,[],_ :: _,h=>by simp at h
 | i,_ :: _,[],h=>by simp at h
 | i,a :: xs,b :: ys,h=>by
  simp only[List.cons_append,regsL,List.length_cons]
  rw[regsL_snoc f x y (i+1) xs ys (by simpa using h),List.append_assoc,show i+1+xs.length=i+(xs.length+1) by omega]
theorem seeA_snoc (S:Ty→Int→Ty→List (Int×Int)) (f:Nat→Int) (x y:Ty):∀(i:Nat) (xs ys:List Ty),xs.length=ys.length→seeA S f i (xs++[x]) (ys++[y])=seeA S f i xs ys++S x (f (i+xs.length)) y
 | i,[],[],_=>by simp[seeA]
 | i,[],_ :: _,h=>by simp at h
 | i,_ :: _,[],h=>by simp at h
 | i,a :: xs,b :: ys,h=>by
  simp only[List.cons_append,seeA,List.length_cons]
  rw[seeA_snoc S f x y (i+1) xs ys (by simpa using h),List.append_assoc,show i+1+xs.length=i+(xs.length+1) by omega]
noncomputable def seeL (of:ByteArray→Nat→Int):Ty→Int→Ty→List (Int×Int):=
 Ty.rec (motive_1:=fun _=>Int→Ty→List (Int×Int)) (motive_2:=fun _=>(Nat→Int)→Nat→List Ty→List (Int×Int))
  (fun k nm mu r rs _ ih w b=>match b with
   | .mk _ _ _ r' rs' az'=>if k=5 then regsL (fun i=>thr w (of nm i)) 0 rs rs'++ih (fun i=>thr w (of nm (rs.length+i))) 0 az'
     else (if k=7∨k=8 then lifeL r r' w else [])++ih (fun _=>if k=7∧mu=true then thr w 3 else w) 0 az')
  (fun _ _ _=>[])
  (fun _ _ ih1 ih2 f i bs=>match bs with|[]=>[]|b :: bs=>ih1 (f i) b++ih2 f (i+1) bs)
theorem seeL_rec (of:ByteArray→Nat→Int) (az:List Ty) (f:Nat→Int) (i:Nat) (bs:List Ty) :
  (Ty.rec_1 (motive_1:=fun _=>Int→Ty→List (Int×Int)) (motive_2:=fun _=>(Nat→Int)→Nat→List Ty→List (Int×Int))
  (fun k nm mu r rs _ ih w b=>match b with
   | .mk _ _ _ r' rs' az'=>if k=5 then regsL (fun i=>thr w (of nm i)) 0 rs rs'++ih (fun i=>thr w (of nm (rs.length+i))) 0 az'
     else (if k=7∨k=8 then lifeL r r' w else [])++ih (fun _=>if k=7∧mu=true then thr w 3 else w) 0 az')
  (fun _ _ _=>[])
  (fun _ _ ih1 ih2 f i bs=>match bs with|[]=>[]|b :: bs=>ih1 (f i) b++ih2 f (i+1) bs) az:(Nat→Int)→Nat→List Ty→List (Int×Int)) f i bs=seeA (seeL of) f i az bs:=by
 induction az generalizing i bs with
 | nil=>rfl
 | cons a az ih=>
  cases bs with
  | nil=>rfl
  | cons b bs=>rw[seeA,←ih (i+1) bs];rfl
theorem seeL_mk (of:ByteArray→Nat→Int) (k:Int) (nm:ByteArray) (mu:Bool) (r:Int) (rs:List Int) (az:List Ty) (w:Int) (k':Int) (nm':ByteArray) (mu':Bool) (r':Int) (rs':List Int) (az':List Ty) :
  seeL of (.mk k nm mu r rs az) w (.mk k' nm' mu' r' rs' az')=if k=5 then regsL (fun i=>thr w (of nm i)) 0 rs rs'++seeA (seeL of) (fun i=>thr w (of nm (rs.length+i))) 0 az az'
     else (if k=7∨k=8 then lifeL r r' w else [])++seeA (seeL of) (fun _=>if k=7∧mu=true then thr w 3 else w) 0 az az':=by
 rw[←seeL_rec,←seeL_rec];rfl
theorem regsL_len (f:Nat→Int):∀(i:Nat) (xs ys:List Int),(regsL f i xs ys).length≤2*xs.length
 | i,[],ys=>by simp[regsL]
 | i,_ :: _,[]=>by simp[regsL]
 | i,x :: xs,y :: ys=>by
  simp only[regsL,List.length_append,List.length_cons]
  have:=regsL_len f (i+1) xs ys
  have:=lifeL_len x y (f i)
  omega
theorem seeA_len {S:Ty→Int→Ty→List (Int×Int)} {m:Nat} (f:Nat→Int):∀(i:Nat) (xs ys:List Ty) (_:∀a∈xs,∀w b,(S a w b).length≤m),(seeA S f i xs ys).length≤xs.length*m
 | i,[],ys,_=>by simp[seeA]
 | i,_ :: _,[],_=>by simp[seeA]
 | i,x :: xs,y :: ys,H=>by
  simp only[seeA,List.length_append,List.length_cons]
  have:=seeA_len f (i+1) xs ys fun a ha=>H a (by simp[ha])
  have:=H x (by simp) (f i) y
  rw[Nat.succ_mul]
  omega
theorem seeL_len (of:ByteArray→Nat→Int):∀(n:Nat) (a:Ty) (w:Int) (b:Ty),small n a=true→(seeL of a w b).length≤bnd n:=by
 intro n
 induction n with
 | zero=>intro a w b h;cases a;cases h
 | succ n ih=>
  intro a w b h
  obtain⟨k,nm,mu,r,rs,az⟩:=a
  obtain⟨k',nm',mu',r',rs',az'⟩:=b
  obtain⟨m,e,h1,h2,h3⟩:=small_mk h
  obtain rfl:m=n:=by omega
  have key:∀f i,(seeA (seeL of) f i az az').length≤4*bnd m:=fun f i=>Nat.le_trans (seeA_len f i az az' fun a ha w b=>ih a w b (h3 a ha)) (Nat.mul_le_mul_right _ h1)
  rw[seeL_mk]
  show _≤14+4*bnd m
  split
  ·rw[List.length_append]
   have:=key (fun i=>thr w (of nm (rs.length+i))) 0
   have:=regsL_len (fun i=>thr w (of nm i)) 0 rs rs'
   omega
  ·rw[List.length_append]
   have:=key (fun _=>if k=7∧mu=true then thr w 3 else w) 0
   have:=lifeL_len r r' w
   split
   ·omega
   ·simp;omega
theorem PrAt.grow {B pb:Nat} {w:Option Nat} {s:Sv} {L:List (Int×Int)} {h':Heap} (x:PrAt h B pb w s L) (f:Grow h h'):PrAt h' B pb w s L:=
 ⟨f.blk x.box (fun h=>h),x.own.frame f (fun _ _ h=>h),x.lt,by have:=f.size;have:=x.le;omega⟩
theorem see_spec {B pb:Nat} {w:Option Nat} {ws:List (ByteArray×List Int)}:∀(a b:Ty) (n:Nat) (_:small n a=true) (_:same a b=true) (v v':Tv) (h:Heap) (s:Sv) (L:List (Int×Int)) (way:Int),
  TyAt (fun b=>b<pb) h a v→TyAt (fun b=>b<pb) h b v'→WaysAt (fun b=>b<pb) h w ws→PrAt h B pb w s L→L.length+bnd n≤1000000 →
  CallsH Try.prog 67 #[.pointer (some ⟨pb,0,none⟩),.agg (tvs v),.agg (tvs v'),.int .i64 way] h (fun _ h'=>PrTo h B pb w s (L++seeL (ofW ws) a way b) h'):=by
 intro a
 refine Ty.ind (P:=fun a=>∀(b:Ty) (n:Nat) (_:small n a=true) (_:same a b=true) (v v':Tv) (h:Heap) (s:Sv) (L:List (Int×Int)) (way:Int),
  TyAt (fun b=>b<pb) h a v→TyAt (fun b=>b<pb) h b v'→WaysAt (fun b=>b<pb) h w ws→PrAt h B pb w s L→L.length+bnd n≤1000000 →
  CallsH Try.prog 67 #[.pointer (some ⟨pb,0,none⟩),.agg (tvs v),.agg (tvs v'),.int .i64 way] h (fun _ h'=>PrTo h B pb w s (L++seeL (ofW ws) a way b) h')) ?_ a
 intro k nm mu r rs az ih b n hsm hsame v v' h s L way hv hv' hw hp hlen
 obtain⟨k',nm',mu',r',rs',az'⟩:=b
 obtain⟨m,rfl,ha4,hr6,hall⟩:=small_mk hsm
 rw[same_mk] at hsame
 simp only[Bool.and_eq_true,Bool.not_eq_true',Bool.or_eq_false_iff] at hsame
 obtain⟨-,hs5,hsA⟩:=hsame
 have hlA:=sameA_len hsA
 have hsi:=(sameA_iff.1 hsA).2
 obtain⟨e1,e2,e3,e4,e5,e6,e7⟩:=tyAt_iff.1 hv
 obtain⟨d1,d2,d3,d4,d5,d6,d7⟩:=tyAt_iff.1 hv'
 have hbn:bnd (m+1)=14+4*bnd m:=rfl
 apply F67
 unfold L67
 refine new6 (v:=v) fun h1 b1 f1 z1=>new6 (v:=v') fun h2 b2 f2 z2=>?_
 have g2:Grow h h2:=f1.trans f2
 have B1:=f2.blk b1 (fun h=>h)
 have hp2:=hp.grow g2
 have hpl:=hp.lt
 have hle:=hp.le
 have keep:∀ {s':Sv} {L':List (Int×Int)} {h':Heap},PrAt h' B pb w s' L'→Fr (fun b=>b=pb∨s.own b) h2 h' →
   TyAt (fun b=>b<pb) h' (.mk k nm mu r rs az) v∧TyAt (fun b=>b<pb) h' (.mk k' nm' mu' r' rs' az') v'∧WaysAt (fun b=>b<pb) h' w ws∧Tv6 h' ⟨h.size,0,none⟩ v∧Tv6 h' ⟨h1.size,0,none⟩ v':=by
  intro s' L' h' _ f
  have hQ:∀b,b<pb→¬(b=pb∨s.own b):=fun b hb e=>e.elim (fun e=>by omega) fun e=>by have:=(hp.own.ge e).1;omega
  have hN:∀b,h.size≤b→¬(b=pb∨s.own b):=fun b hb e=>e.elim (fun e=>by omega) fun e=>by have:=(hp.own.ge e).2;omega
  exact⟨(hv.grow g2).fr f hQ,(hv'.grow g2).fr f hQ,(hw.fr g2 (fun _ _ h=>h)).fr f hQ,(Tv6.blk B1).fr f (hN _ (Nat.le_refl _)),(Tv6.blk b2).fr f (hN _ f1.size)⟩
 have fin:∀ {L':List (Int×Int)} {h':Heap},PrTo h2 B pb w s L' h'→PrTo h B pb w s L' h':=fun P=>P.after (g2.mono fun _ _ e=>e.elim) (fun _ e=>.inl e)
 have hargs:∀(f:Nat→Int) (j:Nat),(seeA (seeL (ofW ws)) f 0 (az.take j) (az'.take j)).length≤4*bnd m:=fun f j=>
  Nat.le_trans (seeA_len f 0 _ _ fun a ha w b=>seeL_len (ofW ws) m a w b (hall a (List.mem_of_mem_take ha))) (Nat.mul_le_mul_right _ (by simp;omega))
 have hround:∀(f:Nat→Int) (j:Nat) (h1:j<az.length) (h2:j<az'.length),seeA (seeL (ofW ws)) f 0 (az.take (j+1)) (az'.take (j+1))=seeA (seeL (ofW ws)) f 0 (az.take j) (az'.take j)++seeL (ofW ws) az[j] (f j) az'[j]:=by
  intro f j q1 q2
  rw[List.take_add_one,List.take_add_one,List.getElem?_eq_getElem q1,List.getElem?_eq_getElem q2]
  have:=seeA_snoc (seeL (ofW ws)) f az[j] az'[j] 0 (az.take j) (az'.take j) (by simp;omega)
  simp only[Nat.zero_add,List.length_take] at this
  rw[Nat.min_eq_left (by omega)] at this
  exact this
 refine⟨fun inner h'=>k≠5∧inner=(if k=7∧mu=true then thr way 3 else way)∧PrTo h2 B pb w s (L++(if k=7∨k=8 then lifeL r r' way else [])) h',?_,?_⟩
 ·obtain⟨-,-,-,T1,T2⟩:=keep hp2 (Fr.refl _ _)
  refine⟨_,T1.1,?_⟩
  rw[e1]
  refine ifb_iff (q:=k=7) (by simp) (fun h7=>?_) (fun h7=>?_)
  ·refine⟨_,T1.2.2.2.1,_,T2.2.2.2.1,?_⟩
   rw[e4,d4]
   refine cal_of (life_spec hp2 (by omega) r r' way) ?_
   rintro _ h3 P3
   obtain⟨s3,p3,f3,o3⟩:=P3
   obtain⟨-,-,-,T1,T2⟩:=keep p3 f3
   refine⟨_,T1.2.2.1,?_⟩
   rw[e3]
   have h75:k≠5:=by omega
   refine⟨fun hm=>?_,fun hm=>⟨h75,by rw[if_neg (by simp[hm])],by rw[if_pos (.inl h7)];exact⟨s3,p3,f3,o3⟩⟩⟩
   refine cal_of (thr_spec way 3) ?_
   rintro _ _ ⟨rfl,rfl⟩
   exact⟨_,rfl,h75,by rw[if_pos ⟨h7,hm⟩],by rw[if_pos (.inl h7)];exact⟨s3,p3,f3,o3⟩⟩
  refine ifb_iff (q:=k=8) (by simp) (fun h8=>?_) (fun h8=>?_)
  ·refine⟨_,T1.2.2.2.1,_,T2.2.2.2.1,?_⟩
   rw[e4,d4]
   refine cal_of (life_spec hp2 (by omega) r r' way) ?_
   rintro _ h3 P3
   exact⟨by omega,by rw[if_neg (by omega)],by rw[if_pos (.inr h8)];exact P3⟩
  refine ifb_iff (q:=k=5) (by simp) (fun h5=>?_) (fun h5=>⟨h5,by rw[if_neg (by omega)],by rw[if_neg (by omega),List.append_nil];exact PrTo.refl hp2⟩)
  have hrl:rs.length=rs'.length:=by simpa [h5] using hs5
  refine⟨_,T1.2.2.2.2.1,_,T1.2.2.2.2.1,?_⟩
  rw[e5.len]
  have hregs:∀(j:Nat) (h1:j<rs.length) (h2:j<rs'.length),regsL (fun i=>thr way (ofW ws nm i)) 0 (rs.take (j+1)) (rs'.take (j+1))=regsL (fun i=>thr way (ofW ws nm i)) 0 (rs.take j) (rs'.take j)++lifeL rs[j] rs'[j] (thr way (ofW ws nm j)):=by
   intro j q1 q2
   rw[List.take_add_one,List.take_add_one,List.getElem?_eq_getElem q1,List.getElem?_eq_getElem q2]
   have:=regsL_snoc (fun i=>thr way (ofW ws nm i)) rs[j] rs'[j] 0 (rs.take j) (rs'.take j) (by simp;omega)
   simp only[Nat.zero_add,List.length_take] at this
   rw[Nat.min_eq_left (by omega)] at this
   exact this
  refine⟨fun i h'=>∃j:Nat,i=j∧j≤rs.length∧PrTo h2 B pb w s (L++regsL (fun i=>thr way (ofW ws nm i)) 0 (rs.take j) (rs'.take j)) h',fun i _=>rs.length - i.toNat,⟨0,rfl,Nat.zero_le _,by simpa [regsL] using PrTo.refl hp2⟩,?_⟩
  rintro _ h6 ⟨j,rfl,hj,P6⟩
  obtain⟨s6,p6,f6,o6⟩:=P6
  obtain⟨K1,K2,K3,T1,T2⟩:=keep p6 f6
  refine ifb_iff (q:=j<rs.length) (by simp[e5.len]) (fun hl=>?_) (fun hl=>?_)
  ·have hl':j<rs'.length:=by omega
   refine⟨fun h'=>h'=h6,rfl,_,rfl,w,by rw[p6.box.cl];rfl,_,T1.2.1,?_⟩
   obtain⟨-,-,-,-,E5,-,-⟩:=tyAt_iff.1 K1
   obtain⟨-,-,-,-,D5,-,-⟩:=tyAt_iff.1 K2
   obtain⟨pa,a1,-,a2⟩:=E5.at_ j hl
   obtain⟨pc,c1,-,c2⟩:=D5.at_ j hl'
   refine⟨_,(by rintro _ rfl;exact T1.2.2.2.2.1),pa,a1,by omega,by rw[E5.len];omega,_,(by rintro _ rfl;rw[Int.toNat_natCast];exact a2),_,(by rintro _ rfl;exact T2.2.2.2.2.1),pc,c1,by omega,by rw[D5.len];omega,_,(by rintro _ rfl;rw[Int.toNat_natCast];exact c2),?_⟩
   rw[e2]
   refine cal_of (of_spec K3 nm j) ?_
   rintro _ _ ⟨rfl,rfl⟩
   refine⟨_,rfl,rfl,cal_of (thr_spec way _) ?_⟩
   rintro _ _ ⟨rfl,rfl⟩
   have hrlen:=regsL_len (fun i=>thr way (ofW ws nm i)) 0 (rs.take j) (rs'.take j)
   have htk:(rs.take j).length≤rs.length:=by simp;omega
   refine⟨_,rfl,rfl,cal_of (life_spec p6 (by rw[List.length_append];omega) _ _ _) ?_⟩
   rintro _ h9 P9
   rw[wrap_succ hl (by omega)]
   refine⟨⟨j+1,rfl,hl,?_⟩,by simp;omega⟩
   rw[hregs j hl hl',←List.append_assoc]
   exact P9.after f6 o6
  ·have hje:j=rs.length:=by omega
   subst hje
   rw[List.take_length,hrl,List.take_length] at p6
   refine⟨_,T1.2.2.2.2.2,?_⟩
   dsimp only
   rw[e6]
   refine⟨fun i h'=>∃j:Nat,i=j∧j≤az.length∧PrTo h2 B pb w s (L++(regsL (fun i=>thr way (ofW ws nm i)) 0 rs rs'++seeA (seeL (ofW ws)) (fun i=>thr way (ofW ws nm (rs.length+i))) 0 (az.take j) (az'.take j))) h',fun i _=>az.length - i.toNat,⟨0,rfl,Nat.zero_le _,⟨s6,by simpa [seeA] using p6,f6,o6⟩⟩,?_⟩
   rintro _ h10 ⟨j,rfl,hj,P10⟩
   obtain⟨s10,p10,f10,o10⟩:=P10
   obtain⟨K1,K2,K3,T1,T2⟩:=keep p10 f10
   refine ifb_iff (q:=j<az.length) (by simp) (fun hl=>?_) (fun hl=>?_)
   ·have hl':j<az'.length:=by omega
    refine⟨fun h'=>h'=h10,rfl,_,rfl,w,by rw[p10.box.cl];rfl,_,T1.2.1,?_⟩
    obtain⟨-,-,-,-,-,E6,E7⟩:=tyAt_iff.1 K1
    obtain⟨-,-,-,-,-,D6,D7⟩:=tyAt_iff.1 K2
    obtain⟨pa,ua,a1,-,a2,a3⟩:=E7 j hl
    obtain⟨pc,uc,c1,-,c2,c3⟩:=D7 j hl'
    refine⟨_,(by rintro _ rfl;exact T1.2.2.2.2.2),pa,a1,by omega,by rw[E6];omega,?_⟩
    rw[Int.toNat_natCast]
    refine hd6 (t:=ua) (by rintro _ rfl;exact a2) ?_
    refine⟨_,(by rintro _ rfl;exact T2.2.2.2.2.2),pc,c1,by omega,by rw[D6];omega,?_⟩
    refine hd6 (t:=uc) (by rintro _ rfl;exact c2) ?_
    have hw2:IntKind.i64.wrap (((rs.length:Nat):Int)+(j:Int))=((rs.length+j:Nat):Int):=by rw[wrap64_id (by omega) (by omega)];rfl
    rw[hw2,e2]
    refine cal_of (of_spec K3 nm (rs.length+j)) ?_
    rintro _ _ ⟨rfl,rfl⟩
    refine⟨_,rfl,rfl,cal_of (thr_spec way _) ?_⟩
    rintro _ _ ⟨rfl,rfl⟩
    have hrlen:=regsL_len (fun i=>thr way (ofW ws nm i)) 0 rs rs'
    have halen:=hargs (fun i=>thr way (ofW ws nm (rs.length+i))) j
    have hsofar:(seeA (seeL (ofW ws)) (fun i=>thr way (ofW ws nm (rs.length+i))) 0 (az.take j) (az'.take j)).length≤3*bnd m:=
     Nat.le_trans (seeA_len _ 0 _ _ fun a ha w b=>seeL_len (ofW ws) m a w b (hall a (List.mem_of_mem_take ha))) (Nat.mul_le_mul_right _ (by simp;omega))
    refine⟨_,rfl,rfl,cal_of (ih _ (List.getElem_mem hl) az'[j] m (hall _ (List.getElem_mem hl)) (hsi j hl hl') ua uc h10 s10 _ _ a3 c3 K3 p10 (by rw[List.length_append,List.length_append];omega)) ?_⟩
    rintro _ h13 P13
    rw[wrap_succ hl (by omega)]
    refine⟨⟨j+1,rfl,hl,?_⟩,by simp;omega⟩
    rw[hround _ j hl hl',←List.append_assoc (regsL _ _ _ _),←List.append_assoc L]
    exact P13.after f10 o10
   ·have hje:j=az.length:=by omega
    subst hje
    rw[List.take_length,hlA,List.take_length] at p10
    rw[seeL_mk,if_pos h5]
    exact fin ⟨s10,p10,f10,o10⟩
 ·rintro inner h14 ⟨h5,rfl,s14,p14,f14,o14⟩
  obtain⟨K1,K2,K3,T1,T2⟩:=keep p14 f14
  refine⟨_,T1.2.2.2.2.2,?_⟩
  dsimp only
  rw[e6]
  generalize hin:(if k=7∧mu=true then thr way 3 else way)=inner
  generalize hL2:(if k=7∨k=8 then lifeL r r' way else [])=L2 at p14
  have hL2l:L2.length≤2:=by
   have:=lifeL_len r r' way
   rw[←hL2];split
   ·exact this
   ·simp
  refine⟨fun i h'=>∃j:Nat,i=j∧j≤az.length∧PrTo h2 B pb w s (L++(L2++seeA (seeL (ofW ws)) (fun _=>inner) 0 (az.take j) (az'.take j))) h',fun i _=>az.length - i.toNat,⟨0,rfl,Nat.zero_le _,⟨s14,by simpa [seeA] using p14,f14,o14⟩⟩,?_⟩
  rintro _ h15 ⟨j,rfl,hj,P15⟩
  obtain⟨s15,p15,f15,o15⟩:=P15
  obtain⟨K1,K2,K3,T1,T2⟩:=keep p15 f15
  refine ifb_iff (q:=j<az.length) (by simp) (fun hl=>?_) (fun hl=>?_)
  ·have hl':j<az'.length:=by omega
   refine⟨_,T1.2.2.2.2.2,args_get K1 hl fun ua hua=>⟨_,T2.2.2.2.2.2,args_get K2 hl' fun uc huc=>?_⟩⟩
   have hsofar:(seeA (seeL (ofW ws)) (fun _=>inner) 0 (az.take j) (az'.take j)).length≤3*bnd m:=
    Nat.le_trans (seeA_len _ 0 _ _ fun a ha w b=>seeL_len (ofW ws) m a w b (hall a (List.mem_of_mem_take ha))) (Nat.mul_le_mul_right _ (by simp;omega))
   refine cal_of (ih _ (List.getElem_mem hl) az'[j] m (hall _ (List.getElem_mem hl)) (hsi j hl hl') ua uc h15 s15 _ inner hua huc K3 p15 (by rw[List.length_append,List.length_append];omega)) ?_
   rintro _ h16 P16
   rw[wrap_succ hl (by omega)]
   refine⟨⟨j+1,rfl,hl,?_⟩,by simp;omega⟩
   rw[hround _ j hl hl',←List.append_assoc L2,←List.append_assoc L]
   exact P16.after f15 o15
  ·have hje:j=az.length:=by omega
   subst hje
   rw[List.take_length,hlA,List.take_length] at p15
   rw[seeL_mk,if_neg h5,hL2,hin]
   exact fin ⟨s15,p15,f15,o15⟩
end
end Go.Proofs.Yteofligmdngdgaa

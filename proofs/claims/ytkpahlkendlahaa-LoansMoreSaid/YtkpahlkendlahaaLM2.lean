/- LoansMore: with more points, and more loans, no clash is lost: proved for every input, with no conditions. -/
import Derived.Test.YtkpahlkendlahaaLM1
namespace Go.Proofs.Ytkpahlkendlahaa
open Go Go.Lf
set_option linter.unusedVariables false
set_option maxRecDepth 100000
def L17 (x0:Int) (x1:Addr) (h:Heap) (R:Value→Heap→Prop):Prop:=
 ldI .i64 h x1 fun x6=>
 ((IntKind.u64.wrap x6)≠0) ∧
 R (Value.int .i64 (IntKind.i64.wrap (((IntKind.u64.wrap x0):Int).tmod (IntKind.u64.wrap x6)))) h
set_option maxRecDepth 100000 in
theorem F17 {x0 x1 h:_} {R:Value→Heap→Prop} (H:L17 x0 x1 h R):CallsH Try.prog 17 #[Value.int .i64 x0,Value.pointer (some x1)] h R:=by
 refine CallsH.enter (n:=10) Try.func17 rfl rfl rfl rfl ?_
 intro w0 aa ww S
 unfold L17 at H
 refine W.seq ?_
 refine W.region ?_
 refine OL.za S fun _ S=>?_
 refine OL.nil ?_
 refine W.seq ?_
 refine W.region ?_
 refine OL.zm S fun _ S=>?_
 refine OL.zq S (Lf.run_cvi Try.underlying3 Try.underlying52 (S.ev rfl)) fun _ S=>?_
 obtain⟨x6,c,H⟩:=H
 refine OL.zl S fl3 c fun _ S=>?_
 refine OL.zq S (Lf.run_cvi Try.underlying3 Try.underlying52 (S.ev rfl)) fun _ S=>?_
 obtain⟨c_1,H⟩:=H
 refine OL.zq S (Lf.run_rem (S.ev rfl) (S.ev rfl) c_1) fun _ S=>?_
 refine OL.zq S (Lf.run_cvi Try.underlying52 Try.underlying3 (S.ev rfl)) fun _ S=>?_
 refine OL.za S fun _ S=>?_
 refine OL.nil ?_
 refine W.ret ?_
 exact Ret.one S rfl rfl H
def L18 (n0:Int) (h:Heap) (R:Value→Heap→Prop):Prop:=
 R (Value.int .i64 (IntKind.i64.wrap (((IntKind.u64.wrap n0):Int).tmod 4))) h
set_option maxRecDepth 100000 in
theorem F18 {n0 h:_} {R:Value→Heap→Prop} (H:L18 n0 h R):CallsH Try.prog 18 #[Value.int .i64 n0] h R:=by
 refine CallsH.enter (n:=7) Try.func18 rfl rfl rfl rfl ?_
 intro w0 aa ww S
 unfold L18 at H
 refine W.seq ?_
 refine W.region ?_
 refine OL.za S fun _ S=>?_
 refine OL.nil ?_
 refine W.seq ?_
 refine W.region ?_
 refine OL.zm S fun _ S=>?_
 refine OL.zq S (Lf.run_cvi Try.underlying3 Try.underlying52 (S.ev rfl)) fun _ S=>?_
 refine OL.zq S (Lf.run_rem (S.ev rfl) (S.ev rfl) (by decide)) fun _ S=>?_
 refine OL.zq S (Lf.run_cvi Try.underlying52 Try.underlying3 (S.ev rfl)) fun _ S=>?_
 refine OL.za S fun _ S=>?_
 refine OL.nil ?_
 refine W.ret ?_
 exact Ret.one S rfl rfl H
def L19 (l0:Sv) (h:Heap) (R:Value→Heap→Prop):Prop:=
 ∃(I:Sv→Int→Heap→Prop) (m:Sv→Int→Heap→Nat),I (⟨none,0,0⟩:Sv) 0 h∧∀out3 i4 h1,I out3 i4 h1 →
 ifb ((decide (i4<((l0.n:Nat):Int))) && (decide (i4<3))) (
  ixS l0 i4 fun q18=>
  ldI .i64 h1 (q18.add ((i4:Int).toNat*1)) fun x19=>
  ∃J:Int→Prop,(
   ifb (decide (1<(IntKind.i64.wrap ((IntKind.i64.wrap (((IntKind.u64.wrap x19):Int).tmod 5)) - 1)))) (
    J (IntKind.i64.wrap ((IntKind.i64.wrap ((IntKind.i64.wrap (((IntKind.u64.wrap x19):Int).tmod 5)) - 1)) - 2))) (
    J (IntKind.i64.wrap ((IntKind.i64.wrap (((IntKind.u64.wrap x19):Int).tmod 5)) - 1))))∧(∀x5,J x5 →
  newS 3 #[Value.int .i64 x5] 1 h1 fun s30 h2=>
  appS 3 (Value.int .i64 0).cells 1 8 h2 out3 s30 fun s31 h3=>
  I s31 (IntKind.i64.wrap (i4+1)) h3∧m s31 (IntKind.i64.wrap (i4+1)) h3<m out3 i4 h1)) (
  R (Value.slice out3.a out3.n out3.c) h1)
set_option maxRecDepth 100000 in
theorem F19 {l0 h:_} {R:Value→Heap→Prop} (H:L19 l0 h R):CallsH Try.prog 19 #[Value.slice l0.a l0.n l0.c] h R:=by
 refine CallsH.enter (n:=33) Try.func19 rfl rfl rfl rfl ?_
 intro w0 aa ww S
 unfold L19 at H
 refine W.seq ?_
 refine W.region ?_
 refine OL.za S fun _ S=>?_
 refine OL.nil ?_
 refine W.seq ?_
 refine W.region ?_
 refine OL.za S fun _ S=>?_
 refine OL.nil ?_
 refine W.seq ?_
 refine W.seq ?_
 refine W.region ?_
 refine OL.za S fun _ S=>?_
 refine OL.nil ?_
 refine W.block ?_
 obtain⟨I,m,H,HB⟩:=H
 refine W.loopS (σ:=Sv×Int×Heap) (fun s aa ww=>St 33 [(0,Value.slice l0.a l0.n l0.c),(3,Value.slice s.1.a s.1.n s.1.c),(4,Value.int .i64 s.2.1)] s.2.2 w0 aa ww∧I s.1 s.2.1 s.2.2) (fun s=>m s.1 s.2.1 s.2.2) ((⟨none,0,0⟩:Sv),0,h) ⟨S.sub _ ⟨rfl,rfl,rfl,trivial⟩,H⟩ ?_
 clear H S
 rintro ⟨out3,i4,h1⟩ aa ww ⟨S,HI⟩
 replace S:St 33 [(0,Value.slice l0.a l0.n l0.c),(3,Value.slice out3.a out3.n out3.c),(4,Value.int .i64 i4)] h1 w0 aa ww:=S
 have H:=HB out3 i4 h1 HI
 clear HI
 refine W.seq ?_
 refine W.seq ?_
 refine W.region ?_
 refine OL.zm S fun _ S=>?_
 refine OL.zm S fun _ S=>?_
 refine OL.zq S (Lf.run_lens (S.ev rfl) rfl Try.underlying47) fun _ S=>?_
 refine OL.zq S (Lf.run_lss (S.ev rfl) (S.ev rfl)) fun _ S=>?_
 refine OL.zm S fun _ S=>?_
 refine OL.cutN 3 (fun aa ww=>St 33 ((13,Value.bool ((decide (i4<((l0.n:Nat):Int))) && (decide (i4<3)))) :: [(0,Value.slice l0.a l0.n l0.c),(3,Value.slice out3.a out3.n out3.c),(4,Value.int .i64 i4),(6,Value.int .i64 i4),(7,Value.slice l0.a l0.n l0.c),(8,Value.int .i64 ((l0.n:Nat):Int)),(9,Value.bool (decide (i4<((l0.n:Nat):Int)))),(10,Value.bool (decide (i4<((l0.n:Nat):Int))))]) h1 w0 aa ww) ?_ ?_
 ·
  rcases Bool.eq_false_or_eq_true (decide (i4<((l0.n:Nat):Int))) with hb|hb
  ·
   refine OL.zm (hg:=GOk.mk rfl rfl hb) S fun _ S=>?_
   refine OL.zq (hg:=GOk.mk rfl rfl hb) S (Lf.run_lss (S.ev rfl) (S.ev rfl)) fun _ S=>?_
   refine OL.zq S (Lf.run_pickT (S.ev rfl) hb (S.ev rfl)) fun _ S=>?_
   refine OL.nil ?_
   exact (S.hd (by rw[hb,Bool.true_and])).sub _ ⟨rfl,rfl,rfl,rfl,rfl,rfl,rfl,rfl,rfl,trivial⟩
  ·
   refine OL.zn S (GNo.mk rfl rfl hb) fun _ S=>?_
   refine OL.zn S (GNo.mk rfl rfl hb) fun _ S=>?_
   refine OL.zq S (Lf.run_pickF (S.ev rfl) hb (S.ev rfl)) fun _ S=>?_
   refine OL.nil ?_
   exact (S.hd (by rw[hb,Bool.false_and])).sub _ ⟨rfl,rfl,rfl,rfl,rfl,rfl,rfl,rfl,rfl,trivial⟩
 ·
  clear S
  intro aa ww S
  refine OL.nil ?_
  refine W.cond S (b:=((decide (i4<((l0.n:Nat):Int))) && (decide (i4<3)))) rfl (fun hb_1=>?_) (fun hb_1=>?_)
  ·
   replace H:=H.1 hb_1
   refine W.skip ?_
   refine W.seq ?_
   refine W.block ?_
   refine W.seq ?_
   refine W.region ?_
   refine OL.zm S fun _ S=>?_
   refine OL.zm S fun _ S=>?_
   obtain⟨q18,e,e_1,e_2,H⟩:=H
   refine OL.zq S (Lf.run_ixs (S.ev rfl) (S.ev rfl) Try.underlying47 ti3 e e_1 e_2) fun _ S=>?_
   obtain⟨x19,c,H⟩:=H
   refine OL.zl S fl3 c fun _ S=>?_
   refine OL.zq S (Lf.run_cvi Try.underlying3 Try.underlying52 (S.ev rfl)) fun _ S=>?_
   refine OL.zq S (Lf.run_rem (S.ev rfl) (S.ev rfl) (by decide)) fun _ S=>?_
   refine OL.zq S (Lf.run_cvi Try.underlying52 Try.underlying3 (S.ev rfl)) fun _ S=>?_
   refine OL.zq S (Lf.run_sub (S.ev rfl) (S.ev rfl)) fun _ S=>?_
   refine OL.za S fun _ S=>?_
   refine OL.nil ?_
   obtain⟨J,H,HK⟩:=H
   refine W.seqJ (fun aa ww=>∃x5,St 33 [(0,Value.slice l0.a l0.n l0.c),(3,Value.slice out3.a out3.n out3.c),(4,Value.int .i64 i4),(5,Value.int .i64 x5)] h1 w0 aa ww∧J x5) ?_ ?_
   ·
    clear HK
    refine W.seq ?_
    refine W.region ?_
    refine OL.zm S fun _ S=>?_
    refine OL.zq S (Lf.run_gtr (S.ev rfl) (S.ev rfl)) fun _ S=>?_
    refine OL.nil ?_
    refine W.cond S (b:=(decide (1<(IntKind.i64.wrap ((IntKind.i64.wrap (((IntKind.u64.wrap x19):Int).tmod 5)) - 1))))) rfl (fun hb_2=>?_) (fun hb_2=>?_)
    ·
     replace H:=H.1 hb_2
     refine W.region ?_
     refine OL.zm S fun _ S=>?_
     refine OL.zq S (Lf.run_sub (S.ev rfl) (S.ev rfl)) fun _ S=>?_
     refine OL.za S fun _ S=>?_
     refine OL.nil ?_
     exact⟨(IntKind.i64.wrap ((IntKind.i64.wrap ((IntKind.i64.wrap (((IntKind.u64.wrap x19):Int).tmod 5)) - 1)) - 2)),S.sub _ ⟨rfl,rfl,rfl,rfl,trivial⟩,H⟩
    ·
     replace H:=H.2 hb_2
     refine W.skip ?_
     exact⟨(IntKind.i64.wrap ((IntKind.i64.wrap (((IntKind.u64.wrap x19):Int).tmod 5)) - 1)),S.sub _ ⟨rfl,rfl,rfl,rfl,trivial⟩,H⟩
   ·
    clear H S
    rintro aa ww ⟨x5,S,HJ⟩
    have H:=HK _ HJ
    clear HK HJ
    refine W.region ?_
    refine OL.zm S fun _ S=>?_
    refine OL.zm S fun _ S=>?_
    refine ol_newS S H Try.underlying47 ti3 (by decide) (parts_map S rfl) (by kernel_rfl) (by decide) rfl trivial ?_
    clear S H;intro s30 aa ww h2 H S
    refine ol_appS S H Try.underlying47 ti3 rfl rfl rfl trivial ?_
    clear S H;intro s31 aa ww h3 H S
    refine OL.za S fun _ S=>?_
    refine OL.nil ?_
    refine W.region ?_
    refine OL.zm S fun _ S=>?_
    refine OL.zq S (Lf.run_add (S.ev rfl) (S.ev rfl)) fun _ S=>?_
    refine OL.za S fun _ S=>?_
    refine OL.nil ?_
    exact⟨(s31,(IntKind.i64.wrap (i4+1)),h3),⟨S.sub _ ⟨rfl,rfl,rfl,trivial⟩,H.1⟩,H.2⟩
  ·
   replace H:=H.2 hb_1
   refine W.exit_ ?_
   refine xhit ?_
   refine W.seq ?_
   refine W.region ?_
   refine OL.zm S fun _ S=>?_
   refine OL.za S fun _ S=>?_
   refine OL.nil ?_
   refine W.ret ?_
   exact Ret.one S rfl rfl H
def L20 (b0:Option Addr) (h:Heap) (R:Value→Heap→Prop):Prop:=
 ∃J:Bool→Prop,(orr (Option.isNone b0) (fun k=>
  nn b0 fun p12=>
  ldS h (p12.add 3) fun x14=>
  k (((x14.n:Nat):Int) == 0)) J)∧∀x17,J x17 →
 ifb x17 (
  R (Value.slice (⟨none,0,0⟩:Sv).a (⟨none,0,0⟩:Sv).n (⟨none,0,0⟩:Sv).c) h) (
  nn b0 fun p19=>
  ldS h (p19.add 3) fun x21=>
  mkS 4 (Value.bool false).cells 1 1 ((x21.n:Nat):Int) ((x21.n:Nat):Int) h fun s23 h1=>
  ixS s23 0 fun q25=>
  sto h1 q25 (Value.bool true) fun h2=>
  newS 3 #[Value.int .i64 0] 1 h2 fun s26 h3=>
  ∃(I:Sv→Int→Heap→Prop) (m:Sv→Int→Heap→Nat),I s26 0 h3∧∀todo4 vat5 h4,I todo4 vat5 h4 →
  ifb (decide (vat5<((todo4.n:Nat):Int))) (
   ixS todo4 vat5 fun q36=>
   ldI .i64 h4 (q36.add ((vat5:Int).toNat*1)) fun x37=>
   cal Try.prog 29 #[Value.pointer b0,Value.int .i64 x37] h4 fun u h5=>asS u fun x38=>
   ∃(I_1:Sv→Int→Heap→Prop) (m_1:Sv→Int→Heap→Nat),I_1 todo4 0 h5∧∀todo4_1 x40 h6,I_1 todo4_1 x40 h6 →
   ifb (decide (x40<((x38.n:Nat):Int))) (
    ∃J_1:Sv→Heap→Prop,(
     ixS x38 x40 fun q42=>
     ldI .i64 h6 (q42.add ((x40:Int).toNat*1)) fun x43=>
     ∃J_2:Bool→Prop,(andr ((decide (0≤x43)) && (decide (x43<((s23.n:Nat):Int)))) (fun k_1=>
      ixS s23 x43 fun q55=>
      ldB h6 (q55.add ((x43:Int).toNat*1)) fun x56=>
      k_1 (!x56)) J_2)∧∀x58,J_2 x58 →
     ifb x58 (
      ixS s23 x43 fun q61=>
      sto h6 (q61.add ((x43:Int).toNat*1)) (Value.bool true) fun h7=>
      newS 3 #[Value.int .i64 x43] 1 h7 fun s64 h8=>
      appS 3 (Value.int .i64 0).cells 1 8 h8 todo4_1 s64 fun s65 h9=>
      J_1 s65 h9) (
      J_1 todo4_1 h6))∧(∀todo4_2 h10,J_1 todo4_2 h10 →
    I_1 todo4_2 (IntKind.i64.wrap (x40+1)) h10∧m_1 todo4_2 (IntKind.i64.wrap (x40+1)) h10<m_1 todo4_1 x40 h6)) (
    I todo4_1 (IntKind.i64.wrap (vat5+1)) h6∧m todo4_1 (IntKind.i64.wrap (vat5+1)) h6<m todo4 vat5 h4)) (
   R (Value.slice s23.a s23.n s23.c) h4))
set_option maxRecDepth 100000 in
theorem F20 {b0 h:_} {R:Value→Heap→Prop} (H:L20 b0 h R):CallsH Try.prog 20 #[Value.pointer b0] h R:=by
 refine CallsH.enter (n:=68) Try.func20 rfl rfl rfl rfl ?_
 intro w0 aa ww S
 unfold L20 at H
 refine W.seq ?_
 refine W.region ?_
 refine OL.za S fun _ S=>?_
 refine OL.nil ?_
 refine W.seq ?_
 refine W.seq ?_
 refine W.region ?_
 refine OL.zm S fun _ S=>?_
 refine OL.zq S (Lf.run_eqlpn Try.underlying38 (S.ev rfl) (S.ev rfl)) fun _ S=>?_
 refine OL.zm S fun _ S=>?_
 obtain⟨J,H,HK⟩:=H
 refine OL.cutN 7 (fun aa ww=>∃x17,St 68 ((17,Value.bool x17) :: [(0,Value.pointer b0),(8,Value.pointer b0),(9,Value.bool (Option.isNone b0)),(10,Value.bool (Option.isNone b0))]) h w0 aa ww∧J x17) ?_ ?_
 ·
  rcases Bool.eq_false_or_eq_true (Option.isNone b0) with hb|hb
  ·
   replace H:=H.1 hb
   refine OL.zn S (GNo.mk rfl rfl hb) fun _ S=>?_
   refine OL.zn S (GNo.mk rfl rfl hb) fun _ S=>?_
   refine OL.zn S (GNo.mk rfl rfl hb) fun _ S=>?_
   refine OL.zn S (GNo.mk rfl rfl hb) fun _ S=>?_
   refine OL.zn S (GNo.mk rfl rfl hb) fun _ S=>?_
   refine OL.zn S (GNo.mk rfl rfl hb) fun _ S=>?_
   refine OL.zq S (Lf.run_pickT (S.ev rfl) hb (S.ev rfl)) fun _ S=>?_
   refine OL.nil ?_
   exact⟨_,S.sub _ ⟨rfl,rfl,rfl,rfl,rfl,trivial⟩,H⟩
  ·
   replace H:=H.2 hb
   refine OL.zm (hg:=GOk.mk rfl rfl hb) S fun _ S=>?_
   obtain⟨p12,e,H⟩:=H
   refine OL.zq (hg:=GOk.mk rfl rfl hb) S (Lf.run_nc' (S.ev rfl) e) fun _ S=>?_
   refine OL.zf (hg:=GOk.mk rfl rfl hb) S fa30_3 fun _ S=>?_
   obtain⟨x14,c,H⟩:=H
   refine OL.zl (hg:=GOk.mk rfl rfl hb) S fl28 c fun _ S=>?_
   refine OL.zq (hg:=GOk.mk rfl rfl hb) S (Lf.run_lens (S.ev rfl) rfl Try.underlying28) fun _ S=>?_
   refine OL.zq (hg:=GOk.mk rfl rfl hb) S (Lf.run_eql (S.ev rfl) (S.ev rfl)) fun _ S=>?_
   refine OL.zq S (Lf.run_pickF (S.ev rfl) hb (S.ev rfl)) fun _ S=>?_
   refine OL.nil ?_
   exact⟨_,S.sub _ ⟨rfl,rfl,rfl,rfl,rfl,trivial⟩,H⟩
 ·
  clear S
  rintro aa ww ⟨x17,S,HJ⟩
  replace H:=HK _ HJ
  clear HK HJ
  refine OL.nil ?_
  refine W.cond S (b:=x17) rfl (fun hb_1=>?_) (fun hb_1=>?_)
  ·
   replace H:=H.1 hb_1
   refine W.seq ?_
   refine W.region ?_
   refine OL.za S fun _ S=>?_
   refine OL.nil ?_
   refine W.ret ?_
   exact Ret.one S rfl rfl H
  ·
   replace H:=H.2 hb_1
   refine W.skip ?_
   refine W.seq ?_
   refine W.region ?_
   refine OL.zm S fun _ S=>?_
   obtain⟨p19,e_1,H⟩:=H
   refine OL.zq S (Lf.run_nc' (S.ev rfl) e_1) fun _ S=>?_
   refine OL.zf S fa30_3 fun _ S=>?_
   obtain⟨x21,c_1,H⟩:=H
   refine OL.zl S fl28 c_1 fun _ S=>?_
   refine OL.zq S (Lf.run_lens (S.ev rfl) rfl Try.underlying28) fun _ S=>?_
   refine ol_mkS S H Try.underlying45 ti4 rfl rfl rfl trivial ?_
   clear S H;intro s23 aa ww h1 H S
   refine OL.za S fun _ S=>?_
   refine OL.nil ?_
   refine W.seq ?_
   refine W.region ?_
   refine OL.zm S fun _ S=>?_
   obtain⟨q25,e_2,e_3,e_4,H⟩:=H
   refine OL.zq S (Lf.run_ixs (S.ev rfl) (S.ev rfl) Try.underlying45 ti4 e_2 e_3 e_4) fun _ S=>?_
   refine ol_sto S H rfl rfl rfl ti4 trivial ?_
   clear S H;intro aa ww h2 H S
   refine OL.nil ?_
   refine W.seq ?_
   refine W.region ?_
   refine ol_newS S H Try.underlying47 ti3 (by decide) (parts_map S rfl) (by kernel_rfl) (by decide) rfl trivial ?_
   clear S H;intro s26 aa ww h3 H S
   refine OL.za S fun _ S=>?_
   refine OL.nil ?_
   refine W.seq ?_
   refine W.seq ?_
   refine W.region ?_
   refine OL.za S fun _ S=>?_
   refine OL.nil ?_
   refine W.block ?_
   obtain⟨I,m,H,HB_1⟩:=H
   refine W.loopS (σ:=Sv×Int×Heap) (fun s aa ww=>St 68 [(0,Value.pointer b0),(3,Value.slice s23.a s23.n s23.c),(4,Value.slice s.1.a s.1.n s.1.c),(5,Value.int .i64 s.2.1)] s.2.2 w0 aa ww∧I s.1 s.2.1 s.2.2) (fun s=>m s.1 s.2.1 s.2.2) (s26,0,h3) ⟨S.sub _ ⟨rfl,rfl,rfl,rfl,trivial⟩,H⟩ ?_
   clear H S
   rintro ⟨todo4,vat5,h4⟩ aa ww ⟨S,HI⟩
   replace S:St 68 [(0,Value.pointer b0),(3,Value.slice s23.a s23.n s23.c),(4,Value.slice todo4.a todo4.n todo4.c),(5,Value.int .i64 vat5)] h4 w0 aa ww:=S
   have H:=HB_1 todo4 vat5 h4 HI
   clear HI
   refine W.seq ?_
   refine W.seq ?_
   refine W.region ?_
   refine OL.zm S fun _ S=>?_
   refine OL.zm S fun _ S=>?_
   refine OL.zq S (Lf.run_lens (S.ev rfl) rfl Try.underlying47) fun _ S=>?_
   refine OL.zq S (Lf.run_lss (S.ev rfl) (S.ev rfl)) fun _ S=>?_
   refine OL.nil ?_
   refine W.cond S (b:=(decide (vat5<((todo4.n:Nat):Int)))) rfl (fun hb_2=>?_) (fun hb_2=>?_)
   ·
    replace H:=H.1 hb_2
    refine W.skip ?_
    refine W.seq ?_
    refine W.block ?_
    refine W.seq ?_
    refine W.region ?_
    refine OL.zm S fun _ S=>?_
    refine OL.zm S fun _ S=>?_
    refine OL.zm S fun _ S=>?_
    obtain⟨q36,e_5,e_6,e_7,H⟩:=H
    refine OL.zq S (Lf.run_ixs (S.ev rfl) (S.ev rfl) Try.underlying47 ti3 e_5 e_6 e_7) fun _ S=>?_
    obtain⟨x37,c_2,H⟩:=H
    refine OL.zl S fl3 c_2 fun _ S=>?_
    refine ol_cal S H isfn29 rfl rfl trivial ?_
    clear S H;intro u aa ww h5 H S
    obtain⟨x38,rfl,H⟩:=H
    refine OL.zq S (Lf.run_lens (S.ev rfl) rfl Try.underlying47) fun _ S=>?_
    refine OL.zm S fun _ S=>?_
    refine OL.nil ?_
    refine W.block ?_
    obtain⟨I_1,m_1,H,HB⟩:=H
    refine W.loopS (σ:=Sv×Int×Heap) (fun s aa ww=>St 68 [(0,Value.pointer b0),(3,Value.slice s23.a s23.n s23.c),(4,Value.slice s.1.a s.1.n s.1.c),(5,Value.int .i64 vat5),(38,Value.slice x38.a x38.n x38.c),(39,Value.int .i64 ((x38.n:Nat):Int)),(40,Value.int .i64 s.2.1)] s.2.2 w0 aa ww∧I_1 s.1 s.2.1 s.2.2) (fun s=>m_1 s.1 s.2.1 s.2.2) (todo4,0,h5) ⟨S.sub _ ⟨rfl,rfl,rfl,rfl,rfl,rfl,rfl,trivial⟩,H⟩ ?_
    clear H S
    rintro ⟨todo4_1,x40,h6⟩ aa ww ⟨S,HI⟩
    replace S:St 68 [(0,Value.pointer b0),(3,Value.slice s23.a s23.n s23.c),(4,Value.slice todo4_1.a todo4_1.n todo4_1.c),(5,Value.int .i64 vat5),(38,Value.slice x38.a x38.n x38.c),(39,Value.int .i64 ((x38.n:Nat):Int)),(40,Value.int .i64 x40)] h6 w0 aa ww:=S
    have H:=HB todo4_1 x40 h6 HI
    clear HI
    refine W.seq ?_
    refine W.region ?_
    refine OL.zq S (Lf.run_lss (S.ev rfl) (S.ev rfl)) fun _ S=>?_
    refine OL.nil ?_
    refine W.seq ?_
    refine W.cond S (b:=(decide (x40<((x38.n:Nat):Int)))) rfl (fun hb_3=>?_) (fun hb_3=>?_)
    ·
     replace H:=H.1 hb_3
     refine W.skip ?_
     obtain⟨J_1,H,HK_1⟩:=H
     refine W.seqJ (fun aa ww=>∃todo4_2 h10,St 68 [(0,Value.pointer b0),(3,Value.slice s23.a s23.n s23.c),(4,Value.slice todo4_2.a todo4_2.n todo4_2.c),(5,Value.int .i64 vat5),(38,Value.slice x38.a x38.n x38.c),(39,Value.int .i64 ((x38.n:Nat):Int)),(40,Value.int .i64 x40)] h10 w0 aa ww∧J_1 todo4_2 h10) ?_ ?_
     ·
      clear HK_1
      refine W.block ?_
      refine W.seq ?_
      refine W.region ?_
      obtain⟨q42,e_8,e_9,e_10,H⟩:=H
      refine OL.zq S (Lf.run_ixs (S.ev rfl) (S.ev rfl) Try.underlying47 ti3 e_8 e_9 e_10) fun _ S=>?_
      obtain⟨x43,c_3,H⟩:=H
      refine OL.zl S fl3 c_3 fun _ S=>?_
      refine OL.za S fun _ S=>?_
      refine OL.nil ?_
      refine W.seq ?_
      refine W.region ?_
      refine OL.zm S fun _ S=>?_
      refine OL.zq S (Lf.run_geq (S.ev rfl) (S.ev rfl)) fun _ S=>?_
      refine OL.zm S fun _ S=>?_
      refine OL.cutN 5 (fun aa ww=>St 68 ((51,Value.bool ((decide (0≤x43)) && (decide (x43<((s23.n:Nat):Int))))) :: [(0,Value.pointer b0),(3,Value.slice s23.a s23.n s23.c),(4,Value.slice todo4_1.a todo4_1.n todo4_1.c),(5,Value.int .i64 vat5),(7,Value.int .i64 x43),(38,Value.slice x38.a x38.n x38.c),(39,Value.int .i64 ((x38.n:Nat):Int)),(40,Value.int .i64 x40),(44,Value.int .i64 x43),(45,Value.bool (decide (0≤x43))),(46,Value.bool (decide (0≤x43)))]) h6 w0 aa ww) ?_ ?_
      ·
       rcases Bool.eq_false_or_eq_true (decide (0≤x43)) with hb_4|hb_4
       ·
        refine OL.zm (hg:=GOk.mk rfl rfl hb_4) S fun _ S=>?_
        refine OL.zm (hg:=GOk.mk rfl rfl hb_4) S fun _ S=>?_
        refine OL.zq (hg:=GOk.mk rfl rfl hb_4) S (Lf.run_lens (S.ev rfl) rfl Try.underlying45) fun _ S=>?_
        refine OL.zq (hg:=GOk.mk rfl rfl hb_4) S (Lf.run_lss (S.ev rfl) (S.ev rfl)) fun _ S=>?_
        refine OL.zq S (Lf.run_pickT (S.ev rfl) hb_4 (S.ev rfl)) fun _ S=>?_
        refine OL.nil ?_
        exact (S.hd (by rw[hb_4,Bool.true_and])).sub _ ⟨rfl,rfl,rfl,rfl,rfl,rfl,rfl,rfl,rfl,rfl,rfl,rfl,trivial⟩
       ·
        refine OL.zn S (GNo.mk rfl rfl hb_4) fun _ S=>?_
        refine OL.zn S (GNo.mk rfl rfl hb_4) fun _ S=>?_
        refine OL.zn S (GNo.mk rfl rfl hb_4) fun _ S=>?_
        refine OL.zn S (GNo.mk rfl rfl hb_4) fun _ S=>?_
        refine OL.zq S (Lf.run_pickF (S.ev rfl) hb_4 (S.ev rfl)) fun _ S=>?_
        refine OL.nil ?_
        exact (S.hd (by rw[hb_4,Bool.false_and])).sub _ ⟨rfl,rfl,rfl,rfl,rfl,rfl,rfl,rfl,rfl,rfl,rfl,rfl,trivial⟩
      ·
       clear S
       intro aa ww S
       refine OL.zm S fun _ S=>?_
       obtain⟨J_2,H,HK_2⟩:=H
       refine OL.cutN 6 (fun aa ww=>∃x58,St 68 ((58,Value.bool x58) :: [(0,Value.pointer b0),(3,Value.slice s23.a s23.n s23.c),(4,Value.slice todo4_1.a todo4_1.n todo4_1.c),(5,Value.int .i64 vat5),(7,Value.int .i64 x43),(38,Value.slice x38.a x38.n x38.c),(39,Value.int .i64 ((x38.n:Nat):Int)),(40,Value.int .i64 x40),(44,Value.int .i64 x43),(45,Value.bool (decide (0≤x43))),(46,Value.bool (decide (0≤x43))),(51,Value.bool ((decide (0≤x43)) && (decide (x43<((s23.n:Nat):Int))))),(52,Value.bool ((decide (0≤x43)) && (decide (x43<((s23.n:Nat):Int)))))]) h6 w0 aa ww∧J_2 x58) ?_ ?_
       ·
        rcases Bool.eq_false_or_eq_true ((decide (0≤x43)) && (decide (x43<((s23.n:Nat):Int)))) with hb_5|hb_5
        ·
         replace H:=H.1 hb_5
         refine OL.zm (hg:=GOk.mk rfl rfl hb_5) S fun _ S=>?_
         refine OL.zm (hg:=GOk.mk rfl rfl hb_5) S fun _ S=>?_
         obtain⟨q55,e_11,e_12,e_13,H⟩:=H
         refine OL.zq (hg:=GOk.mk rfl rfl hb_5) S (Lf.run_ixs (S.ev rfl) (S.ev rfl) Try.underlying45 ti4 e_11 e_12 e_13) fun _ S=>?_
         obtain⟨x56,c_4,H⟩:=H
         refine OL.zl (hg:=GOk.mk rfl rfl hb_5) S fl4 c_4 fun _ S=>?_
         refine OL.zq (hg:=GOk.mk rfl rfl hb_5) S (Lf.run_not (S.ev rfl)) fun _ S=>?_
         refine OL.zq S (Lf.run_pickT (S.ev rfl) hb_5 (S.ev rfl)) fun _ S=>?_
         refine OL.nil ?_
         exact⟨_,S.sub _ ⟨rfl,rfl,rfl,rfl,rfl,rfl,rfl,rfl,rfl,rfl,rfl,rfl,rfl,rfl,trivial⟩,H⟩
        ·
         replace H:=H.2 hb_5
         refine OL.zn S (GNo.mk rfl rfl hb_5) fun _ S=>?_
         refine OL.zn S (GNo.mk rfl rfl hb_5) fun _ S=>?_
         refine OL.zn S (GNo.mk rfl rfl hb_5) fun _ S=>?_
         refine OL.zn S (GNo.mk rfl rfl hb_5) fun _ S=>?_
         refine OL.zn S (GNo.mk rfl rfl hb_5) fun _ S=>?_
         refine OL.zq S (Lf.run_pickF (S.ev rfl) hb_5 (S.ev rfl)) fun _ S=>?_
         refine OL.nil ?_
         exact⟨_,S.sub _ ⟨rfl,rfl,rfl,rfl,rfl,rfl,rfl,rfl,rfl,rfl,rfl,rfl,rfl,rfl,trivial⟩,H⟩
       ·
        clear S
        rintro aa ww ⟨x58,S,HJ⟩
        replace H:=HK_2 _ HJ
        clear HK_2 HJ
        refine OL.nil ?_
        refine W.cond S (b:=x58) rfl (fun hb_6=>?_) (fun hb_6=>?_)
        ·
         replace H:=H.1 hb_6
         refine W.seq ?_
         refine W.region ?_
         refine OL.zm S fun _ S=>?_
         refine OL.zm S fun _ S=>?_
         obtain⟨q61,e_14,e_15,e_16,H⟩:=H
         refine OL.zq S (Lf.run_ixs (S.ev rfl) (S.ev rfl) Try.underlying45 ti4 e_14 e_15 e_16) fun _ S=>?_
         refine ol_sto S H rfl rfl rfl ti4 trivial ?_
         clear S H;intro aa ww h7 H S
         refine OL.nil ?_
         refine W.region ?_
         refine OL.zm S fun _ S=>?_
         refine OL.zm S fun _ S=>?_
         refine ol_newS S H Try.underlying47 ti3 (by decide) (parts_map S rfl) (by kernel_rfl) (by decide) rfl trivial ?_
         clear S H;intro s64 aa ww h8 H S
         refine ol_appS S H Try.underlying47 ti3 rfl rfl rfl trivial ?_
         clear S H;intro s65 aa ww h9 H S
         refine OL.za S fun _ S=>?_
         refine OL.nil ?_
         exact⟨s65,h9,S.sub _ ⟨rfl,rfl,rfl,rfl,rfl,rfl,rfl,trivial⟩,H⟩
        ·
         replace H:=H.2 hb_6
         refine W.skip ?_
         exact⟨todo4_1,h6,S.sub _ ⟨rfl,rfl,rfl,rfl,rfl,rfl,rfl,trivial⟩,H⟩
     ·
      clear H S
      rintro aa ww ⟨todo4_2,h10,S,HJ⟩
      have H:=HK_1 _ _ HJ
      clear HK_1 HJ
      refine W.region ?_
      refine OL.zq S (Lf.run_add (S.ev rfl) (S.ev rfl)) fun _ S=>?_
      refine OL.zm S fun _ S=>?_
      refine OL.nil ?_
      exact⟨(todo4_2,(IntKind.i64.wrap (x40+1)),h10),⟨S.sub _ ⟨rfl,rfl,rfl,rfl,rfl,rfl,rfl,trivial⟩,H.1⟩,H.2⟩
    ·
     replace H:=H.2 hb_3
     refine W.exit_ ?_
     refine xhit ?_
     refine W.region ?_
     refine OL.zm S fun _ S=>?_
     refine OL.zq S (Lf.run_add (S.ev rfl) (S.ev rfl)) fun _ S=>?_
     refine OL.za S fun _ S=>?_
     refine OL.nil ?_
     exact⟨(todo4_1,(IntKind.i64.wrap (vat5+1)),h6),⟨S.sub _ ⟨rfl,rfl,rfl,rfl,trivial⟩,H.1⟩,H.2⟩
   ·
    replace H:=H.2 hb_2
    refine W.exit_ ?_
    refine xhit ?_
    refine W.seq ?_
    refine W.region ?_
    refine OL.zm S fun _ S=>?_
    refine OL.za S fun _ S=>?_
    refine OL.nil ?_
    refine W.ret ?_
    exact Ret.one S rfl rfl H
def L21 (s0:Sv) (f1:Value) (h:Heap) (R:Value→Heap→Prop):Prop:=
 ∃(I:Int→Heap→Prop) (m:Int→Heap→Nat),I 0 h∧∀x8 h1,I x8 h1 →
 ifb (decide (x8<((s0.n:Nat):Int))) (
  ixS s0 x8 fun q14=>
  ∃(y15:Int) (y15_1:Sv) (y15_2:Int),cl h1 (q14.add ((x8:Int).toNat*3))=some (Value.int .i64 y15)∧cl h1 ((q14.add ((x8:Int).toNat*3)).add 1)=some (Value.slice y15_1.a y15_1.n y15_1.c)∧cl h1 ((q14.add ((x8:Int).toNat*3)).add 2)=some (Value.int .i64 y15_2) ∧
  calV Try.prog f1 #[Value.agg #[Value.int .i64 y15,Value.slice y15_1.a y15_1.n y15_1.c,Value.int .i64 y15_2]] h1 fun u h2=>asB u fun x16=>
  ifb x16 (
   R (Value.int .i64 x8) h2) (
   I (IntKind.i64.wrap (x8+1)) h2∧m (IntKind.i64.wrap (x8+1)) h2<m x8 h1)) (
  R (Value.int .i64 (-1)) h1)
set_option maxRecDepth 100000 in
theorem F21 {s0 f1 h:_} {R:Value→Heap→Prop} (H:L21 s0 f1 h R):CallsH Try.prog 21 #[Value.slice s0.a s0.n s0.c,f1] h R:=by
 refine CallsH.enter (n:=19) Try.func21 rfl rfl rfl rfl ?_
 intro w0 aa ww S
 unfold L21 at H
 refine W.seq ?_
 refine W.region ?_
 refine OL.za S fun _ S=>?_
 refine OL.nil ?_
 refine W.seq ?_
 refine W.seq ?_
 refine W.region ?_
 refine OL.zm S fun _ S=>?_
 refine OL.zq S (Lf.run_lens (S.ev rfl) rfl Try.underlying60) fun _ S=>?_
 refine OL.zm S fun _ S=>?_
 refine OL.nil ?_
 refine W.block ?_
 obtain⟨I,m,H,HB⟩:=H
 refine W.loopS (σ:=Int×Heap) (fun s aa ww=>St 19 [(0,Value.slice s0.a s0.n s0.c),(1,f1),(7,Value.int .i64 ((s0.n:Nat):Int)),(8,Value.int .i64 s.1)] s.2 w0 aa ww∧I s.1 s.2) (fun s=>m s.1 s.2) (0,h) ⟨S.sub _ ⟨rfl,rfl,rfl,rfl,trivial⟩,H⟩ ?_
 clear H S
 rintro ⟨x8,h1⟩ aa ww ⟨S,HI⟩
 replace S:St 19 [(0,Value.slice s0.a s0.n s0.c),(1,f1),(7,Value.int .i64 ((s0.n:Nat):Int)),(8,Value.int .i64 x8)] h1 w0 aa ww:=S
 have H:=HB x8 h1 HI
 clear HI
 refine W.seq ?_
 refine W.region ?_
 refine OL.zq S (Lf.run_lss (S.ev rfl) (S.ev rfl)) fun _ S=>?_
 refine OL.nil ?_
 refine W.seq ?_
 refine W.cond S (b:=(decide (x8<((s0.n:Nat):Int)))) rfl (fun hb=>?_) (fun hb=>?_)
 ·
  replace H:=H.1 hb
  refine W.skip ?_
  refine W.seq ?_
  refine W.block ?_
  refine W.seq ?_
  refine W.region ?_
  refine OL.zm S fun _ S=>?_
  refine OL.za S fun _ S=>?_
  refine OL.nil ?_
  refine W.seq ?_
  refine W.region ?_
  refine OL.zm S fun _ S=>?_
  refine OL.zm S fun _ S=>?_
  refine OL.zm S fun _ S=>?_
  obtain⟨q14,e,e_1,e_2,H⟩:=H
  refine OL.zq S (Lf.run_ixs (S.ev rfl) (S.ev rfl) Try.underlying60 ti63 e e_1 e_2) fun _ S=>?_
  obtain⟨y15,y15_1,y15_2,c_1,c_2,c_3,H⟩:=H
  refine OL.zq S (Lf.run_ldA (cs:=[Value.int .i64 y15,Value.slice y15_1.a y15_1.n y15_1.c,Value.int .i64 y15_2]) (S.ev rfl) ag63 ti63 (by rw[S.heap];exact RowL.toRow ⟨c_1,c_2,c_3,trivial⟩)) fun _ S=>?_
  refine ol_calV S H rfl rfl rfl trivial ?_
  clear S H;intro u aa ww h2 H S
  obtain⟨x16,rfl,H⟩:=H
  refine OL.nil ?_
  refine W.cond S (b:=x16) rfl (fun hb_1=>?_) (fun hb_1=>?_)
  ·
   replace H:=H.1 hb_1
   refine W.seq ?_
   refine W.region ?_
   refine OL.zm S fun _ S=>?_
   refine OL.za S fun _ S=>?_
   refine OL.nil ?_
   refine W.ret ?_
   exact Ret.one S rfl rfl H
  ·
   replace H:=H.2 hb_1
   refine W.skip ?_
   refine W.region ?_
   refine OL.zq S (Lf.run_add (S.ev rfl) (S.ev rfl)) fun _ S=>?_
   refine OL.zm S fun _ S=>?_
   refine OL.nil ?_
   exact⟨((IntKind.i64.wrap (x8+1)),h2),⟨S.sub _ ⟨rfl,rfl,rfl,rfl,trivial⟩,H.1⟩,H.2⟩
 ·
  replace H:=H.2 hb
  refine W.exit_ ?_
  refine xhit ?_
  refine W.seq ?_
  refine W.region ?_
  refine OL.za S fun _ S=>?_
  refine OL.nil ?_
  refine W.ret ?_
  exact Ret.one S rfl rfl H
def L22 (b0:Option Addr) (i1:Int) (h:Heap) (R:Value→Heap→Prop):Prop:=
 ∃J:Bool→Prop,(orr ((Option.isNone b0) || (decide (i1<0))) (fun k=>
  nn b0 fun p24=>
  ldS h (p24.add 3) fun x26=>
  k (decide (((x26.n:Nat):Int)≤i1))) J)∧∀x29,J x29 →
 ifb x29 (
  R (Value.slice (⟨none,0,0⟩:Sv).a (⟨none,0,0⟩:Sv).n (⟨none,0,0⟩:Sv).c) h) (
  nn b0 fun p31=>
  ldS h (p31.add 3) fun x33=>
  ixS x33 i1 fun q35=>
  ∃(y36:Int) (y36_1:Int) (y36_2:Int) (y36_3:Sv) (y36_4:Int) (y36_5:Sv) (y36_6:Int) (y36_7:Sv) (y36_8:Bool) (y36_9:ByteArray) (y36_10:Int) (y36_11:Sv) (y36_12:Int) (y36_13:Int) (y36_14:Sv) (y36_15:Int) (y36_16:Int) (y36_17:Int) (y36_18:Int) (y36_19:Int) (y36_20:Int),cl h (q35.add ((i1:Int).toNat*21))=some (Value.int .i64 y36)∧cl h ((q35.add ((i1:Int).toNat*21)).add 1)=some (Value.int .i64 y36_1)∧cl h ((q35.add ((i1:Int).toNat*21)).add 2)=some (Value.int .i64 y36_2)∧cl h ((q35.add ((i1:Int).toNat*21)).add 3)=some (Value.slice y36_3.a y36_3.n y36_3.c)∧cl h ((q35.add ((i1:Int).toNat*21)).add 4)=some (Value.int .i64 y36_4)∧cl h ((q35.add ((i1:Int).toNat*21)).add 5)=some (Value.slice y36_5.a y36_5.n y36_5.c)∧cl h ((q35.add ((i1:Int).toNat*21)).add 6)=some (Value.int .i64 y36_6)∧cl h ((q35.add ((i1:Int).toNat*21)).add 7)=some (Value.slice y36_7.a y36_7.n y36_7.c)∧cl h ((q35.add ((i1:Int).toNat*21)).add 8)=some (Value.bool y36_8)∧cl h ((q35.add ((i1:Int).toNat*21)).add 9)=some (Value.string y36_9)∧cl h ((q35.add ((i1:Int).toNat*21)).add 10)=some (Value.int .i64 y36_10)∧cl h ((q35.add ((i1:Int).toNat*21)).add 11)=some (Value.slice y36_11.a y36_11.n y36_11.c)∧cl h ((q35.add ((i1:Int).toNat*21)).add 12)=some (Value.int .i64 y36_12)∧cl h ((q35.add ((i1:Int).toNat*21)).add 13)=some (Value.int .i64 y36_13)∧cl h ((q35.add ((i1:Int).toNat*21)).add 14)=some (Value.slice y36_14.a y36_14.n y36_14.c)∧cl h ((q35.add ((i1:Int).toNat*21)).add 15)=some (Value.int .i64 y36_15)∧cl h ((q35.add ((i1:Int).toNat*21)).add 16)=some (Value.int .u64 y36_16)∧cl h ((q35.add ((i1:Int).toNat*21)).add 17)=some (Value.int .i64 y36_17)∧cl h ((q35.add ((i1:Int).toNat*21)).add 18)=some (Value.int .i64 y36_18)∧cl h ((q35.add ((i1:Int).toNat*21)).add 19)=some (Value.int .i64 y36_19)∧cl h ((q35.add ((i1:Int).toNat*21)).add 20)=some (Value.int .i64 y36_20) ∧
  new 74 #[Value.int .i64 0,Value.int .i64 0,Value.int .i64 0,Value.slice (⟨none,0,0⟩:Sv).a (⟨none,0,0⟩:Sv).n (⟨none,0,0⟩:Sv).c,Value.int .i64 0,Value.slice (⟨none,0,0⟩:Sv).a (⟨none,0,0⟩:Sv).n (⟨none,0,0⟩:Sv).c,Value.int .i64 0,Value.slice (⟨none,0,0⟩:Sv).a (⟨none,0,0⟩:Sv).n (⟨none,0,0⟩:Sv).c,Value.bool false,Value.string (⟨#[]⟩:ByteArray),Value.int .i64 0,Value.slice (⟨none,0,0⟩:Sv).a (⟨none,0,0⟩:Sv).n (⟨none,0,0⟩:Sv).c,Value.int .i64 0,Value.int .i64 0,Value.slice (⟨none,0,0⟩:Sv).a (⟨none,0,0⟩:Sv).n (⟨none,0,0⟩:Sv).c,Value.int .i64 0,Value.int .u64 0,Value.int .i64 0,Value.int .i64 0,Value.int .i64 0,Value.int .i64 0] h fun p6 h1=>
  stoA h1 p6 [Value.int .i64 y36,Value.int .i64 y36_1,Value.int .i64 y36_2,Value.slice y36_3.a y36_3.n y36_3.c,Value.int .i64 y36_4,Value.slice y36_5.a y36_5.n y36_5.c,Value.int .i64 y36_6,Value.slice y36_7.a y36_7.n y36_7.c,Value.bool y36_8,Value.string y36_9,Value.int .i64 y36_10,Value.slice y36_11.a y36_11.n y36_11.c,Value.int .i64 y36_12,Value.int .i64 y36_13,Value.slice y36_14.a y36_14.n y36_14.c,Value.int .i64 y36_15,Value.int .u64 y36_16,Value.int .i64 y36_17,Value.int .i64 y36_18,Value.int .i64 y36_19,Value.int .i64 y36_20] fun h2=>
  ∃J_1:Sv→Heap→Prop,(
   ldI .i64 h2 p6 fun x38=>
   ifb (x38 == 1) (
    ldI .i64 h2 (p6.add 1) fun x42=>
    newS 63 #[Value.int .i64 x42,Value.slice (⟨none,0,0⟩:Sv).a (⟨none,0,0⟩:Sv).n (⟨none,0,0⟩:Sv).c,Value.int .i64 5] 1 h2 fun s45 h3=>
    R (Value.slice s45.a s45.n s45.c) h3) (
    ifb (x38 == 2) (
     ldI .i64 h2 (p6.add 1) fun x49=>
     newS 63 #[Value.int .i64 x49,Value.slice (⟨none,0,0⟩:Sv).a (⟨none,0,0⟩:Sv).n (⟨none,0,0⟩:Sv).c,Value.int .i64 6] 1 h2 fun s52 h4=>
     R (Value.slice s52.a s52.n s52.c) h4) (
     ifb (x38 == 5) (
      ∃(y57:Int) (y57_1:Int) (y57_2:Sv) (y57_3:Int) (y57_4:Int),cl h2 (p6.add 12)=some (Value.int .i64 y57)∧cl h2 ((p6.add 12).add 1)=some (Value.int .i64 y57_1)∧cl h2 ((p6.add 12).add 2)=some (Value.slice y57_2.a y57_2.n y57_2.c)∧cl h2 ((p6.add 12).add 3)=some (Value.int .i64 y57_3)∧cl h2 ((p6.add 12).add 4)=some (Value.int .u64 y57_4) ∧
      cal Try.prog 35 #[Value.agg #[Value.int .i64 y57,Value.int .i64 y57_1,Value.slice y57_2.a y57_2.n y57_2.c,Value.int .i64 y57_3,Value.int .u64 y57_4]] h2 fun u h5=>∃(y58:Int) (y58_1:Sv) (y58_2:Int) (x58:Bool),u=Value.tuple #[Value.agg #[Value.int .i64 y58,Value.slice y58_1.a y58_1.n y58_1.c,Value.int .i64 y58_2],Value.bool x58] ∧
      new 63 #[Value.int .i64 0,Value.slice (⟨none,0,0⟩:Sv).a (⟨none,0,0⟩:Sv).n (⟨none,0,0⟩:Sv).c,Value.int .i64 0] h5 fun p7 h6=>
      stoA h6 p7 [Value.int .i64 y58,Value.slice y58_1.a y58_1.n y58_1.c,Value.int .i64 y58_2] fun h7=>
      ifb x58 (
       ∃(y63:Int) (y63_1:Sv) (y63_2:Int),cl h7 p7=some (Value.int .i64 y63)∧cl h7 (p7.add 1)=some (Value.slice y63_1.a y63_1.n y63_1.c)∧cl h7 (p7.add 2)=some (Value.int .i64 y63_2) ∧
       newS 63 #[Value.int .i64 y63,Value.slice y63_1.a y63_1.n y63_1.c,Value.int .i64 y63_2] 1 h7 fun s64 h8=>
       appS 63 (Value.agg #[Value.int .i64 0,Value.slice (⟨none,0,0⟩:Sv).a (⟨none,0,0⟩:Sv).n (⟨none,0,0⟩:Sv).c,Value.int .i64 0]).cells 3 40 h8 (⟨none,0,0⟩:Sv) s64 fun s65 h9=>
       J_1 s65 h9) (
       J_1 (⟨none,0,0⟩:Sv) h7)) (
      ifb (x38 == 6) (
       newS 63 #[Value.int .i64 0,Value.slice (⟨none,0,0⟩:Sv).a (⟨none,0,0⟩:Sv).n (⟨none,0,0⟩:Sv).c,Value.int .i64 2] 1 h2 fun s70 h10=>
       appS 63 (Value.agg #[Value.int .i64 0,Value.slice (⟨none,0,0⟩:Sv).a (⟨none,0,0⟩:Sv).n (⟨none,0,0⟩:Sv).c,Value.int .i64 0]).cells 3 40 h10 (⟨none,0,0⟩:Sv) s70 fun s71 h11=>
       ∃(I:Sv→Int→Heap→Prop) (m:Sv→Int→Heap→Nat),I s71 1 h11∧∀l5 n9 h12,I l5 n9 h12 →
       nn b0 fun p74=>
       ldS h12 (p74.add 2) fun x76=>
       ifb (decide (n9<((x76.n:Nat):Int))) (
        newS 63 #[Value.int .i64 n9,Value.slice (⟨none,0,0⟩:Sv).a (⟨none,0,0⟩:Sv).n (⟨none,0,0⟩:Sv).c,Value.int .i64 6] 1 h12 fun s85 h13=>
        appS 63 (Value.agg #[Value.int .i64 0,Value.slice (⟨none,0,0⟩:Sv).a (⟨none,0,0⟩:Sv).n (⟨none,0,0⟩:Sv).c,Value.int .i64 0]).cells 3 40 h13 l5 s85 fun s86 h14=>
        I s86 (IntKind.i64.wrap (n9+1)) h14∧m s86 (IntKind.i64.wrap (n9+1)) h14<m l5 n9 h12) (
        J_1 l5 h12)) (
       ifb (x38 == 3) (
        ldS h2 ((p6.add 4).add 1) fun x91=>
        ∃(I_1:Sv→Int→Heap→Prop) (m_1:Sv→Int→Heap→Nat),I_1 (⟨none,0,0⟩:Sv) 0 h2∧∀l5_1 x93 h15,I_1 l5_1 x93 h15 →
        ifb (decide (x93<((x91.n:Nat):Int))) (
         ∃J_2:Sv→Heap→Prop,(
          ixS x91 x93 fun q95=>
          ∃(y96:Int) (y96_1:Int) (y96_2:Sv) (y96_3:Int) (y96_4:Int),cl h15 (q95.add ((x93:Int).toNat*5))=some (Value.int .i64 y96)∧cl h15 ((q95.add ((x93:Int).toNat*5)).add 1)=some (Value.int .i64 y96_1)∧cl h15 ((q95.add ((x93:Int).toNat*5)).add 2)=some (Value.slice y96_2.a y96_2.n y96_2.c)∧cl h15 ((q95.add ((x93:Int).toNat*5)).add 3)=some (Value.int .i64 y96_3)∧cl h15 ((q95.add ((x93:Int).toNat*5)).add 4)=some (Value.int .u64 y96_4) ∧
          new 66 #[Value.int .i64 0,Value.int .i64 0,Value.slice (⟨none,0,0⟩:Sv).a (⟨none,0,0⟩:Sv).n (⟨none,0,0⟩:Sv).c,Value.int .i64 0,Value.int .u64 0] h15 fun p11 h16=>
          stoA h16 p11 [Value.int .i64 y96,Value.int .i64 y96_1,Value.slice y96_2.a y96_2.n y96_2.c,Value.int .i64 y96_3,Value.int .u64 y96_4] fun h17=>
          ∃(y98:Int) (y98_1:Int) (y98_2:Sv) (y98_3:Int) (y98_4:Int),cl h17 p11=some (Value.int .i64 y98)∧cl h17 (p11.add 1)=some (Value.int .i64 y98_1)∧cl h17 (p11.add 2)=some (Value.slice y98_2.a y98_2.n y98_2.c)∧cl h17 (p11.add 3)=some (Value.int .i64 y98_3)∧cl h17 (p11.add 4)=some (Value.int .u64 y98_4) ∧
          cal Try.prog 35 #[Value.agg #[Value.int .i64 y98,Value.int .i64 y98_1,Value.slice y98_2.a y98_2.n y98_2.c,Value.int .i64 y98_3,Value.int .u64 y98_4]] h17 fun u_1 h18=>∃(y99:Int) (y99_1:Sv) (y99_2:Int) (x99:Bool),u_1=Value.tuple #[Value.agg #[Value.int .i64 y99,Value.slice y99_1.a y99_1.n y99_1.c,Value.int .i64 y99_2],Value.bool x99] ∧
          new 63 #[Value.int .i64 0,Value.slice (⟨none,0,0⟩:Sv).a (⟨none,0,0⟩:Sv).n (⟨none,0,0⟩:Sv).c,Value.int .i64 0] h18 fun p12 h19=>
          stoA h19 p12 [Value.int .i64 y99,Value.slice y99_1.a y99_1.n y99_1.c,Value.int .i64 y99_2] fun h20=>
          ifb x99 (
           ∃(y104:Int) (y104_1:Sv) (y104_2:Int),cl h20 p12=some (Value.int .i64 y104)∧cl h20 (p12.add 1)=some (Value.slice y104_1.a y104_1.n y104_1.c)∧cl h20 (p12.add 2)=some (Value.int .i64 y104_2) ∧
           newS 63 #[Value.int .i64 y104,Value.slice y104_1.a y104_1.n y104_1.c,Value.int .i64 y104_2] 1 h20 fun s105 h21=>
           appS 63 (Value.agg #[Value.int .i64 0,Value.slice (⟨none,0,0⟩:Sv).a (⟨none,0,0⟩:Sv).n (⟨none,0,0⟩:Sv).c,Value.int .i64 0]).cells 3 40 h21 l5_1 s105 fun s106 h22=>
           J_2 s106 h22) (
           J_2 l5_1 h20))∧(∀l5_2 h23,J_2 l5_2 h23 →
         I_1 l5_2 (IntKind.i64.wrap (x93+1)) h23∧m_1 l5_2 (IntKind.i64.wrap (x93+1)) h23<m_1 l5_1 x93 h15)) (
         ∃J_3:Sv→Heap→Prop,(
          ldI .i64 h15 (p6.add 4) fun x110=>
          ifb (x110 == 2) (
           ∃J_4:Int→Prop,(
            ldB h15 ((p6.add 4).add 4) fun x114=>
            ifb x114 (
             J_4 3) (
             J_4 1))∧(∀k14,J_4 k14 →
           ∃(y118:Int) (y118_1:Sv),cl h15 ((p6.add 4).add 2)=some (Value.int .i64 y118)∧cl h15 (((p6.add 4).add 2).add 1)=some (Value.slice y118_1.a y118_1.n y118_1.c) ∧
           newS 63 #[Value.int .i64 y118,Value.slice y118_1.a y118_1.n y118_1.c,Value.int .i64 k14] 1 h15 fun s121 h24=>
           appS 63 (Value.agg #[Value.int .i64 0,Value.slice (⟨none,0,0⟩:Sv).a (⟨none,0,0⟩:Sv).n (⟨none,0,0⟩:Sv).c,Value.int .i64 0]).cells 3 40 h24 l5_1 s121 fun s122 h25=>
           J_3 s122 h25)) (
           J_3 l5_1 h15))∧(∀l5_3 h26,J_3 l5_3 h26 →
         ∃(y125:Int) (y125_1:Sv),cl h26 (p6.add 2)=some (Value.int .i64 y125)∧cl h26 ((p6.add 2).add 1)=some (Value.slice y125_1.a y125_1.n y125_1.c) ∧
         newS 63 #[Value.int .i64 y125,Value.slice y125_1.a y125_1.n y125_1.c,Value.int .i64 4] 1 h26 fun s127 h27=>
         appS 63 (Value.agg #[Value.int .i64 0,Value.slice (⟨none,0,0⟩:Sv).a (⟨none,0,0⟩:Sv).n (⟨none,0,0⟩:Sv).c,Value.int .i64 0]).cells 3 40 h27 l5_3 s127 fun s128 h28=>
         J_1 s128 h28))) (
        J_1 (⟨none,0,0⟩:Sv) h2))))))∧(∀l5_4 h29,J_1 l5_4 h29 →
  R (Value.slice l5_4.a l5_4.n l5_4.c) h29))
set_option maxRecDepth 100000 in
theorem F22 {b0 i1 h:_} {R:Value→Heap→Prop} (H:L22 b0 i1 h R):CallsH Try.prog 22 #[Value.pointer b0,Value.int .i64 i1] h R:=by
 refine CallsH.enter (n:=130) Try.func22 rfl rfl rfl rfl ?_
 intro w0 aa ww S
 unfold L22 at H
 refine W.seq ?_
 refine W.region ?_
 refine OL.za S fun _ S=>?_
 refine OL.nil ?_
 refine W.seq ?_
 refine W.seq ?_
 refine W.region ?_
 refine OL.zm S fun _ S=>?_
 refine OL.zq S (Lf.run_eqlpn Try.underlying38 (S.ev rfl) (S.ev rfl)) fun _ S=>?_
 refine OL.zm S fun _ S=>?_
 refine OL.cutN 3 (fun aa ww=>St 130 ((20,Value.bool ((Option.isNone b0) || (decide (i1<0)))) :: [(0,Value.pointer b0),(1,Value.int .i64 i1),(15,Value.pointer b0),(16,Value.bool (Option.isNone b0)),(17,Value.bool (Option.isNone b0))]) h w0 aa ww) ?_ ?_
 ·
  rcases Bool.eq_false_or_eq_true (Option.isNone b0) with hb|hb
  ·
   refine OL.zn S (GNo.mk rfl rfl hb) fun _ S=>?_
   refine OL.zn S (GNo.mk rfl rfl hb) fun _ S=>?_
   refine OL.zq S (Lf.run_pickT (S.ev rfl) hb (S.ev rfl)) fun _ S=>?_
   refine OL.nil ?_
   exact (S.hd (by rw[hb,Bool.true_or])).sub _ ⟨rfl,rfl,rfl,rfl,rfl,rfl,trivial⟩
  ·
   refine OL.zm (hg:=GOk.mk rfl rfl hb) S fun _ S=>?_
   refine OL.zq (hg:=GOk.mk rfl rfl hb) S (Lf.run_lss (S.ev rfl) (S.ev rfl)) fun _ S=>?_
   refine OL.zq S (Lf.run_pickF (S.ev rfl) hb (S.ev rfl)) fun _ S=>?_
   refine OL.nil ?_
   exact (S.hd (by rw[hb,Bool.false_or])).sub _ ⟨rfl,rfl,rfl,rfl,rfl,rfl,trivial⟩
 ·
  clear S
  intro aa ww S
  refine OL.zm S fun _ S=>?_
  obtain⟨J,H,HK⟩:=H
  refine OL.cutN 8 (fun aa ww=>∃x29,St 130 ((29,Value.bool x29) :: [(0,Value.pointer b0),(1,Value.int .i64 i1),(15,Value.pointer b0),(16,Value.bool (Option.isNone b0)),(17,Value.bool (Option.isNone b0)),(20,Value.bool ((Option.isNone b0) || (decide (i1<0)))),(21,Value.bool ((Option.isNone b0) || (decide (i1<0))))]) h w0 aa ww∧J x29) ?_ ?_
  ·
   rcases Bool.eq_false_or_eq_true ((Option.isNone b0) || (decide (i1<0))) with hb_1|hb_1
   ·
    replace H:=H.1 hb_1
    refine OL.zn S (GNo.mk rfl rfl hb_1) fun _ S=>?_
    refine OL.zn S (GNo.mk rfl rfl hb_1) fun _ S=>?_
    refine OL.zn S (GNo.mk rfl rfl hb_1) fun _ S=>?_
    refine OL.zn S (GNo.mk rfl rfl hb_1) fun _ S=>?_
    refine OL.zn S (GNo.mk rfl rfl hb_1) fun _ S=>?_
    refine OL.zn S (GNo.mk rfl rfl hb_1) fun _ S=>?_
    refine OL.zn S (GNo.mk rfl rfl hb_1) fun _ S=>?_
    refine OL.zq S (Lf.run_pickT (S.ev rfl) hb_1 (S.ev rfl)) fun _ S=>?_
    refine OL.nil ?_
    exact⟨_,S.sub _ ⟨rfl,rfl,rfl,rfl,rfl,rfl,rfl,rfl,trivial⟩,H⟩
   ·
    replace H:=H.2 hb_1
    refine OL.zm (hg:=GOk.mk rfl rfl hb_1) S fun _ S=>?_
    refine OL.zm (hg:=GOk.mk rfl rfl hb_1) S fun _ S=>?_
    obtain⟨p24,e,H⟩:=H
    refine OL.zq (hg:=GOk.mk rfl rfl hb_1) S (Lf.run_nc' (S.ev rfl) e) fun _ S=>?_
    refine OL.zf (hg:=GOk.mk rfl rfl hb_1) S fa30_3 fun _ S=>?_
    obtain⟨x26,c,H⟩:=H
    refine OL.zl (hg:=GOk.mk rfl rfl hb_1) S fl28 c fun _ S=>?_
    refine OL.zq (hg:=GOk.mk rfl rfl hb_1) S (Lf.run_lens (S.ev rfl) rfl Try.underlying28) fun _ S=>?_
    refine OL.zq (hg:=GOk.mk rfl rfl hb_1) S (Lf.run_geq (S.ev rfl) (S.ev rfl)) fun _ S=>?_
    refine OL.zq S (Lf.run_pickF (S.ev rfl) hb_1 (S.ev rfl)) fun _ S=>?_
    refine OL.nil ?_
    exact⟨_,S.sub _ ⟨rfl,rfl,rfl,rfl,rfl,rfl,rfl,rfl,trivial⟩,H⟩
  ·
   clear S
   rintro aa ww ⟨x29,S,HJ⟩
   replace H:=HK _ HJ
   clear HK HJ
   refine OL.nil ?_
   refine W.cond S (b:=x29) rfl (fun hb_2=>?_) (fun hb_2=>?_)
   ·
    replace H:=H.1 hb_2
    refine W.seq ?_
    refine W.region ?_
    refine OL.za S fun _ S=>?_
    refine OL.nil ?_
    refine W.ret ?_
    exact Ret.one S rfl rfl H
   ·
    replace H:=H.2 hb_2
    refine W.skip ?_
    refine W.seq ?_
    refine W.region ?_
    refine OL.za S fun _ S=>?_
    refine OL.nil ?_
    refine W.seq ?_
    refine W.region ?_
    refine OL.zm S fun _ S=>?_
    obtain⟨p31,e_1,H⟩:=H
    refine OL.zq S (Lf.run_nc' (S.ev rfl) e_1) fun _ S=>?_
    refine OL.zf S fa30_3 fun _ S=>?_
    obtain⟨x33,c_1,H⟩:=H
    refine OL.zl S fl28 c_1 fun _ S=>?_
    refine OL.zm S fun _ S=>?_
    obtain⟨q35,e_2,e_3,e_4,H⟩:=H
    refine OL.zq S (Lf.run_ixs (S.ev rfl) (S.ev rfl) Try.underlying28 ti74 e_2 e_3 e_4) fun _ S=>?_
    obtain⟨y36,y36_1,y36_2,y36_3,y36_4,y36_5,y36_6,y36_7,y36_8,y36_9,y36_10,y36_11,y36_12,y36_13,y36_14,y36_15,y36_16,y36_17,y36_18,y36_19,y36_20,c_42,c_43,c_44,c_45,c_46,c_47,c_48,c_49,c_50,c_51,c_52,c_53,c_54,c_55,c_56,c_57,c_58,c_59,c_60,c_61,c_62,H⟩:=H
    refine OL.zq S (Lf.run_ldA (cs:=[Value.int .i64 y36,Value.int .i64 y36_1,Value.int .i64 y36_2,Value.slice y36_3.a y36_3.n y36_3.c,Value.int .i64 y36_4,Value.slice y36_5.a y36_5.n y36_5.c,Value.int .i64 y36_6,Value.slice y36_7.a y36_7.n y36_7.c,Value.bool y36_8,Value.string y36_9,Value.int .i64 y36_10,Value.slice y36_11.a y36_11.n y36_11.c,Value.int .i64 y36_12,Value.int .i64 y36_13,Value.slice y36_14.a y36_14.n y36_14.c,Value.int .i64 y36_15,Value.int .u64 y36_16,Value.int .i64 y36_17,Value.int .i64 y36_18,Value.int .i64 y36_19,Value.int .i64 y36_20]) (S.ev rfl) ag74 ti74 (by rw[S.heap];exact RowL.toRow ⟨c_42,c_43,c_44,c_45,c_46,c_47,c_48,c_49,c_50,c_51,c_52,c_53,c_54,c_55,c_56,c_57,c_58,c_59,c_60,c_61,c_62,trivial⟩)) fun _ S=>?_
    refine ol_alloc S H ti74 rfl rfl trivial ?_
    clear S H;intro p6 aa ww h1 H S
    refine ol_stoA S H rfl rfl ti74 trivial ?_
    clear S H;intro aa ww h2 H S
    refine OL.nil ?_
    obtain⟨J_1,H,HK_1⟩:=H
    refine W.seqJ (fun aa ww=>∃l5_4 h29,St 130 [(5,Value.slice l5_4.a l5_4.n l5_4.c)] h29 w0 aa ww∧J_1 l5_4 h29) ?_ ?_
    ·
     clear HK_1
     refine W.seq ?_
     refine W.region ?_
     refine OL.zf S fa74_0 fun _ S=>?_
     obtain⟨x38,c_3,H⟩:=H
     refine OL.zl S fl3 c_3 fun _ S=>?_
     refine OL.nil ?_
     refine W.block ?_
     refine W.seq ?_
     refine W.region ?_
     refine OL.zq S (Lf.run_eql (S.ev rfl) (S.ev rfl)) fun _ S=>?_
     refine OL.za S fun _ S=>?_
     refine OL.nil ?_
     refine W.cond S (b:=(x38 == 1)) rfl (fun hb_3=>?_) (fun hb_3=>?_)
     ·
      replace H:=H.1 hb_3
      refine W.seq ?_
      refine W.region ?_
      refine OL.zf S fa74_1 fun _ S=>?_
      obtain⟨x42,c_4,H⟩:=H
      refine OL.zl S fl3 c_4 fun _ S=>?_
      refine OL.zq S (Lf.run_build (cs:=#[Value.int .i64 x42,Value.slice (⟨none,0,0⟩:Sv).a (⟨none,0,0⟩:Sv).n (⟨none,0,0⟩:Sv).c]) pl49 ti49 (parts_map S rfl) (by kernel_rfl)) fun _ S=>?_
      refine OL.zq S (Lf.run_build (cs:=#[Value.int .i64 x42,Value.slice (⟨none,0,0⟩:Sv).a (⟨none,0,0⟩:Sv).n (⟨none,0,0⟩:Sv).c,Value.int .i64 5]) pl63 ti63 (parts_map S rfl) (by kernel_rfl)) fun _ S=>?_
      refine ol_newS S H Try.underlying60 ti63 (by decide) (parts_map S rfl) (by kernel_rfl) (by decide) rfl trivial ?_
      clear S H;intro s45 aa ww h3 H S
      refine OL.za S fun _ S=>?_
      refine OL.nil ?_
      refine W.ret ?_
      exact Ret.one S rfl rfl H
     ·
      replace H:=H.2 hb_3
      refine W.seq ?_
      refine W.region ?_
      refine OL.zq S (Lf.run_eql (S.ev rfl) (S.ev rfl)) fun _ S=>?_
      refine OL.za S fun _ S=>?_
      refine OL.nil ?_
      refine W.cond S (b:=(x38 == 2)) rfl (fun hb_4=>?_) (fun hb_4=>?_)
      ·
       replace H:=H.1 hb_4
       refine W.seq ?_
       refine W.region ?_
       refine OL.zf S fa74_1 fun _ S=>?_
       obtain⟨x49,c_5,H⟩:=H
       refine OL.zl S fl3 c_5 fun _ S=>?_
       refine OL.zq S (Lf.run_build (cs:=#[Value.int .i64 x49,Value.slice (⟨none,0,0⟩:Sv).a (⟨none,0,0⟩:Sv).n (⟨none,0,0⟩:Sv).c]) pl49 ti49 (parts_map S rfl) (by kernel_rfl)) fun _ S=>?_
       refine OL.zq S (Lf.run_build (cs:=#[Value.int .i64 x49,Value.slice (⟨none,0,0⟩:Sv).a (⟨none,0,0⟩:Sv).n (⟨none,0,0⟩:Sv).c,Value.int .i64 6]) pl63 ti63 (parts_map S rfl) (by kernel_rfl)) fun _ S=>?_
       refine ol_newS S H Try.underlying60 ti63 (by decide) (parts_map S rfl) (by kernel_rfl) (by decide) rfl trivial ?_
       clear S H;intro s52 aa ww h4 H S
       refine OL.za S fun _ S=>?_
       refine OL.nil ?_
       refine W.ret ?_
       exact Ret.one S rfl rfl H
      ·
       replace H:=H.2 hb_4
       refine W.seq ?_
       refine W.region ?_
       refine OL.zq S (Lf.run_eql (S.ev rfl) (S.ev rfl)) fun _ S=>?_
       refine OL.za S fun _ S=>?_
       refine OL.nil ?_
       refine W.cond S (b:=(x38 == 5)) rfl (fun hb_5=>?_) (fun hb_5=>?_)
       ·
        replace H:=H.1 hb_5
        refine W.seq ?_
        refine W.region ?_
        refine OL.zf S fa74_4 fun _ S=>?_
        obtain⟨y57,y57_1,y57_2,y57_3,y57_4,c_11,c_12,c_13,c_14,c_15,H⟩:=H
        refine OL.zq S (Lf.run_ldA (cs:=[Value.int .i64 y57,Value.int .i64 y57_1,Value.slice y57_2.a y57_2.n y57_2.c,Value.int .i64 y57_3,Value.int .u64 y57_4]) (S.ev rfl) ag66 ti66 (by rw[S.heap];exact RowL.toRow ⟨c_11,c_12,c_13,c_14,c_15,trivial⟩)) fun _ S=>?_
        refine ol_cal S H isfn35 rfl rfl trivial ?_
        clear S H;intro u aa ww h5 H S
        obtain⟨y58,y58_1,y58_2,x58,rfl,H⟩:=H
        refine OL.zm S fun _ S=>?_
        refine OL.zq S (Lf.run_ex (S.ev rfl) rfl) fun _ S=>?_
        refine OL.zq S (Lf.run_ex (S.ev rfl) rfl) fun _ S=>?_
        refine ol_alloc S H ti63 rfl rfl trivial ?_
        clear S H;intro p7 aa ww h6 H S
        refine ol_stoA S H rfl rfl ti63 trivial ?_
        clear S H;intro aa ww h7 H S
        refine OL.za S fun _ S=>?_
        refine OL.nil ?_
        refine W.seq ?_
        refine W.region ?_
        refine OL.zm S fun _ S=>?_
        refine OL.nil ?_
        refine W.cond S (b:=x58) rfl (fun hb_6=>?_) (fun hb_6=>?_)
        ·
         replace H:=H.1 hb_6
         refine W.region ?_
         refine OL.zm S fun _ S=>?_
         obtain⟨y63,y63_1,y63_2,c_8,c_9,c_10,H⟩:=H
         refine OL.zq S (Lf.run_ldA (cs:=[Value.int .i64 y63,Value.slice y63_1.a y63_1.n y63_1.c,Value.int .i64 y63_2]) (S.ev rfl) ag63 ti63 (by rw[S.heap];exact RowL.toRow ⟨c_8,c_9,c_10,trivial⟩)) fun _ S=>?_
         refine ol_newS S H Try.underlying60 ti63 (by decide) (parts_map S rfl) (by kernel_rfl) (by decide) rfl trivial ?_
         clear S H;intro s64 aa ww h8 H S
         refine ol_appS S H Try.underlying60 ti63 rfl rfl rfl trivial ?_
         clear S H;intro s65 aa ww h9 H S
         refine OL.za S fun _ S=>?_
         refine OL.nil ?_
         exact⟨s65,h9,S.sub _ ⟨rfl,trivial⟩,H⟩
        ·
         replace H:=H.2 hb_6
         refine W.skip ?_
         exact⟨(⟨none,0,0⟩:Sv),h7,S.sub _ ⟨rfl,trivial⟩,H⟩
       ·
        replace H:=H.2 hb_5
        refine W.seq ?_
        refine W.region ?_
        refine OL.zq S (Lf.run_eql (S.ev rfl) (S.ev rfl)) fun _ S=>?_
        refine OL.za S fun _ S=>?_
        refine OL.nil ?_
        refine W.cond S (b:=(x38 == 6)) rfl (fun hb_7=>?_) (fun hb_7=>?_)
        ·
         replace H:=H.1 hb_7
         refine W.seq ?_
         refine W.region ?_
         refine OL.zm S fun _ S=>?_
         refine OL.zq S (Lf.run_build (cs:=#[Value.int .i64 0,Value.slice (⟨none,0,0⟩:Sv).a (⟨none,0,0⟩:Sv).n (⟨none,0,0⟩:Sv).c,Value.int .i64 2]) pl63 ti63 (parts_map S rfl) (by kernel_rfl)) fun _ S=>?_
         refine ol_newS S H Try.underlying60 ti63 (by decide) (parts_map S rfl) (by kernel_rfl) (by decide) rfl trivial ?_
         clear S H;intro s70 aa ww h10 H S
         refine ol_appS S H Try.underlying60 ti63 rfl rfl rfl trivial ?_
         clear S H;intro s71 aa ww h11 H S
         refine OL.za S fun _ S=>?_
         refine OL.nil ?_
         refine W.seq ?_
         refine W.region ?_
         refine OL.za S fun _ S=>?_
         refine OL.nil ?_
         refine W.block ?_
         obtain⟨I,m,H,HB⟩:=H
         refine W.loopS (σ:=Sv×Int×Heap) (fun s aa ww=>St 130 [(0,Value.pointer b0),(5,Value.slice s.1.a s.1.n s.1.c),(9,Value.int .i64 s.2.1)] s.2.2 w0 aa ww∧I s.1 s.2.1 s.2.2) (fun s=>m s.1 s.2.1 s.2.2) (s71,1,h11) ⟨S.sub _ ⟨rfl,rfl,rfl,trivial⟩,H⟩ ?_
         clear H S
         rintro ⟨l5,n9,h12⟩ aa ww ⟨S,HI⟩
         replace S:St 130 [(0,Value.pointer b0),(5,Value.slice l5.a l5.n l5.c),(9,Value.int .i64 n9)] h12 w0 aa ww:=S
         have H:=HB l5 n9 h12 HI
         clear HI
         refine W.seq ?_
         refine W.seq ?_
         refine W.region ?_
         refine OL.zm S fun _ S=>?_
         refine OL.zm S fun _ S=>?_
         obtain⟨p74,e_5,H⟩:=H
         refine OL.zq S (Lf.run_nc' (S.ev rfl) e_5) fun _ S=>?_
         refine OL.zf S fa30_2 fun _ S=>?_
         obtain⟨x76,c_16,H⟩:=H
         refine OL.zl S fl27 c_16 fun _ S=>?_
         refine OL.zq S (Lf.run_lens (S.ev rfl) rfl Try.underlying27) fun _ S=>?_
         refine OL.zq S (Lf.run_lss (S.ev rfl) (S.ev rfl)) fun _ S=>?_
         refine OL.nil ?_
         refine W.cond S (b:=(decide (n9<((x76.n:Nat):Int)))) rfl (fun hb_8=>?_) (fun hb_8=>?_)
         ·
          replace H:=H.1 hb_8
          refine W.skip ?_
          refine W.seq ?_
          refine W.block ?_
          refine W.region ?_
          refine OL.zm S fun _ S=>?_
          refine OL.zm S fun _ S=>?_
          refine OL.zq S (Lf.run_build (cs:=#[Value.int .i64 n9,Value.slice (⟨none,0,0⟩:Sv).a (⟨none,0,0⟩:Sv).n (⟨none,0,0⟩:Sv).c]) pl49 ti49 (parts_map S rfl) (by kernel_rfl)) fun _ S=>?_
          refine OL.zq S (Lf.run_build (cs:=#[Value.int .i64 n9,Value.slice (⟨none,0,0⟩:Sv).a (⟨none,0,0⟩:Sv).n (⟨none,0,0⟩:Sv).c,Value.int .i64 6]) pl63 ti63 (parts_map S rfl) (by kernel_rfl)) fun _ S=>?_
          refine ol_newS S H Try.underlying60 ti63 (by decide) (parts_map S rfl) (by kernel_rfl) (by decide) rfl trivial ?_
          clear S H;intro s85 aa ww h13 H S
          refine ol_appS S H Try.underlying60 ti63 rfl rfl rfl trivial ?_
          clear S H;intro s86 aa ww h14 H S
          refine OL.za S fun _ S=>?_
          refine OL.nil ?_
          refine W.region ?_
          refine OL.zm S fun _ S=>?_
          refine OL.zq S (Lf.run_add (S.ev rfl) (S.ev rfl)) fun _ S=>?_
          refine OL.za S fun _ S=>?_
          refine OL.nil ?_
          exact⟨(s86,(IntKind.i64.wrap (n9+1)),h14),⟨S.sub _ ⟨rfl,rfl,rfl,trivial⟩,H.1⟩,H.2⟩
         ·
          replace H:=H.2 hb_8
          refine W.exit_ ?_
          refine xhit ?_
          exact⟨l5,h12,S.sub _ ⟨rfl,trivial⟩,H⟩
        ·
         replace H:=H.2 hb_7
         refine W.seq ?_
         refine W.region ?_
         refine OL.zq S (Lf.run_eql (S.ev rfl) (S.ev rfl)) fun _ S=>?_
         refine OL.za S fun _ S=>?_
         refine OL.nil ?_
         refine W.cond S (b:=(x38 == 3)) rfl (fun hb_9=>?_) (fun hb_9=>?_)
         ·
          replace H:=H.1 hb_9
          refine W.seq ?_
          refine W.seq ?_
          refine W.region ?_
          refine OL.zf S fa74_3 fun _ S=>?_
          refine OL.zf S fa70_1 fun _ S=>?_
          obtain⟨x91,c_17,H⟩:=H
          refine OL.zl S fl67 c_17 fun _ S=>?_
          refine OL.zq S (Lf.run_lens (S.ev rfl) rfl Try.underlying67) fun _ S=>?_
          refine OL.zm S fun _ S=>?_
          refine OL.nil ?_
          refine W.block ?_
          obtain⟨I_1,m_1,H,HB_1⟩:=H
          refine W.loopS (σ:=Sv×Int×Heap) (fun s aa ww=>St 130 [(5,Value.slice s.1.a s.1.n s.1.c),(6,Value.pointer (some p6)),(91,Value.slice x91.a x91.n x91.c),(92,Value.int .i64 ((x91.n:Nat):Int)),(93,Value.int .i64 s.2.1)] s.2.2 w0 aa ww∧I_1 s.1 s.2.1 s.2.2) (fun s=>m_1 s.1 s.2.1 s.2.2) ((⟨none,0,0⟩:Sv),0,h2) ⟨S.sub _ ⟨rfl,rfl,rfl,rfl,rfl,trivial⟩,H⟩ ?_
          clear H S
          rintro ⟨l5_1,x93,h15⟩ aa ww ⟨S,HI⟩
          replace S:St 130 [(5,Value.slice l5_1.a l5_1.n l5_1.c),(6,Value.pointer (some p6)),(91,Value.slice x91.a x91.n x91.c),(92,Value.int .i64 ((x91.n:Nat):Int)),(93,Value.int .i64 x93)] h15 w0 aa ww:=S
          have H:=HB_1 l5_1 x93 h15 HI
          clear HI
          refine W.seq ?_
          refine W.region ?_
          refine OL.zq S (Lf.run_lss (S.ev rfl) (S.ev rfl)) fun _ S=>?_
          refine OL.nil ?_
          refine W.seq ?_
          refine W.cond S (b:=(decide (x93<((x91.n:Nat):Int)))) rfl (fun hb_10=>?_) (fun hb_10=>?_)
          ·
           replace H:=H.1 hb_10
           refine W.skip ?_
           obtain⟨J_2,H,HK_2⟩:=H
           refine W.seqJ (fun aa ww=>∃l5_2 h23,St 130 [(5,Value.slice l5_2.a l5_2.n l5_2.c),(6,Value.pointer (some p6)),(91,Value.slice x91.a x91.n x91.c),(92,Value.int .i64 ((x91.n:Nat):Int)),(93,Value.int .i64 x93)] h23 w0 aa ww∧J_2 l5_2 h23) ?_ ?_
           ·
            clear HK_2
            refine W.block ?_
            refine W.seq ?_
            refine W.region ?_
            obtain⟨q95,e_6,e_7,e_8,H⟩:=H
            refine OL.zq S (Lf.run_ixs (S.ev rfl) (S.ev rfl) Try.underlying67 ti66 e_6 e_7 e_8) fun _ S=>?_
            obtain⟨y96,y96_1,y96_2,y96_3,y96_4,c_29,c_30,c_31,c_32,c_33,H⟩:=H
            refine OL.zq S (Lf.run_ldA (cs:=[Value.int .i64 y96,Value.int .i64 y96_1,Value.slice y96_2.a y96_2.n y96_2.c,Value.int .i64 y96_3,Value.int .u64 y96_4]) (S.ev rfl) ag66 ti66 (by rw[S.heap];exact RowL.toRow ⟨c_29,c_30,c_31,c_32,c_33,trivial⟩)) fun _ S=>?_
            refine ol_alloc S H ti66 rfl rfl trivial ?_
            clear S H;intro p11 aa ww h16 H S
            refine ol_stoA S H rfl rfl ti66 trivial ?_
            clear S H;intro aa ww h17 H S
            refine OL.nil ?_
            refine W.seq ?_
            refine W.region ?_
            obtain⟨y98,y98_1,y98_2,y98_3,y98_4,c_24,c_25,c_26,c_27,c_28,H⟩:=H
            refine OL.zq S (Lf.run_ldA (cs:=[Value.int .i64 y98,Value.int .i64 y98_1,Value.slice y98_2.a y98_2.n y98_2.c,Value.int .i64 y98_3,Value.int .u64 y98_4]) (S.ev rfl) ag66 ti66 (by rw[S.heap];exact RowL.toRow ⟨c_24,c_25,c_26,c_27,c_28,trivial⟩)) fun _ S=>?_
            refine ol_cal S H isfn35 rfl rfl trivial ?_
            clear S H;intro u_1 aa ww h18 H S
            obtain⟨y99,y99_1,y99_2,x99,rfl,H⟩:=H
            refine OL.zm S fun _ S=>?_
            refine OL.zq S (Lf.run_ex (S.ev rfl) rfl) fun _ S=>?_
            refine OL.zq S (Lf.run_ex (S.ev rfl) rfl) fun _ S=>?_
            refine ol_alloc S H ti63 rfl rfl trivial ?_
            clear S H;intro p12 aa ww h19 H S
            refine ol_stoA S H rfl rfl ti63 trivial ?_
            clear S H;intro aa ww h20 H S
            refine OL.za S fun _ S=>?_
            refine OL.nil ?_
            refine W.seq ?_
            refine W.region ?_
            refine OL.zm S fun _ S=>?_
            refine OL.nil ?_
            refine W.cond S (b:=x99) rfl (fun hb_11=>?_) (fun hb_11=>?_)
            ·
             replace H:=H.1 hb_11
             refine W.region ?_
             refine OL.zm S fun _ S=>?_
             obtain⟨y104,y104_1,y104_2,c_21,c_22,c_23,H⟩:=H
             refine OL.zq S (Lf.run_ldA (cs:=[Value.int .i64 y104,Value.slice y104_1.a y104_1.n y104_1.c,Value.int .i64 y104_2]) (S.ev rfl) ag63 ti63 (by rw[S.heap];exact RowL.toRow ⟨c_21,c_22,c_23,trivial⟩)) fun _ S=>?_
             refine ol_newS S H Try.underlying60 ti63 (by decide) (parts_map S rfl) (by kernel_rfl) (by decide) rfl trivial ?_
             clear S H;intro s105 aa ww h21 H S
             refine ol_appS S H Try.underlying60 ti63 rfl rfl rfl trivial ?_
             clear S H;intro s106 aa ww h22 H S
             refine OL.za S fun _ S=>?_
             refine OL.nil ?_
             exact⟨s106,h22,S.sub _ ⟨rfl,rfl,rfl,rfl,rfl,trivial⟩,H⟩
            ·
             replace H:=H.2 hb_11
             refine W.skip ?_
             exact⟨l5_1,h20,S.sub _ ⟨rfl,rfl,rfl,rfl,rfl,trivial⟩,H⟩
           ·
            clear H S
            rintro aa ww ⟨l5_2,h23,S,HJ⟩
            have H:=HK_2 _ _ HJ
            clear HK_2 HJ
            refine W.region ?_
            refine OL.zq S (Lf.run_add (S.ev rfl) (S.ev rfl)) fun _ S=>?_
            refine OL.zm S fun _ S=>?_
            refine OL.nil ?_
            exact⟨(l5_2,(IntKind.i64.wrap (x93+1)),h23),⟨S.sub _ ⟨rfl,rfl,rfl,rfl,rfl,trivial⟩,H.1⟩,H.2⟩
          ·
           replace H:=H.2 hb_10
           refine W.exit_ ?_
           refine xhit ?_
           obtain⟨J_3,H,HK_3⟩:=H
           refine W.seqJ (fun aa ww=>∃l5_3 h26,St 130 [(5,Value.slice l5_3.a l5_3.n l5_3.c),(6,Value.pointer (some p6))] h26 w0 aa ww∧J_3 l5_3 h26) ?_ ?_
           ·
            clear HK_3
            refine W.seq ?_
            refine W.region ?_
            refine OL.zf S fa74_3 fun _ S=>?_
            refine OL.zf S fa70_0 fun _ S=>?_
            obtain⟨x110,c_34,H⟩:=H
            refine OL.zl S fl3 c_34 fun _ S=>?_
            refine OL.zq S (Lf.run_eql (S.ev rfl) (S.ev rfl)) fun _ S=>?_
            refine OL.nil ?_
            refine W.cond S (b:=(x110 == 2)) rfl (fun hb_12=>?_) (fun hb_12=>?_)
            ·
             replace H:=H.1 hb_12
             refine W.seq ?_
             refine W.region ?_
             refine OL.za S fun _ S=>?_
             refine OL.nil ?_
             obtain⟨J_4,H,HK_4⟩:=H
             refine W.seqJ (fun aa ww=>∃k14,St 130 [(5,Value.slice l5_1.a l5_1.n l5_1.c),(6,Value.pointer (some p6)),(14,Value.int .i64 k14)] h15 w0 aa ww∧J_4 k14) ?_ ?_
             ·
              clear HK_4
              refine W.seq ?_
              refine W.region ?_
              refine OL.zf S fa74_3 fun _ S=>?_
              refine OL.zf S fa70_3 fun _ S=>?_
              obtain⟨x114,c_35,H⟩:=H
              refine OL.zl S fl4 c_35 fun _ S=>?_
              refine OL.nil ?_
              refine W.cond S (b:=x114) rfl (fun hb_13=>?_) (fun hb_13=>?_)
              ·
               replace H:=H.1 hb_13
               refine W.region ?_
               refine OL.za S fun _ S=>?_
               refine OL.nil ?_
               exact⟨3,S.sub _ ⟨rfl,rfl,rfl,trivial⟩,H⟩
              ·
               replace H:=H.2 hb_13
               refine W.skip ?_
               exact⟨1,S.sub _ ⟨rfl,rfl,rfl,trivial⟩,H⟩
             ·
              clear H S
              rintro aa ww ⟨k14,S,HJ⟩
              have H:=HK_4 _ HJ
              clear HK_4 HJ
              refine W.region ?_
              refine OL.zm S fun _ S=>?_
              refine OL.zf S fa74_3 fun _ S=>?_
              refine OL.zf S fa70_2 fun _ S=>?_
              obtain⟨y118,y118_1,c_37,c_38,H⟩:=H
              refine OL.zq S (Lf.run_ldA (cs:=[Value.int .i64 y118,Value.slice y118_1.a y118_1.n y118_1.c]) (S.ev rfl) ag49 ti49 (by rw[S.heap];exact RowL.toRow ⟨c_37,c_38,trivial⟩)) fun _ S=>?_
              refine OL.zm S fun _ S=>?_
              refine OL.zq S (Lf.run_build (cs:=#[Value.int .i64 y118,Value.slice y118_1.a y118_1.n y118_1.c,Value.int .i64 k14]) pl63 ti63 (parts_map S rfl) (by kernel_rfl)) fun _ S=>?_
              refine ol_newS S H Try.underlying60 ti63 (by decide) (parts_map S rfl) (by kernel_rfl) (by decide) rfl trivial ?_
              clear S H;intro s121 aa ww h24 H S
              refine ol_appS S H Try.underlying60 ti63 rfl rfl rfl trivial ?_
              clear S H;intro s122 aa ww h25 H S
              refine OL.za S fun _ S=>?_
              refine OL.nil ?_
              exact⟨s122,h25,S.sub _ ⟨rfl,rfl,trivial⟩,H⟩
            ·
             replace H:=H.2 hb_12
             refine W.skip ?_
             exact⟨l5_1,h15,S.sub _ ⟨rfl,rfl,trivial⟩,H⟩
           ·
            clear H S
            rintro aa ww ⟨l5_3,h26,S,HJ⟩
            have H:=HK_3 _ _ HJ
            clear HK_3 HJ
            refine W.region ?_
            refine OL.zm S fun _ S=>?_
            refine OL.zf S fa74_2 fun _ S=>?_
            obtain⟨y125,y125_1,c_40,c_41,H⟩:=H
            refine OL.zq S (Lf.run_ldA (cs:=[Value.int .i64 y125,Value.slice y125_1.a y125_1.n y125_1.c]) (S.ev rfl) ag49 ti49 (by rw[S.heap];exact RowL.toRow ⟨c_40,c_41,trivial⟩)) fun _ S=>?_
            refine OL.zq S (Lf.run_build (cs:=#[Value.int .i64 y125,Value.slice y125_1.a y125_1.n y125_1.c,Value.int .i64 4]) pl63 ti63 (parts_map S rfl) (by kernel_rfl)) fun _ S=>?_
            refine ol_newS S H Try.underlying60 ti63 (by decide) (parts_map S rfl) (by kernel_rfl) (by decide) rfl trivial ?_
            clear S H;intro s127 aa ww h27 H S
            refine ol_appS S H Try.underlying60 ti63 rfl rfl rfl trivial ?_
            clear S H;intro s128 aa ww h28 H S
            refine OL.za S fun _ S=>?_
            refine OL.nil ?_
            exact⟨s128,h28,S.sub _ ⟨rfl,trivial⟩,H⟩
         ·
          replace H:=H.2 hb_9
          refine W.skip ?_
          exact⟨(⟨none,0,0⟩:Sv),h2,S.sub _ ⟨rfl,trivial⟩,H⟩
    ·
     clear H S
     rintro aa ww ⟨l5_4,h29,S,HJ⟩
     have H:=HK_1 _ _ HJ
     clear HK_1 HJ
     refine W.seq ?_
     refine W.region ?_
     refine OL.zm S fun _ S=>?_
     refine OL.za S fun _ S=>?_
     refine OL.nil ?_
     refine W.ret ?_
     exact Ret.one S rfl rfl H
def L23 (a0:Int) (a0_1:Sv) (a0_2:Int) (x1:Addr) (x2:Addr) (h:Heap) (R:Value→Heap→Prop):Prop:=
 new 63 #[Value.int .i64 a0,Value.slice a0_1.a a0_1.n a0_1.c,Value.int .i64 a0_2] h fun p3 h1=>
 ldS h1 x1 fun x5=>
 ldI .i64 h1 x2 fun x6=>
 ixS x5 x6 fun q7=>
 ∃(y8:Int) (y8_1:Int) (y8_2:Sv) (y8_3:Bool) (y8_4:Bool) (y8_5:Sv),cl h1 (q7.add ((x6:Int).toNat*6))=some (Value.int .i64 y8)∧cl h1 ((q7.add ((x6:Int).toNat*6)).add 1)=some (Value.int .i64 y8_1)∧cl h1 ((q7.add ((x6:Int).toNat*6)).add 2)=some (Value.slice y8_2.a y8_2.n y8_2.c)∧cl h1 ((q7.add ((x6:Int).toNat*6)).add 3)=some (Value.bool y8_3)∧cl h1 ((q7.add ((x6:Int).toNat*6)).add 4)=some (Value.bool y8_4)∧cl h1 ((q7.add ((x6:Int).toNat*6)).add 5)=some (Value.slice y8_5.a y8_5.n y8_5.c) ∧
 ∃(y9:Int) (y9_1:Sv) (y9_2:Int),cl h1 p3=some (Value.int .i64 y9)∧cl h1 (p3.add 1)=some (Value.slice y9_1.a y9_1.n y9_1.c)∧cl h1 (p3.add 2)=some (Value.int .i64 y9_2) ∧
 cal Try.prog 24 #[Value.agg #[Value.int .i64 y8,Value.int .i64 y8_1,Value.slice y8_2.a y8_2.n y8_2.c,Value.bool y8_3,Value.bool y8_4,Value.slice y8_5.a y8_5.n y8_5.c],Value.agg #[Value.int .i64 y9,Value.slice y9_1.a y9_1.n y9_1.c,Value.int .i64 y9_2]] h1 fun u h2=>asB u fun x10=>
 R (Value.bool x10) h2
set_option maxRecDepth 100000 in
theorem F23 {a0 a0_1 a0_2 x1 x2 h:_} {R:Value→Heap→Prop} (H:L23 a0 a0_1 a0_2 x1 x2 h R):CallsH Try.prog 23 #[Value.agg #[Value.int .i64 a0,Value.slice a0_1.a a0_1.n a0_1.c,Value.int .i64 a0_2],Value.pointer (some x1),Value.pointer (some x2)] h R:=by
 refine CallsH.enter (n:=11) Try.func23 rfl rfl rfl rfl ?_
 intro w0 aa ww S
 unfold L23 at H
 refine W.seq ?_
 refine W.region ?_
 refine ol_box S H rfl rfl rfl trivial ?_
 clear S H;intro p3 aa ww h1 H S
 refine OL.za S fun _ S=>?_
 refine OL.nil ?_
 refine W.seq ?_
 replace S:=S.sub [(1,Value.pointer (some x1)),(2,Value.pointer (some x2)),(3,Value.pointer (some p3))] ⟨rfl,rfl,rfl,trivial⟩
 refine W.regionD S (by kernel_rfl) ?_
 clear S;intro ww S
 obtain⟨x5,c,H⟩:=H
 refine AN.zl 0 S rfl (fun _ hx=>Lf.run_ld (S.ev rfl) fl32 (hx.cell _ _ (S.cl c))) fun _ S=>?_
 obtain⟨x6,c_1,H⟩:=H
 refine AN.zl 1 S rfl (fun _ hx=>Lf.run_ld (S.ev rfl) fl3 (hx.cell _ _ (S.cl c_1))) fun _ S=>?_
 obtain⟨q7,e,e_1,e_2,H⟩:=H
 refine AN.zq 2 S rfl (fun _=>Lf.run_ixs (S.ev rfl) (S.ev rfl) Try.underlying32 ti51 e e_1 e_2) fun _ S=>?_
 obtain⟨y8,y8_1,y8_2,y8_3,y8_4,y8_5,c_7,c_8,c_9,c_10,c_11,c_12,H⟩:=H
 refine AN.zl 3 S rfl (fun _ hx=>Lf.run_ldA (cs:=[Value.int .i64 y8,Value.int .i64 y8_1,Value.slice y8_2.a y8_2.n y8_2.c,Value.bool y8_3,Value.bool y8_4,Value.slice y8_5.a y8_5.n y8_5.c]) (S.ev rfl) ag51 ti51 (hx.row (S.row ⟨c_7,c_8,c_9,c_10,c_11,c_12,trivial⟩))) fun _ S=>?_
 obtain⟨y9,y9_1,y9_2,c_4,c_5,c_6,H⟩:=H
 refine AN.zl 4 S rfl (fun _ hx=>Lf.run_ldA (cs:=[Value.int .i64 y9,Value.slice y9_1.a y9_1.n y9_1.c,Value.int .i64 y9_2]) (S.ev rfl) ag63 ti63 (hx.row (S.row ⟨c_4,c_5,c_6,trivial⟩))) fun _ S=>?_
 refine AN.eff 5 rfl (by kernel_rfl) ?_
 refine ol_cal S H isfn24 rfl rfl trivial ?_
 clear S H;intro u aa ww h2 H S
 obtain⟨x10,rfl,H⟩:=H
 refine OL.nil ?_
 refine AN.zq 6 S rfl (fun _=>Lf.run_assign (S.ev rfl)) fun _ S=>?_
 refine AN.done (by kernel_rfl) ?_
 refine W.ret ?_
 exact Ret.one S rfl rfl H
def L24 (l0:Int) (l0_1:Int) (l0_2:Sv) (l0_3:Bool) (l0_4:Bool) (l0_5:Sv) (a1:Int) (a1_1:Sv) (a1_2:Int) (h:Heap) (R:Value→Heap→Prop):Prop:=
 new 51 #[Value.int .i64 l0,Value.int .i64 l0_1,Value.slice l0_2.a l0_2.n l0_2.c,Value.bool l0_3,Value.bool l0_4,Value.slice l0_5.a l0_5.n l0_5.c] h fun p2 h1=>
 new 63 #[Value.int .i64 a1,Value.slice a1_1.a a1_1.n a1_1.c,Value.int .i64 a1_2] h1 fun p3 h2=>
 ldI .i64 h2 (p3.add 2) fun x6=>
 ifb (x6 == 1) (
  ldB h2 (p2.add 3) fun x10=>
  ∃J:Bool→Heap→Prop,(andj x10 (fun k=>
   ∃(y13:Int) (y13_1:Sv),cl h2 (p2.add 1)=some (Value.int .i64 y13)∧cl h2 ((p2.add 1).add 1)=some (Value.slice y13_1.a y13_1.n y13_1.c) ∧
   ∃(y15:Int) (y15_1:Sv),cl h2 p3=some (Value.int .i64 y15)∧cl h2 (p3.add 1)=some (Value.slice y15_1.a y15_1.n y15_1.c) ∧
   cal Try.prog 36 #[Value.agg #[Value.int .i64 y13,Value.slice y13_1.a y13_1.n y13_1.c],Value.agg #[Value.int .i64 y15,Value.slice y15_1.a y15_1.n y15_1.c]] h2 fun u h4=>asB u fun x16=>
   k x16 h4) h2 J)∧∀x17 h3,J x17 h3 →
  R (Value.bool x17) h3) (
  ∃J_1:Bool→Prop,(
   ifb (x6 == 2) (
    J_1 (x6 == 2)) (
    ifb (x6 == 3) (
     J_1 (x6 == 3)) (
     J_1 (x6 == 4))))∧(∀x18,J_1 x18 →
  ifb x18 (
   ∃(y23:Int) (y23_1:Sv),cl h2 (p2.add 1)=some (Value.int .i64 y23)∧cl h2 ((p2.add 1).add 1)=some (Value.slice y23_1.a y23_1.n y23_1.c) ∧
   ∃(y25:Int) (y25_1:Sv),cl h2 p3=some (Value.int .i64 y25)∧cl h2 (p3.add 1)=some (Value.slice y25_1.a y25_1.n y25_1.c) ∧
   cal Try.prog 36 #[Value.agg #[Value.int .i64 y23,Value.slice y23_1.a y23_1.n y23_1.c],Value.agg #[Value.int .i64 y25,Value.slice y25_1.a y25_1.n y25_1.c]] h2 fun u_1 h5=>asB u_1 fun x26=>
   R (Value.bool x26) h5) (
   ∃J_2:Bool→Prop,(
    ifb (x6 == 5) (
     J_2 (x6 == 5)) (
     J_2 (x6 == 6)))∧(∀x27,J_2 x27 →
   ifb x27 (
    ldB h2 (p2.add 4) fun x31=>
    ∃J_3:Bool→Prop,(andr x31 (fun k_1=>
     ldI .i64 h2 (p2.add 1) fun x35=>
     ldI .i64 h2 p3 fun x38=>
     k_1 (x35 == x38)) J_3)∧∀x40,J_3 x40 →
    R (Value.bool x40) h2) (
    R (Value.bool false) h2)))))
set_option maxRecDepth 100000 in
theorem F24 {l0 l0_1 l0_2 l0_3 l0_4 l0_5 a1 a1_1 a1_2 h:_} {R:Value→Heap→Prop} (H:L24 l0 l0_1 l0_2 l0_3 l0_4 l0_5 a1 a1_1 a1_2 h R):CallsH Try.prog 24 #[Value.agg #[Value.int .i64 l0,Value.int .i64 l0_1,Value.slice l0_2.a l0_2.n l0_2.c,Value.bool l0_3,Value.bool l0_4,Value.slice l0_5.a l0_5.n l0_5.c],Value.agg #[Value.int .i64 a1,Value.slice a1_1.a a1_1.n a1_1.c,Value.int .i64 a1_2]] h R:=by
 refine CallsH.enter (n:=41) Try.func24 rfl rfl rfl rfl ?_
 intro w0 aa ww S
 unfold L24 at H
 refine W.seq ?_
 refine W.region ?_
 refine ol_box S H rfl rfl rfl trivial ?_
 clear S H;intro p2 aa ww h1 H S
 refine ol_box S H rfl rfl rfl trivial ?_
 clear S H;intro p3 aa ww h2 H S
 refine OL.za S fun _ S=>?_
 refine OL.nil ?_
 refine W.seq ?_
 refine W.seq ?_
 refine W.region ?_
 refine OL.zf S fa63_1 fun _ S=>?_
 obtain⟨x6,c,H⟩:=H
 refine OL.zl S fl3 c fun _ S=>?_
 refine OL.nil ?_
 refine W.block ?_
 refine W.seq ?_
 refine W.region ?_
 refine OL.zq S (Lf.run_eql (S.ev rfl) (S.ev rfl)) fun _ S=>?_
 refine OL.za S fun _ S=>?_
 refine OL.nil ?_
 refine W.cond S (b:=(x6 == 1)) rfl (fun hb=>?_) (fun hb=>?_)
 ·
  replace H:=H.1 hb
  refine W.seq ?_
  refine W.region ?_
  refine OL.zf S fa51_2 fun _ S=>?_
  obtain⟨x10,c_1,H⟩:=H
  refine OL.zl S fl4 c_1 fun _ S=>?_
  refine OL.zm S fun _ S=>?_
  obtain⟨J,H,HK⟩:=H
  refine OL.cutN 6 (fun aa ww=>∃x17 h3,St 41 ((17,Value.bool x17) :: [(2,Value.pointer (some p2)),(3,Value.pointer (some p3)),(9,Value.pointer (some (p2.add 3))),(10,Value.bool x10),(11,Value.bool x10)]) h3 w0 aa ww∧J x17 h3) ?_ ?_
  ·
   rcases Bool.eq_false_or_eq_true x10 with hb_1|hb_1
   ·
    replace H:=H.1 hb_1
    refine OL.zf (hg:=GOk.mk rfl rfl hb_1) S fa51_1 fun _ S=>?_
    obtain⟨y13,y13_1,c_6,c_7,H⟩:=H
    refine OL.zq (hg:=GOk.mk rfl rfl hb_1) S (Lf.run_ldA (cs:=[Value.int .i64 y13,Value.slice y13_1.a y13_1.n y13_1.c]) (S.ev rfl) ag49 ti49 (by rw[S.heap];exact RowL.toRow ⟨c_6,c_7,trivial⟩)) fun _ S=>?_
    refine OL.zf (hg:=GOk.mk rfl rfl hb_1) S fa63_0 fun _ S=>?_
    obtain⟨y15,y15_1,c_4,c_5,H⟩:=H
    refine OL.zq (hg:=GOk.mk rfl rfl hb_1) S (Lf.run_ldA (cs:=[Value.int .i64 y15,Value.slice y15_1.a y15_1.n y15_1.c]) (S.ev rfl) ag49 ti49 (by rw[S.heap];exact RowL.toRow ⟨c_4,c_5,trivial⟩)) fun _ S=>?_
    refine ol_cal S H isfn36 rfl rfl (GOk.mk rfl rfl hb_1) ?_
    clear S H;intro u aa ww h4 H S
    obtain⟨x16,rfl,H⟩:=H
    refine OL.zq S (Lf.run_pickT (S.ev rfl) hb_1 (S.ev rfl)) fun _ S=>?_
    refine OL.nil ?_
    exact⟨_,_,S.sub _ ⟨rfl,rfl,rfl,rfl,rfl,rfl,trivial⟩,H⟩
   ·
    replace H:=H.2 hb_1
    refine OL.zn S (GNo.mk rfl rfl hb_1) fun _ S=>?_
    refine OL.zn S (GNo.mk rfl rfl hb_1) fun _ S=>?_
    refine OL.zn S (GNo.mk rfl rfl hb_1) fun _ S=>?_
    refine OL.zn S (GNo.mk rfl rfl hb_1) fun _ S=>?_
    refine OL.zn S (GNo.mk rfl rfl hb_1) fun _ S=>?_
    refine OL.zq S (Lf.run_pickF (S.ev rfl) hb_1 (S.ev rfl)) fun _ S=>?_
    refine OL.nil ?_
    exact⟨_,_,S.sub _ ⟨rfl,rfl,rfl,rfl,rfl,rfl,trivial⟩,H⟩
  ·
   clear S
   rintro aa ww ⟨x17,h3,S,HJ⟩
   replace H:=HK _ _ HJ
   clear HK HJ
   refine OL.za S fun _ S=>?_
   refine OL.nil ?_
   refine W.ret ?_
   exact Ret.one S rfl rfl H
 ·
  replace H:=H.2 hb
  obtain⟨J_1,H,HK_1⟩:=H
  refine W.seqJ (fun aa ww=>∃x18,St 41 [(2,Value.pointer (some p2)),(3,Value.pointer (some p3)),(6,Value.int .i64 x6),(18,Value.bool x18)] h2 w0 aa ww∧J_1 x18) ?_ ?_
  ·
   clear HK_1
   refine W.seq ?_
   refine W.region ?_
   refine OL.zq S (Lf.run_eql (S.ev rfl) (S.ev rfl)) fun _ S=>?_
   refine OL.za S fun _ S=>?_
   refine OL.nil ?_
   refine W.cond S (b:=(x6 == 2)) rfl (fun hb_2=>?_) (fun hb_2=>?_)
   ·
    replace H:=H.1 hb_2
    refine W.skip ?_
    exact⟨(x6 == 2),S.sub _ ⟨rfl,rfl,rfl,rfl,trivial⟩,H⟩
   ·
    replace H:=H.2 hb_2
    refine W.seq ?_
    refine W.region ?_
    refine OL.zq S (Lf.run_eql (S.ev rfl) (S.ev rfl)) fun _ S=>?_
    refine OL.za S fun _ S=>?_
    refine OL.nil ?_
    refine W.cond S (b:=(x6 == 3)) rfl (fun hb_3=>?_) (fun hb_3=>?_)
    ·
     replace H:=H.1 hb_3
     refine W.skip ?_
     exact⟨(x6 == 3),S.sub _ ⟨rfl,rfl,rfl,rfl,trivial⟩,H⟩
    ·
     replace H:=H.2 hb_3
     refine W.region ?_
     refine OL.zq S (Lf.run_eql (S.ev rfl) (S.ev rfl)) fun _ S=>?_
     refine OL.za S fun _ S=>?_
     refine OL.nil ?_
     exact⟨(x6 == 4),S.sub _ ⟨rfl,rfl,rfl,rfl,trivial⟩,H⟩
  ·
   clear H S
   rintro aa ww ⟨x18,S,HJ⟩
   have H:=HK_1 _ HJ
   clear HK_1 HJ
   refine W.cond S (b:=x18) rfl (fun hb_4=>?_) (fun hb_4=>?_)
   ·
    replace H:=H.1 hb_4
    refine W.seq ?_
    refine W.region ?_
    refine OL.zf S fa51_1 fun _ S=>?_
    obtain⟨y23,y23_1,c_12,c_13,H⟩:=H
    refine OL.zq S (Lf.run_ldA (cs:=[Value.int .i64 y23,Value.slice y23_1.a y23_1.n y23_1.c]) (S.ev rfl) ag49 ti49 (by rw[S.heap];exact RowL.toRow ⟨c_12,c_13,trivial⟩)) fun _ S=>?_
    refine OL.zf S fa63_0 fun _ S=>?_
    obtain⟨y25,y25_1,c_10,c_11,H⟩:=H
    refine OL.zq S (Lf.run_ldA (cs:=[Value.int .i64 y25,Value.slice y25_1.a y25_1.n y25_1.c]) (S.ev rfl) ag49 ti49 (by rw[S.heap];exact RowL.toRow ⟨c_10,c_11,trivial⟩)) fun _ S=>?_
    refine ol_cal S H isfn36 rfl rfl trivial ?_
    clear S H;intro u_1 aa ww h5 H S
    obtain⟨x26,rfl,H⟩:=H
    refine OL.za S fun _ S=>?_
    refine OL.nil ?_
    refine W.ret ?_
    exact Ret.one S rfl rfl H
   ·
    replace H:=H.2 hb_4
    obtain⟨J_2,H,HK_2⟩:=H
    refine W.seqJ (fun aa ww=>∃x27,St 41 [(2,Value.pointer (some p2)),(3,Value.pointer (some p3)),(27,Value.bool x27)] h2 w0 aa ww∧J_2 x27) ?_ ?_
    ·
     clear HK_2
     refine W.seq ?_
     refine W.region ?_
     refine OL.zq S (Lf.run_eql (S.ev rfl) (S.ev rfl)) fun _ S=>?_
     refine OL.za S fun _ S=>?_
     refine OL.nil ?_
     refine W.cond S (b:=(x6 == 5)) rfl (fun hb_5=>?_) (fun hb_5=>?_)
     ·
      replace H:=H.1 hb_5
      refine W.skip ?_
      exact⟨(x6 == 5),S.sub _ ⟨rfl,rfl,rfl,trivial⟩,H⟩
     ·
      replace H:=H.2 hb_5
      refine W.region ?_
      refine OL.zq S (Lf.run_eql (S.ev rfl) (S.ev rfl)) fun _ S=>?_
      refine OL.za S fun _ S=>?_
      refine OL.nil ?_
      exact⟨(x6 == 6),S.sub _ ⟨rfl,rfl,rfl,trivial⟩,H⟩
    ·
     clear H S
     rintro aa ww ⟨x27,S,HJ⟩
     have H:=HK_2 _ HJ
     clear HK_2 HJ
     refine W.cond S (b:=x27) rfl (fun hb_6=>?_) (fun hb_6=>?_)
     ·
      replace H:=H.1 hb_6
      refine W.seq ?_
      refine W.region ?_
      refine OL.zf S fa51_3 fun _ S=>?_
      obtain⟨x31,c_14,H⟩:=H
      refine OL.zl S fl4 c_14 fun _ S=>?_
      refine OL.zm S fun _ S=>?_
      obtain⟨J_3,H,HK_3⟩:=H
      refine OL.cutN 8 (fun aa ww=>∃x40,St 41 ((40,Value.bool x40) :: [(2,Value.pointer (some p2)),(3,Value.pointer (some p3)),(30,Value.pointer (some (p2.add 4))),(31,Value.bool x31),(32,Value.bool x31)]) h2 w0 aa ww∧J_3 x40) ?_ ?_
      ·
       rcases Bool.eq_false_or_eq_true x31 with hb_7|hb_7
       ·
        replace H:=H.1 hb_7
        refine OL.zf (hg:=GOk.mk rfl rfl hb_7) S fa51_1 fun _ S=>?_
        refine OL.zf (hg:=GOk.mk rfl rfl hb_7) S fa49_0 fun _ S=>?_
        obtain⟨x35,c_15,H⟩:=H
        refine OL.zl (hg:=GOk.mk rfl rfl hb_7) S fl3 c_15 fun _ S=>?_
        refine OL.zf (hg:=GOk.mk rfl rfl hb_7) S fa63_0 fun _ S=>?_
        refine OL.zf (hg:=GOk.mk rfl rfl hb_7) S fa49_0 fun _ S=>?_
        obtain⟨x38,c_16,H⟩:=H
        refine OL.zl (hg:=GOk.mk rfl rfl hb_7) S fl3 c_16 fun _ S=>?_
        refine OL.zq (hg:=GOk.mk rfl rfl hb_7) S (Lf.run_eql (S.ev rfl) (S.ev rfl)) fun _ S=>?_
        refine OL.zq S (Lf.run_pickT (S.ev rfl) hb_7 (S.ev rfl)) fun _ S=>?_
        refine OL.nil ?_
        exact⟨_,S.sub _ ⟨rfl,rfl,rfl,rfl,rfl,rfl,trivial⟩,H⟩
       ·
        replace H:=H.2 hb_7
        refine OL.zn S (GNo.mk rfl rfl hb_7) fun _ S=>?_
        refine OL.zn S (GNo.mk rfl rfl hb_7) fun _ S=>?_
        refine OL.zn S (GNo.mk rfl rfl hb_7) fun _ S=>?_
        refine OL.zn S (GNo.mk rfl rfl hb_7) fun _ S=>?_
        refine OL.zn S (GNo.mk rfl rfl hb_7) fun _ S=>?_
        refine OL.zn S (GNo.mk rfl rfl hb_7) fun _ S=>?_
        refine OL.zn S (GNo.mk rfl rfl hb_7) fun _ S=>?_
        refine OL.zq S (Lf.run_pickF (S.ev rfl) hb_7 (S.ev rfl)) fun _ S=>?_
        refine OL.nil ?_
        exact⟨_,S.sub _ ⟨rfl,rfl,rfl,rfl,rfl,rfl,trivial⟩,H⟩
      ·
       clear S
       rintro aa ww ⟨x40,S,HJ⟩
       replace H:=HK_3 _ HJ
       clear HK_3 HJ
       refine OL.za S fun _ S=>?_
       refine OL.nil ?_
       refine W.ret ?_
       exact Ret.one S rfl rfl H
     ·
      replace H:=H.2 hb_6
      refine W.skip ?_
      refine W.seq ?_
      refine W.region ?_
      refine OL.za S fun _ S=>?_
      refine OL.nil ?_
      refine W.ret ?_
      exact Ret.one S rfl rfl H
def L27 (b0:Option Addr) (l1:Sv) (h:Heap) (R:Value→Heap→Prop):Prop:=
 cal Try.prog 38 #[Value.pointer b0] h fun u h1=>asI .i64 u fun x8=>
 ifb (x8 != (-1)) (
  R (Value.int .i64 14) h1) (
  ifb (decide (200<((l1.n:Nat):Int))) (
   R (Value.int .i64 2) h1) (
   ∃(I:Int→Heap→Prop) (m:Int→Heap→Nat),I 0 h1∧∀x15 h2,I x15 h2 →
   ifb (decide (x15<((l1.n:Nat):Int))) (
    ixS l1 x15 fun q17=>
    ∃(y18:Int) (y18_1:Int) (y18_2:Sv) (y18_3:Bool) (y18_4:Bool) (y18_5:Sv),cl h2 (q17.add ((x15:Int).toNat*6))=some (Value.int .i64 y18)∧cl h2 ((q17.add ((x15:Int).toNat*6)).add 1)=some (Value.int .i64 y18_1)∧cl h2 ((q17.add ((x15:Int).toNat*6)).add 2)=some (Value.slice y18_2.a y18_2.n y18_2.c)∧cl h2 ((q17.add ((x15:Int).toNat*6)).add 3)=some (Value.bool y18_3)∧cl h2 ((q17.add ((x15:Int).toNat*6)).add 4)=some (Value.bool y18_4)∧cl h2 ((q17.add ((x15:Int).toNat*6)).add 5)=some (Value.slice y18_5.a y18_5.n y18_5.c) ∧
    new 51 #[Value.int .i64 0,Value.int .i64 0,Value.slice (⟨none,0,0⟩:Sv).a (⟨none,0,0⟩:Sv).n (⟨none,0,0⟩:Sv).c,Value.bool false,Value.bool false,Value.slice (⟨none,0,0⟩:Sv).a (⟨none,0,0⟩:Sv).n (⟨none,0,0⟩:Sv).c] h2 fun p6 h3=>
    stoA h3 p6 [Value.int .i64 y18,Value.int .i64 y18_1,Value.slice y18_2.a y18_2.n y18_2.c,Value.bool y18_3,Value.bool y18_4,Value.slice y18_5.a y18_5.n y18_5.c] fun h4=>
    ∃J:Bool→Heap→Prop,(
     ldI .i64 h4 p6 fun x20=>
     ifb (decide (x20<0)) (
      J true h4) (
      nn b0 fun p26=>
      ldS h4 (p26.add 3) fun x28=>
      ldI .i64 h4 p6 fun x24=>
      ifb (decide (((x28.n:Nat):Int)≤x24)) (
       J true h4) (
       ldS h4 (p6.add 5) fun x34=>
       cal Try.prog 39 #[Value.slice x34.a x34.n x34.c] h4 fun u_1 h5=>asB u_1 fun x35=>
       J (!x35) h5)))∧(∀x37 h6,J x37 h6 →
    ifb x37 (
     R (Value.int .i64 14) h6) (
     I (IntKind.i64.wrap (x15+1)) h6∧m (IntKind.i64.wrap (x15+1)) h6<m x15 h2))) (
    R (Value.int .i64 0) h2)))
set_option maxRecDepth 100000 in
theorem F27 {b0 l1 h:_} {R:Value→Heap→Prop} (H:L27 b0 l1 h R):CallsH Try.prog 27 #[Value.pointer b0,Value.slice l1.a l1.n l1.c] h R:=by
 refine CallsH.enter (n:=39) Try.func27 rfl rfl rfl rfl ?_
 intro w0 aa ww S
 unfold L27 at H
 refine W.seq ?_
 refine W.region ?_
 refine OL.za S fun _ S=>?_
 refine OL.nil ?_
 refine W.seq ?_
 refine W.seq ?_
 refine W.region ?_
 refine OL.zm S fun _ S=>?_
 refine ol_cal S H isfn38 rfl rfl trivial ?_
 clear S H;intro u aa ww h1 H S
 obtain⟨x8,rfl,H⟩:=H
 refine OL.zq S (Lf.run_neq (S.ev rfl) (S.ev rfl)) fun _ S=>?_
 refine OL.nil ?_
 refine W.cond S (b:=(x8 != (-1))) rfl (fun hb=>?_) (fun hb=>?_)
 ·
  replace H:=H.1 hb
  refine W.seq ?_
  refine W.region ?_
  refine OL.za S fun _ S=>?_
  refine OL.nil ?_
  refine W.ret ?_
  exact Ret.one S rfl rfl H
 ·
  replace H:=H.2 hb
  refine W.skip ?_
  refine W.seq ?_
  refine W.seq ?_
  refine W.region ?_
  refine OL.zm S fun _ S=>?_
  refine OL.zq S (Lf.run_lens (S.ev rfl) rfl Try.underlying32) fun _ S=>?_
  refine OL.zq S (Lf.run_gtr (S.ev rfl) (S.ev rfl)) fun _ S=>?_
  refine OL.nil ?_
  refine W.cond S (b:=(decide (200<((l1.n:Nat):Int)))) rfl (fun hb_1=>?_) (fun hb_1=>?_)
  ·
   replace H:=H.1 hb_1
   refine W.seq ?_
   refine W.region ?_
   refine OL.za S fun _ S=>?_
   refine OL.nil ?_
   refine W.ret ?_
   exact Ret.one S rfl rfl H
  ·
   replace H:=H.2 hb_1
   refine W.skip ?_
   refine W.seq ?_
   refine W.seq ?_
   refine W.region ?_
   refine OL.zm S fun _ S=>?_
   refine OL.zq S (Lf.run_lens (S.ev rfl) rfl Try.underlying32) fun _ S=>?_
   refine OL.zm S fun _ S=>?_
   refine OL.nil ?_
   refine W.block ?_
   obtain⟨I,m,H,HB⟩:=H
   refine W.loopS (σ:=Int×Heap) (fun s aa ww=>St 39 [(0,Value.pointer b0),(13,Value.slice l1.a l1.n l1.c),(14,Value.int .i64 ((l1.n:Nat):Int)),(15,Value.int .i64 s.1)] s.2 w0 aa ww∧I s.1 s.2) (fun s=>m s.1 s.2) (0,h1) ⟨S.sub _ ⟨rfl,rfl,rfl,rfl,trivial⟩,H⟩ ?_
   clear H S
   rintro ⟨x15,h2⟩ aa ww ⟨S,HI⟩
   replace S:St 39 [(0,Value.pointer b0),(13,Value.slice l1.a l1.n l1.c),(14,Value.int .i64 ((l1.n:Nat):Int)),(15,Value.int .i64 x15)] h2 w0 aa ww:=S
   have H:=HB x15 h2 HI
   clear HI
   refine W.seq ?_
   refine W.region ?_
   refine OL.zq S (Lf.run_lss (S.ev rfl) (S.ev rfl)) fun _ S=>?_
   refine OL.nil ?_
   refine W.seq ?_
   refine W.cond S (b:=(decide (x15<((l1.n:Nat):Int)))) rfl (fun hb_2=>?_) (fun hb_2=>?_)
   ·
    replace H:=H.1 hb_2
    refine W.skip ?_
    refine W.seq ?_
    refine W.block ?_
    refine W.seq ?_
    refine W.region ?_
    obtain⟨q17,e,e_1,e_2,H⟩:=H
    refine OL.zq S (Lf.run_ixs (S.ev rfl) (S.ev rfl) Try.underlying32 ti51 e e_1 e_2) fun _ S=>?_
    obtain⟨y18,y18_1,y18_2,y18_3,y18_4,y18_5,c_5,c_6,c_7,c_8,c_9,c_10,H⟩:=H
    refine OL.zq S (Lf.run_ldA (cs:=[Value.int .i64 y18,Value.int .i64 y18_1,Value.slice y18_2.a y18_2.n y18_2.c,Value.bool y18_3,Value.bool y18_4,Value.slice y18_5.a y18_5.n y18_5.c]) (S.ev rfl) ag51 ti51 (by rw[S.heap];exact RowL.toRow ⟨c_5,c_6,c_7,c_8,c_9,c_10,trivial⟩)) fun _ S=>?_
    refine ol_alloc S H ti51 rfl rfl trivial ?_
    clear S H;intro p6 aa ww h3 H S
    refine ol_stoA S H rfl rfl ti51 trivial ?_
    clear S H;intro aa ww h4 H S
    refine OL.nil ?_
    refine W.seq ?_
    replace S:=S.sub [(0,Value.pointer b0),(6,Value.pointer (some p6)),(13,Value.slice l1.a l1.n l1.c),(14,Value.int .i64 ((l1.n:Nat):Int)),(15,Value.int .i64 x15)] ⟨rfl,rfl,rfl,rfl,rfl,trivial⟩
    obtain⟨J,H,HK⟩:=H
    refine W.mono (N':=fun aa ww=>∃x37 h6,St 39 [(0,Value.pointer b0),(13,Value.slice l1.a l1.n l1.c),(14,Value.int .i64 ((l1.n:Nat):Int)),(15,Value.int .i64 x15),(37,Value.bool x37)] h6 w0 aa ww∧J x37 h6) ?_ ?_
    ·
     refine W.regionD S (by kernel_rfl) ?_
     clear S;intro ww S
     refine AN.zq 0 S rfl (fun _=>Lf.run_fa (S.ev rfl) fa51_0) fun _ S=>?_
     obtain⟨x20,c_1,H⟩:=H
     refine AN.zl 1 S rfl (fun _ hx=>Lf.run_ld (S.ev rfl) fl3 (hx.cell _ _ (S.cl c_1))) fun _ S=>?_
     refine AN.zq 2 S rfl (fun _=>Lf.run_lss (S.ev rfl) (S.ev rfl)) fun _ S=>?_
     refine AN.zq 3 S rfl (fun _=>Lf.run_move (S.ev rfl)) fun _ S=>?_
     rcases Bool.eq_false_or_eq_true (decide (x20<0)) with hb_3|hb_3
     ·
      replace H:=H.1 hb_3
      refine AN.zn 4 S rfl (GNo.mk rfl rfl hb_3) fun _ S=>?_
      refine AN.zn 6 S rfl (GNo.mk rfl rfl hb_3) fun _ S=>?_
      refine AN.zn 7 S rfl (GNo.mk rfl rfl hb_3) fun _ S=>?_
      refine AN.zn 8 S rfl (GNo.mk rfl rfl hb_3) fun _ S=>?_
      refine AN.zn 9 S rfl (GNo.mk rfl rfl hb_3) fun _ S=>?_
      refine AN.zn 10 S rfl (GNo.mk rfl rfl hb_3) fun _ S=>?_
      refine AN.zn 5 S rfl (GNo.mk rfl rfl hb_3) fun _ S=>?_
      refine AN.zn 11 S rfl (GNo.mk rfl rfl hb_3) fun _ S=>?_
      refine AN.zq 12 S rfl (fun _=>run_pickT (S.ev rfl) hb_3 (S.ev rfl)) fun _ S=>?_
      refine AN.zq 13 S rfl (fun _=>Lf.run_move (S.ev rfl)) fun _ S=>?_
      have hb_5:(true:Bool)=true:=rfl
      refine AN.zn 14 S rfl (GNo.mk rfl rfl hb_5) fun _ S=>?_
      refine AN.zn 15 S rfl (GNo.mk rfl rfl hb_5) fun _ S=>?_
      refine AN.zn 16 S rfl (GNo.mk rfl rfl hb_5) fun _ S=>?_
      refine AN.zn 17 S rfl (GNo.mk rfl rfl hb_5) fun _ S=>?_
      refine AN.zq 18 S rfl (fun _=>run_pickT (S.ev rfl) hb_5 (S.ev rfl)) fun _ S=>?_
      refine AN.done (by kernel_rfl) ?_
      exact⟨true,h4,S.sub _ ⟨rfl,rfl,rfl,rfl,rfl,trivial⟩,H⟩
     ·
      replace H:=H.2 hb_3
      refine AN.zq (hg:=GOk.mk rfl rfl hb_3) 4 S rfl (fun _=>Lf.run_fa (S.ev rfl) fa51_0) fun _ S=>?_
      refine AN.zq (hg:=GOk.mk rfl rfl hb_3) 6 S rfl (fun _=>Lf.run_move (S.ev rfl)) fun _ S=>?_
      obtain⟨p26,e_3,H⟩:=H
      refine AN.zq (hg:=GOk.mk rfl rfl hb_3) 7 S rfl (fun _=>Lf.run_nc' (S.ev rfl) e_3) fun _ S=>?_
      refine AN.zq (hg:=GOk.mk rfl rfl hb_3) 8 S rfl (fun _=>Lf.run_fa (S.ev rfl) fa30_3) fun _ S=>?_
      obtain⟨x28,c_2,H⟩:=H
      refine AN.zl (hg:=GOk.mk rfl rfl hb_3) 9 S rfl (fun _ hx=>Lf.run_ld (S.ev rfl) fl28 (hx.cell _ _ (S.cl c_2))) fun _ S=>?_
      refine AN.zq (hg:=GOk.mk rfl rfl hb_3) 10 S rfl (fun _=>Lf.run_lens (S.ev rfl) rfl Try.underlying28) fun _ S=>?_
      obtain⟨x24,c_3,H⟩:=H
      refine AN.zl (hg:=GOk.mk rfl rfl hb_3) 5 S rfl (fun _ hx=>Lf.run_ld (S.ev rfl) fl3 (hx.cell _ _ (S.cl c_3))) fun _ S=>?_
      refine AN.zq (hg:=GOk.mk rfl rfl hb_3) 11 S rfl (fun _=>Lf.run_geq (S.ev rfl) (S.ev rfl)) fun _ S=>?_
      refine AN.zq 12 S rfl (fun _=>run_pickF (S.ev rfl) hb_3 (S.ev rfl)) fun _ S=>?_
      refine AN.zq 13 S rfl (fun _=>Lf.run_move (S.ev rfl)) fun _ S=>?_
      rcases Bool.eq_false_or_eq_true (decide (((x28.n:Nat):Int)≤x24)) with hb_4|hb_4
      ·
       replace H:=H.1 hb_4
       refine AN.zn 14 S rfl (GNo.mk rfl rfl hb_4) fun _ S=>?_
       refine AN.zn 15 S rfl (GNo.mk rfl rfl hb_4) fun _ S=>?_
       refine AN.zn 16 S rfl (GNo.mk rfl rfl hb_4) fun _ S=>?_
       refine AN.zn 17 S rfl (GNo.mk rfl rfl hb_4) fun _ S=>?_
       refine AN.zq 18 S rfl (fun _=>run_pickT (S.ev rfl) hb_4 (S.ev rfl)) fun _ S=>?_
       refine AN.done (by kernel_rfl) ?_
       exact⟨true,h4,S.sub _ ⟨rfl,rfl,rfl,rfl,rfl,trivial⟩,H⟩
      ·
       replace H:=H.2 hb_4
       refine AN.zq (hg:=GOk.mk rfl rfl hb_4) 14 S rfl (fun _=>Lf.run_fa (S.ev rfl) fa51_4) fun _ S=>?_
       obtain⟨x34,c_4,H⟩:=H
       refine AN.zl (hg:=GOk.mk rfl rfl hb_4) 15 S rfl (fun _ hx=>Lf.run_ld (S.ev rfl) fl47 (hx.cell _ _ (S.cl c_4))) fun _ S=>?_
       refine AN.eff 16 rfl (by kernel_rfl) ?_
       refine ol_cal S H isfn39 rfl rfl (GOk.mk rfl rfl hb_4) ?_
       clear S H;intro u_1 aa ww h5 H S
       obtain⟨x35,rfl,H⟩:=H
       refine OL.nil ?_
       refine AN.zq (hg:=GOk.mk rfl rfl hb_4) 17 S rfl (fun _=>Lf.run_not (S.ev rfl)) fun _ S=>?_
       refine AN.zq 18 S rfl (fun _=>run_pickF (S.ev rfl) hb_4 (S.ev rfl)) fun _ S=>?_
       refine AN.done (by kernel_rfl) ?_
       exact⟨(!x35),h5,S.sub _ ⟨rfl,rfl,rfl,rfl,rfl,trivial⟩,H⟩
    ·
     clear H S
     rintro aa ww ⟨x37,h6,S,HJ⟩
     have H:=HK _ _ HJ
     clear HK HJ
     refine W.cond S (b:=x37) rfl (fun hb_6=>?_) (fun hb_6=>?_)
     ·
      replace H:=H.1 hb_6
      refine W.seq ?_
      refine W.region ?_
      refine OL.za S fun _ S=>?_
      refine OL.nil ?_
      refine W.ret ?_
      exact Ret.one S rfl rfl H
     ·
      replace H:=H.2 hb_6
      refine W.skip ?_
      refine W.region ?_
      refine OL.zq S (Lf.run_add (S.ev rfl) (S.ev rfl)) fun _ S=>?_
      refine OL.zm S fun _ S=>?_
      refine OL.nil ?_
      exact⟨((IntKind.i64.wrap (x15+1)),h6),⟨S.sub _ ⟨rfl,rfl,rfl,rfl,trivial⟩,H.1⟩,H.2⟩
   ·
    replace H:=H.2 hb_2
    refine W.exit_ ?_
    refine xhit ?_
    refine W.seq ?_
    refine W.region ?_
    refine OL.za S fun _ S=>?_
    refine OL.nil ?_
    refine W.ret ?_
    exact Ret.one S rfl rfl H
def L28 (l0:Int) (l0_1:Int) (l0_2:Sv) (l0_3:Bool) (l0_4:Bool) (l0_5:Sv) (i1:Int) (h:Heap) (R:Value→Heap→Prop):Prop:=
 new 51 #[Value.int .i64 l0,Value.int .i64 l0_1,Value.slice l0_2.a l0_2.n l0_2.c,Value.bool l0_3,Value.bool l0_4,Value.slice l0_5.a l0_5.n l0_5.c] h fun p2 h1=>
 ldS h1 (p2.add 5) fun x9=>
 cal Try.prog 40 #[Value.slice x9.a x9.n x9.c,Value.int .i64 i1] h1 fun u h2=>∃(x11:Int) (x11_1:Bool),u=Value.tuple #[Value.int .i64 x11,Value.bool x11_1] ∧
 R (Value.bool x11_1) h2
set_option maxRecDepth 100000 in
theorem F28 {l0 l0_1 l0_2 l0_3 l0_4 l0_5 i1 h:_} {R:Value→Heap→Prop} (H:L28 l0 l0_1 l0_2 l0_3 l0_4 l0_5 i1 h R):CallsH Try.prog 28 #[Value.agg #[Value.int .i64 l0,Value.int .i64 l0_1,Value.slice l0_2.a l0_2.n l0_2.c,Value.bool l0_3,Value.bool l0_4,Value.slice l0_5.a l0_5.n l0_5.c],Value.int .i64 i1] h R:=by
 refine CallsH.enter (n:=15) Try.func28 rfl rfl rfl rfl ?_
 intro w0 aa ww S
 unfold L28 at H
 refine W.seq ?_
 refine W.region ?_
 refine ol_box S H rfl rfl rfl trivial ?_
 clear S H;intro p2 aa ww h1 H S
 refine OL.za S fun _ S=>?_
 refine OL.nil ?_
 refine W.seq ?_
 refine W.region ?_
 refine OL.zf S fa51_4 fun _ S=>?_
 obtain⟨x9,c,H⟩:=H
 refine OL.zl S fl47 c fun _ S=>?_
 refine OL.zm S fun _ S=>?_
 refine ol_cal S H isfn40 rfl rfl trivial ?_
 clear S H;intro u aa ww h2 H S
 obtain⟨x11,x11_1,rfl,H⟩:=H
 refine OL.zm S fun _ S=>?_
 refine OL.zq S (Lf.run_ex (S.ev rfl) rfl) fun _ S=>?_
 refine OL.zq S (Lf.run_ex (S.ev rfl) rfl) fun _ S=>?_
 refine OL.za S fun _ S=>?_
 refine OL.za S fun _ S=>?_
 refine OL.nil ?_
 refine W.seq ?_
 refine W.region ?_
 refine OL.zm S fun _ S=>?_
 refine OL.za S fun _ S=>?_
 refine OL.nil ?_
 refine W.ret ?_
 exact Ret.one S rfl rfl H
def L29 (b0:Option Addr) (i1:Int) (h:Heap) (R:Value→Heap→Prop):Prop:=
 ∃J:Bool→Prop,(orr ((Option.isNone b0) || (decide (i1<0))) (fun k=>
  nn b0 fun p15=>
  ldS h (p15.add 3) fun x17=>
  k (decide (((x17.n:Nat):Int)≤i1))) J)∧∀x20,J x20 →
 ifb x20 (
  R (Value.slice (⟨none,0,0⟩:Sv).a (⟨none,0,0⟩:Sv).n (⟨none,0,0⟩:Sv).c) h) (
  nn b0 fun p22=>
  ldS h (p22.add 3) fun x24=>
  ixS x24 i1 fun q26=>
  ∃(y27:Int) (y27_1:Int) (y27_2:Int) (y27_3:Sv) (y27_4:Int) (y27_5:Sv) (y27_6:Int) (y27_7:Sv) (y27_8:Bool) (y27_9:ByteArray) (y27_10:Int) (y27_11:Sv) (y27_12:Int) (y27_13:Int) (y27_14:Sv) (y27_15:Int) (y27_16:Int) (y27_17:Int) (y27_18:Int) (y27_19:Int) (y27_20:Int),cl h (q26.add ((i1:Int).toNat*21))=some (Value.int .i64 y27)∧cl h ((q26.add ((i1:Int).toNat*21)).add 1)=some (Value.int .i64 y27_1)∧cl h ((q26.add ((i1:Int).toNat*21)).add 2)=some (Value.int .i64 y27_2)∧cl h ((q26.add ((i1:Int).toNat*21)).add 3)=some (Value.slice y27_3.a y27_3.n y27_3.c)∧cl h ((q26.add ((i1:Int).toNat*21)).add 4)=some (Value.int .i64 y27_4)∧cl h ((q26.add ((i1:Int).toNat*21)).add 5)=some (Value.slice y27_5.a y27_5.n y27_5.c)∧cl h ((q26.add ((i1:Int).toNat*21)).add 6)=some (Value.int .i64 y27_6)∧cl h ((q26.add ((i1:Int).toNat*21)).add 7)=some (Value.slice y27_7.a y27_7.n y27_7.c)∧cl h ((q26.add ((i1:Int).toNat*21)).add 8)=some (Value.bool y27_8)∧cl h ((q26.add ((i1:Int).toNat*21)).add 9)=some (Value.string y27_9)∧cl h ((q26.add ((i1:Int).toNat*21)).add 10)=some (Value.int .i64 y27_10)∧cl h ((q26.add ((i1:Int).toNat*21)).add 11)=some (Value.slice y27_11.a y27_11.n y27_11.c)∧cl h ((q26.add ((i1:Int).toNat*21)).add 12)=some (Value.int .i64 y27_12)∧cl h ((q26.add ((i1:Int).toNat*21)).add 13)=some (Value.int .i64 y27_13)∧cl h ((q26.add ((i1:Int).toNat*21)).add 14)=some (Value.slice y27_14.a y27_14.n y27_14.c)∧cl h ((q26.add ((i1:Int).toNat*21)).add 15)=some (Value.int .i64 y27_15)∧cl h ((q26.add ((i1:Int).toNat*21)).add 16)=some (Value.int .u64 y27_16)∧cl h ((q26.add ((i1:Int).toNat*21)).add 17)=some (Value.int .i64 y27_17)∧cl h ((q26.add ((i1:Int).toNat*21)).add 18)=some (Value.int .i64 y27_18)∧cl h ((q26.add ((i1:Int).toNat*21)).add 19)=some (Value.int .i64 y27_19)∧cl h ((q26.add ((i1:Int).toNat*21)).add 20)=some (Value.int .i64 y27_20) ∧
  new 74 #[Value.int .i64 0,Value.int .i64 0,Value.int .i64 0,Value.slice (⟨none,0,0⟩:Sv).a (⟨none,0,0⟩:Sv).n (⟨none,0,0⟩:Sv).c,Value.int .i64 0,Value.slice (⟨none,0,0⟩:Sv).a (⟨none,0,0⟩:Sv).n (⟨none,0,0⟩:Sv).c,Value.int .i64 0,Value.slice (⟨none,0,0⟩:Sv).a (⟨none,0,0⟩:Sv).n (⟨none,0,0⟩:Sv).c,Value.bool false,Value.string (⟨#[]⟩:ByteArray),Value.int .i64 0,Value.slice (⟨none,0,0⟩:Sv).a (⟨none,0,0⟩:Sv).n (⟨none,0,0⟩:Sv).c,Value.int .i64 0,Value.int .i64 0,Value.slice (⟨none,0,0⟩:Sv).a (⟨none,0,0⟩:Sv).n (⟨none,0,0⟩:Sv).c,Value.int .i64 0,Value.int .u64 0,Value.int .i64 0,Value.int .i64 0,Value.int .i64 0,Value.int .i64 0] h fun p5 h1=>
  stoA h1 p5 [Value.int .i64 y27,Value.int .i64 y27_1,Value.int .i64 y27_2,Value.slice y27_3.a y27_3.n y27_3.c,Value.int .i64 y27_4,Value.slice y27_5.a y27_5.n y27_5.c,Value.int .i64 y27_6,Value.slice y27_7.a y27_7.n y27_7.c,Value.bool y27_8,Value.string y27_9,Value.int .i64 y27_10,Value.slice y27_11.a y27_11.n y27_11.c,Value.int .i64 y27_12,Value.int .i64 y27_13,Value.slice y27_14.a y27_14.n y27_14.c,Value.int .i64 y27_15,Value.int .u64 y27_16,Value.int .i64 y27_17,Value.int .i64 y27_18,Value.int .i64 y27_19,Value.int .i64 y27_20] fun h2=>
  ldI .i64 h2 p5 fun x29=>
  ifb (x29 == 4) (
   ldI .i64 h2 (p5.add 17) fun x33=>
   newS 3 #[Value.int .i64 x33] 1 h2 fun s34 h3=>
   R (Value.slice s34.a s34.n s34.c) h3) (
   ifb (x29 == 5) (
    ldI .i64 h2 (p5.add 17) fun x38=>
    ldI .i64 h2 (p5.add 18) fun x40=>
    ifb (x38 == x40) (
     ldI .i64 h2 (p5.add 17) fun x43=>
     newS 3 #[Value.int .i64 x43] 1 h2 fun s44 h4=>
     R (Value.slice s44.a s44.n s44.c) h4) (
     ldI .i64 h2 (p5.add 17) fun x46=>
     ldI .i64 h2 (p5.add 18) fun x48=>
     newS 3 #[Value.int .i64 x46,Value.int .i64 x48] 2 h2 fun s49 h5=>
     R (Value.slice s49.a s49.n s49.c) h5)) (
    ∃J_1:Bool→Prop,(
     ifb (x29 == 6) (
      J_1 (x29 == 6)) (
      J_1 (x29 == 7)))∧(∀x50,J_1 x50 →
    ifb x50 (
     R (Value.slice (⟨none,0,0⟩:Sv).a (⟨none,0,0⟩:Sv).n (⟨none,0,0⟩:Sv).c) h2) (
     newS 3 #[Value.int .i64 (IntKind.i64.wrap (i1+1))] 1 h2 fun s55 h6=>
     R (Value.slice s55.a s55.n s55.c) h6)))))
set_option maxRecDepth 100000 in
theorem F29 {b0 i1 h:_} {R:Value→Heap→Prop} (H:L29 b0 i1 h R):CallsH Try.prog 29 #[Value.pointer b0,Value.int .i64 i1] h R:=by
 refine CallsH.enter (n:=56) Try.func29 rfl rfl rfl rfl ?_
 intro w0 aa ww S
 unfold L29 at H
 refine W.seq ?_
 refine W.region ?_
 refine OL.za S fun _ S=>?_
 refine OL.nil ?_
 refine W.seq ?_
 refine W.seq ?_
 refine W.region ?_
 refine OL.zm S fun _ S=>?_
 refine OL.zq S (Lf.run_eqlpn Try.underlying38 (S.ev rfl) (S.ev rfl)) fun _ S=>?_
 refine OL.zm S fun _ S=>?_
 refine OL.cutN 3 (fun aa ww=>St 56 ((11,Value.bool ((Option.isNone b0) || (decide (i1<0)))) :: [(0,Value.pointer b0),(1,Value.int .i64 i1),(6,Value.pointer b0),(7,Value.bool (Option.isNone b0)),(8,Value.bool (Option.isNone b0))]) h w0 aa ww) ?_ ?_
 ·
  rcases Bool.eq_false_or_eq_true (Option.isNone b0) with hb|hb
  ·
   refine OL.zn S (GNo.mk rfl rfl hb) fun _ S=>?_
   refine OL.zn S (GNo.mk rfl rfl hb) fun _ S=>?_
   refine OL.zq S (Lf.run_pickT (S.ev rfl) hb (S.ev rfl)) fun _ S=>?_
   refine OL.nil ?_
   exact (S.hd (by rw[hb,Bool.true_or])).sub _ ⟨rfl,rfl,rfl,rfl,rfl,rfl,trivial⟩
  ·
   refine OL.zm (hg:=GOk.mk rfl rfl hb) S fun _ S=>?_
   refine OL.zq (hg:=GOk.mk rfl rfl hb) S (Lf.run_lss (S.ev rfl) (S.ev rfl)) fun _ S=>?_
   refine OL.zq S (Lf.run_pickF (S.ev rfl) hb (S.ev rfl)) fun _ S=>?_
   refine OL.nil ?_
   exact (S.hd (by rw[hb,Bool.false_or])).sub _ ⟨rfl,rfl,rfl,rfl,rfl,rfl,trivial⟩
 ·
  clear S
  intro aa ww S
  refine OL.zm S fun _ S=>?_
  obtain⟨J,H,HK⟩:=H
  refine OL.cutN 8 (fun aa ww=>∃x20,St 56 ((20,Value.bool x20) :: [(0,Value.pointer b0),(1,Value.int .i64 i1),(6,Value.pointer b0),(7,Value.bool (Option.isNone b0)),(8,Value.bool (Option.isNone b0)),(11,Value.bool ((Option.isNone b0) || (decide (i1<0)))),(12,Value.bool ((Option.isNone b0) || (decide (i1<0))))]) h w0 aa ww∧J x20) ?_ ?_
  ·
   rcases Bool.eq_false_or_eq_true ((Option.isNone b0) || (decide (i1<0))) with hb_1|hb_1
   ·
    replace H:=H.1 hb_1
    refine OL.zn S (GNo.mk rfl rfl hb_1) fun _ S=>?_
    refine OL.zn S (GNo.mk rfl rfl hb_1) fun _ S=>?_
    refine OL.zn S (GNo.mk rfl rfl hb_1) fun _ S=>?_
    refine OL.zn S (GNo.mk rfl rfl hb_1) fun _ S=>?_
    refine OL.zn S (GNo.mk rfl rfl hb_1) fun _ S=>?_
    refine OL.zn S (GNo.mk rfl rfl hb_1) fun _ S=>?_
    refine OL.zn S (GNo.mk rfl rfl hb_1) fun _ S=>?_
    refine OL.zq S (Lf.run_pickT (S.ev rfl) hb_1 (S.ev rfl)) fun _ S=>?_
    refine OL.nil ?_
    exact⟨_,S.sub _ ⟨rfl,rfl,rfl,rfl,rfl,rfl,rfl,rfl,trivial⟩,H⟩
   ·
    replace H:=H.2 hb_1
    refine OL.zm (hg:=GOk.mk rfl rfl hb_1) S fun _ S=>?_
    refine OL.zm (hg:=GOk.mk rfl rfl hb_1) S fun _ S=>?_
    obtain⟨p15,e,H⟩:=H
    refine OL.zq (hg:=GOk.mk rfl rfl hb_1) S (Lf.run_nc' (S.ev rfl) e) fun _ S=>?_
    refine OL.zf (hg:=GOk.mk rfl rfl hb_1) S fa30_3 fun _ S=>?_
    obtain⟨x17,c,H⟩:=H
    refine OL.zl (hg:=GOk.mk rfl rfl hb_1) S fl28 c fun _ S=>?_
    refine OL.zq (hg:=GOk.mk rfl rfl hb_1) S (Lf.run_lens (S.ev rfl) rfl Try.underlying28) fun _ S=>?_
    refine OL.zq (hg:=GOk.mk rfl rfl hb_1) S (Lf.run_geq (S.ev rfl) (S.ev rfl)) fun _ S=>?_
    refine OL.zq S (Lf.run_pickF (S.ev rfl) hb_1 (S.ev rfl)) fun _ S=>?_
    refine OL.nil ?_
    exact⟨_,S.sub _ ⟨rfl,rfl,rfl,rfl,rfl,rfl,rfl,rfl,trivial⟩,H⟩
  ·
   clear S
   rintro aa ww ⟨x20,S,HJ⟩
   replace H:=HK _ HJ
   clear HK HJ
   refine OL.nil ?_
   refine W.cond S (b:=x20) rfl (fun hb_2=>?_) (fun hb_2=>?_)
   ·
    replace H:=H.1 hb_2
    refine W.seq ?_
    refine W.region ?_
    refine OL.za S fun _ S=>?_
    refine OL.nil ?_
    refine W.ret ?_
    exact Ret.one S rfl rfl H
   ·
    replace H:=H.2 hb_2
    refine W.skip ?_
    refine W.seq ?_
    refine W.seq ?_
    refine W.region ?_
    refine OL.zm S fun _ S=>?_
    obtain⟨p22,e_1,H⟩:=H
    refine OL.zq S (Lf.run_nc' (S.ev rfl) e_1) fun _ S=>?_
    refine OL.zf S fa30_3 fun _ S=>?_
    obtain⟨x24,c_1,H⟩:=H
    refine OL.zl S fl28 c_1 fun _ S=>?_
    refine OL.zm S fun _ S=>?_
    obtain⟨q26,e_2,e_3,e_4,H⟩:=H
    refine OL.zq S (Lf.run_ixs (S.ev rfl) (S.ev rfl) Try.underlying28 ti74 e_2 e_3 e_4) fun _ S=>?_
    obtain⟨y27,y27_1,y27_2,y27_3,y27_4,y27_5,y27_6,y27_7,y27_8,y27_9,y27_10,y27_11,y27_12,y27_13,y27_14,y27_15,y27_16,y27_17,y27_18,y27_19,y27_20,c_10,c_11,c_12,c_13,c_14,c_15,c_16,c_17,c_18,c_19,c_20,c_21,c_22,c_23,c_24,c_25,c_26,c_27,c_28,c_29,c_30,H⟩:=H
    refine OL.zq S (Lf.run_ldA (cs:=[Value.int .i64 y27,Value.int .i64 y27_1,Value.int .i64 y27_2,Value.slice y27_3.a y27_3.n y27_3.c,Value.int .i64 y27_4,Value.slice y27_5.a y27_5.n y27_5.c,Value.int .i64 y27_6,Value.slice y27_7.a y27_7.n y27_7.c,Value.bool y27_8,Value.string y27_9,Value.int .i64 y27_10,Value.slice y27_11.a y27_11.n y27_11.c,Value.int .i64 y27_12,Value.int .i64 y27_13,Value.slice y27_14.a y27_14.n y27_14.c,Value.int .i64 y27_15,Value.int .u64 y27_16,Value.int .i64 y27_17,Value.int .i64 y27_18,Value.int .i64 y27_19,Value.int .i64 y27_20]) (S.ev rfl) ag74 ti74 (by rw[S.heap];exact RowL.toRow ⟨c_10,c_11,c_12,c_13,c_14,c_15,c_16,c_17,c_18,c_19,c_20,c_21,c_22,c_23,c_24,c_25,c_26,c_27,c_28,c_29,c_30,trivial⟩)) fun _ S=>?_
    refine ol_alloc S H ti74 rfl rfl trivial ?_
    clear S H;intro p5 aa ww h1 H S
    refine ol_stoA S H rfl rfl ti74 trivial ?_
    clear S H;intro aa ww h2 H S
    refine OL.nil ?_
    refine W.seq ?_
    refine W.region ?_
    refine OL.zf S fa74_0 fun _ S=>?_
    obtain⟨x29,c_3,H⟩:=H
    refine OL.zl S fl3 c_3 fun _ S=>?_
    refine OL.nil ?_
    refine W.block ?_
    refine W.seq ?_
    refine W.region ?_
    refine OL.zq S (Lf.run_eql (S.ev rfl) (S.ev rfl)) fun _ S=>?_
    refine OL.za S fun _ S=>?_
    refine OL.nil ?_
    refine W.cond S (b:=(x29 == 4)) rfl (fun hb_3=>?_) (fun hb_3=>?_)
    ·
     replace H:=H.1 hb_3
     refine W.seq ?_
     refine W.region ?_
     refine OL.zf S fa74_5 fun _ S=>?_
     obtain⟨x33,c_4,H⟩:=H
     refine OL.zl S fl3 c_4 fun _ S=>?_
     refine ol_newS S H Try.underlying47 ti3 (by decide) (parts_map S rfl) (by kernel_rfl) (by decide) rfl trivial ?_
     clear S H;intro s34 aa ww h3 H S
     refine OL.za S fun _ S=>?_
     refine OL.nil ?_
     refine W.ret ?_
     exact Ret.one S rfl rfl H
    ·
     replace H:=H.2 hb_3
     refine W.seq ?_
     refine W.region ?_
     refine OL.zq S (Lf.run_eql (S.ev rfl) (S.ev rfl)) fun _ S=>?_
     refine OL.za S fun _ S=>?_
     refine OL.nil ?_
     refine W.cond S (b:=(x29 == 5)) rfl (fun hb_4=>?_) (fun hb_4=>?_)
     ·
      replace H:=H.1 hb_4
      refine W.seq ?_
      refine W.seq ?_
      refine W.region ?_
      refine OL.zf S fa74_5 fun _ S=>?_
      obtain⟨x38,c_5,H⟩:=H
      refine OL.zl S fl3 c_5 fun _ S=>?_
      refine OL.zf S fa74_6 fun _ S=>?_
      obtain⟨x40,c_6,H⟩:=H
      refine OL.zl S fl3 c_6 fun _ S=>?_
      refine OL.zq S (Lf.run_eql (S.ev rfl) (S.ev rfl)) fun _ S=>?_
      refine OL.nil ?_
      refine W.cond S (b:=(x38 == x40)) rfl (fun hb_5=>?_) (fun hb_5=>?_)
      ·
       replace H:=H.1 hb_5
       refine W.seq ?_
       refine W.region ?_
       refine OL.zf S fa74_5 fun _ S=>?_
       obtain⟨x43,c_7,H⟩:=H
       refine OL.zl S fl3 c_7 fun _ S=>?_
       refine ol_newS S H Try.underlying47 ti3 (by decide) (parts_map S rfl) (by kernel_rfl) (by decide) rfl trivial ?_
       clear S H;intro s44 aa ww h4 H S
       refine OL.za S fun _ S=>?_
       refine OL.nil ?_
       refine W.ret ?_
       exact Ret.one S rfl rfl H
      ·
       replace H:=H.2 hb_5
       refine W.skip ?_
       refine W.seq ?_
       refine W.region ?_
       refine OL.zf S fa74_5 fun _ S=>?_
       obtain⟨x46,c_8,H⟩:=H
       refine OL.zl S fl3 c_8 fun _ S=>?_
       refine OL.zf S fa74_6 fun _ S=>?_
       obtain⟨x48,c_9,H⟩:=H
       refine OL.zl S fl3 c_9 fun _ S=>?_
       refine ol_newS S H Try.underlying47 ti3 (by decide) (parts_map S rfl) (by kernel_rfl) (by decide) rfl trivial ?_
       clear S H;intro s49 aa ww h5 H S
       refine OL.za S fun _ S=>?_
       refine OL.nil ?_
       refine W.ret ?_
       exact Ret.one S rfl rfl H
     ·
      replace H:=H.2 hb_4
      obtain⟨J_1,H,HK_1⟩:=H
      refine W.seqJ (fun aa ww=>∃x50,St 56 [(1,Value.int .i64 i1),(50,Value.bool x50)] h2 w0 aa ww∧J_1 x50) ?_ ?_
      ·
       clear HK_1
       refine W.seq ?_
       refine W.region ?_
       refine OL.zq S (Lf.run_eql (S.ev rfl) (S.ev rfl)) fun _ S=>?_
       refine OL.za S fun _ S=>?_
       refine OL.nil ?_
       refine W.cond S (b:=(x29 == 6)) rfl (fun hb_6=>?_) (fun hb_6=>?_)
       ·
        replace H:=H.1 hb_6
        refine W.skip ?_
        exact⟨(x29 == 6),S.sub _ ⟨rfl,rfl,trivial⟩,H⟩
       ·
        replace H:=H.2 hb_6
        refine W.region ?_
        refine OL.zq S (Lf.run_eql (S.ev rfl) (S.ev rfl)) fun _ S=>?_
        refine OL.za S fun _ S=>?_
        refine OL.nil ?_
        exact⟨(x29 == 7),S.sub _ ⟨rfl,rfl,trivial⟩,H⟩
      ·
       clear H S
       rintro aa ww ⟨x50,S,HJ⟩
       have H:=HK_1 _ HJ
       clear HK_1 HJ
       refine W.cond S (b:=x50) rfl (fun hb_7=>?_) (fun hb_7=>?_)
       ·
        replace H:=H.1 hb_7
        refine W.seq ?_
        refine W.region ?_
        refine OL.za S fun _ S=>?_
        refine OL.nil ?_
        refine W.ret ?_
        exact Ret.one S rfl rfl H
       ·
        replace H:=H.2 hb_7
        refine W.skip ?_
        refine W.seq ?_
        refine W.region ?_
        refine OL.zm S fun _ S=>?_
        refine OL.zq S (Lf.run_add (S.ev rfl) (S.ev rfl)) fun _ S=>?_
        refine ol_newS S H Try.underlying47 ti3 (by decide) (parts_map S rfl) (by kernel_rfl) (by decide) rfl trivial ?_
        clear S H;intro s55 aa ww h6 H S
        refine OL.za S fun _ S=>?_
        refine OL.nil ?_
        refine W.ret ?_
        exact Ret.one S rfl rfl H
def L30 (p0:Sv) (p0_1:Int) (p0_2:Sv) (p0_3:Sv) (p0_4:Sv) (h:Heap) (R:Value→Heap→Prop):Prop:=
 new 88 #[Value.slice p0.a p0.n p0.c,Value.int .i64 p0_1,Value.slice p0_2.a p0_2.n p0_2.c,Value.slice p0_3.a p0_3.n p0_3.c,Value.slice p0_4.a p0_4.n p0_4.c] h fun p1 h1=>
 ∃(y12:Sv) (y12_1:Int) (y12_2:Sv) (y12_3:Sv) (y12_4:Sv),cl h1 p1=some (Value.slice y12.a y12.n y12.c)∧cl h1 (p1.add 1)=some (Value.int .i64 y12_1)∧cl h1 (p1.add 2)=some (Value.slice y12_2.a y12_2.n y12_2.c)∧cl h1 (p1.add 3)=some (Value.slice y12_3.a y12_3.n y12_3.c)∧cl h1 (p1.add 4)=some (Value.slice y12_4.a y12_4.n y12_4.c) ∧
 cal Try.prog 41 #[Value.agg #[Value.slice y12.a y12.n y12.c,Value.int .i64 y12_1,Value.slice y12_2.a y12_2.n y12_2.c,Value.slice y12_3.a y12_3.n y12_3.c,Value.slice y12_4.a y12_4.n y12_4.c]] h1 fun u h2=>asI .i64 u fun x13=>
 ifb (x13 != 0) (
  R (.tuple #[Value.pointer none,Value.int .i64 x13]) h2) (
  ∃(y17:Sv) (y17_1:Int) (y17_2:Sv) (y17_3:Sv) (y17_4:Sv),cl h2 p1=some (Value.slice y17.a y17.n y17.c)∧cl h2 (p1.add 1)=some (Value.int .i64 y17_1)∧cl h2 (p1.add 2)=some (Value.slice y17_2.a y17_2.n y17_2.c)∧cl h2 (p1.add 3)=some (Value.slice y17_3.a y17_3.n y17_3.c)∧cl h2 (p1.add 4)=some (Value.slice y17_4.a y17_4.n y17_4.c) ∧
  cal Try.prog 42 #[Value.agg #[Value.slice y17.a y17.n y17.c,Value.int .i64 y17_1,Value.slice y17_2.a y17_2.n y17_2.c,Value.slice y17_3.a y17_3.n y17_3.c,Value.slice y17_4.a y17_4.n y17_4.c]] h2 fun u_1 h3=>asP u_1 fun x18=>
  ∃J:Heap→Prop,(
   nn x18 fun p20=>
   ldS h3 (p20.add 1) fun x22=>
   ifb (decide (0<((x22.n:Nat):Int))) (
    nn x18 fun p26=>
    ldS h3 (p26.add 1) fun x28=>
    ixS x28 0 fun q29=>
    ldS h3 q29 fun x30=>
    ldS h3 (p1.add 4) fun x32=>
    cal Try.prog 43 #[Value.slice x30.a x30.n x30.c,Value.slice x32.a x32.n x32.c] h3 fun u_2 h4=>
    J h4) (
    J h3))∧(∀h5,J h5 →
  ∃(I:Bool→Heap→Prop) (m:Bool→Heap→Nat),I true h5∧∀again6 h6,I again6 h6 →
  ifb again6 (
   ldS h6 p1 fun x36=>
   ∃(I_1:Bool→Int→Heap→Prop) (m_1:Bool→Int→Heap→Nat),I_1 false 0 h6∧∀again6_1 x38 h7,I_1 again6_1 x38 h7 →
   ifb (decide (x38<((x36.n:Nat):Int))) (
    ixS x36 x38 fun q41=>
    ldS h7 (q41.add ((x38:Int).toNat*1)) fun x42=>
    ∃(y43:Sv) (y43_1:Int) (y43_2:Sv) (y43_3:Sv) (y43_4:Sv),cl h7 p1=some (Value.slice y43.a y43.n y43.c)∧cl h7 (p1.add 1)=some (Value.int .i64 y43_1)∧cl h7 (p1.add 2)=some (Value.slice y43_2.a y43_2.n y43_2.c)∧cl h7 (p1.add 3)=some (Value.slice y43_3.a y43_3.n y43_3.c)∧cl h7 (p1.add 4)=some (Value.slice y43_4.a y43_4.n y43_4.c) ∧
    nn x18 fun p46=>
    ldS h7 (p46.add 1) fun x48=>
    ixS x48 x38 fun q50=>
    ldS h7 (q50.add ((x38:Int).toNat*1)) fun x51=>
    cal Try.prog 44 #[Value.agg #[Value.slice y43.a y43.n y43.c,Value.int .i64 y43_1,Value.slice y43_2.a y43_2.n y43_2.c,Value.slice y43_3.a y43_3.n y43_3.c,Value.slice y43_4.a y43_4.n y43_4.c],Value.int .i64 x38,Value.slice x51.a x51.n x51.c] h7 fun u_3 h8=>asS u_3 fun x52=>
    ∃(I_2:Bool→Int→Heap→Prop) (m_2:Bool→Int→Heap→Nat),I_2 again6_1 0 h8∧∀again6_2 x55 h9,I_2 again6_2 x55 h9 →
    ifb (decide (x55<((x42.n:Nat):Int))) (
     ixS x42 x55 fun q57=>
     ldI .i64 h9 (q57.add ((x55:Int).toNat*1)) fun x58=>
     nn x18 fun p60=>
     ldS h9 (p60.add 1) fun x62=>
     ixS x62 x58 fun q64=>
     ldS h9 (q64.add ((x58:Int).toNat*1)) fun x65=>
     cal Try.prog 45 #[Value.slice x65.a x65.n x65.c,Value.slice x52.a x52.n x52.c] h9 fun u_4 h10=>asB u_4 fun x67=>
     I_2 (x67 || again6_2) (IntKind.i64.wrap (x55+1)) h10∧m_2 (x67 || again6_2) (IntKind.i64.wrap (x55+1)) h10<m_2 again6_2 x55 h9) (
     I_1 again6_2 (IntKind.i64.wrap (x38+1)) h9∧m_1 again6_2 (IntKind.i64.wrap (x38+1)) h9<m_1 again6_1 x38 h7)) (
    I again6_1 h7∧m again6_1 h7<m again6 h6)) (
   R (.tuple #[Value.pointer x18,Value.int .i64 0]) h6)))
set_option maxRecDepth 100000 in
theorem F30 {p0 p0_1 p0_2 p0_3 p0_4 h:_} {R:Value→Heap→Prop} (H:L30 p0 p0_1 p0_2 p0_3 p0_4 h R):CallsH Try.prog 30 #[Value.agg #[Value.slice p0.a p0.n p0.c,Value.int .i64 p0_1,Value.slice p0_2.a p0_2.n p0_2.c,Value.slice p0_3.a p0_3.n p0_3.c,Value.slice p0_4.a p0_4.n p0_4.c]] h R:=by
 refine CallsH.enter (n:=74) Try.func30 rfl rfl rfl rfl ?_
 intro w0 aa ww S
 unfold L30 at H
 refine W.seq ?_
 refine W.region ?_
 refine ol_box S H rfl rfl rfl trivial ?_
 clear S H;intro p1 aa ww h1 H S
 refine OL.za S fun _ S=>?_
 refine OL.za S fun _ S=>?_
 refine OL.nil ?_
 refine W.seq ?_
 refine W.seq ?_
 refine W.region ?_
 obtain⟨y12,y12_1,y12_2,y12_3,y12_4,c_24,c_25,c_26,c_27,c_28,H⟩:=H
 refine OL.zq S (Lf.run_ldA (cs:=[Value.slice y12.a y12.n y12.c,Value.int .i64 y12_1,Value.slice y12_2.a y12_2.n y12_2.c,Value.slice y12_3.a y12_3.n y12_3.c,Value.slice y12_4.a y12_4.n y12_4.c]) (S.ev rfl) ag88 ti88 (by rw[S.heap];exact RowL.toRow ⟨c_24,c_25,c_26,c_27,c_28,trivial⟩)) fun _ S=>?_
 refine ol_cal S H isfn41 rfl rfl trivial ?_
 clear S H;intro u aa ww h2 H S
 obtain⟨x13,rfl,H⟩:=H
 refine OL.za S fun _ S=>?_
 refine OL.nil ?_
 refine W.seq ?_
 refine W.region ?_
 refine OL.zm S fun _ S=>?_
 refine OL.zq S (Lf.run_neq (S.ev rfl) (S.ev rfl)) fun _ S=>?_
 refine OL.nil ?_
 refine W.cond S (b:=(x13 != 0)) rfl (fun hb=>?_) (fun hb=>?_)
 ·
  replace H:=H.1 hb
  refine W.seq ?_
  refine W.region ?_
  refine OL.zm S fun _ S=>?_
  refine OL.za S fun _ S=>?_
  refine OL.za S fun _ S=>?_
  refine OL.nil ?_
  refine W.ret ?_
  exact Ret.two S rfl rfl rfl H
 ·
  replace H:=H.2 hb
  refine W.skip ?_
  refine W.seq ?_
  refine W.region ?_
  obtain⟨y17,y17_1,y17_2,y17_3,y17_4,c_19,c_20,c_21,c_22,c_23,H⟩:=H
  refine OL.zq S (Lf.run_ldA (cs:=[Value.slice y17.a y17.n y17.c,Value.int .i64 y17_1,Value.slice y17_2.a y17_2.n y17_2.c,Value.slice y17_3.a y17_3.n y17_3.c,Value.slice y17_4.a y17_4.n y17_4.c]) (S.ev rfl) ag88 ti88 (by rw[S.heap];exact RowL.toRow ⟨c_19,c_20,c_21,c_22,c_23,trivial⟩)) fun _ S=>?_
  refine ol_cal S H isfn42 rfl rfl trivial ?_
  clear S H;intro u_1 aa ww h3 H S
  obtain⟨x18,rfl,H⟩:=H
  refine OL.za S fun _ S=>?_
  refine OL.nil ?_
  obtain⟨J,H,HK⟩:=H
  refine W.seqJ (fun aa ww=>∃h5,St 74 [(1,Value.pointer (some p1)),(5,Value.pointer x18)] h5 w0 aa ww∧J h5) ?_ ?_
  ·
   clear HK
   refine W.seq ?_
   refine W.region ?_
   refine OL.zm S fun _ S=>?_
   obtain⟨p20,e,H⟩:=H
   refine OL.zq S (Lf.run_nc' (S.ev rfl) e) fun _ S=>?_
   refine OL.zf S fa109_1 fun _ S=>?_
   obtain⟨x22,c_2,H⟩:=H
   refine OL.zl S fl107 c_2 fun _ S=>?_
   refine OL.zq S (Lf.run_lens (S.ev rfl) rfl Try.underlying107) fun _ S=>?_
   refine OL.zq S (Lf.run_gtr (S.ev rfl) (S.ev rfl)) fun _ S=>?_
   refine OL.nil ?_
   refine W.cond S (b:=(decide (0<((x22.n:Nat):Int)))) rfl (fun hb_1=>?_) (fun hb_1=>?_)
   ·
    replace H:=H.1 hb_1
    replace S:=S.sub [(1,Value.pointer (some p1)),(5,Value.pointer x18)] ⟨rfl,rfl,trivial⟩
    refine W.regionD S (by kernel_rfl) ?_
    clear S;intro ww S
    refine AN.zq 0 S rfl (fun _=>Lf.run_move (S.ev rfl)) fun _ S=>?_
    obtain⟨p26,e_1,H⟩:=H
    refine AN.zq 1 S rfl (fun _=>Lf.run_nc' (S.ev rfl) e_1) fun _ S=>?_
    refine AN.zq 2 S rfl (fun _=>Lf.run_fa (S.ev rfl) fa109_1) fun _ S=>?_
    obtain⟨x28,c_3,H⟩:=H
    refine AN.zl 3 S rfl (fun _ hx=>Lf.run_ld (S.ev rfl) fl107 (hx.cell _ _ (S.cl c_3))) fun _ S=>?_
    obtain⟨q29,e_2,e_3,e_4,H⟩:=H
    refine AN.zq 4 S rfl (fun _=>Lf.run_ixs (S.ev rfl) (S.ev rfl) Try.underlying107 ti111 e_2 e_3 e_4) fun _ S=>?_
    obtain⟨x30,c_4,H⟩:=H
    refine AN.zl 5 S rfl (fun _ hx=>Lf.run_ld (S.ev rfl) fl111 (hx.cell _ _ (S.cl c_4))) fun _ S=>?_
    refine AN.zq 6 S rfl (fun _=>Lf.run_fa (S.ev rfl) fa88_4) fun _ S=>?_
    obtain⟨x32,c_5,H⟩:=H
    refine AN.zl 7 S rfl (fun _ hx=>Lf.run_ld (S.ev rfl) fl47 (hx.cell _ _ (S.cl c_5))) fun _ S=>?_
    refine AN.eff 8 rfl (by kernel_rfl) ?_
    refine ol_cal S H isfn43 rfl rfl trivial ?_
    clear S H;intro u_2 aa ww h4 H S
    refine OL.nil ?_
    refine AN.done (by kernel_rfl) ?_
    exact⟨h4,S.sub _ ⟨rfl,rfl,trivial⟩,H⟩
   ·
    replace H:=H.2 hb_1
    refine W.skip ?_
    exact⟨h3,S.sub _ ⟨rfl,rfl,trivial⟩,H⟩
  ·
   clear H S
   rintro aa ww ⟨h5,S,HJ⟩
   have H:=HK _ HJ
   clear HK HJ
   refine W.seq ?_
   refine W.seq ?_
   refine W.region ?_
   refine OL.za S fun _ S=>?_
   refine OL.nil ?_
   refine W.block ?_
   obtain⟨I,m,H,HB_2⟩:=H
   refine W.loopS (σ:=Bool×Heap) (fun s aa ww=>St 74 [(1,Value.pointer (some p1)),(5,Value.pointer x18),(6,Value.bool s.1)] s.2 w0 aa ww∧I s.1 s.2) (fun s=>m s.1 s.2) (true,h5) ⟨S.sub _ ⟨rfl,rfl,rfl,trivial⟩,H⟩ ?_
   clear H S
   rintro ⟨again6,h6⟩ aa ww ⟨S,HI⟩
   replace S:St 74 [(1,Value.pointer (some p1)),(5,Value.pointer x18),(6,Value.bool again6)] h6 w0 aa ww:=S
   have H:=HB_2 again6 h6 HI
   clear HI
   refine W.seq ?_
   refine W.seq ?_
   refine W.region ?_
   refine OL.zm S fun _ S=>?_
   refine OL.nil ?_
   refine W.cond S (b:=again6) rfl (fun hb_2=>?_) (fun hb_2=>?_)
   ·
    replace H:=H.1 hb_2
    refine W.skip ?_
    refine W.block ?_
    refine W.seq ?_
    refine W.region ?_
    refine OL.za S fun _ S=>?_
    refine OL.nil ?_
    refine W.seq ?_
    refine W.region ?_
    refine OL.zf S fa88_0 fun _ S=>?_
    obtain⟨x36,c_6,H⟩:=H
    refine OL.zl S fl42 c_6 fun _ S=>?_
    refine OL.zq S (Lf.run_lens (S.ev rfl) rfl Try.underlying42) fun _ S=>?_
    refine OL.zm S fun _ S=>?_
    refine OL.nil ?_
    refine W.block ?_
    obtain⟨I_1,m_1,H,HB_1⟩:=H
    refine W.loopS (σ:=Bool×Int×Heap) (fun s aa ww=>St 74 [(1,Value.pointer (some p1)),(5,Value.pointer x18),(6,Value.bool s.1),(36,Value.slice x36.a x36.n x36.c),(37,Value.int .i64 ((x36.n:Nat):Int)),(38,Value.int .i64 s.2.1)] s.2.2 w0 aa ww∧I_1 s.1 s.2.1 s.2.2) (fun s=>m_1 s.1 s.2.1 s.2.2) (false,0,h6) ⟨S.sub _ ⟨rfl,rfl,rfl,rfl,rfl,rfl,trivial⟩,H⟩ ?_
    clear H S
    rintro ⟨again6_1,x38,h7⟩ aa ww ⟨S,HI⟩
    replace S:St 74 [(1,Value.pointer (some p1)),(5,Value.pointer x18),(6,Value.bool again6_1),(36,Value.slice x36.a x36.n x36.c),(37,Value.int .i64 ((x36.n:Nat):Int)),(38,Value.int .i64 x38)] h7 w0 aa ww:=S
    have H:=HB_1 again6_1 x38 h7 HI
    clear HI
    refine W.seq ?_
    refine W.region ?_
    refine OL.zq S (Lf.run_lss (S.ev rfl) (S.ev rfl)) fun _ S=>?_
    refine OL.nil ?_
    refine W.seq ?_
    refine W.cond S (b:=(decide (x38<((x36.n:Nat):Int)))) rfl (fun hb_3=>?_) (fun hb_3=>?_)
    ·
     replace H:=H.1 hb_3
     refine W.skip ?_
     refine W.seq ?_
     refine W.block ?_
     refine W.seq ?_
     refine W.region ?_
     refine OL.zm S fun _ S=>?_
     obtain⟨q41,e_5,e_6,e_7,H⟩:=H
     refine OL.zq S (Lf.run_ixs (S.ev rfl) (S.ev rfl) Try.underlying42 ti47 e_5 e_6 e_7) fun _ S=>?_
     obtain⟨x42,c_7,H⟩:=H
     refine OL.zl S fl47 c_7 fun _ S=>?_
     refine OL.za S fun _ S=>?_
     refine OL.za S fun _ S=>?_
     refine OL.nil ?_
     refine W.seq ?_
     replace S:=S.sub [(1,Value.pointer (some p1)),(5,Value.pointer x18),(6,Value.bool again6_1),(7,Value.int .i64 x38),(8,Value.slice x42.a x42.n x42.c),(36,Value.slice x36.a x36.n x36.c),(37,Value.int .i64 ((x36.n:Nat):Int)),(38,Value.int .i64 x38)] ⟨rfl,rfl,rfl,rfl,rfl,rfl,rfl,rfl,trivial⟩
     refine W.regionD S (by kernel_rfl) ?_
     clear S;intro ww S
     obtain⟨y43,y43_1,y43_2,y43_3,y43_4,c_14,c_15,c_16,c_17,c_18,H⟩:=H
     refine AN.zl 0 S rfl (fun _ hx=>Lf.run_ldA (cs:=[Value.slice y43.a y43.n y43.c,Value.int .i64 y43_1,Value.slice y43_2.a y43_2.n y43_2.c,Value.slice y43_3.a y43_3.n y43_3.c,Value.slice y43_4.a y43_4.n y43_4.c]) (S.ev rfl) ag88 ti88 (hx.row (S.row ⟨c_14,c_15,c_16,c_17,c_18,trivial⟩))) fun _ S=>?_
     refine AN.zq 1 S rfl (fun _=>Lf.run_move (S.ev rfl)) fun _ S=>?_
     refine AN.zq 2 S rfl (fun _=>Lf.run_move (S.ev rfl)) fun _ S=>?_
     obtain⟨p46,e_8,H⟩:=H
     refine AN.zq 3 S rfl (fun _=>Lf.run_nc' (S.ev rfl) e_8) fun _ S=>?_
     refine AN.zq 4 S rfl (fun _=>Lf.run_fa (S.ev rfl) fa109_1) fun _ S=>?_
     obtain⟨x48,c_9,H⟩:=H
     refine AN.zl 5 S rfl (fun _ hx=>Lf.run_ld (S.ev rfl) fl107 (hx.cell _ _ (S.cl c_9))) fun _ S=>?_
     refine AN.zq 6 S rfl (fun _=>Lf.run_move (S.ev rfl)) fun _ S=>?_
     obtain⟨q50,e_9,e_10,e_11,H⟩:=H
     refine AN.zq 7 S rfl (fun _=>Lf.run_ixs (S.ev rfl) (S.ev rfl) Try.underlying107 ti111 e_9 e_10 e_11) fun _ S=>?_
     obtain⟨x51,c_10,H⟩:=H
     refine AN.zl 8 S rfl (fun _ hx=>Lf.run_ld (S.ev rfl) fl111 (hx.cell _ _ (S.cl c_10))) fun _ S=>?_
     refine AN.eff 9 rfl (by kernel_rfl) ?_
     refine ol_cal S H isfn44 rfl rfl trivial ?_
     clear S H;intro u_3 aa ww h8 H S
     obtain⟨x52,rfl,H⟩:=H
     refine OL.nil ?_
     refine AN.zq 10 S rfl (fun _=>Lf.run_assign (S.ev rfl)) fun _ S=>?_
     refine AN.done (by kernel_rfl) ?_
     refine W.seq ?_
     refine W.region ?_
     refine OL.zm S fun _ S=>?_
     refine OL.zq S (Lf.run_lens (S.ev rfl) rfl Try.underlying47) fun _ S=>?_
     refine OL.zm S fun _ S=>?_
     refine OL.nil ?_
     refine W.block ?_
     obtain⟨I_2,m_2,H,HB⟩:=H
     refine W.loopS (σ:=Bool×Int×Heap) (fun s aa ww=>St 74 [(1,Value.pointer (some p1)),(5,Value.pointer x18),(6,Value.bool s.1),(9,Value.slice x52.a x52.n x52.c),(36,Value.slice x36.a x36.n x36.c),(37,Value.int .i64 ((x36.n:Nat):Int)),(38,Value.int .i64 x38),(53,Value.slice x42.a x42.n x42.c),(54,Value.int .i64 ((x42.n:Nat):Int)),(55,Value.int .i64 s.2.1)] s.2.2 w0 aa ww∧I_2 s.1 s.2.1 s.2.2) (fun s=>m_2 s.1 s.2.1 s.2.2) (again6_1,0,h8) ⟨S.sub _ ⟨rfl,rfl,rfl,rfl,rfl,rfl,rfl,rfl,rfl,rfl,trivial⟩,H⟩ ?_
     clear H S
     rintro ⟨again6_2,x55,h9⟩ aa ww ⟨S,HI⟩
     replace S:St 74 [(1,Value.pointer (some p1)),(5,Value.pointer x18),(6,Value.bool again6_2),(9,Value.slice x52.a x52.n x52.c),(36,Value.slice x36.a x36.n x36.c),(37,Value.int .i64 ((x36.n:Nat):Int)),(38,Value.int .i64 x38),(53,Value.slice x42.a x42.n x42.c),(54,Value.int .i64 ((x42.n:Nat):Int)),(55,Value.int .i64 x55)] h9 w0 aa ww:=S
     have H:=HB again6_2 x55 h9 HI
     clear HI
     refine W.seq ?_
     refine W.region ?_
     refine OL.zq S (Lf.run_lss (S.ev rfl) (S.ev rfl)) fun _ S=>?_
     refine OL.nil ?_
     refine W.seq ?_
     refine W.cond S (b:=(decide (x55<((x42.n:Nat):Int)))) rfl (fun hb_4=>?_) (fun hb_4=>?_)
     ·
      replace H:=H.1 hb_4
      refine W.skip ?_
      refine W.seq ?_
      refine W.block ?_
      refine W.seq ?_
      refine W.region ?_
      obtain⟨q57,e_12,e_13,e_14,H⟩:=H
      refine OL.zq S (Lf.run_ixs (S.ev rfl) (S.ev rfl) Try.underlying47 ti3 e_12 e_13 e_14) fun _ S=>?_
      obtain⟨x58,c_11,H⟩:=H
      refine OL.zl S fl3 c_11 fun _ S=>?_
      refine OL.za S fun _ S=>?_
      refine OL.nil ?_
      refine W.region ?_
      refine OL.zm S fun _ S=>?_
      obtain⟨p60,e_15,H⟩:=H
      refine OL.zq S (Lf.run_nc' (S.ev rfl) e_15) fun _ S=>?_
      refine OL.zf S fa109_1 fun _ S=>?_
      obtain⟨x62,c_12,H⟩:=H
      refine OL.zl S fl107 c_12 fun _ S=>?_
      refine OL.zm S fun _ S=>?_
      obtain⟨q64,e_16,e_17,e_18,H⟩:=H
      refine OL.zq S (Lf.run_ixs (S.ev rfl) (S.ev rfl) Try.underlying107 ti111 e_16 e_17 e_18) fun _ S=>?_
      obtain⟨x65,c_13,H⟩:=H
      refine OL.zl S fl111 c_13 fun _ S=>?_
      refine OL.zm S fun _ S=>?_
      refine ol_cal S H isfn45 rfl rfl trivial ?_
      clear S H;intro u_4 aa ww h10 H S
      obtain⟨x67,rfl,H⟩:=H
      refine OL.zm S fun _ S=>?_
      refine OL.cutN 2 (fun aa ww=>St 74 ((70,Value.bool (x67 || again6_2)) :: [(1,Value.pointer (some p1)),(5,Value.pointer x18),(6,Value.bool again6_2),(9,Value.slice x52.a x52.n x52.c),(11,Value.int .i64 x58),(36,Value.slice x36.a x36.n x36.c),(37,Value.int .i64 ((x36.n:Nat):Int)),(38,Value.int .i64 x38),(53,Value.slice x42.a x42.n x42.c),(54,Value.int .i64 ((x42.n:Nat):Int)),(55,Value.int .i64 x55),(59,Value.pointer x18),(60,Value.pointer (some p60)),(61,Value.pointer (some (p60.add 1))),(62,Value.slice x62.a x62.n x62.c),(63,Value.int .i64 x58),(64,Value.pointer (some (q64.add ((x58:Int).toNat*1)))),(65,Value.slice x65.a x65.n x65.c),(66,Value.slice x52.a x52.n x52.c),(67,Value.bool x67),(68,Value.bool x67)]) h10 w0 aa ww) ?_ ?_
      ·
       rcases Bool.eq_false_or_eq_true x67 with hb_5|hb_5
       ·
        refine OL.zn S (GNo.mk rfl rfl hb_5) fun _ S=>?_
        refine OL.zq S (Lf.run_pickT (S.ev rfl) hb_5 (S.ev rfl)) fun _ S=>?_
        refine OL.nil ?_
        exact (S.hd (by rw[hb_5,Bool.true_or])).sub _ ⟨rfl,rfl,rfl,rfl,rfl,rfl,rfl,rfl,rfl,rfl,rfl,rfl,rfl,rfl,rfl,rfl,rfl,rfl,rfl,rfl,rfl,rfl,trivial⟩
       ·
        refine OL.zm (hg:=GOk.mk rfl rfl hb_5) S fun _ S=>?_
        refine OL.zq S (Lf.run_pickF (S.ev rfl) hb_5 (S.ev rfl)) fun _ S=>?_
        refine OL.nil ?_
        exact (S.hd (by rw[hb_5,Bool.false_or])).sub _ ⟨rfl,rfl,rfl,rfl,rfl,rfl,rfl,rfl,rfl,rfl,rfl,rfl,rfl,rfl,rfl,rfl,rfl,rfl,rfl,rfl,rfl,rfl,trivial⟩
      ·
       clear S
       intro aa ww S
       refine OL.za S fun _ S=>?_
       refine OL.nil ?_
       refine W.region ?_
       refine OL.zq S (Lf.run_add (S.ev rfl) (S.ev rfl)) fun _ S=>?_
       refine OL.zm S fun _ S=>?_
       refine OL.nil ?_
       exact⟨((x67 || again6_2),(IntKind.i64.wrap (x55+1)),h10),⟨S.sub _ ⟨rfl,rfl,rfl,rfl,rfl,rfl,rfl,rfl,rfl,rfl,trivial⟩,H.1⟩,H.2⟩
     ·
      replace H:=H.2 hb_4
      refine W.exit_ ?_
      refine xhit ?_
      refine W.region ?_
      refine OL.zq S (Lf.run_add (S.ev rfl) (S.ev rfl)) fun _ S=>?_
      refine OL.zm S fun _ S=>?_
      refine OL.nil ?_
      exact⟨(again6_2,(IntKind.i64.wrap (x38+1)),h9),⟨S.sub _ ⟨rfl,rfl,rfl,rfl,rfl,rfl,trivial⟩,H.1⟩,H.2⟩
    ·
     replace H:=H.2 hb_3
     refine W.exit_ ?_
     refine xhit ?_
     exact⟨(again6_1,h7),⟨S.sub _ ⟨rfl,rfl,rfl,trivial⟩,H.1⟩,H.2⟩
   ·
    replace H:=H.2 hb_2
    refine W.exit_ ?_
    refine xhit ?_
    refine W.seq ?_
    refine W.region ?_
    refine OL.zm S fun _ S=>?_
    refine OL.za S fun _ S=>?_
    refine OL.za S fun _ S=>?_
    refine OL.nil ?_
    refine W.ret ?_
    exact Ret.two S rfl rfl rfl H
def L31 (a0:Option Addr) (i1:Int) (h:Heap) (R:Value→Heap→Prop):Prop:=
 ifb (Option.isNone a0) (
  R (Value.slice (⟨none,0,0⟩:Sv).a (⟨none,0,0⟩:Sv).n (⟨none,0,0⟩:Sv).c) h) (
  nn a0 fun p10=>
  ldI .i64 h p10 fun x12=>
  ∃(I:Sv→Int→Heap→Prop) (m:Sv→Int→Heap→Nat),I (⟨none,0,0⟩:Sv) 0 h∧∀l5 x13 h1,I l5 x13 h1 →
  ifb (decide (x13<x12)) (
   ∃J:Sv→Heap→Prop,(
    cal Try.prog 46 #[Value.pointer a0,Value.int .i64 i1,Value.int .i64 x13] h1 fun u h2=>asB u fun x19=>
    ifb x19 (
     newS 3 #[Value.int .i64 x13] 1 h2 fun s22 h3=>
     appS 3 (Value.int .i64 0).cells 1 8 h3 l5 s22 fun s23 h4=>
     J s23 h4) (
     J l5 h2))∧(∀l5_1 h5,J l5_1 h5 →
   I l5_1 (IntKind.i64.wrap (x13+1)) h5∧m l5_1 (IntKind.i64.wrap (x13+1)) h5<m l5 x13 h1)) (
   R (Value.slice l5.a l5.n l5.c) h1))
set_option maxRecDepth 100000 in
theorem F31 {a0 i1 h:_} {R:Value→Heap→Prop} (H:L31 a0 i1 h R):CallsH Try.prog 31 #[Value.pointer a0,Value.int .i64 i1] h R:=by
 refine CallsH.enter (n:=26) Try.func31 rfl rfl rfl rfl ?_
 intro w0 aa ww S
 unfold L31 at H
 refine W.seq ?_
 refine W.region ?_
 refine OL.za S fun _ S=>?_
 refine OL.nil ?_
 refine W.seq ?_
 refine W.seq ?_
 refine W.region ?_
 refine OL.zm S fun _ S=>?_
 refine OL.zq S (Lf.run_eqlpn Try.underlying91 (S.ev rfl) (S.ev rfl)) fun _ S=>?_
 refine OL.nil ?_
 refine W.cond S (b:=(Option.isNone a0)) rfl (fun hb=>?_) (fun hb=>?_)
 ·
  replace H:=H.1 hb
  refine W.seq ?_
  refine W.region ?_
  refine OL.za S fun _ S=>?_
  refine OL.nil ?_
  refine W.ret ?_
  exact Ret.one S rfl rfl H
 ·
  replace H:=H.2 hb
  refine W.skip ?_
  refine W.seq ?_
  refine W.region ?_
  refine OL.za S fun _ S=>?_
  refine OL.nil ?_
  refine W.seq ?_
  refine W.seq ?_
  refine W.region ?_
  refine OL.zm S fun _ S=>?_
  obtain⟨p10,e,H⟩:=H
  refine OL.zq S (Lf.run_nc' (S.ev rfl) e) fun _ S=>?_
  refine OL.zf S fa109_0 fun _ S=>?_
  obtain⟨x12,c,H⟩:=H
  refine OL.zl S fl3 c fun _ S=>?_
  refine OL.zm S fun _ S=>?_
  refine OL.nil ?_
  refine W.block ?_
  obtain⟨I,m,H,HB⟩:=H
  refine W.loopS (σ:=Sv×Int×Heap) (fun s aa ww=>St 26 [(0,Value.pointer a0),(1,Value.int .i64 i1),(5,Value.slice s.1.a s.1.n s.1.c),(12,Value.int .i64 x12),(13,Value.int .i64 s.2.1)] s.2.2 w0 aa ww∧I s.1 s.2.1 s.2.2) (fun s=>m s.1 s.2.1 s.2.2) ((⟨none,0,0⟩:Sv),0,h) ⟨S.sub _ ⟨rfl,rfl,rfl,rfl,rfl,trivial⟩,H⟩ ?_
  clear H S
  rintro ⟨l5,x13,h1⟩ aa ww ⟨S,HI⟩
  replace S:St 26 [(0,Value.pointer a0),(1,Value.int .i64 i1),(5,Value.slice l5.a l5.n l5.c),(12,Value.int .i64 x12),(13,Value.int .i64 x13)] h1 w0 aa ww:=S
  have H:=HB l5 x13 h1 HI
  clear HI
  refine W.seq ?_
  refine W.region ?_
  refine OL.zq S (Lf.run_lss (S.ev rfl) (S.ev rfl)) fun _ S=>?_
  refine OL.nil ?_
  refine W.seq ?_
  refine W.cond S (b:=(decide (x13<x12))) rfl (fun hb_1=>?_) (fun hb_1=>?_)
  ·
   replace H:=H.1 hb_1
   refine W.skip ?_
   obtain⟨J,H,HK⟩:=H
   refine W.seqJ (fun aa ww=>∃l5_1 h5,St 26 [(0,Value.pointer a0),(1,Value.int .i64 i1),(5,Value.slice l5_1.a l5_1.n l5_1.c),(12,Value.int .i64 x12),(13,Value.int .i64 x13)] h5 w0 aa ww∧J l5_1 h5) ?_ ?_
   ·
    clear HK
    refine W.block ?_
    refine W.seq ?_
    refine W.region ?_
    refine OL.zm S fun _ S=>?_
    refine OL.za S fun _ S=>?_
    refine OL.nil ?_
    refine W.seq ?_
    refine W.region ?_
    refine OL.zm S fun _ S=>?_
    refine OL.zm S fun _ S=>?_
    refine OL.zm S fun _ S=>?_
    refine ol_cal S H isfn46 rfl rfl trivial ?_
    clear S H;intro u aa ww h2 H S
    obtain⟨x19,rfl,H⟩:=H
    refine OL.nil ?_
    refine W.cond S (b:=x19) rfl (fun hb_2=>?_) (fun hb_2=>?_)
    ·
     replace H:=H.1 hb_2
     refine W.region ?_
     refine OL.zm S fun _ S=>?_
     refine OL.zm S fun _ S=>?_
     refine ol_newS S H Try.underlying47 ti3 (by decide) (parts_map S rfl) (by kernel_rfl) (by decide) rfl trivial ?_
     clear S H;intro s22 aa ww h3 H S
     refine ol_appS S H Try.underlying47 ti3 rfl rfl rfl trivial ?_
     clear S H;intro s23 aa ww h4 H S
     refine OL.za S fun _ S=>?_
     refine OL.nil ?_
     exact⟨s23,h4,S.sub _ ⟨rfl,rfl,rfl,rfl,rfl,trivial⟩,H⟩
    ·
     replace H:=H.2 hb_2
     refine W.skip ?_
     exact⟨l5,h2,S.sub _ ⟨rfl,rfl,rfl,rfl,rfl,trivial⟩,H⟩
   ·
    clear H S
    rintro aa ww ⟨l5_1,h5,S,HJ⟩
    have H:=HK _ _ HJ
    clear HK HJ
    refine W.region ?_
    refine OL.zq S (Lf.run_add (S.ev rfl) (S.ev rfl)) fun _ S=>?_
    refine OL.zm S fun _ S=>?_
    refine OL.nil ?_
    exact⟨(l5_1,(IntKind.i64.wrap (x13+1)),h5),⟨S.sub _ ⟨rfl,rfl,rfl,rfl,rfl,trivial⟩,H.1⟩,H.2⟩
  ·
   replace H:=H.2 hb_1
   refine W.exit_ ?_
   refine xhit ?_
   refine W.seq ?_
   refine W.region ?_
   refine OL.zm S fun _ S=>?_
   refine OL.za S fun _ S=>?_
   refine OL.nil ?_
   refine W.ret ?_
   exact Ret.one S rfl rfl H
def L35 (o0:Int) (o0_1:Int) (o0_2:Sv) (o0_3:Int) (o0_4:Int) (h:Heap) (R:Value→Heap→Prop):Prop:=
 new 66 #[Value.int .i64 o0,Value.int .i64 o0_1,Value.slice o0_2.a o0_2.n o0_2.c,Value.int .i64 o0_3,Value.int .u64 o0_4] h fun p1 h1=>
 new 63 #[Value.int .i64 0,Value.slice (⟨none,0,0⟩:Sv).a (⟨none,0,0⟩:Sv).n (⟨none,0,0⟩:Sv).c,Value.int .i64 0] h1 fun p2 h2=>
 ldI .i64 h2 p1 fun x5=>
 ifb (x5 == 2) (
  ∃(y9:Int) (y9_1:Sv),cl h2 (p1.add 1)=some (Value.int .i64 y9)∧cl h2 ((p1.add 1).add 1)=some (Value.slice y9_1.a y9_1.n y9_1.c) ∧
  stoA h2 p2 [Value.int .i64 y9,Value.slice y9_1.a y9_1.n y9_1.c,Value.int .i64 1] fun h3=>
  ∃(y:Int) (y_1:Sv) (y_2:Int),cl h3 p2=some (Value.int .i64 y)∧cl h3 (p2.add 1)=some (Value.slice y_1.a y_1.n y_1.c)∧cl h3 (p2.add 2)=some (Value.int .i64 y_2) ∧
  R (.tuple #[Value.agg #[Value.int .i64 y,Value.slice y_1.a y_1.n y_1.c,Value.int .i64 y_2],Value.bool true]) h3) (
  ifb (x5 == 3) (
   ∃(y14:Int) (y14_1:Sv),cl h2 (p1.add 1)=some (Value.int .i64 y14)∧cl h2 ((p1.add 1).add 1)=some (Value.slice y14_1.a y14_1.n y14_1.c) ∧
   stoA h2 p2 [Value.int .i64 y14,Value.slice y14_1.a y14_1.n y14_1.c,Value.int .i64 2] fun h4=>
   ∃(y_3:Int) (y_4:Sv) (y_5:Int),cl h4 p2=some (Value.int .i64 y_3)∧cl h4 (p2.add 1)=some (Value.slice y_4.a y_4.n y_4.c)∧cl h4 (p2.add 2)=some (Value.int .i64 y_5) ∧
   R (.tuple #[Value.agg #[Value.int .i64 y_3,Value.slice y_4.a y_4.n y_4.c,Value.int .i64 y_5],Value.bool true]) h4) (
   stoA h2 p2 [Value.int .i64 0,Value.slice (⟨none,0,0⟩:Sv).a (⟨none,0,0⟩:Sv).n (⟨none,0,0⟩:Sv).c,Value.int .i64 0] fun h5=>
   ∃(y_6:Int) (y_7:Sv) (y_8:Int),cl h5 p2=some (Value.int .i64 y_6)∧cl h5 (p2.add 1)=some (Value.slice y_7.a y_7.n y_7.c)∧cl h5 (p2.add 2)=some (Value.int .i64 y_8) ∧
   R (.tuple #[Value.agg #[Value.int .i64 y_6,Value.slice y_7.a y_7.n y_7.c,Value.int .i64 y_8],Value.bool false]) h5))
set_option maxRecDepth 100000 in
theorem F35 {o0 o0_1 o0_2 o0_3 o0_4 h:_} {R:Value→Heap→Prop} (H:L35 o0 o0_1 o0_2 o0_3 o0_4 h R):CallsH Try.prog 35 #[Value.agg #[Value.int .i64 o0,Value.int .i64 o0_1,Value.slice o0_2.a o0_2.n o0_2.c,Value.int .i64 o0_3,Value.int .u64 o0_4]] h R:=by
 refine CallsH.enter (n:=17) Try.func35 rfl rfl rfl rfl ?_
 intro w0 aa ww S
 unfold L35 at H
 refine W.seq ?_
 refine W.region ?_
 refine ol_box S H rfl rfl rfl trivial ?_
 clear S H;intro p1 aa ww h1 H S
 refine ol_alloc S H ti63 rfl rfl trivial ?_
 clear S H;intro p2 aa ww h2 H S
 refine OL.za S fun _ S=>?_
 refine OL.nil ?_
 refine W.seq ?_
 refine W.seq ?_
 refine W.region ?_
 refine OL.zf S fa66_0 fun _ S=>?_
 obtain⟨x5,c,H⟩:=H
 refine OL.zl S fl3 c fun _ S=>?_
 refine OL.nil ?_
 refine W.block ?_
 refine W.seq ?_
 refine W.region ?_
 refine OL.zq S (Lf.run_eql (S.ev rfl) (S.ev rfl)) fun _ S=>?_
 refine OL.za S fun _ S=>?_
 refine OL.nil ?_
 refine W.cond S (b:=(x5 == 2)) rfl (fun hb=>?_) (fun hb=>?_)
 ·
  replace H:=H.1 hb
  refine W.seq ?_
  refine W.region ?_
  refine OL.zf S fa66_1 fun _ S=>?_
  obtain⟨y9,y9_1,c_5,c_6,H⟩:=H
  refine OL.zq S (Lf.run_ldA (cs:=[Value.int .i64 y9,Value.slice y9_1.a y9_1.n y9_1.c]) (S.ev rfl) ag49 ti49 (by rw[S.heap];exact RowL.toRow ⟨c_5,c_6,trivial⟩)) fun _ S=>?_
  refine OL.zq S (Lf.run_build (cs:=#[Value.int .i64 y9,Value.slice y9_1.a y9_1.n y9_1.c,Value.int .i64 1]) pl63 ti63 (parts_map S rfl) (by kernel_rfl)) fun _ S=>?_
  refine ol_stoA S H rfl rfl ti63 trivial ?_
  clear S H;intro aa ww h3 H S
  refine OL.za S fun _ S=>?_
  refine OL.nil ?_
  refine W.ret ?_
  obtain⟨y,y_1,y_2,c_2,c_3,c_4,H⟩:=H
  exact Ret.gen S rfl (RV.cellA (cs:=[Value.int .i64 y,Value.slice y_1.a y_1.n y_1.c,Value.int .i64 y_2]) rfl ag63 ti63 ⟨c_2,c_3,c_4,trivial⟩ (RV.tmp rfl RV.nil)) rfl H
 ·
  replace H:=H.2 hb
  refine W.seq ?_
  refine W.region ?_
  refine OL.zq S (Lf.run_eql (S.ev rfl) (S.ev rfl)) fun _ S=>?_
  refine OL.za S fun _ S=>?_
  refine OL.nil ?_
  refine W.cond S (b:=(x5 == 3)) rfl (fun hb_1=>?_) (fun hb_1=>?_)
  ·
   replace H:=H.1 hb_1
   refine W.seq ?_
   refine W.region ?_
   refine OL.zf S fa66_1 fun _ S=>?_
   obtain⟨y14,y14_1,c_11,c_12,H⟩:=H
   refine OL.zq S (Lf.run_ldA (cs:=[Value.int .i64 y14,Value.slice y14_1.a y14_1.n y14_1.c]) (S.ev rfl) ag49 ti49 (by rw[S.heap];exact RowL.toRow ⟨c_11,c_12,trivial⟩)) fun _ S=>?_
   refine OL.zq S (Lf.run_build (cs:=#[Value.int .i64 y14,Value.slice y14_1.a y14_1.n y14_1.c,Value.int .i64 2]) pl63 ti63 (parts_map S rfl) (by kernel_rfl)) fun _ S=>?_
   refine ol_stoA S H rfl rfl ti63 trivial ?_
   clear S H;intro aa ww h4 H S
   refine OL.za S fun _ S=>?_
   refine OL.nil ?_
   refine W.ret ?_
   obtain⟨y_3,y_4,y_5,c_8,c_9,c_10,H⟩:=H
   exact Ret.gen S rfl (RV.cellA (cs:=[Value.int .i64 y_3,Value.slice y_4.a y_4.n y_4.c,Value.int .i64 y_5]) rfl ag63 ti63 ⟨c_8,c_9,c_10,trivial⟩ (RV.tmp rfl RV.nil)) rfl H
  ·
   replace H:=H.2 hb_1
   refine W.skip ?_
   refine W.seq ?_
   refine W.region ?_
   refine OL.zq S (Lf.run_build (cs:=#[Value.int .i64 0,Value.slice (⟨none,0,0⟩:Sv).a (⟨none,0,0⟩:Sv).n (⟨none,0,0⟩:Sv).c,Value.int .i64 0]) pl63 ti63 (parts_map S rfl) (by kernel_rfl)) fun _ S=>?_
   refine ol_stoA S H rfl rfl ti63 trivial ?_
   clear S H;intro aa ww h5 H S
   refine OL.za S fun _ S=>?_
   refine OL.nil ?_
   refine W.ret ?_
   obtain⟨y_6,y_7,y_8,c_13,c_14,c_15,H⟩:=H
   exact Ret.gen S rfl (RV.cellA (cs:=[Value.int .i64 y_6,Value.slice y_7.a y_7.n y_7.c,Value.int .i64 y_8]) rfl ag63 ti63 ⟨c_13,c_14,c_15,trivial⟩ (RV.tmp rfl RV.nil)) rfl H
def L36 (a0:Int) (a0_1:Sv) (b1:Int) (b1_1:Sv) (h:Heap) (R:Value→Heap→Prop):Prop:=
 new 49 #[Value.int .i64 a0,Value.slice a0_1.a a0_1.n a0_1.c] h fun p2 h1=>
 new 49 #[Value.int .i64 b1,Value.slice b1_1.a b1_1.n b1_1.c] h1 fun p3 h2=>
 ∃(y5:Int) (y5_1:Sv),cl h2 p2=some (Value.int .i64 y5)∧cl h2 (p2.add 1)=some (Value.slice y5_1.a y5_1.n y5_1.c) ∧
 ∃(y6:Int) (y6_1:Sv),cl h2 p3=some (Value.int .i64 y6)∧cl h2 (p3.add 1)=some (Value.slice y6_1.a y6_1.n y6_1.c) ∧
 cal Try.prog 47 #[Value.agg #[Value.int .i64 y5,Value.slice y5_1.a y5_1.n y5_1.c],Value.agg #[Value.int .i64 y6,Value.slice y6_1.a y6_1.n y6_1.c]] h2 fun u h3=>asB u fun x7=>
 ∃J:Bool→Heap→Prop,(orj x7 (fun k=>
  ∃(y9:Int) (y9_1:Sv),cl h3 p3=some (Value.int .i64 y9)∧cl h3 (p3.add 1)=some (Value.slice y9_1.a y9_1.n y9_1.c) ∧
  ∃(y10:Int) (y10_1:Sv),cl h3 p2=some (Value.int .i64 y10)∧cl h3 (p2.add 1)=some (Value.slice y10_1.a y10_1.n y10_1.c) ∧
  cal Try.prog 47 #[Value.agg #[Value.int .i64 y9,Value.slice y9_1.a y9_1.n y9_1.c],Value.agg #[Value.int .i64 y10,Value.slice y10_1.a y10_1.n y10_1.c]] h3 fun u_1 h5=>asB u_1 fun x11=>
  k x11 h5) h3 J)∧∀x12 h4,J x12 h4 →
 R (Value.bool x12) h4
set_option maxRecDepth 100000 in
theorem F36 {a0 a0_1 b1 b1_1 h:_} {R:Value→Heap→Prop} (H:L36 a0 a0_1 b1 b1_1 h R):CallsH Try.prog 36 #[Value.agg #[Value.int .i64 a0,Value.slice a0_1.a a0_1.n a0_1.c],Value.agg #[Value.int .i64 b1,Value.slice b1_1.a b1_1.n b1_1.c]] h R:=by
 refine CallsH.enter (n:=13) Try.func36 rfl rfl rfl rfl ?_
 intro w0 aa ww S
 unfold L36 at H
 refine W.seq ?_
 refine W.region ?_
 refine ol_box S H rfl rfl rfl trivial ?_
 clear S H;intro p2 aa ww h1 H S
 refine ol_box S H rfl rfl rfl trivial ?_
 clear S H;intro p3 aa ww h2 H S
 refine OL.za S fun _ S=>?_
 refine OL.nil ?_
 refine W.seq ?_
 refine W.region ?_
 obtain⟨y5,y5_1,c_10,c_11,H⟩:=H
 refine OL.zq S (Lf.run_ldA (cs:=[Value.int .i64 y5,Value.slice y5_1.a y5_1.n y5_1.c]) (S.ev rfl) ag49 ti49 (by rw[S.heap];exact RowL.toRow ⟨c_10,c_11,trivial⟩)) fun _ S=>?_
 obtain⟨y6,y6_1,c_8,c_9,H⟩:=H
 refine OL.zq S (Lf.run_ldA (cs:=[Value.int .i64 y6,Value.slice y6_1.a y6_1.n y6_1.c]) (S.ev rfl) ag49 ti49 (by rw[S.heap];exact RowL.toRow ⟨c_8,c_9,trivial⟩)) fun _ S=>?_
 refine ol_cal S H isfn47 rfl rfl trivial ?_
 clear S H;intro u aa ww h3 H S
 obtain⟨x7,rfl,H⟩:=H
 refine OL.zm S fun _ S=>?_
 obtain⟨J,H,HK⟩:=H
 refine OL.cutN 4 (fun aa ww=>∃x12 h4,St 13 ((12,Value.bool x12) :: [(2,Value.pointer (some p2)),(3,Value.pointer (some p3)),(5,Value.agg #[Value.int .i64 y5,Value.slice y5_1.a y5_1.n y5_1.c]),(6,Value.agg #[Value.int .i64 y6,Value.slice y6_1.a y6_1.n y6_1.c]),(7,Value.bool x7),(8,Value.bool x7)]) h4 w0 aa ww∧J x12 h4) ?_ ?_
 ·
  rcases Bool.eq_false_or_eq_true x7 with hb|hb
  ·
   replace H:=H.1 hb
   refine OL.zn S (GNo.mk rfl rfl hb) fun _ S=>?_
   refine OL.zn S (GNo.mk rfl rfl hb) fun _ S=>?_
   refine OL.zn S (GNo.mk rfl rfl hb) fun _ S=>?_
   refine OL.zq S (Lf.run_pickT (S.ev rfl) hb (S.ev rfl)) fun _ S=>?_
   refine OL.nil ?_
   exact⟨_,_,S.sub _ ⟨rfl,rfl,rfl,rfl,rfl,rfl,rfl,trivial⟩,H⟩
  ·
   replace H:=H.2 hb
   obtain⟨y9,y9_1,c_6,c_7,H⟩:=H
   refine OL.zq (hg:=GOk.mk rfl rfl hb) S (Lf.run_ldA (cs:=[Value.int .i64 y9,Value.slice y9_1.a y9_1.n y9_1.c]) (S.ev rfl) ag49 ti49 (by rw[S.heap];exact RowL.toRow ⟨c_6,c_7,trivial⟩)) fun _ S=>?_
   obtain⟨y10,y10_1,c_4,c_5,H⟩:=H
   refine OL.zq (hg:=GOk.mk rfl rfl hb) S (Lf.run_ldA (cs:=[Value.int .i64 y10,Value.slice y10_1.a y10_1.n y10_1.c]) (S.ev rfl) ag49 ti49 (by rw[S.heap];exact RowL.toRow ⟨c_4,c_5,trivial⟩)) fun _ S=>?_
   refine ol_cal S H isfn47 rfl rfl (GOk.mk rfl rfl hb) ?_
   clear S H;intro u_1 aa ww h5 H S
   obtain⟨x11,rfl,H⟩:=H
   refine OL.zq S (Lf.run_pickF (S.ev rfl) hb (S.ev rfl)) fun _ S=>?_
   refine OL.nil ?_
   exact⟨_,_,S.sub _ ⟨rfl,rfl,rfl,rfl,rfl,rfl,rfl,trivial⟩,H⟩
 ·
  clear S
  rintro aa ww ⟨x12,h4,S,HJ⟩
  replace H:=HK _ _ HJ
  clear HK HJ
  refine OL.za S fun _ S=>?_
  refine OL.nil ?_
  refine W.ret ?_
  exact Ret.one S rfl rfl H
end Go.Proofs.Ytkpahlkendlahaa
